/- A region that draws its order: its head's operations keep within a class of worlds, each at one value; its tail comes in one order. Head and tail are lists of numbers. -/
import Derived.StillTailTactics
import Derived.Deep.QuietTactic
import Derived.BigQuiet
import Derived.OrdersHeld
namespace Go
namespace QP
variable {P : Program} {ops : Array Oper} {md : Region.Mode} {C : World → Prop}

/-- Operation d waits for operation i. -/
def reachB (md : Region.Mode) (ops : Array Oper) (i : Nat) : Nat → Nat → Bool
  | 0, _ => false
  | f + 1, d => match ops[d]? with
    | some o => o.after.any fun e => Region.binds md e && (e.on == i || reachB md ops i f e.on)
    | none => false

/-- Whoever is listed: so are those that it waits for. -/
def Closed (md : Region.Mode) (ops : Array Oper) (listed : Array Bool) : Prop :=
  ∀ j oj, ops[j]? = some oj → listed.getD j false = true → ∀ e ∈ oj.after, Region.binds md e = true → listed.getD e.on false = true

theorem Closed.set {listed : Array Bool} {i : Nat} (h : Closed md ops listed) (hi : i ∈ Region.ready md ops listed) : Closed md ops (listed.setIfInBounds i true) := by
  obtain ⟨_, oi, hoi, hall⟩ := mem_ready.1 hi
  intro j oj hj hl e he hb
  by_cases hij : i = j
  · subst hij
    have : oj = oi := Option.some.inj (hj.symm.trans hoi)
    subst this
    exact getD_set_true (hall e he hb)
  · rw [getD_set_ne false hij] at hl
    exact getD_set_true (h j oj hj hl e he hb)

theorem reach_listed {listed : Array Bool} {i : Nat} (hc : Closed md ops listed) : ∀ (f d : Nat), reachB md ops i f d = true → listed.getD d false = true → listed.getD i false = true
  | 0, _, h, _ => by simp [reachB] at h
  | f + 1, d, h, hl => by
    unfold reachB at h
    cases ho : ops[d]? with
    | none => rw [ho] at h; simp at h
    | some o =>
      rw [ho] at h
      obtain ⟨e, he, h1⟩ := Array.any_eq_true'.1 h
      simp only [Bool.and_eq_true, Bool.or_eq_true, beq_iff_eq] at h1
      have hle := hc d o ho hl e he h1.1
      rcases h1.2 with h2 | h2
      · rw [← h2]; exact hle
      · exact reach_listed hc f e.on h2 hle

theorem not_ready {listed : Array Bool} {i d f : Nat} (hc : Closed md ops listed) (hr : reachB md ops i f d = true) (hun : listed.getD i true = false) : d ∉ Region.ready md ops listed := by
  intro hd
  obtain ⟨_, o, ho, hall⟩ := mem_ready.1 hd
  have hi : listed.getD i false = true := by
    cases f with
    | zero => simp [reachB] at hr
    | succ n =>
      unfold reachB at hr
      rw [ho] at hr
      obtain ⟨e, he, h1⟩ := Array.any_eq_true'.1 hr
      simp only [Bool.and_eq_true, Bool.or_eq_true, beq_iff_eq] at h1
      have hle := hall e he h1.1
      rcases h1.2 with h2 | h2
      · rw [← h2]; exact hle
      · exact reach_listed hc n e.on h2 hle
  rw [getD_both hun] at hi
  cases hi

/-- Whatever order is picked, up to a list that is let in; none of the tail comes up before. -/
def upTo (P : Program) (md : Region.Mode) (ops : Array Oper) (C : World → Prop) (tl : List Nat) (L : Array Bool → Act → Prop) : Nat → Array Bool → Act → Prop
  | 0, listed, a => L listed a
  | f + 1, listed, a => Region.ready md ops listed ≠ [] ∧ ∀ i ∈ Region.ready md ops listed, i ∉ tl ∧ qOp P ops C i (upTo P md ops C tl L f (listed.setIfInBounds i true)) a

/-- From every world of the class: what follows may be proved there. -/
theorem any_of_upTo {tl : List Nat} {g : Nat} {L : Array Bool → Act → Prop} {Q : Exit → Act → World → Prop} (hL : ∀ listed a w, C w → L listed a → wpAny P md ops Q g listed a w) :
    ∀ (f : Nat) (listed : Array Bool) (a : Act) (w : World), C w → upTo P md ops C tl L f listed a → wpAny P md ops Q (f + g) listed a w := by
  intro f
  induction f with
  | zero => intro listed a w hw h; rw [Nat.zero_add]; exact hL listed a w hw h
  | succ f ih =>
    intro listed a w hw h
    have e : f + 1 + g = (f + g) + 1 := by omega
    rw [e]
    refine ⟨fun h0 => (h.1 h0).elim, fun i hi => ?_⟩
    exact wpOp_of_qOp hw (fun a' w' hw' k => ih _ a' w' hw' k) (h.2 i hi).2

/-- An operation that may come up now may be taken first. -/
theorem take {tl : List Nat} {i : Nat} {o : Oper} {v : Value} {L : Array Bool → Act → Prop} (hi : ops[i]? = some o) (hsel : Region.noSelect ops = true)
    (hw : ∀ t ∈ tl, reachB md ops i ops.size t = true) (hit : i ∉ tl) (hend : ∀ listed a, L listed a → ∀ j ∈ Region.ready md ops listed, j ∈ tl) (f : Nat) :
    ∀ (listed : Array Bool) (a : Act), Closed md ops listed →
      (∀ j oj, ops[j]? = some oj → j ≠ i → listed.getD j true = false → (∀ e ∈ oj.after, Region.binds md e = true → e.on ≠ i) → o.apart ops oj = true) →
      i ∈ Region.ready md ops listed → YieldsIn P ops C o v a → upTo P md ops C tl L f (listed.setIfInBounds i true) (a.put o.dst v) → upTo P md ops C tl L (f + 1) listed a := by
  have nosel := Region.noSelect_spec hsel
  induction f with
  | zero =>
    intro listed a inv _ hr hy H
    refine ⟨fun h => (by rw [h] at hr; cases hr), fun j hj => ?_⟩
    have hjt : j ∉ tl := fun hm => not_ready inv (hw j hm) (mem_ready.1 hr).1 hj
    by_cases hji : j = i
    · subst hji; exact ⟨hjt, hy.qOp hi H⟩
    · exact absurd (hend _ _ H j (ready_mono hj hji)) hjt
  | succ f ih =>
    intro listed a inv hfree hr hy H
    refine ⟨fun h => (by rw [h] at hr; cases hr), fun j hj => ?_⟩
    have hun := (mem_ready.1 hr).1
    have hjt : j ∉ tl := fun hm => not_ready inv (hw j hm) hun hj
    refine ⟨hjt, ?_⟩
    by_cases hji : j = i
    · subst hji; exact hy.qOp hi H
    · obtain ⟨hjun, oj, hoj, hall⟩ := mem_ready.1 hj
      have hno : ∀ e ∈ oj.after, Region.binds md e = true → e.on ≠ i := by
        intro e he hb heq
        have := hall e he hb
        rw [heq, getD_both hun] at this
        cases this
      have hq := qOp_put hoj (hfree j oj hoj hji hjun hno) (fun cs b => nosel i o cs b hi) (fun cs b => nosel j oj cs b hoj) hy (H.2 j (ready_mono hj hji)).2
      refine qOp_mono (fun a' h3 => ih _ a' (inv.set hj) ?_ (ready_mono hr (Ne.symm hji)) h3.1 ?_) hq
      · intro k ok hk hki hku hkno
        refine hfree k ok hk hki ?_ hkno
        by_cases hjk : j = k
        · subst hjk; exact hjun
        · rwa [getD_set_ne true hjk] at hku
      · rw [Array.setIfInBounds_comm _ _ hji]
        exact h3.2

/-- The operations of these numbers. -/
def pick (l : List Oper) : List Nat → List Oper
  | [] => []
  | i :: is => match l[i]? with
    | some o => o :: pick l is
    | none => pick l is

/-- The tail comes in this order. -/
def seqB (md : Region.Mode) (ops : Array Oper) : List Nat → Array Bool → Bool
  | [], listed => (Region.ready md ops listed).isEmpty
  | t :: ts, listed => decide (t < ops.size) && decide (Region.ready md ops listed = [t]) && seqB md ops ts (listed.setIfInBounds t true)

/-- The head may be walked in this order. -/
def headB (md : Region.Mode) (ops : Array Oper) (tl : List Nat) : List Nat → Array Bool → Bool
  | [], listed => seqB md ops tl listed
  | k :: ks, listed => decide (k < ops.size) && (Region.ready md ops listed).contains k && Region.free md ops listed k && (!tl.contains k) && (tl.all fun t => reachB md ops k ops.size t) && headB md ops tl ks (listed.setIfInBounds k true)

theorem any_of_seq {l : List Oper} {Q : Exit → Act → World → Prop} : ∀ (ts : List Nat) (listed : Array Bool) (a : Act) (w : World),
    seqB md l.toArray ts listed = true → wpList P l.toArray Q (pick l ts) a w → wpAny P md l.toArray Q ts.length listed a w
  | [], _, _, _, hB, h => ⟨by simpa [seqB] using hB, h⟩
  | t :: ts, listed, a, w, hB, h => by
    simp only [seqB, Bool.and_eq_true, decide_eq_true_eq] at hB
    have hlt : t < l.length := by simpa using hB.1.1
    have h0 : l[t]? = some l[t] := List.getElem?_eq_getElem hlt
    refine ⟨fun h1 => (by rw [hB.1.2] at h1; cases h1), fun i hi => ?_⟩
    rw [hB.1.2] at hi
    have hik : i = t := by simpa using hi
    subst hik
    simp only [pick, h0] at h
    have hw : wpOp P l.toArray Q i (wpList P l.toArray Q (pick l ts)) a w := by
      unfold wpOp
      have h0' : l.toArray[i]? = some l[i] := by simp [hlt]
      simp only [h0']
      exact h
    exact wpOp_mono (fun a' w' h' => any_of_seq ts _ a' w' hB.2 h') hw

theorem seqB_ready {ts : List Nat} {listed : Array Bool} (h : seqB md ops ts listed = true) : ∀ j ∈ Region.ready md ops listed, j ∈ ts := by
  cases ts with
  | nil => intro j hj; simp only [seqB, List.isEmpty_iff] at h; rw [h] at hj; cases hj
  | cons t ts =>
    intro j hj
    simp only [seqB, Bool.and_eq_true, decide_eq_true_eq] at h
    rw [h.1.2] at hj
    have : j = t := by simpa using hj
    rw [this]
    exact List.mem_cons_self

theorem upTo_head {l : List Oper} {tl : List Nat} {Lq : Act → Prop} (hsel : Region.noSelect l.toArray = true) : ∀ (hd : List Nat) (listed : Array Bool) (a : Act), Closed md l.toArray listed →
    headB md l.toArray tl hd listed = true → wpQuiet P l.toArray C Lq (pick l hd) a → upTo P md l.toArray C tl (fun li a' => seqB md l.toArray tl li = true ∧ Lq a') hd.length listed a
  | [], _, _, _, hB, h => ⟨hB, h⟩
  | k :: ks, listed, a, inv, hB, h => by
    simp only [headB, Bool.and_eq_true, decide_eq_true_eq] at hB
    obtain ⟨⟨⟨⟨⟨hk, hr⟩, hf⟩, ht⟩, hw⟩, hB'⟩ := hB
    have hlt : k < l.length := by simpa using hk
    have h0 : l[k]? = some l[k] := List.getElem?_eq_getElem hlt
    have h0' : l.toArray[k]? = some l[k] := by simp [hlt]
    simp only [pick, h0] at h
    have hr' : k ∈ Region.ready md l.toArray listed := by simpa using hr
    have hq : qOp P l.toArray C k (wpQuiet P l.toArray C Lq (pick l ks)) a := by unfold qOp; simp only [h0']; exact h
    obtain ⟨v, hy, hK⟩ := yieldsIn_of_qOp h0' hq
    refine take h0' hsel (fun t hm => List.all_eq_true.1 hw t hm) (by simpa using ht) (fun li a' hL => seqB_ready hL.1) ks.length listed a inv (Region.free_spec h0' hf) hr' hy ?_
    exact upTo_head hsel ks _ _ (inv.set hr') hB' hK

/-- **The head's operations keep within C; the tail is walked from any world of C.** -/
theorem region {id : Nat} {Q : Exit → Act → World → Prop} {a : Act} {w : World} {l : List Oper} (hd tl : List Nat) (hm : P.follows .mixedOrders = true)
    (hB : (Region.noSelect l.toArray && decide (hd.length + tl.length = l.toArray.size) && headB .any l.toArray tl hd (Array.replicate l.toArray.size false)) = true) (hC : C w.drew)
    (h : wpQuiet P l.toArray C (fun a' => ∀ w', C w' → wpList P l.toArray Q (pick l tl) a' w') (pick l hd) a) : (Code.region id l.toArray true).wp P Q a w := by
  simp only [Bool.and_eq_true, decide_eq_true_eq] at hB
  obtain ⟨⟨hsel, hn⟩, hh⟩ := hB
  have inv0 : Closed .any l.toArray (Array.replicate l.toArray.size false) := fun j oj _ hl => by rw [getD_replicate_false] at hl; cases hl
  have H := upTo_head (C := C) (P := P) hsel hd _ a inv0 hh h
  refine wp_region_any hm ?_
  have hA := any_of_upTo (Q := Q) (g := tl.length) (fun listed a' w' hw' hL => any_of_seq tl listed a' w' hL.1 (hL.2 w' hw')) _ _ _ w.drew hC H
  rwa [hn] at hA

/-- An operation that hands back a value, in every world of the class the same. -/
theorem val {Q : Act → Prop} {a : Act} {o : Oper} {rest : List Oper} (hw : Region.wanted o (yielded ops a.tmps) = true) {v : Value} (h : ∀ w, C w → (execOp a.eval o).run P w = .ok (.value v) w)
    (hK : wpQuiet P ops C Q rest (a.put o.dst v)) : wpQuiet P ops C Q (o :: rest) a := by
  refine wpQuiet_step fun K hk => ?_
  rw [if_pos hw]
  refine ⟨v, fun w hc => ?_, hk _ hK⟩
  unfold Oper.quietAt
  rw [h w hc]
  exact ⟨rfl, rfl⟩

/-- An operation whose guard says no. -/
theorem skip {Q : Act → Prop} {a : Act} {o : Oper} {rest : List Oper} (hw : Region.wanted o (yielded ops a.tmps) = false)
    (hK : wpQuiet P ops C Q rest (a.put o.dst undef)) : wpQuiet P ops C Q (o :: rest) a := by
  refine wpQuiet_step fun K hk => ?_
  rw [if_neg (by simp [hw])]
  exact hk _ hK

/-- A call that keeps within the class. -/
theorem call {Q : Act → Prop} {a : Act} {o : Oper} {rest : List Oper} (hw : Region.wanted o (yielded ops a.tmps) = true) {v : Value} {f : FuncId} {args : Array Value} (h : ∀ w, C w → (execOp a.eval o).run P w = .ok (.enter f args) w)
    (hc : ∀ w, C w → Calls P f args w fun e w' => e = .returned v ∧ C w') (hK : wpQuiet P ops C Q rest (a.put o.dst v)) : wpQuiet P ops C Q (o :: rest) a := by
  refine wpQuiet_step fun K hk => ?_
  rw [if_pos hw]
  refine ⟨v, fun w hw' => ?_, hk _ hK⟩
  unfold Oper.quietAt
  rw [h w hw']
  exact ⟨rfl, hc w hw'⟩
/-! Reads ahead of one operation that makes or writes memory; some of them may come behind it. -/

/-- Whatever order is picked from here on, and S holds behind every operation, those of ds apart. -/
def anyL (P : Program) (md : Region.Mode) (ops : Array Oper) (Q : Exit → Act → World → Prop) (S : World → Prop) (ds : List Nat) : Nat → Array Bool → Act → World → Prop
  | 0, listed, a, w => Region.ready md ops listed = [] ∧ Q .normal a w
  | f + 1, listed, a, w => (Region.ready md ops listed = [] → Q .normal a w) ∧
    ∀ i ∈ Region.ready md ops listed, wpOp P ops Q i (fun a' w' => (i ∉ ds → S w → S w') ∧ anyL P md ops Q S ds f (listed.setIfInBounds i true) a' w') a w

theorem any_of_L {Q : Exit → Act → World → Prop} {S : World → Prop} {ds : List Nat} : ∀ (f : Nat) (listed : Array Bool) (a : Act) (w : World), anyL P md ops Q S ds f listed a w → wpAny P md ops Q f listed a w
  | 0, _, _, _, h => h
  | f + 1, _, _, _, h => ⟨h.1, fun i hi => wpOp_mono (fun a' w' h' => any_of_L f _ a' w' h'.2) (h.2 i hi)⟩

theorem L_first {Q : Exit → Act → World → Prop} {S : World → Prop} {ds : List Nat} {i : Nat} {oi : Oper} {v : Value} (hi : ops[i]? = some oi) (hsel : ∀ (j : Nat) (o : Oper) cs b, ops[j]? = some o → o.op ≠ .select cs b)
    (hQ : ∀ c a w, Q (.panic c) (a.put oi.dst v) w → Q (.panic c) a w) (p : Bool) (hd : p = false → ∀ d ∈ ds, reachB md ops i ops.size d = true) :
    ∀ (f : Nat) (listed : Array Bool) (a : Act) (w : World),
      (∀ j oj, ops[j]? = some oj → j ≠ i → listed.getD j true = false → (∀ e ∈ oj.after, Region.binds md e = true → e.on ≠ i) → oi.apart ops oj = true) →
      Closed md ops listed → i ∈ Region.ready md ops listed → YieldsIf P ops (fun w => p = false → S w) oi v a → (p = false → S w) →
      anyL P md ops Q S ds f (listed.setIfInBounds i true) (a.put oi.dst v) w → anyL P md ops Q S ds (f + 1) listed a w := by
  intro f
  induction f with
  | zero =>
    intro listed a w _ _ hr hy hS H
    refine ⟨fun h => (by rw [h] at hr; cases hr), fun j hj => ?_⟩
    by_cases hji : j = i
    · subst hji; exact hy.wpOp hi hS ⟨fun _ h => h, H⟩
    · have := ready_mono hj hji
      rw [H.1] at this
      cases this
  | succ f ih =>
    intro listed a w hfree hc hr hy hS H
    refine ⟨fun h => (by rw [h] at hr; cases hr), fun j hj => ?_⟩
    by_cases hji : j = i
    · subst hji; exact hy.wpOp hi hS ⟨fun _ h => h, H⟩
    · have h1 := H.2 j (ready_mono hj hji)
      obtain ⟨hjun, oj, hoj, hall⟩ := mem_ready.1 hj
      have hiun := (mem_ready.1 hr).1
      have hnot : ∀ e ∈ oj.after, Region.binds md e = true → e.on ≠ i := fun e he hb heq => by
        have h1 := hall e he hb
        rw [heq, getD_both hiun] at h1
        cases h1
      have hjd : p = false → j ∉ ds := fun hp hm => not_ready hc (hd hp j hm) hiun hj
      have h2 := wpOp_putIf hoj (hfree j oj hoj hji hjun hnot) (fun cs b => hsel i oi cs b hi) (fun cs b => hsel j oj cs b hoj) hQ hy h1
      refine wpOp_mono (fun a' w' h3 => ⟨h3.2.1, ih (listed.setIfInBounds j true) a' w' ?_ (hc.set hj) (ready_mono hr (Ne.symm hji)) h3.1 (fun hp => h3.2.1 (hjd hp) (hS hp)) ?_⟩) h2
      · intro k ok hk hki hun hno
        refine hfree k ok hk hki ?_ hno
        by_cases hjk : j = k
        · subst hjk; exact hjun
        · rwa [getD_set_ne true hjk] at hun
      · rw [Array.setIfInBounds_comm _ _ hji]
        exact h3.2.2

/-- Reads, one behind the other; what follows is asked of the frame. Those that are marked read nothing of the world. -/
def wpRead (P : Program) (ops : Array Oper) (S : World → Prop) (Q : Act → Prop) : List (Oper × Bool) → Act → Prop
  | [], a => Q a
  | o :: rest, a => if Region.wanted o.1 (yielded ops a.tmps) = true then ∃ v, (∀ w, (o.2 = false → S w) → (execOp a.eval o.1).run P w = .ok (.value v) w) ∧ wpRead P ops S Q rest (a.put o.1.dst v) else wpRead P ops S Q rest (a.put o.1.dst undef)

theorem wpRead_nil {S : World → Prop} {Q : Act → Prop} {a : Act} (h : Q a) : wpRead P ops S Q [] a := h
theorem wpRead_step {S : World → Prop} {Q : Act → Prop} {a : Act} {o : Oper} {p : Bool} {rest : List (Oper × Bool)}
    (h : ∀ K : Act → Prop, (∀ a, wpRead P ops S Q rest a → K a) → if Region.wanted o (yielded ops a.tmps) = true then ∃ v, (∀ w, (p = false → S w) → (execOp a.eval o).run P w = .ok (.value v) w) ∧ K (a.put o.dst v) else K (a.put o.dst undef)) :
    wpRead P ops S Q ((o, p) :: rest) a := h _ (fun _ h => h)

def isIn : List Nat → Nat → Bool
  | [], _ => false
  | x :: xs, i => (x == i) || isIn xs i
/-- The operations of these numbers, the ones of ps marked. -/
def pickB (l : List Oper) (ps : List Nat) : List Nat → List (Oper × Bool)
  | [] => []
  | i :: is => match l[i]? with
    | some o => (o, isIn ps i) :: pickB l ps is
    | none => pickB l ps is

/-- The last ones come in this order; nothing is asked behind them. -/
theorem L_of_seq {l : List Oper} {Q : Exit → Act → World → Prop} {S : World → Prop} {ds : List Nat} : ∀ (ts : List Nat) (listed : Array Bool) (a : Act) (w : World), (∀ t ∈ ts, t ∈ ds) →
    seqB md l.toArray ts listed = true → wpList P l.toArray Q (pick l ts) a w → anyL P md l.toArray Q S ds ts.length listed a w
  | [], _, _, _, _, hB, h => ⟨by simpa [seqB] using hB, h⟩
  | t :: ts, listed, a, w, hs, hB, h => by
    simp only [seqB, Bool.and_eq_true, decide_eq_true_eq] at hB
    have hlt : t < l.length := by simpa using hB.1.1
    have h0 : l[t]? = some l[t] := List.getElem?_eq_getElem hlt
    refine ⟨fun h1 => (by rw [hB.1.2] at h1; cases h1), fun i hi => ?_⟩
    rw [hB.1.2] at hi
    have hik : i = t := by simpa using hi
    subst hik
    simp only [pick, h0] at h
    have hw : wpOp P l.toArray Q i (wpList P l.toArray Q (pick l ts)) a w := by
      unfold wpOp
      have h0' : l.toArray[i]? = some l[i] := by simp [hlt]
      simp only [h0']
      exact h
    exact wpOp_mono (fun a' w' h' => ⟨fun hn => absurd (hs i (List.mem_cons_self)) hn, L_of_seq ts _ a' w' (fun t ht => hs t (List.mem_cons_of_mem _ ht)) hB.2 h'⟩) hw

def headM (md : Region.Mode) (ops : Array Oper) (m : Nat) (ds ps : List Nat) : List Nat → Array Bool → Bool
  | [], listed => decide (m < ops.size) && decide (Region.ready md ops listed = [m]) && seqB md ops ds (listed.setIfInBounds m true)
  | k :: ks, listed => decide (k < ops.size) && (Region.ready md ops listed).contains k && Region.free md ops listed k && (isIn ps k || ds.all fun t => reachB md ops k ops.size t) && headM md ops m ds ps ks (listed.setIfInBounds k true)

theorem L_head {l : List Oper} {Q : Exit → Act → World → Prop} {S : World → Prop} {m : Nat} {om : Oper} {ds ps : List Nat} (hom : l[m]? = some om) (hmd : m ∉ ds) (hsel : Region.noSelect l.toArray = true) (hQ : ∀ c d v a w, Q (.panic c) (Act.put a d v) w → Q (.panic c) a w) :
    ∀ (hd : List Nat) (listed : Array Bool) (a : Act) (w : World), Closed md l.toArray listed → headM md l.toArray m ds ps hd listed = true → S w →
      wpRead P l.toArray S (fun a' => ∀ K : Act → World → Prop, (∀ a w, S w → wpList P l.toArray Q (pick l ds) a w → K a w) → if Region.wanted om (yielded l.toArray a'.tmps) = true then om.wp P a' w K Q else K (a'.put om.dst undef) w) (pickB l ps hd) a →
      anyL P md l.toArray Q S ds (hd.length + (ds.length + 1)) listed a w
  | [], listed, a, w, _, hB, hS, h => by
    simp only [headM, Bool.and_eq_true, decide_eq_true_eq] at hB
    obtain ⟨⟨hlt, hr⟩, hs⟩ := hB
    have h1 := h (fun a' w' => (m ∉ ds → S w → S w') ∧ anyL P md l.toArray Q S ds ds.length (listed.setIfInBounds m true) a' w')
      (fun a' w' hS' hl => ⟨fun _ _ => hS', L_of_seq ds _ a' w' (fun _ h => h) hs hl⟩)
    simp only [List.length_nil, Nat.zero_add]
    refine ⟨fun h0 => (by rw [hr] at h0; cases h0), fun i hi => ?_⟩
    rw [hr] at hi
    have him : i = m := by simpa using hi
    subst him
    have h0' : l.toArray[i]? = some om := by simpa using hom
    unfold wpOp
    simp only [h0']
    split
    · rename_i hwant
      rw [if_pos hwant] at h1
      exact .inl h1
    · rename_i hwant
      rwa [if_neg hwant] at h1
  | k :: ks, listed, a, w, inv, hB, hS, h => by
    simp only [headM, Bool.and_eq_true, decide_eq_true_eq] at hB
    obtain ⟨⟨⟨⟨hk, hr⟩, hf⟩, hw⟩, hB'⟩ := hB
    have hlt : k < l.length := by simpa using hk
    have h0 : l[k]? = some l[k] := List.getElem?_eq_getElem hlt
    have h0' : l.toArray[k]? = some l[k] := by simp [hlt]
    simp only [pickB, h0] at h
    have hr' : k ∈ Region.ready md l.toArray listed := by simpa using hr
    obtain ⟨v, hy, hK⟩ : ∃ v, YieldsIf P l.toArray (fun w => isIn ps k = false → S w) l[k] v a ∧ wpRead P l.toArray S (fun a' => ∀ K : Act → World → Prop, (∀ a w, S w → wpList P l.toArray Q (pick l ds) a w → K a w) → if Region.wanted om (yielded l.toArray a'.tmps) = true then om.wp P a' w K Q else K (a'.put om.dst undef) w) (pickB l ps ks) (a.put l[k].dst v) := by
      unfold wpRead at h
      split at h
      · rename_i hwant
        obtain ⟨v, h1, h2⟩ := h
        exact ⟨v, .inl ⟨hwant, h1⟩, h2⟩
      · rename_i hwant
        exact ⟨undef, .inr ⟨by simpa using hwant, rfl⟩, h⟩
    have := L_head hom hmd hsel hQ ks _ _ w (inv.set hr') hB' hS hK
    rw [show (k :: ks).length + (ds.length + 1) = (ks.length + (ds.length + 1)) + 1 by simp; omega]
    exact L_first h0' (Region.noSelect_spec hsel) (fun c a w => hQ c _ _ a w) (isIn ps k) (fun hp d hm => by
      rw [hp, Bool.false_or] at hw
      exact List.all_eq_true.1 hw d hm) _ listed a w (Region.free_spec h0' hf) inv hr' hy (fun _ => hS) this

/-- **Reads (hd; of these ps read nothing of the world), under a condition S on the world; one operation m behind which S holds still; the last ones (ds), in one order, behind all reads.** -/
theorem regionM {id : Nat} {Q : Exit → Act → World → Prop} {a : Act} {w : World} {l : List Oper} (S : World → Prop) (hd ps : List Nat) (m : Nat) (om : Oper) (ds : List Nat) (hm : P.follows .mixedOrders = true) (hom : l[m]? = some om)
    (hQ : ∀ c d v a w, Q (.panic c) (Act.put a d v) w → Q (.panic c) a w)
    (hB : (Region.noSelect l.toArray && decide (hd.length + (ds.length + 1) = l.toArray.size) && (!ds.contains m) && headM .any l.toArray m ds ps hd (Array.replicate l.toArray.size false)) = true) (hS : S w.drew)
    (h : wpRead P l.toArray S (fun a' => ∀ K : Act → World → Prop, (∀ a w, S w → wpList P l.toArray Q (pick l ds) a w → K a w) → if Region.wanted om (yielded l.toArray a'.tmps) = true then om.wp P a' w.drew K Q else K (a'.put om.dst undef) w.drew) (pickB l ps hd) a) :
    (Code.region id l.toArray true).wp P Q a w := by
  simp only [Bool.and_eq_true, decide_eq_true_eq] at hB
  obtain ⟨⟨⟨hsel, hn⟩, hmd⟩, hh⟩ := hB
  have inv0 : Closed .any l.toArray (Array.replicate l.toArray.size false) := fun j oj _ hl => by rw [getD_replicate_false] at hl; cases hl
  have H := L_head (md := .any) hom (by simpa using hmd) hsel hQ hd _ a w.drew inv0 hh hS h
  rw [hn] at H
  exact wp_region_any hm (any_of_L _ _ _ _ H)

/-! Reads and acts in one order; S holds behind each act. -/

/-- kind 0: a read under S; 1: a read of nothing of the world; 2: an act behind which S holds. -/
def wpSteps (P : Program) (ops : Array Oper) (S : World → Prop) (Q : Exit → Act → World → Prop) (Z : Act → World → Prop) : List (Oper × Nat) → Act → World → Prop
  | [], a, w => Z a w
  | o :: rest, a, w => if Region.wanted o.1 (yielded ops a.tmps) = true then
      (if o.2 = 2 then o.1.wp P a w (fun a' w' => S w' ∧ wpSteps P ops S Q Z rest a' w') Q
       else ∃ v, (∀ w, (o.2 = 0 → S w) → (execOp a.eval o.1).run P w = .ok (.value v) w) ∧ wpSteps P ops S Q Z rest (a.put o.1.dst v) w)
    else wpSteps P ops S Q Z rest (a.put o.1.dst undef) w

theorem steps_nil {S : World → Prop} {Q : Exit → Act → World → Prop} {Z : Act → World → Prop} {a : Act} {w : World} (h : Z a w) : wpSteps P ops S Q Z [] a w := h
theorem steps_read {S : World → Prop} {Q : Exit → Act → World → Prop} {Z : Act → World → Prop} {a : Act} {w : World} {o : Oper} {rest : List (Oper × Nat)}
    (h : ∀ K : Act → World → Prop, (∀ a w, wpSteps P ops S Q Z rest a w → K a w) → if Region.wanted o (yielded ops a.tmps) = true then ∃ v, (∀ w, S w → (execOp a.eval o).run P w = .ok (.value v) w) ∧ K (a.put o.dst v) w else K (a.put o.dst undef) w) :
    wpSteps P ops S Q Z ((o, 0) :: rest) a w := by
  have h1 := h _ (fun _ _ h => h)
  unfold wpSteps
  split
  · rename_i hw
    rw [if_pos hw] at h1
    obtain ⟨v, h2, h3⟩ := h1
    rw [if_neg (by simp)]
    exact ⟨v, fun w hs => h2 w (hs rfl), h3⟩
  · rename_i hw
    rwa [if_neg hw] at h1
theorem steps_pure {S : World → Prop} {Q : Exit → Act → World → Prop} {Z : Act → World → Prop} {a : Act} {w : World} {o : Oper} {rest : List (Oper × Nat)}
    (h : ∀ K : Act → World → Prop, (∀ a w, wpSteps P ops S Q Z rest a w → K a w) → if Region.wanted o (yielded ops a.tmps) = true then ∃ v, (∀ w, (execOp a.eval o).run P w = .ok (.value v) w) ∧ K (a.put o.dst v) w else K (a.put o.dst undef) w) :
    wpSteps P ops S Q Z ((o, 1) :: rest) a w := by
  have h1 := h _ (fun _ _ h => h)
  unfold wpSteps
  split
  · rename_i hw
    rw [if_pos hw] at h1
    obtain ⟨v, h2, h3⟩ := h1
    rw [if_neg (by simp)]
    exact ⟨v, fun w _ => h2 w, h3⟩
  · rename_i hw
    rwa [if_neg hw] at h1
theorem steps_act {S : World → Prop} {Q : Exit → Act → World → Prop} {Z : Act → World → Prop} {a : Act} {w : World} {o : Oper} {rest : List (Oper × Nat)}
    (h : ∀ K : Act → World → Prop, (∀ a w, S w → wpSteps P ops S Q Z rest a w → K a w) → if Region.wanted o (yielded ops a.tmps) = true then o.wp P a w K Q else wpSteps P ops S Q Z rest (a.put o.dst undef) w) :
    wpSteps P ops S Q Z ((o, 2) :: rest) a w := by
  have h1 := h _ (fun _ _ h h' => And.intro h h')
  unfold wpSteps
  rw [if_pos rfl]
  exact h1

/-- The operations of these numbers, with their kinds. -/
def pickK (l : List Oper) : List (Nat × Nat) → List (Oper × Nat)
  | [] => []
  | (i, k) :: is => match l[i]? with
    | some o => (o, k) :: pickK l is
    | none => pickK l is

def stepsB (md : Region.Mode) (ops : Array Oper) (ds : List Nat) : List (Nat × Nat) → Array Bool → Bool
  | [], listed => seqB md ops ds listed
  | (k, 2) :: ks, listed => decide (k < ops.size) && decide (Region.ready md ops listed = [k]) && (!ds.contains k) && stepsB md ops ds ks (listed.setIfInBounds k true)
  | (k, p) :: ks, listed => decide (k < ops.size) && (Region.ready md ops listed).contains k && Region.free md ops listed k && (p == 1 || ds.all fun t => reachB md ops k ops.size t) && stepsB md ops ds ks (listed.setIfInBounds k true)

theorem L_steps {l : List Oper} {Q : Exit → Act → World → Prop} {S : World → Prop} {ds : List Nat} (hsel : Region.noSelect l.toArray = true) (hQ : ∀ c d v a w, Q (.panic c) (Act.put a d v) w → Q (.panic c) a w) :
    ∀ (hd : List (Nat × Nat)) (listed : Array Bool) (a : Act) (w : World), Closed md l.toArray listed → stepsB md l.toArray ds hd listed = true → S w →
      wpSteps P l.toArray S Q (fun a w => wpList P l.toArray Q (pick l ds) a w) (pickK l hd) a w → anyL P md l.toArray Q S ds (hd.length + ds.length) listed a w
  | [], listed, a, w, _, hB, _, h => by
    simp only [List.length_nil, Nat.zero_add]
    exact L_of_seq ds listed a w (fun _ h => h) hB h
  | (k, p) :: ks, listed, a, w, inv, hB, hS, h => by
    rw [show ((k, p) :: ks).length + ds.length = (ks.length + ds.length) + 1 by simp; omega]
    by_cases hp : p = 2
    · subst hp
      simp only [stepsB, Bool.and_eq_true, decide_eq_true_eq] at hB
      obtain ⟨⟨⟨hk, hr⟩, hm⟩, hB'⟩ := hB
      have hlt : k < l.length := by simpa using hk
      have h0 : l[k]? = some l[k] := List.getElem?_eq_getElem hlt
      have h0' : l.toArray[k]? = some l[k] := by simp [hlt]
      simp only [pickK, h0] at h
      have hr' : k ∈ Region.ready md l.toArray listed := by rw [hr]; exact List.mem_singleton.2 rfl
      refine ⟨fun h1 => (by rw [hr] at h1; cases h1), fun i hi => ?_⟩
      rw [hr] at hi
      have hik : i = k := by simpa using hi
      subst hik
      have h1 : wpOp P l.toArray Q i (fun a' w' => S w' ∧ wpSteps P l.toArray S Q (fun a w => wpList P l.toArray Q (pick l ds) a w) (pickK l ks) a' w') a w := by
        unfold wpSteps at h
        rw [if_pos rfl] at h
        unfold wpOp
        simp only [h0']
        split
        · rename_i hwant
          rw [if_pos hwant] at h
          exact .inl h
        · rename_i hwant
          rw [if_neg hwant] at h
          exact ⟨hS, h⟩
      exact wpOp_mono (fun a' w' h2 => ⟨fun _ _ => h2.1, L_steps hsel hQ ks _ a' w' (inv.set hr') hB' h2.1 h2.2⟩) h1
    · have hB : (decide (k < l.toArray.size) && (Region.ready md l.toArray listed).contains k && Region.free md l.toArray listed k && (p == 1 || ds.all fun t => reachB md l.toArray k l.toArray.size t) && stepsB md l.toArray ds ks (listed.setIfInBounds k true)) = true := by
        rcases p with _ | _ | _ | p
        · exact hB
        · exact hB
        · exact absurd rfl hp
        · exact hB
      simp only [Bool.and_eq_true, decide_eq_true_eq] at hB
      obtain ⟨⟨⟨⟨hk, hr⟩, hf⟩, hw⟩, hB'⟩ := hB
      have hlt : k < l.length := by simpa using hk
      have h0 : l[k]? = some l[k] := List.getElem?_eq_getElem hlt
      have h0' : l.toArray[k]? = some l[k] := by simp [hlt]
      simp only [pickK, h0] at h
      have hr' : k ∈ Region.ready md l.toArray listed := by simpa using hr
      obtain ⟨v, hy, hK⟩ : ∃ v, YieldsIf P l.toArray (fun w => (p == 1) = false → S w) l[k] v a ∧ wpSteps P l.toArray S Q (fun a w => wpList P l.toArray Q (pick l ds) a w) (pickK l ks) (a.put l[k].dst v) w := by
        unfold wpSteps at h
        rw [if_neg hp] at h
        split at h
        · rename_i hwant
          obtain ⟨v, h1, h2⟩ := h
          exact ⟨v, .inl ⟨hwant, fun w hs => h1 w fun hp0 => hs (by have h0 : p = 0 := hp0; rw [h0]; rfl)⟩, h2⟩
        · rename_i hwant
          exact ⟨undef, .inr ⟨by simpa using hwant, rfl⟩, h⟩
      have := L_steps hsel hQ ks _ _ w (inv.set hr') hB' hS hK
      exact L_first h0' (Region.noSelect_spec hsel) (fun c a w => hQ c _ _ a w) (p == 1) (fun hp d hm => by
        rw [hp, Bool.false_or] at hw
        exact List.all_eq_true.1 hw d hm) _ listed a w (Region.free_spec h0' hf) inv hr' hy (fun _ => hS) this

/-- **Reads and acts in one order (hd, with kinds), under a condition S on the world; the last ones (ds), in one order, behind all.** -/
theorem regionS {id : Nat} {Q : Exit → Act → World → Prop} {a : Act} {w : World} {l : List Oper} (S : World → Prop) (hd : List (Nat × Nat)) (ds : List Nat) (hm : P.follows .mixedOrders = true)
    (hQ : ∀ c d v a w, Q (.panic c) (Act.put a d v) w → Q (.panic c) a w)
    (hB : (Region.noSelect l.toArray && decide (hd.length + ds.length = l.toArray.size) && stepsB .any l.toArray ds hd (Array.replicate l.toArray.size false)) = true) (hS : S w.drew)
    (h : wpSteps P l.toArray S Q (fun a w => wpList P l.toArray Q (pick l ds) a w) (pickK l hd) a w.drew) : (Code.region id l.toArray true).wp P Q a w := by
  simp only [Bool.and_eq_true, decide_eq_true_eq] at hB
  obtain ⟨⟨hsel, hn⟩, hh⟩ := hB
  have inv0 : Closed .any l.toArray (Array.replicate l.toArray.size false) := fun j oj _ hl => by rw [getD_replicate_false] at hl; cases hl
  have H := L_steps (md := .any) hsel hQ hd _ a w.drew inv0 hh hS h
  rw [hn] at H
  exact wp_region_any hm (any_of_L _ _ _ _ H)
end QP
end Go
