/- Add, Drop, Hear: what they answer. -/
import Derived.Test.YtplkimgoogoadaaC1
namespace Go.Proofs.Ytplkimgoogoadaa
open Go.RowKit Go.Proofs.YtplkimgoogoadaaW.PrintWords PBeatPeers

/-- A watch that is answered, and an error. -/
def Out (w : World) (now : Int) (qs : List S35) (r : Int) (e : Ending) (w' : World) : Prop :=
  ∃ A c, e = .returned (.tuple #[.agg #[.int .i64 now, .slice A qs.length c], .int .i64 r]) ∧ Own w' w.heap.size (.slice A qs.length c) qs ∧ Below w.heap.size w w'
/-- A watch, something else, and an error. -/
def Out3 (w : World) (now : Int) (qs : List S35) (x : Value) (r : Int) (e : Ending) (w' : World) : Prop :=
  ∃ A c, e = .returned (.tuple #[.agg #[.int .i64 now, .slice A qs.length c], x, .int .i64 r]) ∧ Own w' w.heap.size (.slice A qs.length c) qs ∧ Below w.heap.size w w'

theorem own_nil (w : World) (B : Nat) : Own w B (.slice none 0 0) [] := World.ownsRow_nil _ _ _ _

/-- turn's answer, whatever the change says. -/
theorem turn_out (now : Int) (ps : List S35) (A : Option Addr) (c : Nat) (g : Nat) (cb : Array Value) (r now' : Int) (qs : List S35) (w : World) (hC : Kd.C k35 w A ps.length ps) (hc : ps.length ≤ c) (hlen : ps.length ≤ 1000)
    (eg : Enters Try.prog g) (N : Nat) (hN : N ≤ w.heap.size) (R : World → Prop) (hR : ∀ W k u, R W → R (W.setCell ⟨w.heap.size + 1, k, none⟩ u)) (hw : OkW now ps) (hd : Does g cb w.heap.size now ps r now' qs w N R) :
    Calls Try.prog 29 #[.agg #[.int .i64 now, .slice A ps.length c], .func (.func g) #[] cb] w fun e w' =>
      ∃ n2 q2 A' c', (r = 0 → n2 = now' ∧ q2 = qs) ∧ (r ≠ 0 → n2 = 0 ∧ q2 = []) ∧ e = .returned (.tuple #[.agg #[.int .i64 n2, .slice A' q2.length c'], .int .i64 r]) ∧ Own w' w.heap.size (.slice A' q2.length c') q2 ∧ Below N w w' ∧ R w' := by
  refine (turn_does now ps A c g cb r now' qs w hC hc hlen _ (check_ok hw _ (Nat.lt_succ_self _)) eg N hN R hR hd).mono ?_
  rintro e w' ⟨h1, h2, h3, h4⟩
  by_cases hr : r = 0
  · obtain ⟨v', he, ho⟩ := h2 hr
    obtain ⟨A', c', rfl, _, _⟩ := ho.c'
    exact ⟨now', qs, A', c', fun _ => ⟨rfl, rfl⟩, fun h => absurd hr h, by rw [he, hr], ho, h3, h4⟩
  · exact ⟨0, [], none, 0, fun h => absurd h hr, fun _ => ⟨rfl, rfl⟩, h1 hr, own_nil _ _, h3, h4⟩

/-- May a watch be? -/
def okW (now : Int) (ps : List S35) : Bool := decide (0 ≤ now) && decide (now ≤ 1099511627776) && (List.range' 0 ps.length).all (okAt now ps)
theorem okW_iff {now : Int} {ps : List S35} : okW now ps = true ↔ OkW now ps := by
  unfold okW
  rw [Bool.and_eq_true, Bool.and_eq_true, ok_all, decide_eq_true_eq, decide_eq_true_eq]
  exact ⟨fun ⟨⟨a, b⟩, c, d⟩ => ⟨a, b, c, d⟩, fun h => ⟨⟨h.n0, h.n1⟩, h.ok, h.up⟩⟩

def turnR (now : Int) (ps : List S35) (r : Int) : Int := if okW now ps = true then r else 390
def turnN (now : Int) (ps : List S35) (r now' : Int) : Int := if turnR now ps r = 0 then now' else 0
def turnQ (now : Int) (ps : List S35) (r : Int) (qs : List S35) : List S35 := if turnR now ps r = 0 then qs else []

/-- turn's answer, whatever the watch. -/
theorem turn_all (now : Int) (ps : List S35) (A : Option Addr) (c : Nat) (g : Nat) (cb : Array Value) (r now' : Int) (qs : List S35) (w : World) (hC : Kd.C k35 w A ps.length ps) (hc : ps.length ≤ c) (hlen : ps.length ≤ 1000)
    (eg : Enters Try.prog g) (N : Nat) (hN : N ≤ w.heap.size) (R : World → Prop) (hR : ∀ W k u, R W → R (W.setCell ⟨w.heap.size + 1, k, none⟩ u)) (hbad : ¬ OkW now ps → ∀ W, Below w.heap.size w W → R W) (hd : OkW now ps → Does g cb w.heap.size now ps r now' qs w N R) :
    Calls Try.prog 29 #[.agg #[.int .i64 now, .slice A ps.length c], .func (.func g) #[] cb] w fun e w' =>
      ∃ A' c', e = .returned (.tuple #[.agg #[.int .i64 (turnN now ps r now'), .slice A' (turnQ now ps r qs).length c'], .int .i64 (turnR now ps r)]) ∧ Own w' w.heap.size (.slice A' (turnQ now ps r qs).length c') (turnQ now ps r qs) ∧ Below N w w' ∧ R w' := by
  rcases Bool.eq_false_or_eq_true (okW now ps) with hw | hw
  · have hok := okW_iff.1 hw
    have e0 : turnR now ps r = r := by unfold turnR; rw [if_pos hw]
    refine (turn_out now ps A c g cb r now' qs w hC hc hlen eg N hN R hR hok (hd hok)).mono ?_
    rintro e w' ⟨n2, q2, A', c', h1, h2, he, ho, hb, hr⟩
    unfold turnN turnQ
    rw [e0]
    by_cases hr0 : r = 0
    · obtain ⟨rfl, rfl⟩ := h1 hr0
      rw [if_pos hr0, if_pos hr0]
      exact ⟨A', c', he, ho, hb, hr⟩
    · obtain ⟨rfl, rfl⟩ := h2 hr0
      rw [if_neg hr0, if_neg hr0]
      exact ⟨A', c', he, ho, hb, hr⟩
  · have hok : ¬ OkW now ps := fun h => by rw [okW_iff.2 h] at hw; cases hw
    have e0 : turnR now ps r = 390 := by unfold turnR; rw [if_neg (by simp [hw])]
    refine (turn_bad now ps A c _ w hC hc _ (check_bad hok (by omega) _ (Nat.lt_succ_self _))).mono ?_
    rintro e w' ⟨he, hb⟩
    unfold turnN turnQ
    rw [e0, if_neg (by omega), if_neg (by omega)]
    exact ⟨none, 0, he, own_nil _ _, hb.mono hN, hbad hok w' hb⟩

theorem enters30 : Enters Try.prog 30 := enters_of Try.func30 (by kernel_rfl) rfl
theorem enters33 : Enters Try.prog 33 := enters_of Try.func33 (by kernel_rfl) rfl
theorem enters35 : Enters Try.prog 35 := enters_of Try.func35 (by kernel_rfl) rfl

theorem heap_alloc_old {w : World} {o : Obj} {k : Nat} (h : k < w.heap.size) : (w.alloc o).heap[k]? = w.heap[k]? := Below.heap_alloc w o k h

theorem add_world (w : World) (o1 o2 o3 : Obj) : (((w.alloc o1).alloc o2).alloc o3).heap[w.heap.size + 1]? = some o2 ∧ (((w.alloc o1).alloc o2).alloc o3).heap[w.heap.size + 2]? = some o3 ∧ (((w.alloc o1).alloc o2).alloc o3).heap.size = w.heap.size + 3 ∧ Below w.heap.size w (((w.alloc o1).alloc o2).alloc o3) ∧ (((w.alloc o1).alloc o2).alloc o3).heap[w.heap.size]? = some o1 := by
  have s1 : (w.alloc o1).heap.size = w.heap.size + 1 := World.size_alloc ..
  have s2 : ((w.alloc o1).alloc o2).heap.size = w.heap.size + 2 := by rw [World.size_alloc, s1]
  have h2 := World.alloc_heap_new (w.alloc o1) o2
  have h3 := World.alloc_heap_new ((w.alloc o1).alloc o2) o3
  rw [s1] at h2
  rw [s2] at h3
  refine ⟨?_, h3, by rw [World.size_alloc, s2], (((Below.refl _ w).alloc (Nat.le_refl _) _).alloc (by rw [s1]; omega) _).alloc (by rw [s2]; omega) _, ?_⟩
  · rw [heap_alloc_old (by rw [s2]; omega)]
    exact h2
  · rw [heap_alloc_old (by rw [s2]; omega), heap_alloc_old (by rw [s1]; omega)]
    exact World.alloc_heap_new w o1

/-- Add's answer. -/
def addOut (now : Int) (ps : List S35) (n : Int) : Int × List S35 × Int :=
  (turnN now ps (addR ps n) now, turnQ now ps (addR ps n) (addQ now ps n), turnR now ps (addR ps n))
def dropOut (now : Int) (ps : List S35) (n : Int) : Int × List S35 × Int :=
  (turnN now ps (dropR ps n) now, turnQ now ps (dropR ps n) (dropQ ps n), turnR now ps (dropR ps n))

set_option maxHeartbeats 2000000 in
theorem add_any (now n : Int) (ps : List S35) (A : Option Addr) (c : Nat) (w : World) (hC : Kd.C k35 w A ps.length ps) (hc : ps.length ≤ c) (hl : ps.length ≤ 1000) (n2 : Int) (q2 : List S35) (r2 : Int) (hres : addOut now ps n = (n2, q2, r2)) :
    Calls Try.prog 8 #[.agg #[.int .i64 now, .slice A ps.length c], .int .i64 n] w (Out w n2 q2 r2) := by
  obtain ⟨W3, hW3⟩ : ∃ W3, ((w.alloc (.cells #[.int .i64 now, .slice A ps.length c] 24)).alloc (.cells #[.int .i64 n] 3)).alloc (.cells #[.int .i64 0, .slice none 0 0] 24) = W3 := ⟨_, rfl⟩
  obtain ⟨k1, k2, k3, k4, k5⟩ := add_world w (.cells #[.int .i64 now, .slice A ps.length c] 24) (.cells #[.int .i64 n] 3) (.cells #[.int .i64 0, .slice none 0 0] 24)
  have hC3 := Kd.C_alloc (Kd.C_alloc (Kd.C_alloc hC (.cells #[.int .i64 now, .slice A ps.length c] 24)) (.cells #[.int .i64 n] 3)) (.cells #[.int .i64 0, .slice none 0 0] 24)
  rw [hW3] at k1 k2 k3 k4 k5 hC3
  obtain ⟨y0, y1, _, _⟩ := boxed_cells k5
  have hnb : W3.cell? ⟨w.heap.size + 1, 0, none⟩ = some (.int .i64 n) := by simp [World.cell?, k1]
  have ht := turn_all now ps A c 30 #[.pointer (some ⟨w.heap.size + 1, 0, none⟩)] (addR ps n) now (addQ now ps n) W3 hC3 hc hl enters30 W3.heap.size (Nat.le_refl _) (fun _ => True) (fun _ _ _ _ => trivial) (fun _ _ _ => trivial)
    (fun hok => add_does now ps n (w.heap.size + 1) W3.heap.size W3 hnb hl hok.rising (Nat.le_refl _))
  unfold addOut at hres
  injection hres with e1 e2
  injection e2 with e2 e3
  rw [e1, e2, e3] at ht
  clear e1 e2 e3 hnb hC3 hC
  go_enter Try.func8, Try.ntmps8
  go_wp2_with fail
  refine ht.mono ?_
  rintro e w1 ⟨A', c', rfl, ho, hb, _⟩
  have hx := (hb.block (w.heap.size + 2) (by omega)).trans k2
  obtain ⟨x0, x1, x2, x3⟩ := boxed_cells hx
  have hs := hb.size
  clear ht k1 k2 hx y0 y1 k5
  go_wp2_with fail
  refine bodyPost_ret (v := .tuple #[.agg #[.int .i64 n2, .slice A' q2.length c'], .int .i64 r2]) ?_ rfl ⟨A', c', rfl, ?_, ?_⟩
  · simp [results, Try.f8, go_sem, *]
  · exact ((ho.far (by simp; omega) _).far (by simp; omega) _).mono (by omega)
  · exact ((k4.trans (hb.mono (by omega))).setCell (by simp; omega) _).setCell (by simp; omega) _

set_option maxHeartbeats 2000000 in
theorem drop_any (now n : Int) (ps : List S35) (A : Option Addr) (c : Nat) (w : World) (hC : Kd.C k35 w A ps.length ps) (hc : ps.length ≤ c) (hl : ps.length ≤ 1000) (n2 : Int) (q2 : List S35) (r2 : Int) (hres : dropOut now ps n = (n2, q2, r2)) :
    Calls Try.prog 9 #[.agg #[.int .i64 now, .slice A ps.length c], .int .i64 n] w (Out w n2 q2 r2) := by
  obtain ⟨W3, hW3⟩ : ∃ W3, ((w.alloc (.cells #[.int .i64 now, .slice A ps.length c] 24)).alloc (.cells #[.int .i64 n] 3)).alloc (.cells #[.int .i64 0, .slice none 0 0] 24) = W3 := ⟨_, rfl⟩
  obtain ⟨k1, k2, k3, k4, k5⟩ := add_world w (.cells #[.int .i64 now, .slice A ps.length c] 24) (.cells #[.int .i64 n] 3) (.cells #[.int .i64 0, .slice none 0 0] 24)
  have hC3 := Kd.C_alloc (Kd.C_alloc (Kd.C_alloc hC (.cells #[.int .i64 now, .slice A ps.length c] 24)) (.cells #[.int .i64 n] 3)) (.cells #[.int .i64 0, .slice none 0 0] 24)
  rw [hW3] at k1 k2 k3 k4 k5 hC3
  obtain ⟨y0, y1, _, _⟩ := boxed_cells k5
  have hnb : W3.cell? ⟨w.heap.size + 1, 0, none⟩ = some (.int .i64 n) := by simp [World.cell?, k1]
  have ht := turn_all now ps A c 33 #[.pointer (some ⟨w.heap.size + 1, 0, none⟩)] (dropR ps n) now (dropQ ps n) W3 hC3 hc hl enters33 W3.heap.size (Nat.le_refl _) (fun _ => True) (fun _ _ _ _ => trivial) (fun _ _ _ => trivial)
    (fun hok => drop_does now ps n (w.heap.size + 1) W3.heap.size W3 hnb hl hok.rising (Nat.le_refl _))
  unfold dropOut at hres
  injection hres with e1 e2
  injection e2 with e2 e3
  rw [e1, e2, e3] at ht
  clear e1 e2 e3 hnb hC3 hC
  go_enter Try.func9, Try.ntmps9
  go_wp2_with fail
  refine ht.mono ?_
  rintro e w1 ⟨A', c', rfl, ho, hb, _⟩
  have hx := (hb.block (w.heap.size + 2) (by omega)).trans k2
  obtain ⟨x0, x1, x2, x3⟩ := boxed_cells hx
  have hs := hb.size
  clear ht k1 k2 hx y0 y1 k5
  go_wp2_with fail
  refine bodyPost_ret (v := .tuple #[.agg #[.int .i64 n2, .slice A' q2.length c'], .int .i64 r2]) ?_ rfl ⟨A', c', rfl, ?_, ?_⟩
  · simp [results, Try.f9, go_sem, *]
  · exact ((ho.far (by simp; omega) _).far (by simp; omega) _).mono (by omega)
  · exact ((k4.trans (hb.mono (by omega))).setCell (by simp; omega) _).setCell (by simp; omega) _

end Go.Proofs.Ytplkimgoogoadaa
