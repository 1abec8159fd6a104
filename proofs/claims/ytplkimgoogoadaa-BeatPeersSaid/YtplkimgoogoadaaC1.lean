/- Plain law: which watches may be, by the program's own look and by the reference's. -/
import Derived.Test.YtplkimgoogoadaaB10
import Derived.Test.YtplkimgoogoadaaPBeatPeersx4
import Derived.Test.YtplkimgoogoadaaPBeatPeersx6
namespace Go.Proofs.Ytplkimgoogoadaa
open Go.RowKit Go.Proofs.YtplkimgoogoadaaW.PrintWords PBeatPeers

/-- What is asked of a peer's state. -/
def okS (s : Int) (p : S35) : Bool :=
  if p.f3 = 1 then s == 0 else if p.f3 = 2 then decide (s = 1) && p.f2 == 0 else if p.f3 = 0 then decide (s ≠ 2) && decide (p.f2 < 3) && (s == 0 || p.f2 == 0)
  else if p.f3 = 3 then decide (p.f2 < 3) && (s == 0 || p.f2 == 0) else false
def okB (now : Int) (p : S35) : Bool := decide (1 ≤ p.f0) && decide (p.f0 ≤ 8) && decide (0 ≤ p.f1) && decide (p.f1 ≤ now) && decide (0 ≤ p.f2) && decide (p.f2 ≤ 3)
def okP (now : Int) (p : S35) : Bool := okB now p && okS (spanN now p.f1) p
structure OkW (now : Int) (ps : List S35) : Prop where
  n0 : 0 ≤ now
  n1 : now ≤ 1099511627776
  ok : ∀ j, j < ps.length → okP now (pu ps j) = true
  up : ∀ j, j + 1 < ps.length → (pu ps j).f0 < (pu ps (j + 1)).f0

theorem okB_iff {now : Int} {p : S35} : okB now p = true ↔ (1 ≤ p.f0 ∧ p.f0 ≤ 8 ∧ 0 ≤ p.f1 ∧ p.f1 ≤ now ∧ 0 ≤ p.f2 ∧ p.f2 ≤ 3) := by
  unfold okB
  simp only [Bool.and_eq_true, decide_eq_true_eq, and_assoc]

theorem OkW.rising {now : Int} {ps : List S35} (h : OkW now ps) : Rising ps := by
  intro i j hij hj
  obtain ⟨d, rfl⟩ : ∃ d, j = i + 1 + d := ⟨j - (i + 1), by omega⟩
  clear hij
  induction d with
  | zero => exact h.up i hj
  | succ d ih => exact Int.lt_trans (ih (by omega)) (h.up (i + 1 + d) (by omega))
theorem OkW.nums {now : Int} {ps : List S35} (h : OkW now ps) : ∀ i, i < ps.length → OkN now (pu ps i) := by
  intro i hi
  have h1 := h.ok i hi
  unfold okP at h1
  rw [Bool.and_eq_true, okB_iff] at h1
  obtain ⟨⟨a, b, c, d, e, f⟩, _⟩ := h1
  exact ⟨h.n0, h.n1, c, d, e, f⟩
theorem OkW.range {now : Int} {ps : List S35} (h : OkW now ps) : ∀ i, i < ps.length → 1 ≤ (pu ps i).f0 ∧ (pu ps i).f0 ≤ 8 := by
  intro i hi
  have h1 := h.ok i hi
  unfold okP at h1
  rw [Bool.and_eq_true, okB_iff] at h1
  exact ⟨h1.1.1, h1.1.2.1⟩
theorem OkW.len {now : Int} {ps : List S35} (h : OkW now ps) : ps.length ≤ 8 := by
  have key : ∀ j, j < ps.length → (j : Int) + 1 ≤ (pu ps j).f0 := by
    intro j
    induction j with
    | zero => intro hj; have := (h.range 0 hj).1; omega
    | succ j ih => intro hj; have := ih (by omega); have := h.up j hj; omega
  rcases Nat.lt_or_ge 8 ps.length with h8 | h8
  · have := key 8 h8
    have := (h.range 8 h8).2
    omega
  · exact h8

theorem right_is (now : Int) (p : S35) (k : Nat) (h0 : 0 ≤ now) (h1 : now ≤ 1099511627776) : beat_right.f (k + 1) now p.f0 p.f1 p.f2 p.f3 = some (okP now p) := by
  by_cases hb : okB now p = true
  · have hb' := okB_iff.1 hb
    obtain ⟨a, b, c, d, e, f⟩ := hb'
    simp only [beat_right.f, beat_right.j0]
    rw [if_neg (by omega), if_neg (by omega), if_neg (by omega), if_neg (by omega), if_neg (by omega), if_neg (by simp; omega), span_is ⟨h0, h1, c, d, e, f⟩]
    simp only [Option.bind_some]
    unfold okP
    rw [hb, Bool.true_and]
    unfold okS
    generalize spanN now p.f1 = s
    by_cases h1 : p.f3 = 1
    · rw [if_pos h1, if_pos h1]
    · rw [if_neg h1, if_neg h1]
      by_cases h2 : p.f3 = 2
      · rw [if_pos h2, if_pos h2]
        by_cases hs : s = 1
        · simp [hs]
        · simp [hs]
      · rw [if_neg h2, if_neg h2]
        by_cases h3 : p.f3 = 0
        · rw [if_pos h3, if_pos h3]
          by_cases hs : s = 2
          · simp [hs]
          · by_cases hg : p.f2 < 3
            · by_cases hz : s = 0
              · simp [hz, hg]
              · simp [hs, hg, hz]
            · simp [hs, hg]
        · rw [if_neg h3, if_neg h3]
          by_cases h4 : p.f3 = 3
          · rw [if_pos h4, if_pos h4]
            by_cases hg : p.f2 < 3
            · by_cases hz : s = 0
              · simp [hz, hg]
              · simp [hg, hz]
            · simp [hg]
          · rw [if_neg h4, if_neg h4]
  · have hf : okP now p = false := by unfold okP; rw [Bool.eq_false_iff.2 hb]; rfl
    rw [hf]
    have hno : ¬ (1 ≤ p.f0 ∧ p.f0 ≤ 8 ∧ 0 ≤ p.f1 ∧ p.f1 ≤ now ∧ 0 ≤ p.f2 ∧ p.f2 ≤ 3) := fun h => hb (okB_iff.2 h)
    simp only [beat_right.f, beat_right.j0, if_true, decide_eq_true_eq]
    by_cases g1 : p.f0 < 1
    · rw [if_pos g1]
    · rw [if_neg g1]
      by_cases g2 : p.f0 > 8
      · rw [if_pos g2]
      · rw [if_neg g2]
        by_cases g3 : p.f1 < 0
        · rw [if_pos g3]
        · rw [if_neg g3]
          by_cases g4 : p.f1 > now
          · rw [if_pos g4]
          · rw [if_neg g4]
            by_cases g5 : p.f2 < 0
            · rw [if_pos g5]
            · rw [if_neg g5]
              by_cases g6 : p.f2 > 3
              · rw [if_pos g6]
              · exact absurd ⟨by omega, by omega, by omega, by omega, by omega, by omega⟩ hno

theorem refPeer_is (now : Int) (p : S35) (k : Nat) (h0 : 0 ≤ now) (h1 : now ≤ 1099511627776) : junctionboxref29_RightPeer.f (k + 2) now p.f0 p.f1 p.f2 p.f3 = some (okP now p) := by
  by_cases hb : okB now p = true
  · have hb' := okB_iff.1 hb
    obtain ⟨a, b, c, d, e, f⟩ := hb'
    have hw : wrap64 (now - p.f1) = now - p.f1 := by unfold wrap64; omega
    have hs0 : decide (now - p.f1 ≤ 4) = (spanN now p.f1 == 0) := by unfold spanN; split <;> (try split) <;> simp_all
    have hs2 : decide (now - p.f1 > 9) = (spanN now p.f1 == 2) := by
      unfold spanN
      split
      · simp; omega
      · split
        · simp; omega
        · simp; omega
    have hsr : spanN now p.f1 = 0 ∨ spanN now p.f1 = 1 ∨ spanN now p.f1 = 2 := by unfold spanN; split <;> (try split) <;> simp
    unfold junctionboxref29_RightPeer.f
    rw [if_neg (by omega), if_neg (by omega), if_neg (by omega), if_neg (by omega), if_neg (by omega), if_neg (by omega)]
    unfold okP
    rw [hb, Bool.true_and]
    unfold okS
    by_cases k0 : p.f3 < 0
    · rw [if_pos k0, if_neg (by omega), if_neg (by omega), if_neg (by omega), if_neg (by omega)]
      simp [junctionboxref29_RightPeer.j0]
    · rw [if_neg k0]
      by_cases k3 : p.f3 > 3
      · rw [if_neg (by omega), if_neg (by omega), if_neg (by omega), if_neg (by omega)]
        simp [junctionboxref29_RightPeer.j0, k3]
      · simp only [junctionboxref29_RightPeer.j0, junctionboxref29_RightPeer.j1, junctionboxref29_InTime.f, junctionboxref29_IsGone.f, hw, hs0, hs2, Option.bind_some, k3, decide_false, Bool.false_eq_true, if_false]
        have hc : p.f3 = 0 ∨ p.f3 = 1 ∨ p.f3 = 2 ∨ p.f3 = 3 := by omega
        have hg : p.f2 = 0 ∨ p.f2 = 1 ∨ p.f2 = 2 ∨ p.f2 = 3 := by omega
        generalize spanN now p.f1 = s at *
        rcases hc with hc | hc | hc | hc <;> rcases hg with hg | hg | hg | hg <;> rcases hsr with rfl | rfl | rfl <;> simp [hc, hg]
  · have hf : okP now p = false := by unfold okP; rw [Bool.eq_false_iff.2 hb]; rfl
    rw [hf]
    have hno : ¬ (1 ≤ p.f0 ∧ p.f0 ≤ 8 ∧ 0 ≤ p.f1 ∧ p.f1 ≤ now ∧ 0 ≤ p.f2 ∧ p.f2 ≤ 3) := fun h => hb (okB_iff.2 h)
    simp only [junctionboxref29_RightPeer.f, junctionboxref29_RightPeer.j0, if_true, decide_eq_true_eq]
    by_cases g1 : p.f0 < 1
    · rw [if_pos g1]
    · rw [if_neg g1]
      by_cases g2 : p.f0 > 8
      · rw [if_pos g2]
      · rw [if_neg g2]
        by_cases g3 : p.f1 < 0
        · rw [if_pos g3]
        · rw [if_neg g3]
          by_cases g4 : p.f1 > now
          · rw [if_pos g4]
          · rw [if_neg g4]
            by_cases g5 : p.f2 < 0
            · rw [if_pos g5]
            · rw [if_neg g5]
              by_cases g6 : p.f2 > 3
              · rw [if_pos g6]
              · exact absurd ⟨by omega, by omega, by omega, by omega, by omega, by omega⟩ hno


def okAt (now : Int) (ps : List S35) (j : Nat) : Bool := okP now (pu ps j) && (j == 0 || decide ((pu ps (j - 1)).f0 < (pu ps j).f0))

theorem rd_pu (ps : List S35) (j : Nat) : rd_T35 ps (j : Int) = pu ps j := by simp [rd_T35, pu]

theorem right_is' (now : Int) (p : S35) (k : Nat) (hk : 0 < k) (h0 : 0 ≤ now) (h1 : now ≤ 1099511627776) : beat_right.f k now p.f0 p.f1 p.f2 p.f3 = some (okP now p) := by
  obtain ⟨m, rfl⟩ : ∃ m, k = m + 1 := ⟨k - 1, by omega⟩
  exact right_is now p m h0 h1
theorem refPeer_is' (now : Int) (p : S35) (k : Nat) (hk : 1 < k) (h0 : 0 ≤ now) (h1 : now ≤ 1099511627776) : junctionboxref29_RightPeer.f k now p.f0 p.f1 p.f2 p.f3 = some (okP now p) := by
  obtain ⟨m, rfl⟩ : ∃ m, k = m + 2 := ⟨k - 2, by omega⟩
  exact refPeer_is now p m h0 h1

theorem check_loop (now : Int) (ps : List S35) (h0 : 0 ≤ now) (h1 : now ≤ 1099511627776) (hl : ps.length ≤ 140737488351232) : ∀ (d i k : Nat), i + d = ps.length → d + 1 < k →
    beat_Check.l0 k ps (ps.length : Int) (i : Int) now ps = some (if (List.range' i d).all (okAt now ps) then 0 else 390) := by
  intro d
  induction d with
  | zero =>
    intro i k hi hk
    obtain ⟨k, rfl⟩ : ∃ m, k = m + 1 := ⟨k - 1, by omega⟩
    simp only [beat_Check.l0]
    rw [if_neg (by omega)]
    rfl
  | succ d ih =>
    intro i k hi hk
    obtain ⟨k, rfl⟩ : ∃ m, k = m + 1 := ⟨k - 1, by omega⟩
    have ih := ih (i + 1) k (by omega) (by omega)
    have hw : wrap64 ((i : Int) + 1) = ((i + 1 : Nat) : Int) := by unfold wrap64; omega
    simp only [beat_Check.l0]
    rw [if_pos (by omega), if_pos (by omega), if_pos (by omega), rd_pu, right_is' now _ k (by omega) h0 h1]
    simp only [Option.bind_some]
    rw [List.range'_succ, List.all_cons, hw]
    by_cases ho : okP now (pu ps i) = true
    · rw [if_pos ho]
      by_cases hi0 : (i : Int) > 0
      · have hw1 : wrap64 ((i : Int) - 1) = ((i - 1 : Nat) : Int) := by unfold wrap64; omega
        rw [if_pos hi0, hw1, if_pos (by omega), if_pos (by omega), rd_pu]
        have hne : (i == 0) = false := by simp; omega
        by_cases hf : (pu ps (i - 1)).f0 ≥ (pu ps i).f0
        · rw [if_pos hf, if_neg]
          unfold okAt
          rw [hne, ho]
          simp
          intro hlt; omega
        · rw [if_neg hf, ih]
          have : okAt now ps i = true := by unfold okAt; rw [ho, hne]; simp; omega
          rw [this, Bool.true_and]
      · rw [if_neg hi0, ih]
        obtain rfl : i = 0 := by omega
        have : okAt now ps 0 = true := by unfold okAt; rw [ho]; rfl
        rw [this, Bool.true_and]
    · rw [if_neg ho, if_neg]
      unfold okAt
      rw [Bool.eq_false_iff.2 ho]
      simp

theorem ok_all {now : Int} {ps : List S35} : (List.range' 0 ps.length).all (okAt now ps) = true ↔ (∀ j, j < ps.length → okP now (pu ps j) = true) ∧ (∀ j, j + 1 < ps.length → (pu ps j).f0 < (pu ps (j + 1)).f0) := by
  rw [List.all_eq_true]
  constructor
  · intro h
    refine ⟨fun j hj => ?_, fun j hj => ?_⟩
    · have := h j (by rw [List.mem_range'_1]; omega)
      unfold okAt at this
      rw [Bool.and_eq_true] at this
      exact this.1
    · have := h (j + 1) (by rw [List.mem_range'_1]; omega)
      unfold okAt at this
      rw [Bool.and_eq_true] at this
      simpa using this.2
  · intro ⟨h1, h2⟩ j hj
    rw [List.mem_range'_1] at hj
    unfold okAt
    rw [h1 j (by omega), Bool.true_and]
    cases j with
    | zero => rfl
    | succ j =>
      have := h2 j (by omega)
      simpa using this

theorem check_ok {now : Int} {ps : List S35} (h : OkW now ps) (k : Nat) (hk : ps.length + 2 < k) : beat_Check.f k now ps = some 0 := by
  obtain ⟨k, rfl⟩ : ∃ m, k = m + 1 := ⟨k - 1, by omega⟩
  have h0 := h.n0
  have h1 := h.n1
  have hl := h.len
  simp only [beat_Check.f, beat_Check.j0]
  rw [if_neg (by omega), if_neg (by simp; omega)]
  have := check_loop now ps h0 h1 (by omega) ps.length 0 k (by omega) (by omega)
  rw [if_pos (ok_all.2 ⟨h.ok, h.up⟩)] at this
  exact this
theorem check_bad {now : Int} {ps : List S35} (h : ¬ OkW now ps) (hl : ps.length ≤ 140737488351232) (k : Nat) (hk : ps.length + 2 < k) : beat_Check.f k now ps = some 390 := by
  obtain ⟨k, rfl⟩ : ∃ m, k = m + 1 := ⟨k - 1, by omega⟩
  simp only [beat_Check.f, beat_Check.j0]
  by_cases h0 : now < 0
  · rw [if_pos h0]; rfl
  · rw [if_neg h0]
    by_cases h1 : now > 1099511627776
    · rw [if_pos (by simpa using h1)]
    · rw [if_neg (by simpa using h1)]
      have := check_loop now ps (by omega) (by omega) hl ps.length 0 k (by omega) (by omega)
      rw [if_neg] at this
      · exact this
      · intro ha
        obtain ⟨a, b⟩ := ok_all.1 ha
        exact h ⟨by omega, by omega, a, b⟩

theorem ref_loop (now : Int) (ps : List S35) (h0 : 0 ≤ now) (h1 : now ≤ 1099511627776) (hl : ps.length ≤ 140737488351232) : ∀ (d i k : Nat), i + d = ps.length → d + 2 < k →
    junctionboxref29_Right.l0 k (i : Int) now ps = some ((List.range' i d).all (okAt now ps)) := by
  intro d
  induction d with
  | zero =>
    intro i k hi hk
    obtain ⟨k, rfl⟩ : ∃ m, k = m + 1 := ⟨k - 1, by omega⟩
    simp only [junctionboxref29_Right.l0]
    rw [if_neg (by omega)]
    rfl
  | succ d ih =>
    intro i k hi hk
    obtain ⟨k, rfl⟩ : ∃ m, k = m + 1 := ⟨k - 1, by omega⟩
    have ih := ih (i + 1) k (by omega) (by omega)
    have hw : wrap64 ((i : Int) + 1) = ((i + 1 : Nat) : Int) := by unfold wrap64; omega
    simp only [junctionboxref29_Right.l0]
    rw [if_pos (by omega), if_pos (by omega), rd_pu, refPeer_is' now _ k (by omega) h0 h1]
    simp only [Option.bind_some]
    rw [List.range'_succ, List.all_cons, hw]
    by_cases ho : okP now (pu ps i) = true
    · rw [if_pos ho]
      by_cases hi0 : (i : Int) > 0
      · have hw1 : wrap64 ((i : Int) - 1) = ((i - 1 : Nat) : Int) := by unfold wrap64; omega
        rw [if_pos hi0, hw1, if_pos (by omega), if_pos (by omega), rd_pu]
        have hne : (i == 0) = false := by simp; omega
        by_cases hf : (pu ps (i - 1)).f0 ≥ (pu ps i).f0
        · have : okAt now ps i = false := by unfold okAt; rw [hne, ho]; simp; omega
          rw [if_pos hf, this, Bool.false_and]
        · rw [if_neg hf, ih]
          have : okAt now ps i = true := by unfold okAt; rw [ho, hne]; simp; omega
          rw [this, Bool.true_and]
      · rw [if_neg hi0, ih]
        obtain rfl : i = 0 := by omega
        have : okAt now ps 0 = true := by unfold okAt; rw [ho]; rfl
        rw [this, Bool.true_and]
    · have : okAt now ps i = false := by unfold okAt; rw [Bool.eq_false_iff.2 ho]; rfl
      rw [if_neg ho, this, Bool.false_and]

theorem ref_ok {now : Int} {ps : List S35} (h : OkW now ps) (k : Nat) (hk : ps.length + 3 < k) : junctionboxref29_Right.f k now ps = some true := by
  obtain ⟨k, rfl⟩ : ∃ m, k = m + 1 := ⟨k - 1, by omega⟩
  have h0 := h.n0
  have h1 := h.n1
  have hl := h.len
  simp only [junctionboxref29_Right.f, junctionboxref29_Right.j0]
  rw [if_neg (by omega), if_neg (by omega), if_neg (by simp; omega)]
  have := ref_loop now ps h0 h1 (by omega) ps.length 0 k (by omega) (by omega)
  rw [ok_all.2 ⟨h.ok, h.up⟩] at this
  exact this
theorem ref_bad {now : Int} {ps : List S35} (h : ¬ OkW now ps) (hl : ps.length ≤ 140737488351232) (k : Nat) (hk : ps.length + 3 < k) : junctionboxref29_Right.f k now ps = some false := by
  obtain ⟨k, rfl⟩ : ∃ m, k = m + 1 := ⟨k - 1, by omega⟩
  simp only [junctionboxref29_Right.f, junctionboxref29_Right.j0]
  by_cases h0 : now < 0
  · rw [if_pos h0]; rfl
  · rw [if_neg h0]
    by_cases h1 : now > 1099511627776
    · rw [if_pos h1]; rfl
    · rw [if_neg h1]
      by_cases h8 : (ps.length : Int) > 8
      · rw [if_pos (by simpa using h8)]
      · rw [if_neg (by simpa using h8)]
        have := ref_loop now ps (by omega) (by omega) hl ps.length 0 k (by omega) (by omega)
        have hf : (List.range' 0 ps.length).all (okAt now ps) = false := Bool.eq_false_iff.2 fun ha => by
          obtain ⟨a, b⟩ := ok_all.1 ha
          exact h ⟨by omega, by omega, a, b⟩
        rw [hf] at this
        exact this

/-- Like watches are the same. -/
theorem same_loop (now : Int) (ps : List S35) (hl : ps.length ≤ 140737488351232) : ∀ (d i k : Nat), i + d = ps.length → d < k → junctionboxref29_Same.l0 k (i : Int) now ps now ps = some true := by
  intro d
  induction d with
  | zero =>
    intro i k hi hk
    obtain ⟨k, rfl⟩ : ∃ m, k = m + 1 := ⟨k - 1, by omega⟩
    simp only [junctionboxref29_Same.l0]
    rw [if_neg (by omega)]
  | succ d ih =>
    intro i k hi hk
    obtain ⟨k, rfl⟩ : ∃ m, k = m + 1 := ⟨k - 1, by omega⟩
    have hw : wrap64 ((i : Int) + 1) = ((i + 1 : Nat) : Int) := by unfold wrap64; omega
    simp only [junctionboxref29_Same.l0]
    rw [if_pos (by omega), if_pos (by omega), if_pos (by omega), if_neg (by simp), hw]
    exact ih (i + 1) k (by omega) (by omega)
theorem same_is (now : Int) (ps : List S35) (hl : ps.length ≤ 140737488351232) : junctionboxref29_Same.f (ps.length + 2) now ps now ps = some true := by
  simp only [junctionboxref29_Same.f, junctionboxref29_Same.j0]
  rw [if_pos trivial, if_neg (by simp)]
  exact same_loop now ps hl ps.length 0 (ps.length + 1) (by omega) (by omega)

end Go.Proofs.Ytplkimgoogoadaa
