/- Peers cloned into a row of the call's own. -/
import Derived.Test.YtplkimgoogoadaaB1
import Derived.Lib.SliceRun
namespace Go.Proofs.Ytplkimgoogoadaa
open Go.RowKit Go.Proofs.YtplkimgoogoadaaW.PrintWords PBeatPeers

/-- The cells of peers. -/
def pcells (ps : List S35) : List Value := ps.flatMap fun p => [.int .i64 p.f0, .int .i64 p.f1, .int .i64 p.f2, .int .i64 p.f3]

theorem pcells_len (ps : List S35) : (pcells ps).length = ps.length * 4 := by
  unfold pcells
  induction ps with
  | nil => rfl
  | cons p ps ih => rw [List.flatMap_cons, List.length_append, ih]; simp; omega
theorem pcells_one (ps : List S35) : ∀ u ∈ pcells ps, u.oneCell' = true := by
  intro u hu
  obtain ⟨p, _, h⟩ := List.mem_flatMap.1 hu
  simp at h
  rcases h with rfl | rfl | rfl | rfl <;> rfl
theorem pcells_app (ps qs : List S35) : pcells (ps ++ qs) = pcells ps ++ pcells qs := by simp [pcells]

/-- The cells of the j-th peer. -/
theorem pcells_get : ∀ (ps : List S35) (j i : Nat), i < 4 → (pcells ps)[j * 4 + i]? = (ps[j]?).bind fun p => [Value.int .i64 p.f0, .int .i64 p.f1, .int .i64 p.f2, .int .i64 p.f3][i]?
  | [], j, i, _ => by simp [pcells]
  | p :: ps, 0, i, hi => by
    simp only [pcells, List.flatMap_cons, Nat.zero_mul, Nat.zero_add]
    rw [List.getElem?_append_left (by simpa using hi)]
    rfl
  | p :: ps, j + 1, i, hi => by
    have ih := pcells_get ps j i hi
    simp only [pcells, List.flatMap_cons] at ih ⊢
    rw [List.getElem?_append_right (by simp; omega)]
    rw [show (j + 1) * 4 + i - [Value.int IntKind.i64 p.f0, Value.int IntKind.i64 p.f1, Value.int IntKind.i64 p.f2, Value.int IntKind.i64 p.f3].length = j * 4 + i by simp; omega]
    rw [ih]
    rfl

/-- Read peers are told by their cells. -/
theorem C_iff {w : World} {A : Option Addr} {ps : List S35} (hl : ps.length ≤ 9223372036854775807) (h : 0 < ps.length → ∃ ad, A = some ad ∧ ∀ k u, (pcells ps)[k]? = some u → w.cell? (ad.add k) = some u) : Kd.C k35 w A ps.length ps := by
  refine ⟨rfl, hl, fun hp => ?_⟩
  obtain ⟨ad, e, hc⟩ := h hp
  refine ⟨ad, e, fun j p hj => ⟨[.int .i64 p.f0, .int .i64 p.f1, .int .i64 p.f2, .int .i64 p.f3], rfl, k35_mk w p, fun i u hu => ?_⟩⟩
  have hi : i < 4 := by have := (List.getElem?_eq_some_iff.1 hu).1; simpa using this
  refine hc (j * 4 + i) u ?_
  rw [pcells_get ps j i hi, hj]
  exact hu

theorem C_cells {w : World} {A : Option Addr} {ps : List S35} (h : Kd.C k35 w A ps.length ps) (hp : 0 < ps.length) : ∃ ad, A = some ad ∧ ∀ k u, (pcells ps)[k]? = some u → w.cell? (ad.add k) = some u := by
  obtain ⟨ad, e, hc⟩ := h.2.2 hp
  refine ⟨ad, e, fun k u hu => ?_⟩
  have hk : k < ps.length * 4 := by have := (List.getElem?_eq_some_iff.1 hu).1; rwa [pcells_len] at this
  have e1 : k = k / 4 * 4 + k % 4 := by omega
  have hj : k / 4 < ps.length := by omega
  obtain ⟨c, _, hK, hcc⟩ := hc (k / 4) ps[k / 4] (List.getElem?_eq_getElem hj)
  obtain rfl := k35_open hK
  rw [e1] at hu ⊢
  rw [pcells_get ps _ _ (by omega), List.getElem?_eq_getElem hj] at hu
  exact hcc _ u hu

/-- A row of peers of the call's own. -/
def Own (w : World) (B : Nat) (v : Value) (ps : List S35) : Prop := w.ownsRow B 35 4 v ps.length (pcells ps)

theorem Own.c {w : World} {B : Nat} {v : Value} {ps : List S35} (h : Own w B v ps) (hl : ps.length ≤ 9223372036854775807) : ∃ A c, v = .slice A ps.length c ∧ ps.length ≤ c ∧ Kd.C k35 w A ps.length ps := by
  rcases h.2 with ⟨rfl, h0⟩ | ⟨g, cap, cur, rfl, hg, h1, h2, h3, h4, h5⟩
  · exact ⟨none, 0, by rw [h0], by omega, C_iff hl fun hp => absurd h0 (by omega)⟩
  · refine ⟨_, cap, rfl, h2, C_iff hl fun _ => ⟨⟨g, 0, none⟩, rfl, fun k u hu => ?_⟩⟩
    have hk : k < ps.length * 4 := by have := (List.getElem?_eq_some_iff.1 hu).1; rwa [pcells_len] at this
    have hh : w.ownsRow B 35 4 (.slice (some ⟨g, 0, none⟩) ps.length cap) ps.length (pcells ps) := h
    have := hh.cellAt k hk
    rw [hu] at this
    rw [← this]
    unfold Addr.add
    by_cases hk0 : k = 0
    · subst hk0; rfl
    · rw [if_neg hk0]; simp

set_option maxHeartbeats 1000000 in
theorem clone_any (ps : List S35) (A : Option Addr) (c : Nat) (w : World) (hC : Kd.C k35 w A ps.length ps) (hlen : ps.length ≤ 1000) :
    Calls Try.prog 41 #[.slice A ps.length c] w fun e w' => ∃ v, e = .returned v ∧ Own w' w.heap.size v ps ∧ Below w.heap.size w w' := by
  obtain ⟨i0, hi, hz0, hz1, hz2⟩ := info_parts info35
  have q22 : ∀ (w : World) (a : Option Addr) (n c n' c' : Nat), (binOp .eql 22 (.slice a n c) (.slice none n' c')).run Try.prog w = .ok (.bool a.isNone) w := fun w a n c n' c' => Lib.run_eql_slice_nil w _ _ a n c n' c' Try.underlying22
  obtain ⟨n, hn⟩ : ∃ n, ps.length = n := ⟨_, rfl⟩
  have hpl := pcells_len ps
  rw [hn] at hlen hpl
  rcases A with _ | ad
  · have h0 : ps.length = 0 := by
      rcases Nat.eq_zero_or_pos ps.length with h | h
      · exact h
      · obtain ⟨ad, e, _⟩ := C_cells hC h; cases e
    obtain rfl : ps = [] := List.length_eq_zero_iff.1 h0
    go_enter Try.func41, Try.ntmps41
    go_wp2
    go_ret
    exact ⟨_, rfl, World.ownsRow_nil _ _ _ _, Below.refl _ _⟩
  · have hcell : ∀ (o : Obj) j u, (pcells ps)[j]? = some u → (w.alloc o).cell? (ad.add j) = some u := by
      intro o j u hu
      have hp : 0 < ps.length := by
        have := (List.getElem?_eq_some_iff.1 hu).1
        rw [pcells_len] at this
        omega
      obtain ⟨ad', e, hc⟩ := C_cells hC hp
      cases e
      exact Lib.cell?_alloc_some o (hc j u hu)
    have hone := pcells_one ps
    rw [hn]
    clear hC
    go_enter Try.func41, Try.ntmps41
    go_wp2_with (at_builtin; refine wpList_append_own _ rfl _ _ 22 rfl w.heap.size 35 i0 _ 4 32 Try.underlying22 hi hz0 hz1 hz2 rfl (by decide) _ _ _ rfl (World.ownsRow_made w #[] 0 (Nat.le_refl _) (Nat.zero_le _) rfl) ad n c (pcells ps) rfl hpl (hcell _) hone (by unfold maxLen; omega) (by omega) (by simp) ?_; intro v' w1 hown' hgrow _)
    go_ret
    refine ⟨v', rfl, by unfold Own; rw [hn]; simpa using hown', ?_⟩
    refine ((Below.refl _ w).alloc (Nat.le_refl _) _).trans ⟨hgrow.os, hgrow.tape, hgrow.output, hgrow.size, fun k hk => hgrow.block k (by simp; omega) ?_⟩
    intro e
    have e' : k = w.heap.size := by injection e
    omega

end Go.Proofs.Ytplkimgoogoadaa
