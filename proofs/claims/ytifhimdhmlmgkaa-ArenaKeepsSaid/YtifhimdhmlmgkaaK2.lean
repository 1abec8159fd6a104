/- A slice of ops that came in, opened. -/
import Derived.Test.YtifhimdhmlmgkaaK1
import Derived.Deep.Slices
import Derived.Deep.Fields
import Derived.ProofKit
import Derived.OpenShut
namespace Go.Proofs.Ytifhimdhmlmgkaa
open Go.ChangeShapes Go.WideShapes Go.RowKit Go.Deep

section
variable {H : Type} {enc : TypeId × Value → H} {w : World} {base : Nat} {spare : Nat → Bool} {held : Bool}

theorem list7 {l : List Value} (h : l.length = 7) : ∃ a b c d e f g, l = [a, b, c, d, e, f, g] := by
  match l, h with
  | [a, b, c, d, e, f, g], _ => exact ⟨a, b, c, d, e, f, g, rfl⟩

theorem some_of_lt {α : Type} {l : List α} {j : Nat} (h : j < l.length) : ∃ x, l[j]? = some x := ⟨l[j], List.getElem?_eq_getElem h⟩

theorem cells35 : Try.prog.cellsOf 35 = 7 := by kernel_rfl
theorem cells3 : Try.prog.cellsOf 3 = 1 := by kernel_rfl
theorem cells33 : Try.prog.cellsOf 33 = 1 := by kernel_rfl
theorem cells4 : Try.prog.cellsOf 4 = 1 := by kernel_rfl

theorem open_op {fuel : Nat} {cs : List Value} {x : DataW H × List MemPlace} {b off : Nat} (h : DataW.trod enc Try.prog w base spare held fuel 35 cs = some x)
    (hc : ∀ i, i < 7 → w.cell? ⟨b, off + i, none⟩ = cs[i]?) : ∃ o, OpAt w b off o := by
  obtain ⟨xs, n, _, _, hlen, hsz, hf⟩ := DataW.trod_struct Try.underlying35 h
  rw [cells35] at hlen
  obtain ⟨v0, v1, v2, v3, v4, v5, v6, rfl⟩ := list7 hlen
  have hsz' : xs.length = 7 := hsz
  obtain ⟨y0, e0⟩ := some_of_lt (show 0 < xs.length by omega)
  obtain ⟨y1, e1⟩ := some_of_lt (show 1 < xs.length by omega)
  obtain ⟨y2, e2⟩ := some_of_lt (show 2 < xs.length by omega)
  obtain ⟨y3, e3⟩ := some_of_lt (show 3 < xs.length by omega)
  obtain ⟨y4, e4⟩ := some_of_lt (show 4 < xs.length by omega)
  obtain ⟨y5, e5⟩ := some_of_lt (show 5 < xs.length by omega)
  obtain ⟨y6, e6⟩ := some_of_lt (show 6 < xs.length by omega)
  have h0 : DataW.trod enc Try.prog w base spare held n 3 [v0] = some y0 := by have := hf 0 _ rfl; rw [e0] at this; simpa [cells3] using this
  have h1 : DataW.trod enc Try.prog w base spare held n 3 [v1] = some y1 := by have := hf 1 _ rfl; rw [e1] at this; simpa [cells3] using this
  have h2 : DataW.trod enc Try.prog w base spare held n 3 [v2] = some y2 := by have := hf 2 _ rfl; rw [e2] at this; simpa [cells3] using this
  have h3 : DataW.trod enc Try.prog w base spare held n 3 [v3] = some y3 := by have := hf 3 _ rfl; rw [e3] at this; simpa [cells3] using this
  have h4 : DataW.trod enc Try.prog w base spare held n 3 [v4] = some y4 := by have := hf 4 _ rfl; rw [e4] at this; simpa [cells3] using this
  have h5 : DataW.trod enc Try.prog w base spare held n 33 [v5] = some y5 := by have := hf 5 _ rfl; rw [e5] at this; simpa [cells33] using this
  have h6 : DataW.trod enc Try.prog w base spare held n 4 [v6] = some y6 := by have := hf 6 _ rfl; rw [e6] at this; simpa [cells4] using this
  obtain ⟨n0, k0, _, _⟩ := DataW.trod_int Try.underlying3 h0
  obtain ⟨n1, k1, _, _⟩ := DataW.trod_int Try.underlying3 h1
  obtain ⟨n2, k2, _, _⟩ := DataW.trod_int Try.underlying3 h2
  obtain ⟨n3, k3, _, _⟩ := DataW.trod_int Try.underlying3 h3
  obtain ⟨n4, k4, _, _⟩ := DataW.trod_int Try.underlying3 h4
  obtain ⟨n5, k5, _, w5⟩ := DataW.trod_int Try.underlying33 h5
  obtain ⟨n6, k6, _⟩ := DataW.trod_bool Try.underlying4 h6
  simp at k0 k1 k2 k3 k4 k5 k6
  subst k0; subst k1; subst k2; subst k3; subst k4; subst k5; subst k6
  have hw := bounds_u64 w5
  exact ⟨⟨n0, n1, n2, n3, n4, n5, n6⟩, hc 0 (by omega), hc 1 (by omega), hc 2 (by omega), hc 3 (by omega), hc 4 (by omega), hc 5 (by omega), hc 6 (by omega), hw.1, by show n5 < _; omega⟩

theorem open_ops {fuel : Nat} {a : Option Addr} {len cap : Nat} {x : DataW H × List MemPlace} (h : DataW.trod enc Try.prog w base spare held fuel 22 [.slice a len cap] = some x) :
    len ≤ maxLen ∧ OpsAt w a len := by
  rcases open_slice Try.underlying22 h with ⟨hcs, _⟩ | ⟨ad, l, c, m, n, D, Pl, hcs, _, hl, hm, hmm, _, hi⟩
  · simp at hcs
    obtain ⟨rfl, rfl, rfl⟩ := hcs
    exact ⟨Nat.zero_le _, .inl rfl⟩
  · simp at hcs
    obtain ⟨rfl, rfl, rfl⟩ := hcs
    refine ⟨Nat.le_trans hl hm, ?_⟩
    rcases Nat.eq_zero_or_pos len with h0 | hpos
    · exact .inl h0
    · have hlm : len ≤ m := by rw [hmm]; split <;> omega
      have hcell : ∀ i, i < len → ∃ cs', (∀ j, j < 7 → w.cell? (ad.add (i * 7 + j)) = cs'[j]?) ∧ cs'.length = 7 ∧ DataW.trod enc Try.prog w base spare held n 35 cs' = some (D i, Pl i) := by
        intro i him
        obtain ⟨cs', hc, ht⟩ := hi i (by omega)
        rw [cells35] at hc
        obtain ⟨_, hcl, hat⟩ := World.cells?_some hc
        exact ⟨cs', fun j hj => by rw [← hat j hj, Go.Deep.add_add], hcl, ht⟩
      have hspot : ad.spot = none := by
        obtain ⟨cs', hc, hl7, _⟩ := hcell 0 hpos
        have h0 := hc 0 (by omega)
        simp only [Nat.zero_mul, Nat.zero_add] at h0
        have e : ad.add 0 = ad := rfl
        rw [e, List.getElem?_eq_getElem (by omega)] at h0
        unfold World.cell? at h0
        split at h0
        · split at h0
          · cases h0
          · rename_i hs; simpa using hs
        · cases h0
      obtain ⟨b, off, sp⟩ := ad
      simp only at hspot
      subst hspot
      have hadd : ∀ k, (⟨b, off, none⟩ : Addr).add k = ⟨b, off + k, none⟩ := by
        intro k
        unfold Addr.add
        by_cases hk : k = 0
        · subst hk; rfl
        · rw [if_neg hk]
      refine .inr ⟨b, off, rfl, ?_, fun k hk => ?_⟩
      · obtain ⟨cs', hc, hl7, _⟩ := hcell 0 hpos
        have h0 := hc 0 (by omega)
        rw [hadd, List.getElem?_eq_getElem (by omega)] at h0
        exact cell_lt h0
      · obtain ⟨cs', hc, _, ht⟩ := hcell k hk
        refine open_op ht fun j hj => ?_
        rw [← hc j hj, hadd]
        rw [Nat.add_assoc]
end
end Go.Proofs.Ytifhimdhmlmgkaa
