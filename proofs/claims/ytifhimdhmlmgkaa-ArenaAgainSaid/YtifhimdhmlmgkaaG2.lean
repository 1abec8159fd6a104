/- A number that is not among those of a slice of the call's own. -/
import Derived.Test.YtifhimdhmlmgkaaE3
import Derived.Test.YtifhimdhmlmgkaaG1
namespace Go.Proofs.Ytifhimdhmlmgkaa
open Go.RowKit

def i64s (xs : List Int) : List Value := xs.map (Value.int .i64)

theorem index_none {B : Nat} {v : Value} {n : Nat} {xs : List Int} {w : World} (h : w.ownsRow B 3 1 v n (i64s xs)) (x : Int) (hx : x ∉ xs) :
    Calls Try.prog 42 #[v, .int .i64 x] w fun e w' => e = .returned (.int .i64 (-1)) ∧ ∃ m, w' = w.drewN m := by
  have hl : xs.length = n := by have := h.1; simpa [i64s] using this
  obtain ⟨a, c, rfl, hnc, hcell⟩ : ∃ a c, v = .slice a n c ∧ n ≤ maxLen ∧ (n = 0 ∨ ∃ g, a = some ⟨g, 0, none⟩ ∧ ∀ i, i < n → w.cell? ⟨g, i, none⟩ = some (.int .i64 (xs.getD i 0))) := by
    rcases h.2 with ⟨rfl, rfl⟩ | ⟨g, cap, cur, rfl, hg, h1, h2, h3, h4, h5⟩
    · exact ⟨none, 0, rfl, by omega, .inl rfl⟩
    · refine ⟨_, cap, rfl, by omega, .inr ⟨g, rfl, fun i hi => ?_⟩⟩
      rw [h.cellAt i (by omega)]
      simp [i64s, hl, hi, List.getD]
  unfold maxLen at hnc
  clear h
  go_enter Try.func42, Try.ntmps42
  go_wp2_with fail
  go_loopw [8] (fun i wr => ∃ (k : Nat), i = .int .i64 k ∧ k ≤ n ∧ ∃ m, wr = w.drewN m) (fun i _ => n - (intOf i).toNat)
  case atStart => exact ⟨0, rfl, by omega, 0, rfl⟩
  case round =>
    obtain ⟨k, rfl, hk, m, rfl⟩ := hrel
    by_cases hlt : k < n
    · obtain ⟨g, rfl, hc⟩ := hcell.resolve_left (by omega)
      have hck := hc k hlt
      have hne : (x == xs.getD k 0) = false := by
        rw [beq_eq_false_iff_ne]
        intro e
        apply hx
        rw [e]
        have : k < xs.length := by omega
        simp [List.getD, this]
      obtain ⟨y, hy⟩ : ∃ y, xs.getD k 0 = y := ⟨_, rfl⟩
      rw [hy] at hck hne
      clear hc hcell
      go_wp2_with fail
      exact ⟨⟨k + 1, by go_num, by omega, m, rfl⟩, by simp [intOf]; omega⟩
    · go_wp2_with fail
      go_ret
      exact ⟨rfl, m, rfl⟩

theorem contains_none {B : Nat} {v : Value} {n : Nat} {xs : List Int} {w : World} (h : w.ownsRow B 3 1 v n (i64s xs)) (x : Int) (hx : x ∉ xs) :
    Calls Try.prog 25 #[v, .int .i64 x] w fun e w' => e = .returned (.bool false) ∧ Below w.heap.size w w' := by
  have hi := index_none h x hx
  go_enter Try.func25, Try.ntmps25
  go_wp2_with fail
  refine hi.mono ?_
  rintro e w1 ⟨rfl, m, rfl⟩
  go_wp2_with fail
  go_ret
  exact ⟨rfl, bDrewN (Below.refl _ _) m⟩

/-- A slice of integers from block n0 on, read alone. -/
def Its (w : World) (n0 : Nat) (v : Value) (xs : List Int) : Prop :=
  xs.length ≤ maxLen ∧ ((v = .slice none 0 0 ∧ xs = []) ∨
    ∃ g c, v = .slice (some ⟨g, 0, none⟩) xs.length c ∧ n0 ≤ g ∧ g < w.heap.size ∧ ∀ i, i < xs.length → w.cell? ⟨g, i, none⟩ = some (.int .i64 (xs.getD i 0)))

theorem Its.grown {w w' : World} {n0 : Nat} {v : Value} {xs : List Int} {row : Option Nat} (h : Its w n0 v xs) (k : w.grownBy w' row) (hr : ∀ g, row = some g → g < n0) : Its w' n0 v xs := by
  refine ⟨h.1, ?_⟩
  rcases h.2 with h2 | ⟨g, c, rfl, h1, h2, h5⟩
  · exact .inl h2
  · refine .inr ⟨g, c, rfl, h1, Nat.lt_of_lt_of_le h2 k.size, fun i hi => ?_⟩
    have : w'.heap[g]? = w.heap[g]? := k.block g h2 (fun e => by have := hr g e.symm; omega)
    rw [World.cell?_of_block (a := ⟨g, i, none⟩) (w := w) this]
    exact h5 i hi
theorem Its.next {w w' : World} {n0 : Nat} {v : Value} {xs : List Int} (h : Its w n0 v xs) (k : Below w.heap.size w w') : Its w' n0 v xs :=
  h.grown (row := none) ⟨k.os, k.tape, k.output, k.size, fun i hi _ => k.block i hi⟩ (by simp)

theorem owns_its {w : World} {B : Nat} {v : Value} {n : Nat} {xs : List Int} (h : w.ownsRow B 3 1 v n (i64s xs)) (hm : n ≤ maxLen) : Its w B v xs := by
  have hl : xs.length = n := by have := h.1; simpa [i64s] using this
  subst hl
  refine ⟨hm, ?_⟩
  rcases h.2 with ⟨rfl, h0⟩ | ⟨g, cap, cur, rfl, hg, h1, h2, h3, h4, h5⟩
  · exact .inl ⟨rfl, List.length_eq_zero_iff.1 h0⟩
  · refine .inr ⟨g, cap, rfl, hg, (Array.getElem?_eq_some_iff.1 h1).1, fun i hi => ?_⟩
    rw [h.cellAt i (by omega)]
    simp [i64s, hi, List.getD]

theorem Arn.grown {w0 w w' : World} {A B n0 : Nat} {s : St} {row : Option Nat} (h : Arn w0 w A B s) (k : w.grownBy w' row) (hr : ∀ g, row = some g → n0 ≤ g) (hA : A < n0) (hB : B < n0) (h0 : w0.heap.size ≤ n0) : Arn w0 w' A B s := by
  have hkA : w'.heap[A]? = w.heap[A]? := k.block A h.is.ar.ltA (fun e => by have := hr A e.symm; omega)
  have hkB : w'.heap[B]? = w.heap[B]? := k.block B h.is.ar.ltB (fun e => by have := hr B e.symm; omega)
  refine ⟨⟨⟨?_, hkB.trans h.is.ar.hb, h.is.ar.ne, h.is.ar.rng, h.is.ar.lo, h.is.ar.hi⟩, h.is.iv⟩, ?_, h.b0⟩
  · rw [World.cell?_of_block (a := ⟨A, 0, none⟩) (w := w) hkA]; exact h.is.ar.ha
  · exact h.bl.trans ⟨k.os, k.tape, k.output, k.size, fun i hi => k.block i (Nat.lt_of_lt_of_le hi h.bl.size) (fun e => by have := hr i e.symm; omega)⟩

theorem alloc_st {w : World} {A B : Nat} {s : St} (h : Is w A B s) (c p e : Int) (s' : St) (hr : allocR s c = (s', p, e)) :
    Calls Try.prog 10 #[.pointer (some ⟨A, 0, none⟩), .int .i64 c] w fun r W' => r = .returned (.tuple #[.int .i64 p, .int .i64 e]) ∧ Wr B w W' ∧ Is W' A B s' := by
  have := alloc_is c h
  rwa [hr] at this
theorem free_st {w : World} {A B : Nat} {s : St} (h : Is w A B s) (p e : Int) (s' : St) (hr : freeR s p = (s', e)) :
    Calls Try.prog 20 #[.pointer (some ⟨A, 0, none⟩), .int .i64 p] w fun r W' => r = .returned (.int .i64 e) ∧ Wr B w W' ∧ Is W' A B s' := by
  have := free_is p h
  rwa [hr] at this
theorem store_st {w : World} {A B : Nat} {s : St} (h : Is w A B s) (p i x e : Int) (s' : St) (hx0 : 0 ≤ x) (hx1 : x < 4294967296) (hr : storeR s p i x = (s', e)) :
    Calls Try.prog 11 #[.pointer (some ⟨A, 0, none⟩), .int .i64 p, .int .i64 i, .int .u32 x] w fun r W' => r = .returned (.int .i64 e) ∧ Wr B w W' ∧ Is W' A B s' := by
  have := store_is p i x h hx0 hx1
  rwa [hr] at this
theorem load_st {w : World} {A B : Nat} {s : St} (h : Is w A B s) (p i x e : Int) (hr : loadR s p i = (x, e)) :
    Calls Try.prog 14 #[.pointer (some ⟨A, 0, none⟩), .int .i64 p, .int .i64 i] w fun r W' => r = .returned (.tuple #[.int .u32 x, .int .i64 e]) ∧ Below w.heap.size w W' := by
  have := load_is p i h
  rwa [hr] at this

end Go.Proofs.Ytifhimdhmlmgkaa
