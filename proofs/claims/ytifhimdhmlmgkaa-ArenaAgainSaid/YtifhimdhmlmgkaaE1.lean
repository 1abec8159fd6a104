/- Slices of bytes of the call's own: cloned, grown, clipped, told. -/
import Derived.Test.YtifhimdhmlmgkaaL6
import Derived.Laws.OwnMore
import Derived.Laws.BytesArg
import Derived.Lib.SliceRun
import Derived.Lib.AppendZerosOnto
import Derived.OwnWalk
namespace Go.Proofs.Ytifhimdhmlmgkaa
open Go.RowKit

theorem info5 : (Try.prog.info? 5).map (fun i => (i.zero, i.size, i.bytes)) = some (some (.int .u8 0), 1, 1) := by kernel_rfl

def u8s (xs : List Int) : List Value := xs.map (Value.int .u8)

/-- A slice of bytes from block n0 on. -/
def Byt (w : World) (n0 : Nat) (v : Value) (xs : List Int) : Prop :=
  xs.length ≤ 1099511627776 ∧ ((v = .slice none 0 0 ∧ xs = []) ∨
    ∃ g c, v = .slice (some ⟨g, 0, none⟩) xs.length c ∧ n0 ≤ g ∧ g < w.heap.size ∧ xs.length ≤ c ∧ c ≤ maxLen ∧ ∀ i u, (u8s xs)[i]? = some u → w.cell? ⟨g, i, none⟩ = some u)

theorem Byt.nil (w : World) (n0 : Nat) : Byt w n0 (.slice none 0 0) [] := ⟨by simp, .inl ⟨rfl, rfl⟩⟩

theorem Byt.grown {w w' : World} {n0 : Nat} {v : Value} {xs : List Int} {row : Option Nat} (h : Byt w n0 v xs) (k : w.grownBy w' row) (hr : ∀ g, row = some g → g < n0) : Byt w' n0 v xs := by
  refine ⟨h.1, ?_⟩
  rcases h.2 with h2 | ⟨g, c, rfl, h1, h2, h3, h4, h5⟩
  · exact .inl h2
  · refine .inr ⟨g, c, rfl, h1, Nat.lt_of_lt_of_le h2 k.size, h3, h4, fun i u hu => ?_⟩
    have : w'.heap[g]? = w.heap[g]? := k.block g h2 (fun e => by have := hr g e.symm; omega)
    rw [World.cell?_of_block (a := ⟨g, i, none⟩) (w := w) this]
    exact h5 i u hu
theorem Byt.next {w w' : World} {n0 : Nat} {v : Value} {xs : List Int} (h : Byt w n0 v xs) (k : Below w.heap.size w w') : Byt w' n0 v xs :=
  h.grown (row := none) ⟨k.os, k.tape, k.output, k.size, fun i hi _ => k.block i hi⟩ (by simp)
theorem Byt.mono {w : World} {n0 n1 : Nat} {v : Value} {xs : List Int} (h : Byt w n0 v xs) (hn : n1 ≤ n0) : Byt w n1 v xs := by
  refine ⟨h.1, ?_⟩
  rcases h.2 with h2 | ⟨g, c, rfl, h1, h2, h3, h4, h5⟩
  · exact .inl h2
  · exact .inr ⟨g, c, rfl, by omega, h2, h3, h4, h5⟩

theorem owns_at {w : World} {B : Nat} {v : Value} {n : Nat} {xs : List Int} (h : w.ownsRow B 5 1 v n (u8s xs)) (hn : n ≤ 1099511627776) : Byt w B v xs := by
  have hl : xs.length = n := by have := h.1; simpa [u8s] using this
  refine ⟨by omega, ?_⟩
  rcases h.2 with ⟨rfl, h0⟩ | ⟨g, cap, cur, rfl, hg, h1, h2, h3, h4, h5⟩
  · exact .inl ⟨rfl, List.length_eq_zero_iff.1 (by omega)⟩
  · subst hl
    refine .inr ⟨g, cap, rfl, hg, (Array.getElem?_eq_some_iff.1 h1).1, h2, h3, fun i u hu => ?_⟩
    have hi : i < xs.length := by
      have := (List.getElem?_eq_some_iff.1 hu).1
      simpa [u8s] using this
    rw [h.cellAt i (by omega)]
    exact hu

set_option maxHeartbeats 1000000 in
theorem clone_any {v : Value} {xs : List Int} {n0 : Nat} {w : World} (h : Byt w n0 v xs) :
    Calls Try.prog 70 #[v] w fun e w' => ∃ v', e = .returned v' ∧ w'.ownsRow w.heap.size 5 1 v' xs.length (u8s xs) ∧ Below w.heap.size w w' := by
  obtain ⟨i0, hi, hz0, hz1, hz2⟩ := info_parts info5
  have q54 : ∀ (w : World) (a : Option Addr) (n c n' c' : Nat), (binOp .eql 54 (.slice a n c) (.slice none n' c')).run Try.prog w = .ok (.bool a.isNone) w := fun w a n c n' c' => Lib.run_eql_slice_nil w _ _ a n c n' c' Try.underlying54
  rcases h.2 with ⟨rfl, rfl⟩ | ⟨g, c, rfl, h1, h2, h3, h4, h5⟩
  · go_enter Try.func70, Try.ntmps70
    go_wp2
    go_ret
    exact ⟨_, rfl, World.ownsRow_nil _ _ _ _, Below.refl _ _⟩
  · have hl := h.1
    obtain ⟨n, hn⟩ : ∃ n, xs.length = n := ⟨_, rfl⟩
    rw [hn] at h3 hl ⊢
    have hnews : (u8s xs).length = n * 1 := by simp [u8s, hn]
    have hone : ∀ u ∈ u8s xs, u.oneCell' = true := by intro u hu; obtain ⟨x, _, rfl⟩ := List.mem_map.1 hu; rfl
    have hcell : ∀ (o : Obj) j u, (u8s xs)[j]? = some u → (w.alloc o).cell? ((⟨g, 0, none⟩ : Addr).add j) = some u := by
      intro o j u hu
      have := Lib.cell?_alloc_some o (h5 j u hu)
      rw [← this]
      unfold Addr.add
      by_cases hj : j = 0
      · subst hj; rfl
      · rw [if_neg hj]; simp
    clear h5 h
    go_enter Try.func70, Try.ntmps70
    go_wp2_with (at_builtin; refine wpList_append_own _ rfl _ _ 54 rfl w.heap.size 5 i0 (.int .u8 0) 1 1 Try.underlying54 hi hz0 hz1 hz2 rfl (by decide) _ _ _ rfl (World.ownsRow_made w #[] 0 (Nat.le_refl _) (Nat.zero_le _) rfl) ⟨g, 0, none⟩ n c (u8s xs) rfl hnews (hcell _) hone (by unfold maxLen; omega) (by omega) (by simp) ?_; intro v' w1 hown' hgrow _)
    go_ret
    refine ⟨v', rfl, by simpa using hown', ?_⟩
    refine ((Below.refl _ w).alloc (Nat.le_refl _) _).trans ⟨hgrow.os, hgrow.tape, hgrow.output, hgrow.size, fun k hk => hgrow.block k (by simp; omega) ?_⟩
    intro e
    have e' : k = w.heap.size := by injection e
    omega

theorem info5' : ∃ i, Try.prog.info? 5 = some i ∧ i.zero = some (.int .u8 0) ∧ i.size = 1 ∧ i.bytes = 1 := info_parts info5

set_option maxHeartbeats 2000000 in
set_option maxRecDepth 100000 in
theorem grow_any {B : Nat} {v : Value} {n : Nat} {xs : List Value} (k : Nat) (hk : k ≤ 8) {w : World} (hB : B ≤ w.heap.size) (h : w.ownsRow B 5 1 v n xs) (hn : n ≤ 1099511627776) :
    Calls Try.prog 78 #[v, .int .i64 k] w fun e w' => ∃ v', e = .returned v' ∧ w'.ownsRow B 5 1 v' n xs ∧ Below w.heap.size w w' := by
  obtain ⟨i0, hi, hz0, hz1, hz2⟩ := info_parts info5
  obtain ⟨base, c, rfl, hnc, hc, hcur⟩ : ∃ base c, v = .slice base n c ∧ n ≤ c ∧ c ≤ maxLen ∧ ((base = none ∧ n = 0 ∧ c = 0) ∨ ∃ g cur, base = some ⟨g, 0, none⟩ ∧ w.heap[g]? = some (.cells cur 5 (0, 0)) ∧ cur.size = c * 1 ∧ cur.toList.take (n * 1) = xs) := by
    rcases h.2 with ⟨rfl, rfl⟩ | ⟨g, cap, cur, rfl, hg, h1, h2, h3, h4, h5⟩
    · exact ⟨none, 0, rfl, by omega, by omega, .inl ⟨rfl, rfl, rfl⟩⟩
    · exact ⟨_, cap, rfl, h2, h3, .inr ⟨g, cur, rfl, h1, h4, h5⟩⟩
  unfold maxLen at hc
  have h0 : ¬ ((k : Int) < 0) := by omega
  have e1 : IntKind.i64.wrap ((c : Int) - (n : Int)) = (c : Int) - (n : Int) := IntWalk.i64_in _ (by omega)
  have e2 : IntKind.i64.wrap ((k : Int) - ((c : Int) - (n : Int))) = (k : Int) - ((c : Int) - (n : Int)) := IntWalk.i64_in _ (by omega)
  by_cases hroom : n + k ≤ c
  · have h1 : ¬ ((k : Int) - ((c : Int) - (n : Int)) > 0) := by omega
    go_enter Try.func78, Try.ntmps78
    go_wp2
    go_ret
    exact ⟨_, rfl, h, Below.refl _ _⟩
  · have h1 : (k : Int) - ((c : Int) - (n : Int)) > 0 := by omega
    obtain ⟨cs, hcl, hold, hxs⟩ : ∃ cs : List Value, cs.length = c ∧ (∀ W : World, W.heap = w.heap → (Builtin.firstCells i0.size c (.slice base c c)).run Try.prog W = .ok cs.toArray W) ∧ cs.take n = xs := by
      rcases hcur with ⟨rfl, rfl, rfl⟩ | ⟨g, cur, rfl, hg, hs, ht⟩
      · refine ⟨[], rfl, fun W _ => run_firstCells_none W i0.size 0 0 0, ?_⟩
        have := h.1
        simp at this
        simp [this]
      · refine ⟨cur.toList, by simpa using hs, fun W hW => ?_, by simpa using ht⟩
        refine run_firstCells_some W i0.size c ⟨g, 0, none⟩ c c cur.toList (by simp [hz1]; omega) (fun j u hj => ?_)
        have hj' : cur[j]? = some u := by simpa using hj
        unfold Addr.add
        by_cases hj0 : j = 0
        · subst hj0; simp [World.cell?, hW, hg, hj']
        · rw [if_neg hj0]; simp [World.cell?, hW, hg, hj']
    have hrz : ∀ ty, (Builtin.append_ #[54, 3] ty #[.slice base c c, .int .i64 ((k : Int) - ((c : Int) - (n : Int)))]).run Try.prog w =
        .ok (.slice (some ⟨w.heap.size, 0, none⟩) (n + k) (grownCap w (n + k) c 5)) (w.drew.alloc (.cells (cs.toArray ++ Builtin.zeroCells (Value.int .u8 0).cells (n + k - c) ++ Builtin.zeroCells (Value.int .u8 0).cells (grownCap w (n + k) c 5 - (n + k))) 5)) := fun ty => by
      have hh := Lib.run_append_grow_zeros w 54 3 ty 5 i0 (.int .u8 0) .i64 .i64 Try.underlying54 Try.underlying3 hi hz0 base c c cs (hold w.drew rfl) (n + k - c) (by omega) (by omega) (by omega) (by omega) (by rw [hz2]; omega)
        (by rw [show c + (n + k - c) = n + k by omega, hz2]; exact growslice_fits (by omega) (by omega))
      rw [show c + (n + k - c) = n + k by omega] at hh
      rw [show (k : Int) - ((c : Int) - (n : Int)) = ((n + k - c : Nat) : Int) by omega]
      exact hh
    have hGn : n + k ≤ grownCap w (n + k) c 5 := grownCap_ge w _ _ _
    have hGm := grownCap_le_maxLen w (n + k) c 5 (by unfold maxLen; omega)
    obtain ⟨G, hG⟩ : ∃ G, G = grownCap w (n + k) c 5 := ⟨_, rfl⟩
    rw [← hG] at hrz hGn hGm
    have hres : (w.drew.alloc (.cells (cs.toArray ++ Builtin.zeroCells (Value.int .u8 0).cells (n + k - c) ++ Builtin.zeroCells (Value.int .u8 0).cells (G - (n + k))) 5)).ownsRow B 5 1 (.slice (some ⟨w.heap.size, 0, none⟩) n G) n xs := by
      refine ⟨h.1, .inr ⟨_, G, _, rfl, hB, World.alloc_heap_new w.drew _, by omega, hGm, ?_, ?_⟩⟩
      · simp [Builtin.zeroCells, Value.cells, hcl]; omega
      · rw [← hxs]
        simp only [Nat.mul_one, Array.toList_append, List.append_assoc]
        rw [List.take_append_of_le_length (by omega)]
    have hbel : Below w.heap.size w (w.drew.alloc (.cells (cs.toArray ++ Builtin.zeroCells (Value.int .u8 0).cells (n + k - c) ++ Builtin.zeroCells (Value.int .u8 0).cells (G - (n + k))) 5)) := ((Below.refl _ w).drew).alloc (Nat.le_refl _) _
    obtain ⟨W', hW'⟩ : ∃ W', w.drew.alloc (.cells (cs.toArray ++ Builtin.zeroCells (Value.int .u8 0).cells (n + k - c) ++ Builtin.zeroCells (Value.int .u8 0).cells (G - (n + k))) 5) = W' := ⟨_, rfl⟩
    rw [hW'] at hrz hres hbel
    unfold maxLen at hGm
    clear hW' hold hG hcl hxs h hcur
    go_enter Try.func78, Try.ntmps78
    obtain _ | ⟨ab, ao, asp⟩ := base
    · go_wp2_with (at_builtin; refine Lib.wpList_append_run _ rfl _ _ _ _ rfl _ _ rfl rfl _ _ (hrz _) ?_)
      all_goals (go_ret; exact ⟨_, rfl, hres, hbel⟩)
    · go_wp2_with (at_builtin; refine Lib.wpList_append_run _ rfl _ _ _ _ rfl _ _ rfl rfl _ _ (hrz _) ?_)
      all_goals (go_ret; exact ⟨_, rfl, hres, hbel⟩)

theorem clip_any {B : Nat} {v : Value} {n : Nat} {xs : List Int} {w : World} (h : w.ownsRow B 5 1 v n (u8s xs)) (hn : n ≤ 1099511627776) :
    Calls Try.prog 79 #[v] w fun e w' => ∃ v', e = .returned v' ∧ Byt w' B v' xs ∧ w = w' := by
  have hb := owns_at h hn
  have hl : xs.length = n := by have := h.1; simpa [u8s] using this
  subst hl
  rcases hb.2 with ⟨rfl, h0⟩ | ⟨g, c, rfl, h1, h2, h3, h4, h5⟩
  · subst h0
    go_enter Try.func79, Try.ntmps79
    go_wp2
    go_ret
    exact ⟨_, rfl, hb, rfl⟩
  · have h6 : (xs.length : Int) ≤ c := by omega
    have h7 : c ≤ 9223372036854775807 := by unfold maxLen at h4; omega
    have hres : Byt w B (.slice (some ⟨g, 0, none⟩) xs.length xs.length) xs := ⟨by omega, .inr ⟨g, xs.length, rfl, h1, h2, Nat.le_refl _, by omega, h5⟩⟩
    clear h5 hb h
    go_enter Try.func79, Try.ntmps79
    go_wp2
    go_ret
    exact ⟨_, rfl, hres, rfl⟩

end Go.Proofs.Ytifhimdhmlmgkaa
