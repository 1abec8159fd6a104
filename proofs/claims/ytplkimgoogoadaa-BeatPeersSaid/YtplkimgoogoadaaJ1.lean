/- slices.Insert of one element into a row of the call's own: whatever the place, whether there is room or not. -/
import Derived.Test.YtplkimgoogoadaaProg
import Derived.Laws.IdiomCopy
import Derived.Lib.Overlaps
import Derived.Lib.AppendZeros
import Derived.Lib.AppendZerosOnto
import Derived.Lib.JoinLaws
import Derived.Laws.Externs
import Derived.Shelf.Spec.SlicesInsert
import Derived.Deep.RegionLaw
import Derived.Lib.Hide
import Derived.Maps.AppendAt
import Derived.RangeFuncRecord
namespace Go.Proofs.Ytplkimgoogoadaa.Ins35
open Go.RowKit

theorem info : (Try.prog.info? 35).map (fun i => (i.zero, i.size, i.bytes)) = some (some (Value.agg #[.int .i64 0, .int .i64 0, .int .i64 0, .int .i64 0]), 4, 32) := by kernel_rfl
theorem sizeE (w : World) : (Go.sizeOf 35).run Try.prog w = .ok 4 w := by kernel_rfl

/-- A copy of elements. -/
theorem run_copyN (w : World) (ty : TypeId) (b o dLen dCap : Nat) (a : Addr) (sLen sCap n : Nat) (cs : List Value) (hm : Nat.min sLen dLen = n) (hn : cs.length = n * 4)
    (hsrc : ∀ j v, cs[j]? = some v → w.cell? (a.add j) = some v) (hc : ∀ j, j < cs.length → (w.cell? ⟨b, o + j, none⟩).isSome = true) (hf : ∀ j, j < cs.length → w.frozen? ⟨b, o + j, none⟩ = false) (h1 : ∀ v ∈ cs, v.oneCell' = true) :
    (Builtin.copy_ #[22, 22] ty #[.slice (some ⟨b, o, none⟩) dLen dCap, .slice (some a) sLen sCap]).run Try.prog w = .ok (goInt n) (w.setCells b o cs) := by
  obtain ⟨i0, hi0, hz0, hz1, hz2⟩ := info_parts info
  have hl := run_firstCells_some (P := Try.prog) w 4 n a sLen sCap cs hn hsrc
  have hst := run_storeCells_cells (P := Try.prog) b o cs 0 w (by simpa using hc) (by simpa using hf) h1
  simp only [Nat.add_zero] at hst
  simp [Builtin.copy_, run_underlying Try.underlying22, Builtin.lenOf, sizeOf, typeInfo, hi0, hz1, hm, hl, hst]

theorem add_lit (g o k : Nat) : (⟨g, o, none⟩ : Addr).add k = ⟨g, o + k, none⟩ := by
  unfold Addr.add
  by_cases hk : k = 0
  · subst hk; rfl
  · rw [if_neg hk]

/-- Cells put one behind the other. -/
def putL : List Value → Nat → List Value → List Value
  | xs, _, [] => xs
  | xs, o, v :: vs => putL (xs.set o v) (o + 1) vs

theorem owns_put {g cap n B : Nat} {e : TypeId} {size : Nat} : ∀ (vs xs : List Value) {W : World}, W.ownsRow B e size (.slice (some ⟨g, 0, none⟩) n cap) n xs → ∀ o, (W.setCells g o vs).ownsRow B e size (.slice (some ⟨g, 0, none⟩) n cap) n (putL xs o vs)
  | [], _, _, h, _ => h
  | v :: vs, xs, W, h, o => by
    rw [World.setCells]
    exact owns_put vs _ (h.stored o v).1 (o + 1)

theorem putL_mid : ∀ (vs a b c : List Value), b.length = vs.length → putL (a ++ b ++ c) a.length vs = a ++ vs ++ c
  | [], a, b, c, h => by
    obtain rfl : b = [] := List.length_eq_zero_iff.1 h
    rfl
  | v :: vs, a, x :: b, c, h => by
    have ih := putL_mid vs (a ++ [v]) b c (by simpa using h)
    show putL ((a ++ x :: b ++ c).set a.length v) (a.length + 1) vs = _
    have e : (a ++ x :: b ++ c).set a.length v = a ++ [v] ++ b ++ c := by simp
    rw [e]
    have e2 : a.length + 1 = (a ++ [v]).length := by simp
    rw [e2, ih]
    simp

theorem putL_at (vs a b c : List Value) (o : Nat) (ho : a.length = o) (h : b.length = vs.length) : putL (a ++ (b ++ c)) o vs = a ++ (vs ++ c) := by
  subst ho
  have := putL_mid vs a b c h
  rwa [List.append_assoc, List.append_assoc] at this

theorem grown_setCells (g : Nat) : ∀ (vs : List Value) (o : Nat) (W : World), W.grownBy (W.setCells g o vs) (some g)
  | [], _, W => World.grownBy.refl _ _
  | v :: vs, o, W => by
    rw [World.setCells]
    have h1 : W.grownBy (W.setCell ⟨g, o, none⟩ v) (some g) := ⟨rfl, rfl, rfl, by simp [World.setCell], fun k _ hne => Below.heap_setCell _ _ _ _ (by intro e; exact hne (by rw [e]))⟩
    exact h1.trans (grown_setCells g vs (o + 1) _)

/-- The variadic argument: a block of its own. -/
def Arg (w : World) (t : Nat) (V : List Value) : Prop := ∃ E, w.heap[t]? = some (.cells V.toArray E (0, 0))
theorem Arg.lt {w : World} {t : Nat} {V : List Value} (h : Arg w t V) : t < w.heap.size := by
  obtain ⟨E, h⟩ := h
  exact (Array.getElem?_eq_some_iff.1 h).1
theorem Arg.cell {w : World} {t : Nat} {V : List Value} (h : Arg w t V) (j : Nat) (v : Value) (hj : V[j]? = some v) : w.cell? ((⟨t, 0, none⟩ : Addr).add j) = some v := by
  obtain ⟨E, h⟩ := h
  rw [add_lit, Nat.zero_add]
  simp only [World.cell?, h]
  simpa using hj

set_option maxHeartbeats 1000000 in
/-- At the end: an append. -/
theorem insert_end (X V : List Value) (n : Nat) {B : Nat} {v : Value} (w : World) (t : Nat) (h : w.ownsRow B 35 4 v n X) (hlen : n ≤ 100000) (hB : B ≤ w.heap.size)
    (ht : Arg w t V) (hV : V.length = 4) (h1 : ∀ u ∈ V, u.oneCell' = true) :
    Calls Try.prog 32 #[v, .int .i64 n, .slice (some ⟨t, 0, none⟩) 1 1] w fun e w' => ∃ v', e = .returned v' ∧ w'.ownsRow B 35 4 v' (n + 1) (X ++ V) ∧ w.grownBy w' v.ownBlock := by
  obtain ⟨i0, hi, hz0, hz1, hz2⟩ := info_parts info
  obtain ⟨A, c, rfl, hc, hm⟩ : ∃ A c, v = .slice A n c ∧ n ≤ c ∧ c ≤ maxLen := by
    rcases h.2 with ⟨rfl, h0⟩ | ⟨g, cap, cur, rfl, hg, h1, h2, h3, h4, h5⟩
    · exact ⟨none, 0, by rw [h0], by omega, by omega⟩
    · exact ⟨_, cap, rfl, h2, h3⟩
  unfold maxLen at hm
  have e1 : (n : Int) ≤ (n : Int) := Int.le_refl _
  have hcell := fun j u => ht.cell j u
  go_enter Try.func32, Try.ntmps32
  go_wp2_with (at_builtin; refine wpList_append_own _ rfl _ _ 22 rfl B 35 i0 _ 4 32 Try.underlying22 hi hz0 hz1 hz2 rfl (by decide) (.slice A n c) n X rfl h ⟨t, 0, none⟩ 1 1 V rfl hV hcell h1 (by unfold maxLen; omega) (by omega) hB ?_; intro v' w1 hown' hgrow _)
  all_goals go_ret
  all_goals exact ⟨v', rfl, hown', by first | exact hgrow | (rw [show (Value.slice A n n).ownBlock = (Value.slice A n c).ownBlock from by cases A <;> rfl]; exact hgrow)⟩

set_option maxHeartbeats 4000000 in
/-- There is no room: a new row. -/
theorem insert_grow (X Y V : List Value) (i n c : Nat) {B g : Nat} {cur : Array Value} (w : World) (t : Nat) (hlen : n ≤ 100000) (hB : B ≤ w.heap.size) (hin : i < n) (hX : X.length = i * 4) (hY : Y.length = (n - i) * 4)
    (hg : w.heap[g]? = some (.cells cur 35 (0, 0))) (hcs : cur.size = c * 4) (hcur : cur.toList.take (n * 4) = X ++ Y) (hc1 : n ≤ c) (hc2 : c < n + 1)
    (ht : Arg w t V) (hV : V.length = 4) (h1 : ∀ u ∈ V, u.oneCell' = true) (h2 : ∀ u ∈ Y, u.oneCell' = true) :
    Calls Try.prog 32 #[.slice (some ⟨g, 0, none⟩) n c, .int .i64 i, .slice (some ⟨t, 0, none⟩) 1 1] w fun e w' => ∃ v', e = .returned v' ∧ w'.ownsRow B 35 4 v' (n + 1) (X ++ (V ++ Y)) ∧ Below w.heap.size w w' := by
  obtain ⟨i0, hi0, hz0, hz1, hz2⟩ := info_parts info
  obtain rfl : c = n := by omega
  have hcl : cur.toList.length = c * 4 := by simpa using hcs
  have hall : cur.toList = X ++ Y := by rw [← hcur]; exact (List.take_of_length_le (by omega)).symm
  have hgw : g < w.heap.size := (Array.getElem?_eq_some_iff.1 hg).1
  have htw := ht.lt
  have hcell : ∀ (W : World), W.heap[g]? = w.heap[g]? → ∀ k u, (X ++ Y)[k]? = some u → W.cell? ⟨g, k, none⟩ = some u := by
    intro W hW k u hu
    rw [← hall] at hu
    simp only [World.cell?, hW, hg]
    simpa using hu
  have hold : (Builtin.firstCells i0.size i (.slice (some ⟨g, 0, none⟩) i c)).run Try.prog w.drew = .ok X.toArray w.drew := by
    rw [hz1]
    refine run_firstCells_some w.drew 4 i ⟨g, 0, none⟩ i c X hX (fun j u hj => ?_)
    rw [add_lit, Nat.zero_add]
    exact hcell w.drew rfl j u (by rw [List.getElem?_append_left (List.getElem?_eq_some_iff.1 hj).1]; exact hj)
  have hk1 : i + (c + 1 - i) = c + 1 := by omega
  have hk2 : ((c + 1 - i : Nat) : Int) = (c : Int) + 1 - (i : Int) := by omega
  have hrz := fun ty => Lib.run_append_grow_zeros w 22 3 ty 35 i0 _ .i64 .i64 Try.underlying22 Try.underlying3 hi0 hz0 (some ⟨g, 0, none⟩) i c X hold (c + 1 - i) (by omega) (by omega) (by omega) (by omega) (by rw [hz2]; omega) (by rw [hz2, hk1]; exact growslice_fits (by omega) (by omega))
  rw [hk1, hk2] at hrz
  have hGn : c + 1 ≤ grownCap w (c + 1) c 35 := grownCap_ge w _ _ _
  have hGm := grownCap_le_maxLen w (c + 1) c 35 (by unfold maxLen; omega)
  obtain ⟨G, hG⟩ : ∃ G, G = grownCap w (c + 1) c 35 := ⟨_, rfl⟩
  rw [← hG] at hrz hGn hGm
  obtain ⟨Z, hZ⟩ : ∃ Z, (Builtin.zeroCells (Value.agg #[.int .i64 0, .int .i64 0, .int .i64 0, .int .i64 0]).cells (c + 1 - i)).toList = Z := ⟨_, rfl⟩
  have hZl : Z.length = (c + 1 - i) * 4 := by rw [← hZ, Array.length_toList]; simp [Builtin.zeroCells, Value.cells]
  obtain ⟨Z2, hZ2⟩ : ∃ Z2, (Builtin.zeroCells (Value.agg #[.int .i64 0, .int .i64 0, .int .i64 0, .int .i64 0]).cells (G - (c + 1))).toList = Z2 := ⟨_, rfl⟩
  have hZ2l : Z2.length = (G - (c + 1)) * 4 := by rw [← hZ2, Array.length_toList]; simp [Builtin.zeroCells, Value.cells]
  obtain ⟨ROW, hROW⟩ : ∃ ROW : Array Value, X.toArray ++ Builtin.zeroCells (Value.agg #[.int .i64 0, .int .i64 0, .int .i64 0, .int .i64 0]).cells (c + 1 - i) ++ Builtin.zeroCells (Value.agg #[.int .i64 0, .int .i64 0, .int .i64 0, .int .i64 0]).cells (G - (c + 1)) = ROW := ⟨_, rfl⟩
  have hRl : ROW.toList = X ++ (Z ++ Z2) := by rw [← hROW, ← hZ, ← hZ2]; simp
  have hRs : ROW.size = G * 4 := by
    rw [← Array.length_toList, hRl, List.length_append, List.length_append, hX, hZl, hZ2l]; omega
  rw [hROW] at hrz
  obtain ⟨W1, hW1⟩ : ∃ W1, w.drew.alloc (.cells ROW 35) = W1 := ⟨_, rfl⟩
  rw [hW1] at hrz
  have hb1 : Below w.heap.size w W1 := by rw [← hW1]; exact ((Below.refl _ w).drew).alloc (Nat.le_refl _) _
  have ho1 : W1.ownsRow B 35 4 (.slice (some ⟨w.heap.size, 0, none⟩) (c + 1) G) (c + 1) (X ++ Z) := by
    refine ⟨by rw [List.length_append, hX, hZl]; omega, .inr ⟨_, G, ROW, rfl, hB, by rw [← hW1]; exact World.alloc_heap_new w.drew _, hGn, hGm, hRs, ?_⟩⟩
    rw [hRl, ← List.append_assoc, List.take_append_of_le_length (by rw [List.length_append, hX, hZl]; omega)]
    exact List.take_of_length_le (by rw [List.length_append, hX, hZl]; omega)
  clear hZ hold hROW hRl
  obtain ⟨Za, Zb, rfl, hZa, hZb⟩ : ∃ Za Zb, Z = Za ++ Zb ∧ Za.length = 4 ∧ Zb.length = Y.length :=
    ⟨Z.take 4, Z.drop 4, (List.take_append_drop _ _).symm, by rw [List.length_take, hZl]; omega, by rw [List.length_drop, hZl, hY]; omega⟩
  have hsome : ∀ {W : World} {L : List Value}, W.ownsRow B 35 4 (.slice (some ⟨w.heap.size, 0, none⟩) (c + 1) G) (c + 1) L → ∀ k, k < (c + 1) * 4 → (W.cell? ⟨w.heap.size, k, none⟩).isSome = true := by
    intro W L h k hk
    have hL := h.1
    rw [h.cellAt k hk, List.getElem?_eq_getElem (by omega)]
    rfl
  have hcp1 : ∀ (W : World), W.heap = W1.heap → ∀ ty dc, (Builtin.copy_ #[22, 22] ty #[.slice (some ⟨w.heap.size, i * 4, none⟩) (c + 1 - i) dc, .slice (some ⟨t, 0, none⟩) 1 1]).run Try.prog W = .ok (goInt 1) (W.setCells w.heap.size (i * 4) V) := by
    intro W hW ty dc
    have hWc : ∀ x, W.cell? x = W1.cell? x := fun x => by simp only [World.cell?, hW]
    have hWf : ∀ x, W.frozen? x = W1.frozen? x := fun x => by simp only [World.frozen?, hW]
    refine run_copyN W ty w.heap.size (i * 4) (c + 1 - i) dc ⟨t, 0, none⟩ 1 1 1 V (by simp [Nat.min_def]; omega) (by omega) (fun j u hu => ?_) (fun j hj => ?_) (fun j _ => ?_) h1
    · rw [hWc, World.cell?_of_block (a := (⟨t, 0, none⟩ : Addr).add j) (w := w) (by rw [add_lit]; exact hb1.block t htw)]; exact ht.cell j u hu
    · rw [hWc]; exact hsome ho1 _ (by omega)
    · rw [hWf]; exact ho1.frozenAt _
  obtain ⟨W2, hW2⟩ : ∃ W2, W1.setCells w.heap.size (i * 4) V = W2 := ⟨_, rfl⟩
  have ho2 := owns_put V _ ho1 (i * 4)
  rw [hW2, putL_at V X Za Zb (i * 4) hX (by rw [hZa, hV])] at ho2
  have hgs := grown_setCells w.heap.size V (i * 4) W1
  rw [hW2] at hgs
  have hb2 : Below w.heap.size w W2 := hb1.trans ⟨hgs.os, hgs.tape, hgs.output, hgs.size, fun k hk => hgs.block k (by have := hb1.size; omega) (by intro e; injection e with e; omega)⟩
  have hXV : (X ++ V).length = (i + 1) * 4 := by rw [List.length_append, hX, hV]; omega
  have hcp2 : ∀ (W : World), W.heap = W2.heap → ∀ ty dc sc, (Builtin.copy_ #[22, 22] ty #[.slice (some ⟨w.heap.size, (i + 1) * 4, none⟩) (c - i) dc, .slice (some ⟨g, i * 4, none⟩) (c - i) sc]).run Try.prog W = .ok (goInt (c - i : Nat)) (W.setCells w.heap.size ((i + 1) * 4) Y) := by
    intro W hW ty dc sc
    have hWc : ∀ x, W.cell? x = W2.cell? x := fun x => by simp only [World.cell?, hW]
    have hWf : ∀ x, W.frozen? x = W2.frozen? x := fun x => by simp only [World.frozen?, hW]
    refine run_copyN W ty w.heap.size ((i + 1) * 4) (c - i) dc ⟨g, i * 4, none⟩ (c - i) sc (c - i) Y (by simp only [Nat.min_def]; split <;> omega) hY (fun j u hu => ?_) (fun j hj => ?_) (fun j _ => ?_) h2
    · rw [add_lit, hWc]
      exact hcell W2 (hb2.block g hgw) _ u (by rw [List.getElem?_append_right (by omega), hX, Nat.add_sub_cancel_left]; exact hu)
    · rw [hWc]; exact hsome ho2 _ (by omega)
    · rw [hWf]; exact ho2.frozenAt _
  have ho2 : W2.drew.ownsRow B 35 4 (.slice (some ⟨w.heap.size, 0, none⟩) (c + 1) G) (c + 1) (X ++ (V ++ Zb)) := by
    rcases ho2.2 with ⟨h, _⟩ | h
    · cases h
    · exact ⟨ho2.1, .inr h⟩
  have ho3 : (W2.drew.setCells w.heap.size ((i + 1) * 4) Y).ownsRow B 35 4 (.slice (some ⟨w.heap.size, 0, none⟩) (c + 1) G) (c + 1) (X ++ (V ++ Y)) := by
    have ho3 := owns_put Y _ ho2 ((i + 1) * 4)
    have e : X ++ (V ++ Zb) = (X ++ V) ++ (Zb ++ []) := by simp
    rw [e, putL_at Y (X ++ V) Zb [] _ hXV hZb] at ho3
    simpa using ho3
  have hgs3 := grown_setCells w.heap.size Y ((i + 1) * 4) W2.drew
  have hb3 : Below w.heap.size w (W2.drew.setCells w.heap.size ((i + 1) * 4) Y) := hb2.trans ⟨hgs3.os, hgs3.tape, hgs3.output, hgs3.size, fun k hk => hgs3.block k (by have e : W2.drew.heap.size = W2.heap.size := rfl; have := hb2.size; omega) (by intro e; injection e with e; omega)⟩
  have hcp1' := hcp1 W1 rfl
  rw [hW2] at hcp1'
  have hGi : ¬ (G = i) := by omega
  have hGim : ¬ (G = i + 1) := by omega
  have hci : ¬ (c = i) := by omega
  have hw1 : IntKind.i64.wrap ((i : Int) + 1) = (i : Int) + 1 := by rw [IntKind.wrap_i64]; omega
  have hb1' : (0 : Int) ≤ (i : Int) + 1 := by omega
  have hin' : i ≤ c := by omega
  have htn : ((i : Int) + 1).toNat = i + 1 := by omega
  have hb3' : (i : Int) ≤ (c : Int) := by omega
  have hz2 : ¬ ((i : Int) = (c : Int)) := by omega
  have hz3 : (c : Int) < (c : Int) + 1 := by omega
  have HH := Lib.hid (And.intro ho3 hb3)
  clear hG hk1 hk2 hcl hall hcell hcs hsome hgs hgs3 ho1 ho2 ho3 hb3 hXV hcp1
  go_enter Try.func32, Try.ntmps32
  go_wp2_with (first
    | (at_builtin; refine Lib.wpList_append_run _ rfl _ _ _ _ rfl _ _ rfl rfl _ _ (hrz _) ?_)
    | (refine wpList_copy_runI _ rfl _ _ 22 22 rfl _ _ rfl rfl (hcp1' _ _) ?_))
  go_region_law (refine step_copy_runI rfl _ _ 22 22 rfl (.slice (some ⟨w.heap.size, (i + 1) * 4, none⟩) (c - i) (G - (i + 1))) (.slice (some ⟨g, i * 4, none⟩) (c - i) (c - i)) (by simp [Act.eval, Act.put]) (by simp [Act.eval, Act.put]) (hcp2 W2.drew rfl 3 (G - (i + 1)) (c - i)) ?_)
  go_wp2
  go_ret
  exact ⟨_, rfl, HH.out.1, HH.out.2⟩

set_option maxHeartbeats 4000000 in
/-- There is room: in place. -/
theorem insert_shift (X Y V : List Value) (i n c : Nat) {B g : Nat} {cur : Array Value} (w : World) (t : Nat) (hlen : n ≤ 100000) (hBg : B ≤ g) (hin : i < n) (hX : X.length = i * 4) (hY : Y.length = (n - i) * 4)
    (hg : w.heap[g]? = some (.cells cur 35 (0, 0))) (hcs : cur.size = c * 4) (hcur : cur.toList.take (n * 4) = X ++ Y) (hroom : n + 1 ≤ c) (hc63 : c ≤ maxLen)
    (ht : Arg w t V) (htg : t ≠ g) (hV : V.length = 4) (h1 : ∀ u ∈ V, u.oneCell' = true) (h2 : ∀ u ∈ Y, u.oneCell' = true) :
    Calls Try.prog 32 #[.slice (some ⟨g, 0, none⟩) n c, .int .i64 i, .slice (some ⟨t, 0, none⟩) 1 1] w fun e w' => e = .returned (.slice (some ⟨g, 0, none⟩) (n + 1) c) ∧ w'.ownsRow B 35 4 (.slice (some ⟨g, 0, none⟩) (n + 1) c) (n + 1) (X ++ (V ++ Y)) ∧ w.grownBy w' (some g) := by
  unfold maxLen at hc63
  have hcl : cur.toList.length = c * 4 := by simpa using hcs
  have hgw : g < w.heap.size := (Array.getElem?_eq_some_iff.1 hg).1
  have htw := ht.lt
  obtain ⟨Z, hZ⟩ : ∃ Z, (cur.toList.take ((n + 1) * 4)).drop (n * 4) = Z := ⟨_, rfl⟩
  have hZl : Z.length = 4 := by rw [← hZ, List.length_drop, List.length_take, hcl]; omega
  have hL1 : cur.toList.take ((n + 1) * 4) = X ++ (Y ++ Z) := by
    have := List.take_append_drop (n * 4) (cur.toList.take ((n + 1) * 4))
    rw [List.take_take, Nat.min_eq_left (by omega), hcur, hZ] at this
    rw [← this, List.append_assoc]
  have ho0 : w.ownsRow B 35 4 (.slice (some ⟨g, 0, none⟩) (n + 1) c) (n + 1) (X ++ (Y ++ Z)) :=
    ⟨by rw [List.length_append, List.length_append, hX, hY, hZl]; omega, .inr ⟨g, c, cur, rfl, hBg, hg, hroom, by unfold maxLen; omega, hcs, hL1⟩⟩
  obtain ⟨Za, Zb, hYZ, hZa, hZb⟩ : ∃ Za Zb, Y ++ Z = Za ++ Zb ∧ Za.length = 4 ∧ Zb.length = Y.length :=
    ⟨(Y ++ Z).take 4, (Y ++ Z).drop 4, (List.take_append_drop _ _).symm, by rw [List.length_take, List.length_append, hY, hZl]; omega, by rw [List.length_drop, List.length_append, hY, hZl]; omega⟩
  have hcell : ∀ (W : World), W.heap[g]? = w.heap[g]? → ∀ k u, (X ++ Y)[k]? = some u → W.cell? ⟨g, k, none⟩ = some u := by
    intro W hW k u hu
    have hk : k < n * 4 := by have := (List.getElem?_eq_some_iff.1 hu).1; rw [List.length_append, hX, hY] at this; omega
    rw [← hcur, List.getElem?_take_of_lt hk] at hu
    simp only [World.cell?, hW, hg]
    simpa using hu
  have hsome : ∀ {W : World} {L : List Value}, W.ownsRow B 35 4 (.slice (some ⟨g, 0, none⟩) (n + 1) c) (n + 1) L → ∀ k, k < (n + 1) * 4 → (W.cell? ⟨g, k, none⟩).isSome = true := by
    intro W L h k hk
    have hL := h.1
    rw [h.cellAt k hk, List.getElem?_eq_getElem (by omega)]
    rfl
  have hcp1 : ∀ (W : World), W.heap = w.heap → ∀ ty dc sc, (Builtin.copy_ #[22, 22] ty #[.slice (some ⟨g, (i + 1) * 4, none⟩) (n + 1 - (i + 1)) dc, .slice (some ⟨g, i * 4, none⟩) (n + 1 - i) sc]).run Try.prog W = .ok (goInt (n - i : Nat)) (W.setCells g ((i + 1) * 4) Y) := by
    intro W hW ty dc sc
    have hWc : ∀ x, W.cell? x = w.cell? x := fun x => by simp only [World.cell?, hW]
    have hWf : ∀ x, W.frozen? x = w.frozen? x := fun x => by simp only [World.frozen?, hW]
    refine run_copyN W ty g ((i + 1) * 4) (n + 1 - (i + 1)) dc ⟨g, i * 4, none⟩ (n + 1 - i) sc (n - i) Y (by simp only [Nat.min_def]; split <;> omega) hY (fun j u hu => ?_) (fun j hj => ?_) (fun j _ => ?_) h2
    · rw [add_lit, hWc]
      exact hcell w rfl _ u (by rw [List.getElem?_append_right (by omega), hX, Nat.add_sub_cancel_left]; exact hu)
    · rw [hWc]; exact hsome ho0 _ (by omega)
    · rw [hWf]; exact ho0.frozenAt _
  obtain ⟨W2, hW2⟩ : ∃ W2, w.drew.setCells g ((i + 1) * 4) Y = W2 := ⟨_, rfl⟩
  have ho0' : w.drew.ownsRow B 35 4 (.slice (some ⟨g, 0, none⟩) (n + 1) c) (n + 1) (X ++ (Y ++ Z)) :=
    ⟨ho0.1, .inr ⟨g, c, cur, rfl, hBg, hg, hroom, by unfold maxLen; omega, hcs, hL1⟩⟩
  have ho2 := owns_put Y _ ho0' ((i + 1) * 4)
  have hXZ : (X ++ Za).length = (i + 1) * 4 := by rw [List.length_append, hX, hZa]; omega
  have e : X ++ (Y ++ Z) = (X ++ Za) ++ (Zb ++ []) := by rw [hYZ]; simp
  rw [hW2, e, putL_at Y (X ++ Za) Zb [] _ hXZ hZb, List.append_nil, List.append_assoc] at ho2
  have hgs := grown_setCells g Y ((i + 1) * 4) w.drew
  rw [hW2] at hgs
  have hgs' : w.grownBy W2 (some g) := ⟨hgs.os, hgs.tape, hgs.output, hgs.size, hgs.block⟩
  have hcp2 : ∀ (W : World), W.heap = W2.heap → ∀ ty dc, (Builtin.copy_ #[22, 22] ty #[.slice (some ⟨g, i * 4, none⟩) (n + 1 - i) dc, .slice (some ⟨t, 0, none⟩) 1 1]).run Try.prog W = .ok (goInt 1) (W.setCells g (i * 4) V) := by
    intro W hW ty dc
    have hWc : ∀ x, W.cell? x = W2.cell? x := fun x => by simp only [World.cell?, hW]
    have hWf : ∀ x, W.frozen? x = W2.frozen? x := fun x => by simp only [World.frozen?, hW]
    refine run_copyN W ty g (i * 4) (n + 1 - i) dc ⟨t, 0, none⟩ 1 1 1 V (by simp only [Nat.min_def]; split <;> omega) (by omega) (fun j u hu => ?_) (fun j hj => ?_) (fun j _ => ?_) h1
    · rw [hWc, World.cell?_of_block (a := (⟨t, 0, none⟩ : Addr).add j) (w := w) (by rw [add_lit]; exact hgs'.block t htw (by intro e; injection e with e; exact htg e))]; exact ht.cell j u hu
    · rw [hWc]; exact hsome ho2 _ (by omega)
    · rw [hWf]; exact ho2.frozenAt _
  have ho3 : (W2.setCells g (i * 4) V).ownsRow B 35 4 (.slice (some ⟨g, 0, none⟩) (n + 1) c) (n + 1) (X ++ (V ++ Y)) := by
    have ho3 := owns_put V _ ho2 (i * 4)
    rwa [putL_at V X Za Y _ hX (by rw [hZa, hV])] at ho3
  have hgs3 : w.grownBy (W2.setCells g (i * 4) V) (some g) := hgs'.trans (grown_setCells g V (i * 4) W2)
  have hcp1' := hcp1 w.drew rfl
  rw [hW2] at hcp1'
  have hov : ∀ lb cb, (callFunc 44 #[.slice (some ⟨t, 0, none⟩) 1 1, .slice (some ⟨g, (i + 1) * 4, none⟩) lb cb]).run Try.prog w = .ok (.value (.bool false)) w := fun lb cb => by
    obtain ⟨Et, ht'⟩ := ht
    rw [run_callFunc_extern Try.func44 (by kernel_rfl) (by kernel_rfl) (by kernel_rfl) (e := Extern.SlicesOverlaps.overlaps #[22, 22] #[4]) (by kernel_rfl),
      Lib.run_overlaps_apart w 22 4 35 Try.underlying22 4 sizeE ⟨t, 0, none⟩ ⟨g, (i + 1) * 4, none⟩ 1 1 lb cb htg Et 35 V.length cur.size (by simp [World.shape?, ht']) (by simp [World.shape?, hg]) (by omega) (by simp [World.frozen?, ht']) (by simp [World.frozen?, ht'])]
    rfl
  have hz2 : ¬ ((i : Int) = (n : Int)) := by omega
  have hw1 : IntKind.i64.wrap ((i : Int) + 1) = (i : Int) + 1 := by rw [IntKind.wrap_i64]; omega
  have hb1 : (0 : Int) ≤ (i : Int) + 1 := by omega
  have hin' : i ≤ n := by omega
  have htn : ((i : Int) + 1).toNat = i + 1 := by omega
  have hb2 : ¬ (c = i + 1) := by omega
  have hb3 : (i : Int) ≤ (n : Int) + 1 := by omega
  have hb4 : ¬ (c = i) := by omega
  have HH := Lib.hid (And.intro ho3 hgs3)
  clear hcl hcell hcs hsome hgs hgs' hgs3 ho0 ho0' ho2 ho3 hXZ e hYZ hcp1 hL1 hcur hX hY hV hZl hZa hZb
  go_enter Try.func32, Try.ntmps32
  go_wp2_with (simp only [hov])
  go_region_law (refine step_copy_runI rfl _ _ 22 22 rfl (.slice (some ⟨g, (i + 1) * 4, none⟩) (n + 1 - (i + 1)) (c - (i + 1))) (.slice (some ⟨g, i * 4, none⟩) (n + 1 - i) (c - i)) (by simp [Act.eval, Act.put]) (by simp [Act.eval, Act.put]) (hcp1' _ _ _) ?_)
  go_wp2_with (refine wpList_copy_runI _ rfl _ _ 22 22 rfl _ _ rfl rfl (hcp2 _ rfl _ _) ?_)
  go_ret
  exact ⟨rfl, HH.out.1, HH.out.2⟩

/-- Whatever the place. -/
theorem insert_any (X Y V : List Value) (i n : Nat) {B : Nat} {v : Value} (w : World) (t : Nat) (hlen : n ≤ 100000) (hB : B ≤ w.heap.size) (hin : i ≤ n) (hX : X.length = i * 4)
    (h : w.ownsRow B 35 4 v n (X ++ Y)) (ht : Arg w t V) (htg : v.ownBlock ≠ some t) (hV : V.length = 4) (h1 : ∀ u ∈ V, u.oneCell' = true) (h2 : ∀ u ∈ Y, u.oneCell' = true) :
    Calls Try.prog 32 #[v, .int .i64 i, .slice (some ⟨t, 0, none⟩) 1 1] w fun e w' => ∃ v', e = .returned v' ∧ w'.ownsRow B 35 4 v' (n + 1) (X ++ (V ++ Y)) ∧ w.grownBy w' v.ownBlock := by
  have hl := h.1
  rw [List.length_append, hX] at hl
  rcases Nat.eq_or_lt_of_le hin with rfl | hlt
  · obtain rfl : Y = [] := List.length_eq_zero_iff.1 (by omega)
    rw [List.append_nil] at h
    refine (insert_end X V i w t h hlen hB ht hV h1).mono ?_
    rintro e w' ⟨v', he, ho, hg⟩
    exact ⟨v', he, by rwa [List.append_nil], hg⟩
  · rcases h.2 with ⟨rfl, h0⟩ | ⟨g, c, cur, rfl, hBg, hg, hc1, hc2, hc3, hc4⟩
    · omega
    · rcases Nat.lt_or_ge c (n + 1) with hc | hc
      · refine (insert_grow X Y V i n c w t hlen hB hlt hX (by omega) hg hc3 hc4 hc1 hc ht hV h1 h2).mono ?_
        rintro e w' ⟨v', he, ho, hb⟩
        exact ⟨v', he, ho, ⟨hb.os, hb.tape, hb.output, hb.size, fun k hk _ => hb.block k hk⟩⟩
      · refine (insert_shift X Y V i n c w t hlen hBg hlt hX (by omega) hg hc3 hc4 hc hc2 ht (by rintro rfl; exact htg rfl) hV h1 h2).mono ?_
        rintro e w' ⟨he, ho, hb⟩
        exact ⟨_, he, ho, hb⟩

end Go.Proofs.Ytplkimgoogoadaa.Ins35
