/- Where blocks lie; their words. -/
import Derived.Test.YtifhimdhmlmgkaaA6
namespace Go.Proofs.Ytifhimdhmlmgkaa
open Go.RowKit

/-- Is it no place, or that of a block that is taken? -/
def liesB (bs : List Blk) (p : Int) : Bool := (findB bs p).isSome || p == 0

set_option maxHeartbeats 400000 in
theorem lies_any {A B : Nat} {ws : List Int} {bs : List Blk} {edge : Nat} (p : Int) {w : World} (h : Arb w A B ws bs edge) :
    Calls Try.prog 39 #[.pointer (some ⟨A, 0, none⟩), .int .i64 p] w fun e W' => e = .returned (.bool (liesB bs p)) ∧ Below w.heap.size w W' := by
  have hf := find_any p h
  unfold liesB
  rcases hn : findB bs p with _ | b
  · rw [hn] at hf
    simp only [findR] at hf
    clear hn
    go_enter Try.func39, Try.ntmps39
    go_wp2_with (go_at_call 38; refine hf.mono ?_; rintro e w' ⟨rfl, hb⟩)
    go_ret
    exact ⟨rfl, hb.alloc hb.size _⟩
  · rw [hn] at hf
    simp only [findR] at hf
    clear hn
    go_enter Try.func39, Try.ntmps39
    go_wp2_with (go_at_call 38; refine hf.mono ?_; rintro e w' ⟨rfl, hb⟩)
    go_ret
    exact ⟨rfl, hb.alloc hb.size _⟩

set_option maxHeartbeats 400000 in
theorem of_any {A B : Nat} {ws : List Int} {w : World} (h : Ar w A B ws) (p c : Nat) (hc : c ≤ 5) (hp : p + sz c ≤ ws.length) :
    Calls Try.prog 33 #[.pointer (some ⟨A, 0, none⟩), .agg #[.int .i64 p, .int .i64 c]] w fun e W' => e = .returned (.slice (some ⟨B, p, none⟩) (sz c) (ws.length - p)) ∧ Below w.heap.size w W' := by
  have hA := h.ha
  have hlt := h.ltA
  have hhi := h.hi
  obtain ⟨z1, z2⟩ := sz_le hc
  have hneA : A ≠ w.heap.size := by omega
  go_enter Try.func33, Try.ntmps33
  go_wp2
  go_quiet ((go_at_call 32; exact Calls.quiet_of_same ((wide_any c _ hc).mono fun _ _ h => ⟨h.1, h.2.symm⟩)))
  go_wp2
  go_ret
  exact ⟨by rw [Nat.add_sub_cancel_left]; rfl, bDrewN ((Below.refl _ w).alloc (Nat.le_refl _) _) _⟩

/-- n words from p on are noughts. -/
def zset (ws : List Int) : Nat → Nat → List Int
  | _, 0 => ws
  | p, n + 1 => zset (ws.set p 0) (p + 1) n
theorem zset_len : ∀ (n : Nat) (ws : List Int) (p : Nat), (zset ws p n).length = ws.length
  | 0, _, _ => rfl
  | n + 1, ws, p => by rw [zset, zset_len n]; simp
theorem rd_set (ws : List Int) (i j : Nat) (x : Int) : rd (ws.set i x) j = if i = j ∧ i < ws.length then x else rd ws j := by
  unfold rd
  by_cases h : i = j
  · subst h
    by_cases hl : i < ws.length <;> simp [hl]
  · simp [h]
theorem rd_zset : ∀ (n : Nat) (ws : List Int) (p i : Nat), p + n ≤ ws.length → rd (zset ws p n) i = if p ≤ i ∧ i < p + n then 0 else rd ws i
  | 0, _, _, _, _ => by simp [zset]; omega
  | n + 1, ws, p, i, h => by
    rw [zset, rd_zset n _ _ _ (by simp; omega), rd_set]
    by_cases h1 : p + 1 ≤ i ∧ i < p + 1 + n
    · rw [if_pos h1, if_pos (by omega)]
    · rw [if_neg h1]
      by_cases h2 : p = i
      · rw [if_pos (by omega), if_pos (by omega)]
      · rw [if_neg (by omega), if_neg (by omega)]
theorem Ar.zset {A B : Nat} : ∀ (n : Nat) {ws : List Int} {w : World} (p : Nat), Ar w A B ws → Ar (w.setCells B p (List.replicate n (.int .u32 0))) A B (zset ws p n)
  | 0, _, _, _, h => h
  | n + 1, _, _, p, h => by
    show Ar (World.setCells _ B p (Value.int .u32 0 :: List.replicate n (.int .u32 0))) A B _
    rw [World.setCells]
    exact Ar.zset n (p + 1) (h.set p (by omega) (by omega))
theorem Wr.zset {B : Nat} (v : Value) : ∀ (n : Nat) (w : World) (p : Nat), Wr B w (w.setCells B p (List.replicate n v))
  | 0, w, _ => Wr.refl B w
  | n + 1, w, p => by
    show Wr B w (World.setCells _ B p (v :: List.replicate n v))
    rw [World.setCells]
    exact (Wr.setCell B p w v).trans (Wr.zset v n _ (p + 1))

end Go.Proofs.Ytifhimdhmlmgkaa
