/- A number goes behind bytes. -/
import Derived.Test.YtifhimdhmlmgkaaE1
import Derived.Laws.Bits64b
namespace Go.Proofs.Ytifhimdhmlmgkaa
open Go.RowKit

def be4 (x : Int) : List Int := [x / 16777216 % 256, x / 65536 % 256, x / 256 % 256, x % 256]

theorem and255 (y : Int) (h0 : 0 ≤ y) (h1 : y < 18446744073709551616) : bits .and .u64 y 255 = y % 256 := by
  obtain ⟨n, rfl⟩ : ∃ n : Nat, y = n := ⟨y.toNat, by omega⟩
  have := bits_and_u64_nat n 255 (by omega) (by omega)
  rw [show ((255 : Nat) : Int) = 255 from rfl] at this
  rw [this]
  have e : n &&& 255 = n % 256 := Nat.and_two_pow_sub_one_eq_mod n 8
  rw [e]
  rfl

theorem step0 (x : Int) (h0 : 0 ≤ x) (h1 : x < 4294967296) : bits .and .u64 (x / 16777216) 255 % 256 = x / 16777216 % 256 := by rw [and255 _ (by omega) (by omega)]; omega
theorem step1 (x : Int) (h0 : 0 ≤ x) (h1 : x < 4294967296) : bits .and .u64 (x / 65536) 255 % 256 = x / 65536 % 256 := by rw [and255 _ (by omega) (by omega)]; omega
theorem step2 (x : Int) (h0 : 0 ≤ x) (h1 : x < 4294967296) : bits .and .u64 (x / 256) 255 % 256 = x / 256 % 256 := by rw [and255 _ (by omega) (by omega)]; omega
theorem step3 (x : Int) (h0 : 0 ≤ x) (h1 : x < 4294967296) : bits .and .u64 x 255 % 256 = x % 256 := by rw [and255 _ (by omega) (by omega)]; omega

/-- An append to one's own row, behind a block for what is appended. -/
theorem below_app {B : Nat} {e : TypeId} {size : Nat} {v : Value} {n : Nat} {xs : List Value} {w wr w' : World} {o : Obj} (h : wr.ownsRow B e size v n xs) (hb : Below B w wr) (hg : (wr.alloc o).grownBy w' v.ownBlock) (hB : B ≤ w.heap.size) : Below B w w' := by
  refine hb.trans ⟨hg.os, hg.tape, hg.output, ?_, fun k hk => ?_⟩
  · have := hg.size; simp at this; omega
  · have hk' : k < wr.heap.size := Nat.lt_of_lt_of_le hk (Nat.le_trans hB hb.size)
    rw [hg.block k (by simp; omega) (fun e => by have := h.lt k e.symm; omega)]
    exact Below.heap_alloc wr o k hk'

set_option maxHeartbeats 2000000 in
set_option maxRecDepth 100000 in
theorem goes_any {v : Value} {xs : List Int} {n0 : Nat} {w : World} (h : Byt w n0 v xs) (x : Int) (hx0 : 0 ≤ x) (hx1 : x < 4294967296) (hl : xs.length ≤ 1099511627000) :
    Calls Try.prog 65 #[v, .int .u64 x, .int .i64 4] w fun e w' => ∃ v', e = .returned v' ∧ Byt w' w.heap.size v' (xs ++ be4 x) ∧ Below w.heap.size w w' := by
  have hcl := clone_any h
  obtain ⟨n, hn⟩ : ∃ n, xs.length = n := ⟨_, rfl⟩
  rw [hn] at hcl hl
  obtain ⟨i0, hi, hz0, hz1, hz2⟩ := info_parts info5
  go_enter Try.func65, Try.ntmps65
  go_wp2_with (go_at_call 70; refine hcl.mono ?_; rintro e w1 ⟨v1, rfl, o1, b1⟩)
  refine (grow_any 4 (by omega) b1.size o1 (by omega)).mono ?_
  rintro e w2 ⟨v2, rfl, o2, b2⟩
  have b2' := b1.trans (b2.mono b1.size)
  go_wp2_with fail
  go_loopw [14, 7] (fun i u wr => ∃ (k : Nat), i = .int .i64 k ∧ k ≤ 4 ∧ wr.ownsRow w.heap.size 5 1 u (n + k) (u8s (xs ++ (be4 x).take k)) ∧ Below w.heap.size w wr) (fun i _ _ => 4 - (intOf i).toNat)
  case atStart => exact ⟨0, rfl, by omega, by simpa using o2, b2'⟩
  case round =>
    obtain ⟨k, rfl, hk, ho, hb⟩ := hrel
    clear o1 b1 o2 b2 b2' hcl h
    have hs := hb.size
    obtain rfl | rfl | rfl | rfl | rfl : k = 0 ∨ k = 1 ∨ k = 2 ∨ k = 3 ∨ k = 4 := by omega
    · go_wp2_with (at_builtin; refine wpList_append_own _ rfl _ _ 54 rfl w.heap.size 5 i0 (.int .u8 0) 1 1 Try.underlying54 hi hz0 hz1 hz2 rfl (by decide) _ _ _ rfl (ho.alloc _) ⟨wr.heap.size, 0, none⟩ 1 1 [.int .u8 (bits .and .u64 (x / 16777216) 255 % 256)] rfl rfl (cell_one_new _ _ _) (by simp [Value.oneCell']) (by unfold maxLen; omega) (by omega) (by simp; omega) ?_; intro v' w1' hown' hgrow _)
      go_roundw
      case rel => exact ⟨1, by go_num, by omega, by rw [step0 x hx0 hx1] at hown'; simpa [u8s, be4] using hown', below_app ho hb hgrow (Nat.le_refl _)⟩
      case measure => simp [intOf]
    · go_wp2_with (at_builtin; refine wpList_append_own _ rfl _ _ 54 rfl w.heap.size 5 i0 (.int .u8 0) 1 1 Try.underlying54 hi hz0 hz1 hz2 rfl (by decide) _ _ _ rfl (ho.alloc _) ⟨wr.heap.size, 0, none⟩ 1 1 [.int .u8 (bits .and .u64 (x / 65536) 255 % 256)] rfl rfl (cell_one_new _ _ _) (by simp [Value.oneCell']) (by unfold maxLen; omega) (by omega) (by simp; omega) ?_; intro v' w1' hown' hgrow _)
      go_roundw
      case rel => exact ⟨2, by go_num, by omega, by rw [step1 x hx0 hx1] at hown'; simpa [u8s, be4] using hown', below_app ho hb hgrow (Nat.le_refl _)⟩
      case measure => simp [intOf]
    · go_wp2_with (at_builtin; refine wpList_append_own _ rfl _ _ 54 rfl w.heap.size 5 i0 (.int .u8 0) 1 1 Try.underlying54 hi hz0 hz1 hz2 rfl (by decide) _ _ _ rfl (ho.alloc _) ⟨wr.heap.size, 0, none⟩ 1 1 [.int .u8 (bits .and .u64 (x / 256) 255 % 256)] rfl rfl (cell_one_new _ _ _) (by simp [Value.oneCell']) (by unfold maxLen; omega) (by omega) (by simp; omega) ?_; intro v' w1' hown' hgrow _)
      go_roundw
      case rel => exact ⟨3, by go_num, by omega, by rw [step2 x hx0 hx1] at hown'; simpa [u8s, be4] using hown', below_app ho hb hgrow (Nat.le_refl _)⟩
      case measure => simp [intOf]
    · go_wp2_with (at_builtin; refine wpList_append_own _ rfl _ _ 54 rfl w.heap.size 5 i0 (.int .u8 0) 1 1 Try.underlying54 hi hz0 hz1 hz2 rfl (by decide) _ _ _ rfl (ho.alloc _) ⟨wr.heap.size, 0, none⟩ 1 1 [.int .u8 (bits .and .u64 x 255 % 256)] rfl rfl (cell_one_new _ _ _) (by simp [Value.oneCell']) (by unfold maxLen; omega) (by omega) (by simp; omega) ?_; intro v' w1' hown' hgrow _)
      go_roundw
      case rel => exact ⟨4, by go_num, by omega, by rw [step3 x hx0 hx1] at hown'; simpa [u8s, be4] using hown', below_app ho hb hgrow (Nat.le_refl _)⟩
      case measure => simp [intOf]
    · have hfin : List.take 4 (be4 x) = be4 x := rfl
      rw [hfin] at ho
      go_wp2_with fail
      refine (clip_any ho (by omega)).mono ?_
      rintro e w3 ⟨v3, rfl, ho3, rfl⟩
      go_wp2_with fail
      go_ret
      exact ⟨v3, rfl, ho3, hb⟩

end Go.Proofs.Ytifhimdhmlmgkaa
