/- Contracts of the arena's small functions. -/
import Derived.Test.YtifhimdhmlmgkaaProg
import Derived.Test.YtifhimdhmlmgkaaB0
import Derived.Deep.QuietTactic
import Derived.BigQuiet
namespace Go.Proofs.Ytifhimdhmlmgkaa
open Go.RowKit

theorem ret_int {k : IntKind} {a b : Int} (h : a = b) : Ending.returned (.int k a) = .returned (.int k b) := by rw [h]

set_option maxHeartbeats 400000 in
theorem classed_any (c : Int) (w : World) :
    Calls Try.prog 31 #[.int .i64 c] w fun e w' => e = .returned (.bool (decide (0 ≤ c) && decide (c ≤ 5))) ∧ w = w' := by
  by_cases h0 : 0 ≤ c
  · by_cases h5 : c ≤ 5
    · go_enter Try.func31, Try.ntmps31
      go_wp2
      go_ret
      exact ⟨by simp; omega, rfl⟩
    · go_enter Try.func31, Try.ntmps31
      go_wp2
      go_ret
      exact ⟨by simp; omega, rfl⟩
  · go_enter Try.func31, Try.ntmps31
    go_wp2
    go_ret
    exact ⟨by simp; omega, rfl⟩

theorem or_two (x y : Int) (hx0 : 0 ≤ x) (hx : x < 4294967296) (hy0 : 0 ≤ y) (hy : y < 4294967296) : bits BinOp.or IntKind.u64 (x * 4294967296) y = x * 4294967296 + y := by
  obtain ⟨a, rfl⟩ := Int.eq_ofNat_of_zero_le hx0
  obtain ⟨b, rfl⟩ := Int.eq_ofNat_of_zero_le hy0
  have e : ((a : Int) * 4294967296) = ((a * 4294967296 : Nat) : Int) := by omega
  rw [e, bits_or_u64_nat _ _ (by omega) (by omega)]
  have := Nat.two_pow_add_eq_or_of_lt (i := 32) (b := b) (by omega) a
  have h2 : a * 4294967296 ||| b = a * 4294967296 + b := by
    rw [show a * 4294967296 = 2 ^ 32 * a by omega]; exact this.symm
  rw [h2]; omega

set_option maxHeartbeats 400000 in
theorem two_any (b o : Nat) (x y : Int) (w : World) (hx0 : 0 ≤ x) (hx : x < 4294967296) (hy0 : 0 ≤ y) (hy : y < 4294967296)
    (h0 : w.cell? ⟨b, o, none⟩ = some (.int .u32 x)) (h1 : w.cell? ⟨b, o + 1, none⟩ = some (.int .u32 y)) :
    Calls Try.prog 36 #[.pointer (some ⟨b, o, none⟩)] w fun e w' => e = .returned (.int .u64 (x * 4294967296 + y)) ∧ ∃ n, w.drewN n = w' := by
  go_enter Try.func36, Try.ntmps36
  go_wp2
  go_quiet (fail)
  go_wp2
  go_ret
  exact ⟨by rw [or_two x y hx0 hx hy0 hy]; rfl, _, rfl⟩

/-- How many words a class has. -/
def sz (c : Nat) : Nat := 2 ^ c
theorem sz_le {c : Nat} (h : c ≤ 5) : 1 ≤ sz c ∧ sz c ≤ 32 := by
  obtain rfl | rfl | rfl | rfl | rfl | rfl : c = 0 ∨ c = 1 ∨ c = 2 ∨ c = 3 ∨ c = 4 ∨ c = 5 := by omega
  all_goals decide
theorem sz_pos (c : Nat) : 0 < sz c := Nat.two_pow_pos c

set_option maxHeartbeats 400000 in
theorem wide_any (c : Nat) (w : World) (hc : c ≤ 5) :
    Calls Try.prog 32 #[.int .i64 c] w fun e w' => e = .returned (.int .i64 (sz c : Nat)) ∧ w = w' := by
  obtain rfl | rfl | rfl | rfl | rfl | rfl : c = 0 ∨ c = 1 ∨ c = 2 ∨ c = 3 ∨ c = 4 ∨ c = 5 := by omega
  all_goals
    go_enter Try.func32, Try.ntmps32
    go_wp2
    go_ret
    exact ⟨ret_int (by decide), rfl⟩

theorem run_arrayAt (a : Addr) (n c : Nat) (w : World) (h : 2 ≤ n) : (Instr.arrayAt 156 (.slice (some a) n c)).run Try.prog w = .ok (.pointer (some a)) w := by
  have hu : ∀ w, (underlying 156).run Try.prog w = .ok (.array 2 23) w := fun w => by kernel_rfl
  unfold Instr.arrayAt
  simp [Sem.run_bind, hu, Result.andThen]
  omega

set_option maxRecDepth 100000 in
set_option maxHeartbeats 400000 in
theorem pair_any (A B n : Nat) (i : Nat) (w : World) (hi : i + 2 ≤ n) (hn : n ≤ 16384) (ha : w.cell? ⟨A, 0, none⟩ = some (.slice (some ⟨B, 0, none⟩) n n)) :
    Calls Try.prog 37 #[.pointer (some ⟨A, 0, none⟩), .int .i64 i] w fun e w' => e = .returned (.pointer (some ⟨B, i, none⟩)) ∧ w = w' := by
  have hr := fun w => run_arrayAt ⟨B, i, none⟩ 2 (n - i) w (by omega)
  go_enter Try.func37, Try.ntmps37
  go_wp2
  go_ret
  exact ⟨rfl, rfl⟩

set_option maxHeartbeats 400000 in
theorem put_any (b o : Nat) (x y : Int) (z : Int) (w : World) (hz : 0 ≤ z) (hz' : z < 18446744073709551616) (h0 : w.cell? ⟨b, o, none⟩ = some (.int .u32 x)) (h1 : w.cell? ⟨b, o + 1, none⟩ = some (.int .u32 y)) (f0 : w.frozen? ⟨b, o, none⟩ = false) (f1 : w.frozen? ⟨b, o + 1, none⟩ = false) :
    Calls Try.prog 40 #[.pointer (some ⟨b, o, none⟩), .int .u64 z] w fun e w' => e = .returned (.tuple #[]) ∧ ∃ n, ((w.setCell ⟨b, o, none⟩ (.int .u32 (z / 4294967296))).setCell ⟨b, o + 1, none⟩ (.int .u32 (z % 4294967296))).drewN n = w' := by
  go_enter Try.func40, Try.ntmps40
  go_wp2
  go_region
  go_wp2
  go_end0
  exact ⟨rfl, _, rfl⟩

set_option maxHeartbeats 400000 in
theorem class_any (c : Nat) (hd : Int) (w : World) (h0 : 16 + 2 * c ≤ hd) (h1 : hd ≤ 17 + 2 * c) (hc : c ≤ 5) :
    Calls Try.prog 72 #[.int .u32 hd] w fun e w' => e = .returned (.int .i64 c) ∧ w = w' := by
  go_enter Try.func72, Try.ntmps72
  go_wp2
  go_ret
  exact ⟨ret_int (by omega), rfl⟩

/-- A block: its place, its class, whether it is taken. -/
structure Blk where
  place : Nat
  cls : Nat
  taken : Bool

instance : DecidableEq Blk := fun a b => decidable_of_iff (a.place = b.place ∧ a.cls = b.cls ∧ a.taken = b.taken) (by cases a; cases b; simp)
instance : Inhabited Blk := ⟨⟨0, 0, false⟩⟩

/-- Block stands behind block from a word on up to another one. -/
def Chain (ws : List Int) : Nat → List Blk → Nat → Prop
  | at_, [], e => at_ = e
  | at_, b :: bs, e => b.place = at_ + 1 ∧ b.cls ≤ 5 ∧ rd ws at_ = 16 + 2 * b.cls + (if b.taken then 1 else 0) ∧ Chain ws (at_ + 1 + sz b.cls) bs e

theorem Chain.le {ws : List Int} : ∀ {bs : List Blk} {a e : Nat}, Chain ws a bs e → a ≤ e
  | [], _, _, h => Nat.le_of_eq h
  | b :: _, _, _, ⟨_, _, _, h⟩ => by have := h.le; have := sz_pos b.cls; omega

end Go.Proofs.Ytifhimdhmlmgkaa
