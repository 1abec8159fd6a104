/- New. -/
import Derived.Test.YtifhimdhmlmgkaaA12
import Derived.Deep.OwnRows
namespace Go.Proofs.Ytifhimdhmlmgkaa
open Go.RowKit

set_option maxHeartbeats 400000 in
theorem new_bad (n : Int) (w : World) (hn : n < 64 ∨ 16384 < n) :
    Calls Try.prog 9 #[.int .i64 n] w fun e W' => e = .returned (.tuple #[.pointer none, .int .i64 2]) ∧ w = W' := by
  rcases hn with hn | hn
  · go_enter Try.func9, Try.ntmps9
    go_wp2
    go_ret2
    exact ⟨rfl, rfl⟩
  · have h0 : ¬ n < 64 := by omega
    go_enter Try.func9, Try.ntmps9
    go_wp2
    go_ret2
    exact ⟨rfl, rfl⟩

set_option maxRecDepth 100000 in
set_option maxHeartbeats 1000000 in
theorem new_any (n : Nat) (w : World) (h0 : 64 ≤ n) (h1 : n ≤ 16384) :
    Calls Try.prog 9 #[.int .i64 n] w fun e W' => e = .returned (.tuple #[.pointer (some ⟨w.heap.size + 1, 0, none⟩), .int .i64 0]) ∧ Below w.heap.size w W' ∧ Ar W' (w.heap.size + 1) w.heap.size (((List.replicate n (0 : Int)).set 0 (n : Int)).set 15 16) := by
  have h0' : ¬ (n : Int) < 64 := by omega
  have h1' : ¬ (16384 : Int) < n := by omega
  have hmk := fun (W : World) => run_make_row' (P := Try.prog) 75 23 (.int .u32 0) 4 Try.underlying75 (by kernel_rfl) rfl .i64 .i64 n (by omega) (by omega) W
  have hmc : madeCells #[Value.int .u32 0] n = Array.replicate n (Value.int .u32 0) := by
    apply Array.ext
    · simp [size_madeCells]
    · intro i hi1 hi2
      simp [madeCells, Nat.mod_one]
  rw [hmc] at hmk
  clear hmc
  go_enter Try.func9, Try.ntmps9
  go_wp2_with fail
  obtain ⟨W1, hW1⟩ : ∃ W1, (w.alloc (.cells (Array.replicate n (Value.int .u32 0)) 23)).alloc (.cells #[.slice (some ⟨w.heap.size, 0, none⟩) n n] 77) = W1 := ⟨_, rfl⟩
  have hb1 : Below w.heap.size w W1 := by rw [← hW1]; exact ((Below.refl _ w).alloc (Nat.le_refl _) _).alloc (by simp) _
  have ha : At W1 (w.heap.size + 1) 77 #[.slice (some ⟨w.heap.size, 0, none⟩) n n] := by
    rw [← hW1]
    have := At.new (w.alloc (.cells (Array.replicate n (Value.int .u32 0)) 23)) 77 #[.slice (some ⟨w.heap.size, 0, none⟩) n n]
    simpa using this
  have hbb : At W1 w.heap.size 23 ((List.replicate n (0 : Int)).map (Value.int .u32)).toArray := by
    rw [← hW1]
    have := (At.new w 23 (Array.replicate n (Value.int .u32 0))).alloc (.cells #[.slice (some ⟨w.heap.size, 0, none⟩) n n] 77)
    simpa using this
  have har : Ar W1 (w.heap.size + 1) w.heap.size (List.replicate n (0 : Int)) := ⟨by rw [ha.cell 0]; simp, by have := show W1.heap[w.heap.size]? = _ from hbb; simpa using this, by omega, by intro x hx; rw [List.eq_of_mem_replicate hx]; omega, by simpa using h0, by simpa using h1⟩
  rw [hW1]
  clear hW1 hmk ha hbb
  have hA := har.ha
  rw [List.length_replicate] at hA
  have c0 := har.cell (i := 0) (by simp; omega)
  have c15 := har.cell (i := 15) (by simp; omega)
  have f0 := har.free 0
  have f15 := har.free 15
  have l0 : (0 : Int) < n := by omega
  have l15 : (15 : Int) < n := by omega
  have hlt := har.ltA
  have hltB := har.ltB
  go_region
  go_wp2_with fail
  go_ret2
  refine ⟨rfl, ?_, ?_⟩
  · exact (((hb1.setCell (p := ⟨w.heap.size, 0, none⟩) (Nat.le_refl _) _).setCell (p := ⟨w.heap.size, 15, none⟩) (Nat.le_refl _) _)).drew
  · exact Ar_drew.2 ((har.set 0 (by omega) (by omega)).set 15 (by omega) (by omega))
end Go.Proofs.Ytifhimdhmlmgkaa
