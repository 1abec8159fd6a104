/- The root. -/
import Derived.Test.YtifhimdhmlmgkaaA5
import Derived.Deep.RegionHeld3
namespace Go.Proofs.Ytifhimdhmlmgkaa
open Go.RowKit

theorem Ar_drew {w : World} {A B : Nat} {ws : List Int} : Ar w.drew A B ws ↔ Ar w A B ws := ⟨fun h => ⟨h.ha, h.hb, h.ne, h.rng, h.lo, h.hi⟩, fun h => ⟨h.ha, h.hb, h.ne, h.rng, h.lo, h.hi⟩⟩
theorem Ar_drewN {w : World} {A B n : Nat} {ws : List Int} : Ar (w.drewN n) A B ws ↔ Ar w A B ws := ⟨fun h => ⟨h.ha, h.hb, h.ne, h.rng, h.lo, h.hi⟩, fun h => ⟨h.ha, h.hb, h.ne, h.rng, h.lo, h.hi⟩⟩
theorem heap_setCell_far {w : World} {a : Addr} {v : Value} {k : Nat} (h : k ≠ a.block) : (w.setCell a v).heap[k]? = w.heap[k]? := Below.heap_setCell w a v k h
theorem Ar_setCell {w : World} {A B : Nat} {ws : List Int} {a : Addr} {v : Value} (hA : A ≠ a.block) (hB : B ≠ a.block) : Ar (w.setCell a v) A B ws ↔ Ar w A B ws :=
  ⟨fun h => ⟨(World.cell?_of_block (a := ⟨A, 0, none⟩) (w := w) (heap_setCell_far hA)).symm.trans h.ha, (heap_setCell_far hB).symm.trans h.hb, h.ne, h.rng, h.lo, h.hi⟩,
   fun h => ⟨(World.cell?_of_block (a := ⟨A, 0, none⟩) (w := w) (heap_setCell_far hA)).trans h.ha, (heap_setCell_far hB).trans h.hb, h.ne, h.rng, h.lo, h.hi⟩⟩
attribute [local simp] Ar_drew Ar_drewN Ar_setCell

def rootV (ws : List Int) : Value := .agg #[.int .u64 (u64at ws 1), .int .u64 (u64at ws 3), .int .i64 (rd ws 5), .int .i64 (rd ws 6)]

theorem bDrewN {B : Nat} {a w : World} (h : Below B a w) (n : Nat) : Below B a (w.drewN n) := ⟨h.os, h.tape, h.output, h.size, h.block⟩

theorem pair_int {A B : Nat} {ws : List Int} {w : World} (h : Ar w A B ws) (i : Int) (h0 : 0 ≤ i) (hi : i.toNat + 2 ≤ ws.length) :
    Calls Try.prog 37 #[.pointer (some ⟨A, 0, none⟩), .int .i64 i] w fun e w' => e = .returned (.pointer (some ⟨B, i.toNat, none⟩)) ∧ w = w' := by
  obtain ⟨i, rfl⟩ := Int.eq_ofNat_of_zero_le h0
  exact pair_at h i hi

set_option maxRecDepth 100000 in
set_option maxHeartbeats 1000000 in
theorem root_any {A B : Nat} {ws : List Int} {w : World} (h : Ar w A B ws) :
    Calls Try.prog 18 #[.pointer (some ⟨A, 0, none⟩)] w fun e w' => e = .returned (rootV ws) ∧ Below w.heap.size w w' := by
  have hlo := h.lo
  have hhi := h.hi
  have hlt := h.ltA
  have hltB := h.ltB
  obtain ⟨h50, h51⟩ := rd_rng h.rng 5
  obtain ⟨h60, h61⟩ := rd_rng h.rng 6
  have h' : Ar (w.alloc (.cells #[.int .u64 0, .int .u64 0, .int .i64 0, .int .i64 0] 46)) A B ws := h.next ((Below.refl _ w).alloc (Nat.le_refl _) _)
  have hA := h'.ha
  have h5 := h'.cell (i := 5) (by omega)
  have h6 := h'.cell (i := 6) (by omega)
  have hneA : A ≠ w.heap.size := by omega
  have hneB : B ≠ w.heap.size := by omega
  have n1 := World.new_ne w ⟨A, 0, none⟩ h.ha
  have n2 := World.new_ne w ⟨B, 5, none⟩ (h.cell (by omega))
  have n3 := World.new_ne w ⟨B, 6, none⟩ (h.cell (by omega))
  have hl : ((5 : Int) < ws.length) := by omega
  have hl' : ((6 : Int) < ws.length) := by omega
  go_enter Try.func18, Try.ntmps18
  go_wp2_with fail
  go_region_held3 (fun w' => w'.cell? ⟨A, 0, none⟩ = some (.slice (some ⟨B, 0, none⟩) ws.length ws.length) ∧ w'.cell? ⟨B, 5, none⟩ = some (.int .u32 (rd ws 5)) ∧ w'.cell? ⟨B, 6, none⟩ = some (.int .u32 (rd ws 6)) ∧ Ar w' A B ws) (first | go_keep | (simp [*, World.cell?_setCell_far, hneA, hneB]; done))
    (first
      | (go_at_call 37; (with_reducible refine (pair_int (A := A) (B := B) (ws := ws) ?_ _ ?_ ?_).mono ?_); (simp [*]); omega; omega; rintro e w' ⟨rfl, rfl⟩)
      | (go_at_call 36; (with_reducible refine (two_at (A := A) (B := B) (ws := ws) ?_ _ ?_).mono ?_); (simp [*]); omega; rintro e w' ⟨rfl, n, rfl⟩))
  go_wp2
  have e5 : IntKind.i64.wrap (rd ws 5) = rd ws 5 := IntWalk.i64_in _ (by omega)
  have e6 : IntKind.i64.wrap (rd ws 6) = rd ws 6 := IntWalk.i64_in _ (by omega)
  simp only [e5, e6]
  refine bodyPost_ret (v := rootV ws) ?_ rfl ⟨rfl, ?_⟩
  · simp [results, Try.f18, go_sem, rootV]
  · exact (((((bDrewN ((Below.refl _ w).alloc (Nat.le_refl _) _) _).setCell (Nat.le_refl _) _).setCell (p := ⟨w.heap.size, 1, none⟩) (Nat.le_refl _) _).setCell (p := ⟨w.heap.size, 2, none⟩) (Nat.le_refl _) _).setCell (p := ⟨w.heap.size, 3, none⟩) (Nat.le_refl _) _)

end Go.Proofs.Ytifhimdhmlmgkaa
