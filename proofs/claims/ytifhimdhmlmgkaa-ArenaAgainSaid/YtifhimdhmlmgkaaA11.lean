/- Publish. -/
import Derived.Test.YtifhimdhmlmgkaaA10
namespace Go.Proofs.Ytifhimdhmlmgkaa
open Go.RowKit

/-- What keeps Publish from it. -/
def pubE (ws : List Int) (bs : List Blk) (v ep f s : Int) : Int :=
  if ep < u64at ws 7 then 161 else if v = 0 ∨ v - 1 ≠ u64at ws 1 then 162 else if liesB bs f = false ∨ liesB bs s = false then 4 else 0

def rootA (v ep f s : Int) : Value := .agg #[.int .u64 v, .int .u64 ep, .int .i64 f, .int .i64 s]

set_option maxRecDepth 100000 in
set_option maxHeartbeats 1000000 in
theorem pub_fence {A B : Nat} {ws : List Int} (v ep f s : Int) {w : World} (h : Ar w A B ws) (he : ep < u64at ws 7) :
    Calls Try.prog 21 #[.pointer (some ⟨A, 0, none⟩), .agg #[.int .u64 v, .int .u64 ep, .int .i64 f, .int .i64 s]] w fun e W' => e = .returned (.int .i64 161) ∧ Below w.heap.size w W' := by
  have hlo := h.lo
  have h1 : ∀ n, Ar ((w.alloc (Obj.cells #[.int .u64 v, .int .u64 ep, .int .i64 f, .int .i64 s] 46)).drewN n) A B ws := fun n => (h.next ((Below.refl _ _).alloc (Nat.le_refl _) _)).drewN n
  go_enter Try.func21, Try.ntmps21
  go_wp2
  go_quiet ((first | (go_at_call 37; exact Calls.quiet_of_same ((pair_at (h1 _) 7 (by omega)).mono fun _ _ h => ⟨h.1, h.2.symm⟩)) | (go_at_call 36; exact Calls.quiet_of ((two_at (h1 _) 7 (by omega)).mono fun _ _ h => ⟨h.1, h.2.elim fun n e => ⟨n, e.symm⟩⟩))))
  go_wp2_with fail
  go_ret
  exact ⟨rfl, bDrewN ((Below.refl _ w).alloc (Nat.le_refl _) _) _⟩

set_option maxRecDepth 100000 in
set_option maxHeartbeats 1000000 in
theorem pub_zero {A B : Nat} {ws : List Int} (ep f s : Int) {w : World} (h : Ar w A B ws) (he : u64at ws 7 ≤ ep) :
    Calls Try.prog 21 #[.pointer (some ⟨A, 0, none⟩), .agg #[.int .u64 0, .int .u64 ep, .int .i64 f, .int .i64 s]] w fun e W' => e = .returned (.int .i64 162) ∧ Below w.heap.size w W' := by
  have hlo := h.lo
  have he' : ¬ ep < u64at ws 7 := by omega
  have h1 : ∀ n, Ar ((w.alloc (Obj.cells #[.int .u64 0, .int .u64 ep, .int .i64 f, .int .i64 s] 46)).drewN n) A B ws := fun n => (h.next ((Below.refl _ _).alloc (Nat.le_refl _) _)).drewN n
  go_enter Try.func21, Try.ntmps21
  go_wp2
  go_quiet ((first | (go_at_call 37; exact Calls.quiet_of_same ((pair_at (h1 _) 7 (by omega)).mono fun _ _ h => ⟨h.1, h.2.symm⟩)) | (go_at_call 36; exact Calls.quiet_of ((two_at (h1 _) 7 (by omega)).mono fun _ _ h => ⟨h.1, h.2.elim fun n e => ⟨n, e.symm⟩⟩))))
  go_wp2_with fail
  have q0 : ((0 : Int) == 0) = true := rfl
  go_quiet (fail)
  go_wp2_with fail
  go_ret
  exact ⟨rfl, bDrewN (bDrewN ((Below.refl _ w).alloc (Nat.le_refl _) _) _) _⟩

set_option maxRecDepth 100000 in
set_option maxHeartbeats 1000000 in
theorem pub_ver {A B : Nat} {ws : List Int} {bs : List Blk} {edge : Nat} (v ep f s : Int) {w : World} (H : Arb w A B ws bs edge) (he : u64at ws 7 ≤ ep) (hv0 : 1 ≤ v) (hv1 : v < 18446744073709551616) (hv : v - 1 ≠ u64at ws 1) :
    Calls Try.prog 21 #[.pointer (some ⟨A, 0, none⟩), .agg #[.int .u64 v, .int .u64 ep, .int .i64 f, .int .i64 s]] w fun e W' => e = .returned (.int .i64 162) ∧ Below w.heap.size w W' := by
  have h := H.ar
  have hlo := h.lo
  have hhi := h.hi
  have he' : ¬ ep < u64at ws 7 := by omega
  obtain ⟨u0, u1⟩ := u64at_rng h.rng 1
  have h1 : ∀ n, Ar ((w.alloc (Obj.cells #[.int .u64 v, .int .u64 ep, .int .i64 f, .int .i64 s] 46)).drewN n) A B ws := fun n => (h.next ((Below.refl _ _).alloc (Nat.le_refl _) _)).drewN n
  have qv : (v == 0) = false := by simp; omega
  have qn : (v - 1 != u64at ws 1) = true := by simp; omega
  go_enter Try.func21, Try.ntmps21
  go_wp2
  go_quiet ((first | (go_at_call 37; exact Calls.quiet_of_same ((pair_at (h1 _) 7 (by omega)).mono fun _ _ h => ⟨h.1, h.2.symm⟩)) | (go_at_call 36; exact Calls.quiet_of ((two_at (h1 _) 7 (by omega)).mono fun _ _ h => ⟨h.1, h.2.elim fun n e => ⟨n, e.symm⟩⟩))))
  go_wp2_with fail
  obtain ⟨W1, hW1⟩ : ∃ W1, (w.alloc (Obj.cells #[.int .u64 v, .int .u64 ep, .int .i64 f, .int .i64 s] 46)).drewN nq = W1 := ⟨_, rfl⟩
  have hb1 : Below w.heap.size w W1 := by rw [← hW1]; exact bDrewN ((Below.refl _ w).alloc (Nat.le_refl _) _) _
  have hx1 : At W1 w.heap.size 46 #[.int .u64 v, .int .u64 ep, .int .i64 f, .int .i64 s] := by rw [← hW1]; exact (At.new w 46 _).drewN nq
  have h2 := h1 nq
  rw [hW1] at h2 ⊢
  clear hW1 h1
  have x0 := hx1.cell 0
  have x1 := hx1.cell 1
  have x2 := hx1.cell 2
  have x3 := hx1.cell 3
  simp only [List.getElem?_toArray, List.getElem?_cons_zero, List.getElem?_cons_succ] at x0 x1 x2 x3
  go_quiet ((first | (go_at_call 37; exact Calls.quiet_of_same ((pair_at (h2.drewN _) 1 (by omega)).mono fun _ _ h => ⟨h.1, h.2.symm⟩)) | (go_at_call 36; exact Calls.quiet_of ((two_at (h2.drewN _) 1 (by omega)).mono fun _ _ h => ⟨h.1, h.2.elim fun n e => ⟨n, e.symm⟩⟩))))
  go_wp2_with fail
  go_ret
  exact ⟨rfl, bDrewN hb1 _⟩

set_option maxRecDepth 100000 in
set_option maxHeartbeats 1000000 in
theorem pub_four {A B : Nat} {ws : List Int} {bs : List Blk} {edge : Nat} (v ep f s : Int) {w : World} (H : Arb w A B ws bs edge) (he : u64at ws 7 ≤ ep) (hv0 : 1 ≤ v) (hv1 : v < 18446744073709551616) (hv : v - 1 = u64at ws 1) (hf : liesB bs f = false) :
    Calls Try.prog 21 #[.pointer (some ⟨A, 0, none⟩), .agg #[.int .u64 v, .int .u64 ep, .int .i64 f, .int .i64 s]] w fun e W' => e = .returned (.int .i64 4) ∧ Below w.heap.size w W' := by
  have h := H.ar
  have hlo := h.lo
  have hhi := h.hi
  have he' : ¬ ep < u64at ws 7 := by omega
  obtain ⟨u0, u1⟩ := u64at_rng h.rng 1
  have h1 : ∀ n, Ar ((w.alloc (Obj.cells #[.int .u64 v, .int .u64 ep, .int .i64 f, .int .i64 s] 46)).drewN n) A B ws := fun n => (h.next ((Below.refl _ _).alloc (Nat.le_refl _) _)).drewN n
  have qv : (v == 0) = false := by simp; omega
  have qn : (v - 1 != u64at ws 1) = false := by simp; omega
  go_enter Try.func21, Try.ntmps21
  go_wp2
  go_quiet ((first | (go_at_call 37; exact Calls.quiet_of_same ((pair_at (h1 _) 7 (by omega)).mono fun _ _ h => ⟨h.1, h.2.symm⟩)) | (go_at_call 36; exact Calls.quiet_of ((two_at (h1 _) 7 (by omega)).mono fun _ _ h => ⟨h.1, h.2.elim fun n e => ⟨n, e.symm⟩⟩))))
  go_wp2_with fail
  obtain ⟨W1, hW1⟩ : ∃ W1, (w.alloc (Obj.cells #[.int .u64 v, .int .u64 ep, .int .i64 f, .int .i64 s] 46)).drewN nq = W1 := ⟨_, rfl⟩
  have hb1 : Below w.heap.size w W1 := by rw [← hW1]; exact bDrewN ((Below.refl _ w).alloc (Nat.le_refl _) _) _
  have hx1 : At W1 w.heap.size 46 #[.int .u64 v, .int .u64 ep, .int .i64 f, .int .i64 s] := by rw [← hW1]; exact (At.new w 46 _).drewN nq
  have h2 := h1 nq
  rw [hW1] at h2 ⊢
  clear hW1 h1
  have x0 := hx1.cell 0
  have x1 := hx1.cell 1
  have x2 := hx1.cell 2
  have x3 := hx1.cell 3
  simp only [List.getElem?_toArray, List.getElem?_cons_zero, List.getElem?_cons_succ] at x0 x1 x2 x3
  go_quiet ((first | (go_at_call 37; exact Calls.quiet_of_same ((pair_at (h2.drewN _) 1 (by omega)).mono fun _ _ h => ⟨h.1, h.2.symm⟩)) | (go_at_call 36; exact Calls.quiet_of ((two_at (h2.drewN _) 1 (by omega)).mono fun _ _ h => ⟨h.1, h.2.elim fun n e => ⟨n, e.symm⟩⟩))))
  have hl : ∀ n, Calls Try.prog 39 #[.pointer (some ⟨A, 0, none⟩), .int .i64 f] (W1.drewN n) fun e W' => e = .returned (.bool false) ∧ Below (W1.drewN n).heap.size (W1.drewN n) W' := fun n => by
    have := lies_any f (w := W1.drewN n) ⟨h2.drewN n, H.ch, H.ed, H.le⟩
    rwa [hf] at this
  clear hf
  go_wp2_with (go_at_call 39; refine (hl _).mono ?_; rintro e w' ⟨rfl, hb⟩)
  go_ret
  exact ⟨rfl, (bDrewN hb1 _).trans (hb.mono (by show _ ≤ W1.heap.size; exact hb1.size))⟩

set_option maxRecDepth 100000 in
set_option maxHeartbeats 1000000 in
theorem pub_six {A B : Nat} {ws : List Int} {bs : List Blk} {edge : Nat} (v ep f s : Int) {w : World} (H : Arb w A B ws bs edge) (he : u64at ws 7 ≤ ep) (hv0 : 1 ≤ v) (hv1 : v < 18446744073709551616) (hv : v - 1 = u64at ws 1) (hf : liesB bs f = true) (hs : liesB bs s = false) :
    Calls Try.prog 21 #[.pointer (some ⟨A, 0, none⟩), .agg #[.int .u64 v, .int .u64 ep, .int .i64 f, .int .i64 s]] w fun e W' => e = .returned (.int .i64 4) ∧ Below w.heap.size w W' := by
  have h := H.ar
  have hlo := h.lo
  have hhi := h.hi
  have he' : ¬ ep < u64at ws 7 := by omega
  obtain ⟨u0, u1⟩ := u64at_rng h.rng 1
  have h1 : ∀ n, Ar ((w.alloc (Obj.cells #[.int .u64 v, .int .u64 ep, .int .i64 f, .int .i64 s] 46)).drewN n) A B ws := fun n => (h.next ((Below.refl _ _).alloc (Nat.le_refl _) _)).drewN n
  have qv : (v == 0) = false := by simp; omega
  have qn : (v - 1 != u64at ws 1) = false := by simp; omega
  go_enter Try.func21, Try.ntmps21
  go_wp2
  go_quiet ((first | (go_at_call 37; exact Calls.quiet_of_same ((pair_at (h1 _) 7 (by omega)).mono fun _ _ h => ⟨h.1, h.2.symm⟩)) | (go_at_call 36; exact Calls.quiet_of ((two_at (h1 _) 7 (by omega)).mono fun _ _ h => ⟨h.1, h.2.elim fun n e => ⟨n, e.symm⟩⟩))))
  go_wp2_with fail
  obtain ⟨W1, hW1⟩ : ∃ W1, (w.alloc (Obj.cells #[.int .u64 v, .int .u64 ep, .int .i64 f, .int .i64 s] 46)).drewN nq = W1 := ⟨_, rfl⟩
  have hb1 : Below w.heap.size w W1 := by rw [← hW1]; exact bDrewN ((Below.refl _ w).alloc (Nat.le_refl _) _) _
  have hx1 : At W1 w.heap.size 46 #[.int .u64 v, .int .u64 ep, .int .i64 f, .int .i64 s] := by rw [← hW1]; exact (At.new w 46 _).drewN nq
  have h2 := h1 nq
  rw [hW1] at h2 ⊢
  clear hW1 h1
  have x0 := hx1.cell 0
  have x1 := hx1.cell 1
  have x2 := hx1.cell 2
  have x3 := hx1.cell 3
  simp only [List.getElem?_toArray, List.getElem?_cons_zero, List.getElem?_cons_succ] at x0 x1 x2 x3
  go_quiet ((first | (go_at_call 37; exact Calls.quiet_of_same ((pair_at (h2.drewN _) 1 (by omega)).mono fun _ _ h => ⟨h.1, h.2.symm⟩)) | (go_at_call 36; exact Calls.quiet_of ((two_at (h2.drewN _) 1 (by omega)).mono fun _ _ h => ⟨h.1, h.2.elim fun n e => ⟨n, e.symm⟩⟩))))
  have hl : ∀ n, Calls Try.prog 39 #[.pointer (some ⟨A, 0, none⟩), .int .i64 f] (W1.drewN n) fun e W' => e = .returned (.bool true) ∧ Below W1.heap.size W1 W' := fun n => by
    have := lies_any f (w := W1.drewN n) ⟨h2.drewN n, H.ch, H.ed, H.le⟩
    rw [hf] at this
    exact this.mono fun e W' h => ⟨h.1, ⟨h.2.os, h.2.tape, h.2.output, h.2.size, h.2.block⟩⟩
  have hl2 : ∀ W, Below W1.heap.size W1 W → Calls Try.prog 39 #[.pointer (some ⟨A, 0, none⟩), .int .i64 s] W fun e W' => e = .returned (.bool false) ∧ Below W1.heap.size W1 W' := fun W hb => by
    have := lies_any s (w := W) ⟨h2.next hb, H.ch, H.ed, H.le⟩
    rw [hs] at this
    exact this.mono fun e W' h => ⟨h.1, hb.trans (h.2.mono hb.size)⟩
  clear hf hs
  have lx := hx1.lt
  go_wp2_with fail
  refine (hl _).mono ?_
  rintro e w' ⟨rfl, hb⟩
  have x3' := (hb.cell (p := ⟨w.heap.size, 3, none⟩) lx).trans x3
  go_wp2_with fail
  refine (hl2 _ hb).mono ?_
  rintro e w'' ⟨rfl, hb'⟩
  go_wp2
  go_ret
  exact ⟨rfl, hb1.trans (hb'.mono hb1.size)⟩

end Go.Proofs.Ytifhimdhmlmgkaa
