/- Publish: what is published. -/
import Derived.Test.YtifhimdhmlmgkaaA11
import Derived.StillTailTactics
namespace Go.Proofs.Ytifhimdhmlmgkaa
open Go.RowKit

/-- The words behind a root that is published. -/
def pubW (ws : List Int) (v ep f s : Int) : List Int := ((put2 (put2 ws 1 v) 3 ep).set 5 f).set 6 s

theorem lies_rng {w : World} {A B : Nat} {ws : List Int} {bs : List Blk} {edge : Nat} (H : Arb w A B ws bs edge) {p : Int} (h : liesB bs p = true) : 0 ≤ p ∧ p ≤ 16384 := by
  unfold liesB at h
  rcases hn : findB bs p with _ | b
  · rw [hn] at h
    simp at h
    omega
  · obtain ⟨hm, _, hp⟩ := findB_some hn
    obtain ⟨m1, m2, m3⟩ := H.ch.mem b hm
    have := H.le
    have := H.ar.hi
    omega

set_option maxRecDepth 100000 in
set_option maxHeartbeats 1000000 in
theorem pub_ok {A B : Nat} {ws : List Int} {bs : List Blk} {edge : Nat} (v ep f s : Int) {w : World} (H : Arb w A B ws bs edge) (he : u64at ws 7 ≤ ep) (hv0 : 1 ≤ v) (hv1 : v < 18446744073709551616) (hv : v - 1 = u64at ws 1) (hf : liesB bs f = true) (hs : liesB bs s = true) (hep : ep < 18446744073709551616) (hep0 : 0 ≤ ep) :
    Calls Try.prog 21 #[.pointer (some ⟨A, 0, none⟩), .agg #[.int .u64 v, .int .u64 ep, .int .i64 f, .int .i64 s]] w fun e W' => e = .returned (.int .i64 0) ∧ Wr B w W' ∧ Ar W' A B (pubW ws v ep f s) := by
  have h := H.ar
  have hltB := h.ltB
  have hlo := h.lo
  have hhi := h.hi
  have he' : ¬ ep < u64at ws 7 := by omega
  obtain ⟨u0, u1⟩ := u64at_rng h.rng 1
  have h1 : ∀ n, Ar ((w.alloc (Obj.cells #[.int .u64 v, .int .u64 ep, .int .i64 f, .int .i64 s] 46)).drewN n) A B ws := fun n => (h.next ((Below.refl _ _).alloc (Nat.le_refl _) _)).drewN n
  have qv : (v == 0) = false := by simp; omega
  have qn : (v - 1 != u64at ws 1) = false := by simp; omega
  go_enter Try.func21, Try.ntmps21
  go_wp2
  go_quiet ((first | (go_at_call 37; exact Calls.quiet_of_same ((pair_at (h1 _) 7 (by omega)).mono fun _ _ h => ⟨h.1, h.2.symm⟩)) | (go_at_call 36; exact Calls.quiet_of ((two_at (h1 _) 7 (by omega)).mono fun _ _ h => ⟨h.1, h.2.elim fun n e => ⟨n, e.symm⟩⟩))))
  go_wp2_with fail
  obtain ⟨W1, hW1⟩ : ∃ W1, (w.alloc (Obj.cells #[.int .u64 v, .int .u64 ep, .int .i64 f, .int .i64 s] 46)).drewN nq = W1 := ⟨_, rfl⟩
  have hb1 : Below w.heap.size w W1 := by rw [← hW1]; exact bDrewN ((Below.refl _ w).alloc (Nat.le_refl _) _) _
  have hx1 : At W1 w.heap.size 46 #[.int .u64 v, .int .u64 ep, .int .i64 f, .int .i64 s] := by rw [← hW1]; exact (At.new w 46 _).drewN nq
  have h2 := h1 nq
  rw [hW1] at h2 ⊢
  clear hW1 h1
  have x0 := hx1.cell 0
  have x1 := hx1.cell 1
  have x2 := hx1.cell 2
  have x3 := hx1.cell 3
  simp only [List.getElem?_toArray, List.getElem?_cons_zero, List.getElem?_cons_succ] at x0 x1 x2 x3
  go_quiet ((first | (go_at_call 37; exact Calls.quiet_of_same ((pair_at (h2.drewN _) 1 (by omega)).mono fun _ _ h => ⟨h.1, h.2.symm⟩)) | (go_at_call 36; exact Calls.quiet_of ((two_at (h2.drewN _) 1 (by omega)).mono fun _ _ h => ⟨h.1, h.2.elim fun n e => ⟨n, e.symm⟩⟩))))
  have hl : ∀ n, Calls Try.prog 39 #[.pointer (some ⟨A, 0, none⟩), .int .i64 f] (W1.drewN n) fun e W' => e = .returned (.bool true) ∧ Below W1.heap.size W1 W' := fun n => by
    have := lies_any f (w := W1.drewN n) ⟨h2.drewN n, H.ch, H.ed, H.le⟩
    rw [hf] at this
    exact this.mono fun e W' h => ⟨h.1, ⟨h.2.os, h.2.tape, h.2.output, h.2.size, h.2.block⟩⟩
  have hl2 : ∀ W, Below W1.heap.size W1 W → Calls Try.prog 39 #[.pointer (some ⟨A, 0, none⟩), .int .i64 s] W fun e W' => e = .returned (.bool true) ∧ Below W1.heap.size W1 W' := fun W hb => by
    have := lies_any s (w := W) ⟨h2.next hb, H.ch, H.ed, H.le⟩
    rw [hs] at this
    exact this.mono fun e W' h => ⟨h.1, hb.trans (h.2.mono hb.size)⟩
  obtain ⟨f0, f1⟩ := lies_rng H hf
  obtain ⟨s0, s1⟩ := lies_rng H hs
  clear hf hs
  have lx := hx1.lt
  go_wp2_with fail
  refine (hl _).mono ?_
  rintro e w' ⟨rfl, hb⟩
  have x3' := (hb.cell (p := ⟨w.heap.size, 3, none⟩) lx).trans x3
  go_wp2_with fail
  refine (hl2 _ hb).mono ?_
  rintro e w'' ⟨rfl, hb'⟩
  have h3 := h2.next hb'
  have hx3 := hx1.below hb' lx
  have hwr : Wr B w w'' := Wr.of_below (hb1.trans (hb'.mono hb1.size))
  clear x0 x1 x2 x3 x3' h2 hx1 hb hb' hl hl2
  have x0 := hx3.cell 0
  simp only [List.getElem?_toArray, List.getElem?_cons_zero] at x0
  go_wp2_with fail
  refine wp_region_still_tail 4 (by kernel_rfl) (by kernel_rfl) ?_
  simp only [List.take_succ_cons, List.take_zero, List.drop_succ_cons, List.drop_zero]
  obtain ⟨W4, hW4⟩ : ∃ W4, World.mk w''.heap w''.tape (w''.drawn + 1) w''.os w''.output = W4 := ⟨_, rfl⟩
  have h4 : Ar W4 A B ws := by rw [← hW4]; exact ⟨h3.ha, h3.hb, h3.ne, h3.rng, h3.lo, h3.hi⟩
  have hx4 : At W4 w.heap.size 46 #[.int .u64 v, .int .u64 ep, .int .i64 f, .int .i64 s] := by rw [← hW4]; exact hx3
  have hwr4 : Wr B w W4 := by rw [← hW4]; exact ⟨hwr.os, hwr.tape, hwr.output, hwr.size, hwr.block⟩
  rw [hW4]
  clear hW4 x0 h3 hx3 hwr
  have x0 := hx4.cell 0
  simp only [List.getElem?_toArray, List.getElem?_cons_zero] at x0
  still_step
  still_call ((pair_at h4 1 (by omega)).mono fun _ _ h => ⟨h.1, h.2.symm⟩)
  still_step
  still_step
  refine wpStill_nil ?_
  go_wp2_with fail
  refine (put_at h4 1 (by omega) v (by omega) hv1).mono ?_
  rintro e w5 ⟨rfl, h5, k5, z5⟩
  have hx5 : At w5 w.heap.size 46 #[.int .u64 v, .int .u64 ep, .int .i64 f, .int .i64 s] := hx4.kept k5 (by simp; omega)
  have hwr5 := hwr4.trans k5
  clear x0 h4 hx4 hwr4 k5 z5
  go_wp2_with fail
  refine wp_region_still_tail 4 (by kernel_rfl) (by kernel_rfl) ?_
  simp only [List.take_succ_cons, List.take_zero, List.drop_succ_cons, List.drop_zero]
  obtain ⟨W6, hW6⟩ : ∃ W6, World.mk w5.heap w5.tape (w5.drawn + 1) w5.os w5.output = W6 := ⟨_, rfl⟩
  have h6 : Ar W6 A B (put2 ws 1 v) := by rw [← hW6]; exact ⟨h5.ha, h5.hb, h5.ne, h5.rng, h5.lo, h5.hi⟩
  have hx6 : At W6 w.heap.size 46 #[.int .u64 v, .int .u64 ep, .int .i64 f, .int .i64 s] := by rw [← hW6]; exact hx5
  have hwr6 : Wr B w W6 := by rw [← hW6]; exact ⟨hwr5.os, hwr5.tape, hwr5.output, hwr5.size, hwr5.block⟩
  rw [hW6]
  clear hW6 h5 hx5 hwr5
  have x1 := hx6.cell 1
  simp only [List.getElem?_toArray, List.getElem?_cons_zero, List.getElem?_cons_succ] at x1
  still_step
  still_call ((pair_at h6 3 (by rw [put2_len]; omega)).mono fun _ _ h => ⟨h.1, h.2.symm⟩)
  still_step
  still_step
  refine wpStill_nil ?_
  go_wp2_with fail
  refine (put_at h6 3 (by rw [put2_len]; omega) ep hep0 hep).mono ?_
  rintro e w7 ⟨rfl, h7, k7, z7⟩
  have hx7 : At w7 w.heap.size 46 #[.int .u64 v, .int .u64 ep, .int .i64 f, .int .i64 s] := hx6.kept k7 (by simp; omega)
  have hwr7 := hwr6.trans k7
  clear x1 h6 hx6 hwr6 k7 z7
  have x2 := hx7.cell 2
  have x3 := hx7.cell 3
  simp only [List.getElem?_toArray, List.getElem?_cons_zero, List.getElem?_cons_succ] at x2 x3
  have a7 := h7.ha
  rw [put2_len, put2_len] at a7
  have c5 := h7.cell (i := 5) (by rw [put2_len, put2_len]; omega)
  have c6 := h7.cell (i := 6) (by rw [put2_len, put2_len]; omega)
  have g5 := h7.free 5
  have g6 := h7.free 6
  have l5 : (5 : Int) < ws.length := by omega
  have l6 : (6 : Int) < ws.length := by omega
  go_wp2_with fail
  go_region
  go_wp2_with fail
  go_ret
  refine ⟨rfl, ?_, ?_⟩
  · exact ((hwr7.trans (Wr.setCell _ _ _ _)).trans (Wr.setCell _ _ _ _)).trans (Wr.drewN B 1 _)
  · exact Ar_drew.2 ((h7.set 5 (by omega) (by omega)).set 6 (by omega) (by omega))

end Go.Proofs.Ytifhimdhmlmgkaa
