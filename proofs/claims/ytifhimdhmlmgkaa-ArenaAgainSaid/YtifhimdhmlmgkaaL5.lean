/- An op is done. -/
import Derived.Test.YtifhimdhmlmgkaaL4
import Derived.Test.YtifhimdhmlmgkaaQT
namespace Go.Proofs.Ytifhimdhmlmgkaa
open Go.RowKit

/-- Worlds in which the arena is in the same state, behind a world. -/
structure CC (w1 : World) (A B : Nat) (s : St) (W : World) : Prop where
  is : Is W A B s
  bl : Below w1.heap.size w1 W

set_option maxRecDepth 100000 in
set_option maxHeartbeats 1000000 in
theorem run_is {A B : Nat} {s : St} (o : OpV) {w : World} (h : Is w A B s) (hx0 : 0 ≤ o.x) (hx1 : o.x < 18446744073709551616) :
    Calls Try.prog 13 #[.pointer (some ⟨A, 0, none⟩), o.v] w fun e W' => e = .returned (.tuple #[]) ∧ Wr B w W' ∧ Is W' A B (runS s o) := by
  obtain ⟨m, hm⟩ : ∃ m, (IntKind.u64.wrap o.kind % 8).toNat = m := ⟨_, rfl⟩
  have hm8 : m < 8 := by rw [← hm, IntKind.wrap_u64]; omega
  have hmi : IntKind.u64.wrap o.kind % 8 = (m : Int) := by rw [← hm, IntKind.wrap_u64]; omega
  have q0 := IntKind.wrap_u64 o.kind
  obtain ⟨q, hq⟩ : ∃ q, IntKind.u64.wrap o.kind = q := ⟨_, rfl⟩
  have q1 : 0 ≤ q := by rw [← hq, q0]; omega
  have q2 : q ≤ 18446744073709551615 := by rw [← hq, q0]; omega
  unfold runS
  rw [hm]
  rw [hq] at hmi
  clear q0 hm
  have hb0 : Below w.heap.size w (w.alloc (Obj.cells #[.int .i64 o.kind, .int .i64 o.cls, .int .i64 o.place, .int .i64 o.i, .int .i64 o.n, .int .u64 o.x, .bool o.fol] 35)) := (Below.refl _ _).alloc (Nat.le_refl _) _
  have h0 := h.next hb0
  have hrow := row_is o h0
  have hltB := h.ar.ltB
  unfold OpV.v at hrow ⊢
  go_enter Try.func13, Try.ntmps13
  go_wp2_with fail
  refine hrow.mono ?_
  rintro e w1 ⟨rfl, hb1⟩
  have h1 := h0.next hb1
  have hx := (At.new w 35 #[.int .i64 o.kind, .int .i64 o.cls, .int .i64 o.place, .int .i64 o.i, .int .i64 o.n, .int .u64 o.x, .bool o.fol]).below hb1 (by simp)
  have y0 := hx.cell 0
  have y1 := hx.cell 1
  have y3 := hx.cell 3
  have y4 := hx.cell 4
  have y5 := hx.cell 5
  simp only [List.getElem?_toArray, List.getElem?_cons_zero, List.getElem?_cons_succ] at y0 y1 y3 y4 y5
  have hwr : Wr B w w1 := Wr.of_below (hb0.trans (hb1.mono (by simp)))
  obtain ⟨r, hr⟩ : ∃ r, rowP s.bs o = r := ⟨_, rfl⟩
  rw [hr]
  obtain rfl | rfl | rfl | rfl | rfl | rfl | rfl | rfl : m = 0 ∨ m = 1 ∨ m = 2 ∨ m = 3 ∨ m = 4 ∨ m = 5 ∨ m = 6 ∨ m = 7 := by omega
  · go_wp2_with fail
    refine (alloc_is o.cls h1).mono ?_
    rintro e w2 ⟨rfl, k1, k2⟩
    go_wp2
    go_end0
    exact ⟨rfl, hwr.trans k1, k2⟩
  · go_wp2_with fail
    refine (alloc_is o.cls h1).mono ?_
    rintro e w2 ⟨rfl, k1, k2⟩
    go_wp2
    go_end0
    exact ⟨rfl, hwr.trans k1, k2⟩
  · go_wp2_with fail
    refine (free_is r h1).mono ?_
    rintro e w2 ⟨rfl, k1, k2⟩
    go_wp2
    go_end0
    exact ⟨rfl, hwr.trans k1, k2⟩
  · go_wp2_with fail
    refine (load_is r o.i h1).mono ?_
    rintro e w2 ⟨rfl, k1⟩
    go_wp2
    go_end0
    exact ⟨rfl, hwr.trans (Wr.of_below k1), h1.next k1⟩
  · go_wp2_with fail
    refine (store_is r o.i (o.x % 4294967296) h1 (by omega) (by omega)).mono ?_
    rintro e w2 ⟨rfl, k1, k2⟩
    go_wp2
    go_end0
    exact ⟨rfl, hwr.trans k1, k2⟩
  · go_wp2_with fail
    refine (store_is r o.i (o.x % 4294967296) h1 (by omega) (by omega)).mono ?_
    rintro e w2 ⟨rfl, k1, k2⟩
    go_wp2
    go_end0
    exact ⟨rfl, hwr.trans k1, k2⟩
  · go_wp2_with fail
    have hroot : ∀ W, Is W A B s → Calls Try.prog 18 #[.pointer (some ⟨A, 0, none⟩)] W fun e w' => e = .returned (.agg #[.int .u64 (u64at s.ws 1), .int .u64 (u64at s.ws 3), .int .i64 (rd s.ws 5), .int .i64 (rd s.ws 6)]) ∧ Below W.heap.size W w' := fun W h => root_is h
    refine QT.region (C := CC w1 A B s) 18 (by kernel_rfl) (by kernel_rfl) ⟨h1.drewN 1, bDrewN (Below.refl _ _) 1⟩ ?_
    simp only [List.take_succ_cons, List.take_zero, List.drop_succ_cons, List.drop_zero]
    have hlx := hx.lt
    have hfield : ∀ W, (Instr.field 46 (.agg #[.int .u64 (u64at s.ws 1), .int .u64 (u64at s.ws 3), .int .i64 (rd s.ws 5), .int .i64 (rd s.ws 6)]) 0).run Try.prog W = .ok (.int .u64 (u64at s.ws 1)) W := fun W => by kernel_rfl
    refine wpQuiet_step (fun K hK => ?_)
    go_simp
    refine ⟨_, fun _ _ => rfl, hK _ ?_⟩
    clear hK K
    refine wpQuiet_step (fun K hK => ?_)
    go_simp
    refine ⟨_, fun _ _ => rfl, hK _ ?_⟩
    clear hK K
    refine wpQuiet_step (fun K hK => ?_)
    go_simp
    refine ⟨_, fun W hW => (hroot W hW.is).mono fun e w' k => ⟨k.1, hW.is.next k.2, hW.bl.trans (k.2.mono hW.bl.size)⟩, hK _ ?_⟩
    clear hK K
    refine wpQuiet_step (fun K hK => ?_)
    go_simp
    refine ⟨_, fun _ _ => rfl, hK _ ?_⟩
    clear hK K
    refine wpQuiet_step (fun K hK => ?_)
    go_simp
    refine ⟨_, fun _ _ => rfl, hK _ ?_⟩
    clear hK K
    refine wpQuiet_step (fun K hK => ?_)
    go_simp
    refine ⟨.int .i64 o.n, fun W hW => ?_, hK _ ?_⟩
    · have z := (hW.bl.cell (p := ⟨w.heap.size, 4, none⟩) hlx).trans y4
      go_simp
    clear hK K
    refine wpQuiet_step (fun K hK => ?_)
    go_simp
    refine ⟨_, fun _ _ => rfl, hK _ ?_⟩
    clear hK K
    refine wpQuiet_step (fun K hK => ?_)
    go_simp
    refine ⟨_, fun _ _ => rfl, hK _ ?_⟩
    clear hK K
    refine wpQuiet_step (fun K hK => ?_)
    go_simp
    refine ⟨_, fun _ _ => rfl, hK _ ?_⟩
    clear hK K
    refine wpQuiet_step (fun K hK => ?_)
    go_simp
    refine ⟨_, fun _ _ => rfl, hK _ ?_⟩
    clear hK K
    refine wpQuiet_step (fun K hK => ?_)
    go_simp
    refine ⟨_, fun W hW => (fence_is hW.is).mono fun e w' k => ⟨k.1, hW.is.next k.2, hW.bl.trans (k.2.mono hW.bl.size)⟩, hK _ ?_⟩
    clear hK K
    refine wpQuiet_step (fun K hK => ?_)
    go_simp
    refine ⟨_, fun _ _ => rfl, hK _ ?_⟩
    clear hK K
    refine wpQuiet_step (fun K hK => ?_)
    go_simp
    refine ⟨.int .i64 o.i, fun W hW => ?_, hK _ ?_⟩
    · have z := (hW.bl.cell (p := ⟨w.heap.size, 3, none⟩) hlx).trans y3
      go_simp
    clear hK K
    refine wpQuiet_step (fun K hK => ?_)
    go_simp
    refine ⟨_, fun _ _ => rfl, hK _ ?_⟩
    clear hK K
    refine wpQuiet_step (fun K hK => ?_)
    go_simp
    refine ⟨_, fun _ _ => rfl, hK _ ?_⟩
    clear hK K
    refine wpQuiet_step (fun K hK => ?_)
    go_simp
    refine ⟨_, fun _ _ => rfl, hK _ ?_⟩
    clear hK K
    refine wpQuiet_step (fun K hK => ?_)
    go_simp
    refine ⟨_, fun _ _ => rfl, hK _ ?_⟩
    clear hK K
    refine wpQuiet_step (fun K hK => ?_)
    go_simp
    refine ⟨_, fun _ _ => rfl, hK _ ?_⟩
    clear hK K
    refine wpQuiet_nil ?_
    rintro w2 ⟨g1, g2⟩
    go_wp2_with fail
    refine (pub_is (runV s o) (runE s o) r 0 g1 (by unfold runV; rw [IntKind.wrap_u64]; omega) (by unfold runV; rw [IntKind.wrap_u64]; omega) (by unfold runE; rw [IntKind.wrap_u64]; omega) (by unfold runE; rw [IntKind.wrap_u64]; omega)).mono ?_
    rintro e w3 ⟨rfl, k1, k2⟩
    go_wp2
    go_end0
    exact ⟨rfl, (hwr.trans (Wr.of_below g2)).trans k1, k2⟩
  · go_wp2_with fail
    refine (raise_is o.x h1 hx0 hx1).mono ?_
    rintro e w2 ⟨rfl, k1, k2⟩
    go_wp2
    go_end0
    exact ⟨rfl, hwr.trans k1, k2⟩
end Go.Proofs.Ytifhimdhmlmgkaa
