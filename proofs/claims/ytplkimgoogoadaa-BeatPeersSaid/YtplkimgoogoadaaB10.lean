/- What comes of a peer that is heard: the cases of the walk. -/
import Derived.Test.YtplkimgoogoadaaB9
namespace Go.Proofs.Ytplkimgoogoadaa
open Go.RowKit Go.Proofs.YtplkimgoogoadaaW.PrintWords PBeatPeers

set_option maxHeartbeats 4000000 in
theorem hear_none (now : Int) (ps : List S35) (n : Int) (nb cbk : Nat) (b : Nat) (w : World) (hn : w.cell? ⟨nb, 0, none⟩ = some (.int .i64 n)) (hcb : w.heap[cbk]? = some (.cells #[.bool false] 4 (0, 0))) (hlen : ps.length ≤ 1000) (hr : Rising ps) (hb : w.heap.size ≤ b)
    (hhas : has ps n = false) (_hok : ∀ i, i < ps.length → OkN now (pu ps i)) :
    Does 35 #[.pointer (some ⟨nb, 0, none⟩), .pointer (some ⟨cbk, 0, none⟩)] b now ps (dropR ps n) now (hearQ now ps n) w cbk (fun W => W.heap[cbk]? = some (.cells #[.bool (hearC now ps n)] 4 (0, 0))) := by
  intro W v hW hbx hs ho
  have hnlt := block_lt_of_cell hn
  have hn1 := (hW.cell (p := ⟨nb, 0, none⟩) hnlt).trans hn
  have hclt : cbk < w.heap.size := (Array.getElem?_eq_some_iff.1 hcb).1
  have hcb1 := (hW.block cbk hclt).trans hcb
  obtain ⟨A, c, rfl, hc, hm⟩ := ho.c'
  obtain ⟨b0, b1, b2, b3⟩ := boxed_cells hbx
  have hpl : ∀ W' : World, Below W.heap.size W W' → Calls Try.prog 31 #[.agg #[.int .i64 now, .slice A ps.length c], .int .i64 n] W' fun e w' => e = .returned (.tuple #[.int .i64 (idx n ps), .bool (has ps n)]) ∧ Below W.heap.size W w' := by
    intro W' hW'
    obtain ⟨A', c', hv, _, hC⟩ := (ho.next hW').c (by omega)
    cases hv
    exact (place_is ps now n A c W' hC hlen hr).mono fun e w' ⟨h1, h2⟩ => ⟨h1, hW'.trans (h2.mono hW'.size)⟩
  obtain ⟨t, ht⟩ : ∃ t, has ps n = t := ⟨_, rfl⟩
  obtain ⟨i, hi⟩ : ∃ i, idx n ps = i := ⟨_, rfl⟩
  rw [ht, hi] at hpl
  show Calls Try.prog 35 #[.pointer (some ⟨b, 0, none⟩), .pointer (some ⟨nb, 0, none⟩), .pointer (some ⟨cbk, 0, none⟩)] W _
  go_enter Try.func35, Try.ntmps35
  go_wp2_with fail
  refine QP.region (C := fun W' => Below W.heap.size W W') [0, 1, 2, 3, 4, 5, 6, 7, 8, 9] [] (by kernel_rfl) (by kernel_rfl) ((Below.refl _ _).drew) ?_
  simp only [QP.pick, List.getElem?_cons_zero, List.getElem?_cons_succ]
  iterate 2 (refine wpQuiet_step (fun K hK => ?_); go_simp; refine ⟨_, fun _ _ => rfl, hK _ ?_⟩; clear hK K)
  refine wpQuiet_step (fun K hK => ?_)
  go_simp
  refine ⟨.agg #[.int .i64 now, .slice A ps.length c], fun W' hW' => ?_, hK _ ?_⟩
  · have z0 := (hW'.cell (p := ⟨b, 0, none⟩) (by simp; omega)).trans b0
    have z1 := (hW'.cell (p := ⟨b, 1, none⟩) (by simp; omega)).trans b1
    go_simp
  clear hK K
  refine wpQuiet_step (fun K hK => ?_)
  go_simp
  refine ⟨.int .i64 n, fun W' hW' => ?_, hK _ ?_⟩
  · have z0 := (hW'.cell (p := ⟨nb, 0, none⟩) (by have := hW.size; simp; omega)).trans hn1
    go_simp
  clear hK K
  refine wpQuiet_step (fun K hK => ?_)
  go_simp
  refine ⟨_, fun W' hW' => hpl W' hW', hK _ ?_⟩
  clear hK K
  iterate 5 (refine wpQuiet_step (fun K hK => ?_); go_simp; refine ⟨_, fun _ _ => rfl, hK _ ?_⟩; clear hK K)
  refine wpQuiet_nil ?_
  intro W1 hW1
  have c0 := (hW1.cell (p := ⟨b, 0, none⟩) (by simp; omega)).trans b0
  have c1 := (hW1.cell (p := ⟨b, 1, none⟩) (by simp; omega)).trans b1
  have hbx1 := (hW1.block b (by omega)).trans hbx
  have hbx2 := hW1.block (b + 1) (by omega)
  have hs1 := hW1.size
  have hws := hW.size
  have hcb2 := (hW1.block cbk (by omega)).trans hcb1
  have hwW1 : Below cbk w W1 := (hW.trans (hW1.mono hW.size)).mono (by omega)
  have ho1 := ho.next hW1
  clear hpl b0 b1 b2 b3
  obtain rfl : t = false := by rw [← ht]; exact hhas
  have hR : dropR ps n = 4 := by unfold dropR; rw [if_neg (by simp [ht])]
  have hQ : hearQ now ps n = ps := by unfold hearQ; rw [if_neg (by simp [ht])]
  have hX : hearC now ps n = false := by unfold hearC; rw [ht]; rfl
  have HR := Lib.hid hR
  have HQ := Lib.hid hQ
  have HX := Lib.hid hX
  clear hR hQ hX ht hi
  go_wp2_with fail
  go_ret
  exact Did.mk HR.out.symm HQ.out.symm hbx1 ho1 hwW1 hbx2 (by rw [HX.out]; exact hcb2)

set_option maxHeartbeats 4000000 in
theorem hear_a (now : Int) (ps : List S35) (n : Int) (nb cbk : Nat) (b : Nat) (w : World) (hn : w.cell? ⟨nb, 0, none⟩ = some (.int .i64 n)) (hcb : w.heap[cbk]? = some (.cells #[.bool false] 4 (0, 0))) (hlen : ps.length ≤ 1000) (hr : Rising ps) (hb : w.heap.size ≤ b)
    (hhas : has ps n = true) (hcase : now - (pu ps (idx n ps)).f1 ≤ 4 ∧ 1 < (pu ps (idx n ps)).f2) (hok : ∀ i, i < ps.length → OkN now (pu ps i)) :
    Does 35 #[.pointer (some ⟨nb, 0, none⟩), .pointer (some ⟨cbk, 0, none⟩)] b now ps (dropR ps n) now (hearQ now ps n) w cbk (fun W => W.heap[cbk]? = some (.cells #[.bool (hearC now ps n)] 4 (0, 0))) := by
  intro W v hW hbx hs ho
  have hnlt := block_lt_of_cell hn
  have hn1 := (hW.cell (p := ⟨nb, 0, none⟩) hnlt).trans hn
  have hclt : cbk < w.heap.size := (Array.getElem?_eq_some_iff.1 hcb).1
  have hcb1 := (hW.block cbk hclt).trans hcb
  obtain ⟨A, c, rfl, hc, hm⟩ := ho.c'
  obtain ⟨b0, b1, b2, b3⟩ := boxed_cells hbx
  have hpl : ∀ W' : World, Below W.heap.size W W' → Calls Try.prog 31 #[.agg #[.int .i64 now, .slice A ps.length c], .int .i64 n] W' fun e w' => e = .returned (.tuple #[.int .i64 (idx n ps), .bool (has ps n)]) ∧ Below W.heap.size W w' := by
    intro W' hW'
    obtain ⟨A', c', hv, _, hC⟩ := (ho.next hW').c (by omega)
    cases hv
    exact (place_is ps now n A c W' hC hlen hr).mono fun e w' ⟨h1, h2⟩ => ⟨h1, hW'.trans (h2.mono hW'.size)⟩
  obtain ⟨t, ht⟩ : ∃ t, has ps n = t := ⟨_, rfl⟩
  obtain ⟨i, hi⟩ : ∃ i, idx n ps = i := ⟨_, rfl⟩
  rw [ht, hi] at hpl
  show Calls Try.prog 35 #[.pointer (some ⟨b, 0, none⟩), .pointer (some ⟨nb, 0, none⟩), .pointer (some ⟨cbk, 0, none⟩)] W _
  go_enter Try.func35, Try.ntmps35
  go_wp2_with fail
  refine QP.region (C := fun W' => Below W.heap.size W W') [0, 1, 2, 3, 4, 5, 6, 7, 8, 9] [] (by kernel_rfl) (by kernel_rfl) ((Below.refl _ _).drew) ?_
  simp only [QP.pick, List.getElem?_cons_zero, List.getElem?_cons_succ]
  iterate 2 (refine wpQuiet_step (fun K hK => ?_); go_simp; refine ⟨_, fun _ _ => rfl, hK _ ?_⟩; clear hK K)
  refine wpQuiet_step (fun K hK => ?_)
  go_simp
  refine ⟨.agg #[.int .i64 now, .slice A ps.length c], fun W' hW' => ?_, hK _ ?_⟩
  · have z0 := (hW'.cell (p := ⟨b, 0, none⟩) (by simp; omega)).trans b0
    have z1 := (hW'.cell (p := ⟨b, 1, none⟩) (by simp; omega)).trans b1
    go_simp
  clear hK K
  refine wpQuiet_step (fun K hK => ?_)
  go_simp
  refine ⟨.int .i64 n, fun W' hW' => ?_, hK _ ?_⟩
  · have z0 := (hW'.cell (p := ⟨nb, 0, none⟩) (by have := hW.size; simp; omega)).trans hn1
    go_simp
  clear hK K
  refine wpQuiet_step (fun K hK => ?_)
  go_simp
  refine ⟨_, fun W' hW' => hpl W' hW', hK _ ?_⟩
  clear hK K
  iterate 5 (refine wpQuiet_step (fun K hK => ?_); go_simp; refine ⟨_, fun _ _ => rfl, hK _ ?_⟩; clear hK K)
  refine wpQuiet_nil ?_
  intro W1 hW1
  have c0 := (hW1.cell (p := ⟨b, 0, none⟩) (by simp; omega)).trans b0
  have c1 := (hW1.cell (p := ⟨b, 1, none⟩) (by simp; omega)).trans b1
  have hbx1 := (hW1.block b (by omega)).trans hbx
  have hbx2 := hW1.block (b + 1) (by omega)
  have hs1 := hW1.size
  have hws := hW.size
  have hcb2 := (hW1.block cbk (by omega)).trans hcb1
  have hwW1 : Below cbk w W1 := (hW.trans (hW1.mono hW.size)).mono (by omega)
  have ho1 := ho.next hW1
  clear hpl b0 b1 b2 b3
  obtain rfl : t = true := by rw [← ht]; exact hhas
  have hR : dropR ps n = 0 := by unfold dropR; rw [if_pos ht]
  have hat := (has_at hr ht).1
  rw [hi] at hat
  obtain ⟨p, hp⟩ : ∃ p, pu ps i = p := ⟨_, rfl⟩
  have hQ : hearQ now ps n = ps.set i (hearP now p) := by unfold hearQ; rw [if_pos ht, hi, hp]
  have hX : hearC now ps n = (decide (hearS now p = 1) && decide (p.f3 ≠ 1)) := by unfold hearC; rw [ht, hi, hp]; rfl
  have hokp := hok i hat
  rw [hp] at hokp
  obtain ⟨g, rfl, hg1, hg2⟩ := ho1.some_of (by omega)
  have hpa := (ho1.at hat).1
  have hpf := (ho1.at hat).2
  rw [hp] at hpa
  obtain ⟨p0, p1, p2, p3⟩ := hpa
  have f1 := hpf 1
  have f2 := hpf 2
  have f3 := hpf 3
  have hgb : g ≠ b := by omega
  have hgc : g ≠ cbk := by omega
  have hbc : b ≠ cbk := by omega
  have hspan : ∀ W' : World, Below W1.heap.size W1 W' → Calls Try.prog 36 #[.int .i64 now, .agg #[.int .i64 p.f0, .int .i64 p.f1, .int .i64 p.f2, .int .i64 p.f3]] W' fun e w' => e = .returned (.int .i64 (spanN now p.f1)) ∧ Below W1.heap.size W1 w' := fun W' hW' =>
    (beat_span.calls now p.f0 p.f1 p.f2 p.f3 _ W' (span_is hokp)).mono fun e w' ⟨h1, h2⟩ => ⟨h1, hW'.trans (h2.mono hW'.size)⟩
  have hbl : b < W1.heap.size := by omega
  obtain ⟨q, hq⟩ : ∃ q, spanN now p.f1 = q := ⟨_, rfl⟩
  rw [hq] at hspan
  have hi1 : (i : Int) < ((ps.length : Nat) : Int) := by omega
  rw [hi, hp] at hcase
  have HCS := Lib.hid hcase
  clear hcase
  have HR := Lib.hid hR
  have HQ := Lib.hid hQ
  have HX := Lib.hid hX
  have HP := Lib.hid hp
  have HI := Lib.hid hi
  have Hq := Lib.hid hq
  clear hR hQ hX ht hi hp hok hpf hq hhas
  go_wp2_with fail
  refine QP.region (C := fun W' => Below W1.heap.size W1 W') [0, 1, 2, 3, 4, 5, 6, 7, 8] [] (by kernel_rfl) (by kernel_rfl) ((Below.refl _ _).drew) ?_
  simp only [QP.pick, List.getElem?_cons_zero, List.getElem?_cons_succ]
  iterate 3 (refine wpQuiet_step (fun K hK => ?_); go_simp; refine ⟨_, fun _ _ => rfl, hK _ ?_⟩; clear hK K)
  refine wpQuiet_step (fun K hK => ?_)
  go_simp
  refine ⟨.int .i64 now, fun W' hW' => ?_, hK _ ?_⟩
  · have z0 := (hW'.cell (p := ⟨b, 0, none⟩) (by simp; omega)).trans c0
    go_simp
  clear hK K
  iterate 2 (refine wpQuiet_step (fun K hK => ?_); go_simp; refine ⟨_, fun _ _ => rfl, hK _ ?_⟩; clear hK K)
  refine wpQuiet_step (fun K hK => ?_)
  go_simp
  refine ⟨.agg #[.int .i64 p.f0, .int .i64 p.f1, .int .i64 p.f2, .int .i64 p.f3], fun W' hW' => ?_, hK _ ?_⟩
  · have z0 := (hW'.cell (p := ⟨g, i * 4, none⟩) hg2).trans p0
    have z1 := (hW'.cell (p := ⟨g, i * 4 + 1, none⟩) hg2).trans p1
    have z2 := (hW'.cell (p := ⟨g, i * 4 + 2, none⟩) hg2).trans p2
    have z3 := (hW'.cell (p := ⟨g, i * 4 + 3, none⟩) hg2).trans p3
    go_simp
  clear hK K
  refine wpQuiet_step (fun K hK => ?_)
  go_simp
  refine ⟨_, fun W' hW' => hspan W' hW', hK _ ?_⟩
  clear hK K
  refine wpQuiet_step (fun K hK => ?_)
  go_simp
  refine ⟨_, fun _ _ => rfl, hK _ ?_⟩
  clear hK K
  refine wpQuiet_nil ?_
  intro W2 hW2
  have d0 := (hW2.cell (p := ⟨b, 0, none⟩) (by simp; omega)).trans c0
  have z0 := (hW2.cell (p := ⟨g, i * 4, none⟩) hg2).trans p0
  have z1 := (hW2.cell (p := ⟨g, i * 4 + 1, none⟩) hg2).trans p1
  have z2 := (hW2.cell (p := ⟨g, i * 4 + 2, none⟩) hg2).trans p2
  have z3 := (hW2.cell (p := ⟨g, i * 4 + 3, none⟩) hg2).trans p3
  have y1 := (hW2.frozen (p := ⟨g, i * 4 + 1, none⟩) hg2).trans f1
  have y2 := (hW2.frozen (p := ⟨g, i * 4 + 2, none⟩) hg2).trans f2
  have y3 := (hW2.frozen (p := ⟨g, i * 4 + 3, none⟩) hg2).trans f3
  have hbxA := (hW2.block b hbl).trans hbx1
  have hbxB := (hW2.block (b + 1) (by omega)).trans hbx2
  have hcbA := (hW2.block cbk (by omega)).trans hcb2
  have x0 : W2.cell? ⟨cbk, 0, none⟩ = some (.bool false) := by simp [World.cell?, hcbA]
  have x1 : W2.frozen? ⟨cbk, 0, none⟩ = false := by simp [World.frozen?, hcbA]
  have hwW2 : Below cbk w W2 := hwW1.trans (hW2.mono (by omega))
  have ho2 := ho1.next hW2
  have gn0 := hokp.g0
  have gn1 := hokp.g1
  have HA := Lib.hid (And.intro hbxA hbxB)
  have HC := Lib.hid hcbA
  clear hspan c0 c1 p0 p1 p2 p3 f1 f2 f3 hbx1 hbx2 hcb2 hcb1 hcb hbx hn hn1 hokp hbxA hbxB hcbA
  obtain rfl : q = 0 := by rw [← Hq.out]; unfold spanN; rw [if_pos HCS.out.1]
  have EG : Hid (hearG now p = 3) := Lib.hid (by unfold hearG; rw [if_pos HCS.out.1]; have := HCS.out.2; split <;> omega)
  have k2 := HCS.out.2
  clear HCS
  go_wp2_with fail
  go_ret
  refine hear_fin3 ho2 hat HP.out hg1 (by omega) HA.out.1 HA.out.2 HC.out hwW2 HR.out ?_ ?_
  · rw [HQ.out]; unfold hearP hearS; rw [EG.out, if_pos (.inl rfl)]
  · rw [HX.out]; unfold hearS; rw [EG.out, if_pos (.inl rfl)]; simp [bne, BEq.beq]

set_option maxHeartbeats 4000000 in
theorem hear_btwo (now : Int) (ps : List S35) (n : Int) (nb cbk : Nat) (b : Nat) (w : World) (hn : w.cell? ⟨nb, 0, none⟩ = some (.int .i64 n)) (hcb : w.heap[cbk]? = some (.cells #[.bool false] 4 (0, 0))) (hlen : ps.length ≤ 1000) (hr : Rising ps) (hb : w.heap.size ≤ b)
    (hhas : has ps n = true) (hcase : now - (pu ps (idx n ps)).f1 ≤ 4 ∧ ¬ 1 < (pu ps (idx n ps)).f2 ∧ (pu ps (idx n ps)).f3 = 2) (hok : ∀ i, i < ps.length → OkN now (pu ps i)) :
    Does 35 #[.pointer (some ⟨nb, 0, none⟩), .pointer (some ⟨cbk, 0, none⟩)] b now ps (dropR ps n) now (hearQ now ps n) w cbk (fun W => W.heap[cbk]? = some (.cells #[.bool (hearC now ps n)] 4 (0, 0))) := by
  intro W v hW hbx hs ho
  have hnlt := block_lt_of_cell hn
  have hn1 := (hW.cell (p := ⟨nb, 0, none⟩) hnlt).trans hn
  have hclt : cbk < w.heap.size := (Array.getElem?_eq_some_iff.1 hcb).1
  have hcb1 := (hW.block cbk hclt).trans hcb
  obtain ⟨A, c, rfl, hc, hm⟩ := ho.c'
  obtain ⟨b0, b1, b2, b3⟩ := boxed_cells hbx
  have hpl : ∀ W' : World, Below W.heap.size W W' → Calls Try.prog 31 #[.agg #[.int .i64 now, .slice A ps.length c], .int .i64 n] W' fun e w' => e = .returned (.tuple #[.int .i64 (idx n ps), .bool (has ps n)]) ∧ Below W.heap.size W w' := by
    intro W' hW'
    obtain ⟨A', c', hv, _, hC⟩ := (ho.next hW').c (by omega)
    cases hv
    exact (place_is ps now n A c W' hC hlen hr).mono fun e w' ⟨h1, h2⟩ => ⟨h1, hW'.trans (h2.mono hW'.size)⟩
  obtain ⟨t, ht⟩ : ∃ t, has ps n = t := ⟨_, rfl⟩
  obtain ⟨i, hi⟩ : ∃ i, idx n ps = i := ⟨_, rfl⟩
  rw [ht, hi] at hpl
  show Calls Try.prog 35 #[.pointer (some ⟨b, 0, none⟩), .pointer (some ⟨nb, 0, none⟩), .pointer (some ⟨cbk, 0, none⟩)] W _
  go_enter Try.func35, Try.ntmps35
  go_wp2_with fail
  refine QP.region (C := fun W' => Below W.heap.size W W') [0, 1, 2, 3, 4, 5, 6, 7, 8, 9] [] (by kernel_rfl) (by kernel_rfl) ((Below.refl _ _).drew) ?_
  simp only [QP.pick, List.getElem?_cons_zero, List.getElem?_cons_succ]
  iterate 2 (refine wpQuiet_step (fun K hK => ?_); go_simp; refine ⟨_, fun _ _ => rfl, hK _ ?_⟩; clear hK K)
  refine wpQuiet_step (fun K hK => ?_)
  go_simp
  refine ⟨.agg #[.int .i64 now, .slice A ps.length c], fun W' hW' => ?_, hK _ ?_⟩
  · have z0 := (hW'.cell (p := ⟨b, 0, none⟩) (by simp; omega)).trans b0
    have z1 := (hW'.cell (p := ⟨b, 1, none⟩) (by simp; omega)).trans b1
    go_simp
  clear hK K
  refine wpQuiet_step (fun K hK => ?_)
  go_simp
  refine ⟨.int .i64 n, fun W' hW' => ?_, hK _ ?_⟩
  · have z0 := (hW'.cell (p := ⟨nb, 0, none⟩) (by have := hW.size; simp; omega)).trans hn1
    go_simp
  clear hK K
  refine wpQuiet_step (fun K hK => ?_)
  go_simp
  refine ⟨_, fun W' hW' => hpl W' hW', hK _ ?_⟩
  clear hK K
  iterate 5 (refine wpQuiet_step (fun K hK => ?_); go_simp; refine ⟨_, fun _ _ => rfl, hK _ ?_⟩; clear hK K)
  refine wpQuiet_nil ?_
  intro W1 hW1
  have c0 := (hW1.cell (p := ⟨b, 0, none⟩) (by simp; omega)).trans b0
  have c1 := (hW1.cell (p := ⟨b, 1, none⟩) (by simp; omega)).trans b1
  have hbx1 := (hW1.block b (by omega)).trans hbx
  have hbx2 := hW1.block (b + 1) (by omega)
  have hs1 := hW1.size
  have hws := hW.size
  have hcb2 := (hW1.block cbk (by omega)).trans hcb1
  have hwW1 : Below cbk w W1 := (hW.trans (hW1.mono hW.size)).mono (by omega)
  have ho1 := ho.next hW1
  clear hpl b0 b1 b2 b3
  obtain rfl : t = true := by rw [← ht]; exact hhas
  have hR : dropR ps n = 0 := by unfold dropR; rw [if_pos ht]
  have hat := (has_at hr ht).1
  rw [hi] at hat
  obtain ⟨p, hp⟩ : ∃ p, pu ps i = p := ⟨_, rfl⟩
  have hQ : hearQ now ps n = ps.set i (hearP now p) := by unfold hearQ; rw [if_pos ht, hi, hp]
  have hX : hearC now ps n = (decide (hearS now p = 1) && decide (p.f3 ≠ 1)) := by unfold hearC; rw [ht, hi, hp]; rfl
  have hokp := hok i hat
  rw [hp] at hokp
  obtain ⟨g, rfl, hg1, hg2⟩ := ho1.some_of (by omega)
  have hpa := (ho1.at hat).1
  have hpf := (ho1.at hat).2
  rw [hp] at hpa
  obtain ⟨p0, p1, p2, p3⟩ := hpa
  have f1 := hpf 1
  have f2 := hpf 2
  have f3 := hpf 3
  have hgb : g ≠ b := by omega
  have hgc : g ≠ cbk := by omega
  have hbc : b ≠ cbk := by omega
  have hspan : ∀ W' : World, Below W1.heap.size W1 W' → Calls Try.prog 36 #[.int .i64 now, .agg #[.int .i64 p.f0, .int .i64 p.f1, .int .i64 p.f2, .int .i64 p.f3]] W' fun e w' => e = .returned (.int .i64 (spanN now p.f1)) ∧ Below W1.heap.size W1 w' := fun W' hW' =>
    (beat_span.calls now p.f0 p.f1 p.f2 p.f3 _ W' (span_is hokp)).mono fun e w' ⟨h1, h2⟩ => ⟨h1, hW'.trans (h2.mono hW'.size)⟩
  have hbl : b < W1.heap.size := by omega
  obtain ⟨q, hq⟩ : ∃ q, spanN now p.f1 = q := ⟨_, rfl⟩
  rw [hq] at hspan
  have hi1 : (i : Int) < ((ps.length : Nat) : Int) := by omega
  rw [hi, hp] at hcase
  have HCS := Lib.hid hcase
  clear hcase
  have HR := Lib.hid hR
  have HQ := Lib.hid hQ
  have HX := Lib.hid hX
  have HP := Lib.hid hp
  have HI := Lib.hid hi
  have Hq := Lib.hid hq
  clear hR hQ hX ht hi hp hok hpf hq hhas
  go_wp2_with fail
  refine QP.region (C := fun W' => Below W1.heap.size W1 W') [0, 1, 2, 3, 4, 5, 6, 7, 8] [] (by kernel_rfl) (by kernel_rfl) ((Below.refl _ _).drew) ?_
  simp only [QP.pick, List.getElem?_cons_zero, List.getElem?_cons_succ]
  iterate 3 (refine wpQuiet_step (fun K hK => ?_); go_simp; refine ⟨_, fun _ _ => rfl, hK _ ?_⟩; clear hK K)
  refine wpQuiet_step (fun K hK => ?_)
  go_simp
  refine ⟨.int .i64 now, fun W' hW' => ?_, hK _ ?_⟩
  · have z0 := (hW'.cell (p := ⟨b, 0, none⟩) (by simp; omega)).trans c0
    go_simp
  clear hK K
  iterate 2 (refine wpQuiet_step (fun K hK => ?_); go_simp; refine ⟨_, fun _ _ => rfl, hK _ ?_⟩; clear hK K)
  refine wpQuiet_step (fun K hK => ?_)
  go_simp
  refine ⟨.agg #[.int .i64 p.f0, .int .i64 p.f1, .int .i64 p.f2, .int .i64 p.f3], fun W' hW' => ?_, hK _ ?_⟩
  · have z0 := (hW'.cell (p := ⟨g, i * 4, none⟩) hg2).trans p0
    have z1 := (hW'.cell (p := ⟨g, i * 4 + 1, none⟩) hg2).trans p1
    have z2 := (hW'.cell (p := ⟨g, i * 4 + 2, none⟩) hg2).trans p2
    have z3 := (hW'.cell (p := ⟨g, i * 4 + 3, none⟩) hg2).trans p3
    go_simp
  clear hK K
  refine wpQuiet_step (fun K hK => ?_)
  go_simp
  refine ⟨_, fun W' hW' => hspan W' hW', hK _ ?_⟩
  clear hK K
  refine wpQuiet_step (fun K hK => ?_)
  go_simp
  refine ⟨_, fun _ _ => rfl, hK _ ?_⟩
  clear hK K
  refine wpQuiet_nil ?_
  intro W2 hW2
  have d0 := (hW2.cell (p := ⟨b, 0, none⟩) (by simp; omega)).trans c0
  have z0 := (hW2.cell (p := ⟨g, i * 4, none⟩) hg2).trans p0
  have z1 := (hW2.cell (p := ⟨g, i * 4 + 1, none⟩) hg2).trans p1
  have z2 := (hW2.cell (p := ⟨g, i * 4 + 2, none⟩) hg2).trans p2
  have z3 := (hW2.cell (p := ⟨g, i * 4 + 3, none⟩) hg2).trans p3
  have y1 := (hW2.frozen (p := ⟨g, i * 4 + 1, none⟩) hg2).trans f1
  have y2 := (hW2.frozen (p := ⟨g, i * 4 + 2, none⟩) hg2).trans f2
  have y3 := (hW2.frozen (p := ⟨g, i * 4 + 3, none⟩) hg2).trans f3
  have hbxA := (hW2.block b hbl).trans hbx1
  have hbxB := (hW2.block (b + 1) (by omega)).trans hbx2
  have hcbA := (hW2.block cbk (by omega)).trans hcb2
  have x0 : W2.cell? ⟨cbk, 0, none⟩ = some (.bool false) := by simp [World.cell?, hcbA]
  have x1 : W2.frozen? ⟨cbk, 0, none⟩ = false := by simp [World.frozen?, hcbA]
  have hwW2 : Below cbk w W2 := hwW1.trans (hW2.mono (by omega))
  have ho2 := ho1.next hW2
  have gn0 := hokp.g0
  have gn1 := hokp.g1
  have HA := Lib.hid (And.intro hbxA hbxB)
  have HC := Lib.hid hcbA
  clear hspan c0 c1 p0 p1 p2 p3 f1 f2 f3 hbx1 hbx2 hcb2 hcb1 hcb hbx hn hn1 hokp hbxA hbxB hcbA
  obtain rfl : q = 0 := by rw [← Hq.out]; unfold spanN; rw [if_pos HCS.out.1]
  have k2 := HCS.out.2.1
  have k2' : p.f2 + 1 < 3 := by omega
  have EG : Hid (hearG now p = min (p.f2 + 1) 3) := Lib.hid (by unfold hearG; rw [if_pos HCS.out.1, if_neg (by omega)]; omega)
  have k3 := HCS.out.2.2
  have K3 := Lib.hid k3
  clear HCS
  go_wp2_with fail
  go_ret
  refine hear_fin3 ho2 hat HP.out hg1 (by omega) HA.out.1 HA.out.2 HC.out hwW2 HR.out ?_ ?_
  · rw [HQ.out]; unfold hearP hearS; rw [EG.out, if_pos (.inr K3.out)]
  · rw [HX.out]; unfold hearS; rw [EG.out, if_pos (.inr K3.out)]; simp [K3.out]

set_option maxHeartbeats 4000000 in
theorem hear_bone (now : Int) (ps : List S35) (n : Int) (nb cbk : Nat) (b : Nat) (w : World) (hn : w.cell? ⟨nb, 0, none⟩ = some (.int .i64 n)) (hcb : w.heap[cbk]? = some (.cells #[.bool false] 4 (0, 0))) (hlen : ps.length ≤ 1000) (hr : Rising ps) (hb : w.heap.size ≤ b)
    (hhas : has ps n = true) (hcase : now - (pu ps (idx n ps)).f1 ≤ 4 ∧ ¬ 1 < (pu ps (idx n ps)).f2 ∧ (pu ps (idx n ps)).f3 = 1) (hok : ∀ i, i < ps.length → OkN now (pu ps i)) :
    Does 35 #[.pointer (some ⟨nb, 0, none⟩), .pointer (some ⟨cbk, 0, none⟩)] b now ps (dropR ps n) now (hearQ now ps n) w cbk (fun W => W.heap[cbk]? = some (.cells #[.bool (hearC now ps n)] 4 (0, 0))) := by
  intro W v hW hbx hs ho
  have hnlt := block_lt_of_cell hn
  have hn1 := (hW.cell (p := ⟨nb, 0, none⟩) hnlt).trans hn
  have hclt : cbk < w.heap.size := (Array.getElem?_eq_some_iff.1 hcb).1
  have hcb1 := (hW.block cbk hclt).trans hcb
  obtain ⟨A, c, rfl, hc, hm⟩ := ho.c'
  obtain ⟨b0, b1, b2, b3⟩ := boxed_cells hbx
  have hpl : ∀ W' : World, Below W.heap.size W W' → Calls Try.prog 31 #[.agg #[.int .i64 now, .slice A ps.length c], .int .i64 n] W' fun e w' => e = .returned (.tuple #[.int .i64 (idx n ps), .bool (has ps n)]) ∧ Below W.heap.size W w' := by
    intro W' hW'
    obtain ⟨A', c', hv, _, hC⟩ := (ho.next hW').c (by omega)
    cases hv
    exact (place_is ps now n A c W' hC hlen hr).mono fun e w' ⟨h1, h2⟩ => ⟨h1, hW'.trans (h2.mono hW'.size)⟩
  obtain ⟨t, ht⟩ : ∃ t, has ps n = t := ⟨_, rfl⟩
  obtain ⟨i, hi⟩ : ∃ i, idx n ps = i := ⟨_, rfl⟩
  rw [ht, hi] at hpl
  show Calls Try.prog 35 #[.pointer (some ⟨b, 0, none⟩), .pointer (some ⟨nb, 0, none⟩), .pointer (some ⟨cbk, 0, none⟩)] W _
  go_enter Try.func35, Try.ntmps35
  go_wp2_with fail
  refine QP.region (C := fun W' => Below W.heap.size W W') [0, 1, 2, 3, 4, 5, 6, 7, 8, 9] [] (by kernel_rfl) (by kernel_rfl) ((Below.refl _ _).drew) ?_
  simp only [QP.pick, List.getElem?_cons_zero, List.getElem?_cons_succ]
  iterate 2 (refine wpQuiet_step (fun K hK => ?_); go_simp; refine ⟨_, fun _ _ => rfl, hK _ ?_⟩; clear hK K)
  refine wpQuiet_step (fun K hK => ?_)
  go_simp
  refine ⟨.agg #[.int .i64 now, .slice A ps.length c], fun W' hW' => ?_, hK _ ?_⟩
  · have z0 := (hW'.cell (p := ⟨b, 0, none⟩) (by simp; omega)).trans b0
    have z1 := (hW'.cell (p := ⟨b, 1, none⟩) (by simp; omega)).trans b1
    go_simp
  clear hK K
  refine wpQuiet_step (fun K hK => ?_)
  go_simp
  refine ⟨.int .i64 n, fun W' hW' => ?_, hK _ ?_⟩
  · have z0 := (hW'.cell (p := ⟨nb, 0, none⟩) (by have := hW.size; simp; omega)).trans hn1
    go_simp
  clear hK K
  refine wpQuiet_step (fun K hK => ?_)
  go_simp
  refine ⟨_, fun W' hW' => hpl W' hW', hK _ ?_⟩
  clear hK K
  iterate 5 (refine wpQuiet_step (fun K hK => ?_); go_simp; refine ⟨_, fun _ _ => rfl, hK _ ?_⟩; clear hK K)
  refine wpQuiet_nil ?_
  intro W1 hW1
  have c0 := (hW1.cell (p := ⟨b, 0, none⟩) (by simp; omega)).trans b0
  have c1 := (hW1.cell (p := ⟨b, 1, none⟩) (by simp; omega)).trans b1
  have hbx1 := (hW1.block b (by omega)).trans hbx
  have hbx2 := hW1.block (b + 1) (by omega)
  have hs1 := hW1.size
  have hws := hW.size
  have hcb2 := (hW1.block cbk (by omega)).trans hcb1
  have hwW1 : Below cbk w W1 := (hW.trans (hW1.mono hW.size)).mono (by omega)
  have ho1 := ho.next hW1
  clear hpl b0 b1 b2 b3
  obtain rfl : t = true := by rw [← ht]; exact hhas
  have hR : dropR ps n = 0 := by unfold dropR; rw [if_pos ht]
  have hat := (has_at hr ht).1
  rw [hi] at hat
  obtain ⟨p, hp⟩ : ∃ p, pu ps i = p := ⟨_, rfl⟩
  have hQ : hearQ now ps n = ps.set i (hearP now p) := by unfold hearQ; rw [if_pos ht, hi, hp]
  have hX : hearC now ps n = (decide (hearS now p = 1) && decide (p.f3 ≠ 1)) := by unfold hearC; rw [ht, hi, hp]; rfl
  have hokp := hok i hat
  rw [hp] at hokp
  obtain ⟨g, rfl, hg1, hg2⟩ := ho1.some_of (by omega)
  have hpa := (ho1.at hat).1
  have hpf := (ho1.at hat).2
  rw [hp] at hpa
  obtain ⟨p0, p1, p2, p3⟩ := hpa
  have f1 := hpf 1
  have f2 := hpf 2
  have f3 := hpf 3
  have hgb : g ≠ b := by omega
  have hgc : g ≠ cbk := by omega
  have hbc : b ≠ cbk := by omega
  have hspan : ∀ W' : World, Below W1.heap.size W1 W' → Calls Try.prog 36 #[.int .i64 now, .agg #[.int .i64 p.f0, .int .i64 p.f1, .int .i64 p.f2, .int .i64 p.f3]] W' fun e w' => e = .returned (.int .i64 (spanN now p.f1)) ∧ Below W1.heap.size W1 w' := fun W' hW' =>
    (beat_span.calls now p.f0 p.f1 p.f2 p.f3 _ W' (span_is hokp)).mono fun e w' ⟨h1, h2⟩ => ⟨h1, hW'.trans (h2.mono hW'.size)⟩
  have hbl : b < W1.heap.size := by omega
  obtain ⟨q, hq⟩ : ∃ q, spanN now p.f1 = q := ⟨_, rfl⟩
  rw [hq] at hspan
  have hi1 : (i : Int) < ((ps.length : Nat) : Int) := by omega
  rw [hi, hp] at hcase
  have HCS := Lib.hid hcase
  clear hcase
  have HR := Lib.hid hR
  have HQ := Lib.hid hQ
  have HX := Lib.hid hX
  have HP := Lib.hid hp
  have HI := Lib.hid hi
  have Hq := Lib.hid hq
  clear hR hQ hX ht hi hp hok hpf hq hhas
  go_wp2_with fail
  refine QP.region (C := fun W' => Below W1.heap.size W1 W') [0, 1, 2, 3, 4, 5, 6, 7, 8] [] (by kernel_rfl) (by kernel_rfl) ((Below.refl _ _).drew) ?_
  simp only [QP.pick, List.getElem?_cons_zero, List.getElem?_cons_succ]
  iterate 3 (refine wpQuiet_step (fun K hK => ?_); go_simp; refine ⟨_, fun _ _ => rfl, hK _ ?_⟩; clear hK K)
  refine wpQuiet_step (fun K hK => ?_)
  go_simp
  refine ⟨.int .i64 now, fun W' hW' => ?_, hK _ ?_⟩
  · have z0 := (hW'.cell (p := ⟨b, 0, none⟩) (by simp; omega)).trans c0
    go_simp
  clear hK K
  iterate 2 (refine wpQuiet_step (fun K hK => ?_); go_simp; refine ⟨_, fun _ _ => rfl, hK _ ?_⟩; clear hK K)
  refine wpQuiet_step (fun K hK => ?_)
  go_simp
  refine ⟨.agg #[.int .i64 p.f0, .int .i64 p.f1, .int .i64 p.f2, .int .i64 p.f3], fun W' hW' => ?_, hK _ ?_⟩
  · have z0 := (hW'.cell (p := ⟨g, i * 4, none⟩) hg2).trans p0
    have z1 := (hW'.cell (p := ⟨g, i * 4 + 1, none⟩) hg2).trans p1
    have z2 := (hW'.cell (p := ⟨g, i * 4 + 2, none⟩) hg2).trans p2
    have z3 := (hW'.cell (p := ⟨g, i * 4 + 3, none⟩) hg2).trans p3
    go_simp
  clear hK K
  refine wpQuiet_step (fun K hK => ?_)
  go_simp
  refine ⟨_, fun W' hW' => hspan W' hW', hK _ ?_⟩
  clear hK K
  refine wpQuiet_step (fun K hK => ?_)
  go_simp
  refine ⟨_, fun _ _ => rfl, hK _ ?_⟩
  clear hK K
  refine wpQuiet_nil ?_
  intro W2 hW2
  have d0 := (hW2.cell (p := ⟨b, 0, none⟩) (by simp; omega)).trans c0
  have z0 := (hW2.cell (p := ⟨g, i * 4, none⟩) hg2).trans p0
  have z1 := (hW2.cell (p := ⟨g, i * 4 + 1, none⟩) hg2).trans p1
  have z2 := (hW2.cell (p := ⟨g, i * 4 + 2, none⟩) hg2).trans p2
  have z3 := (hW2.cell (p := ⟨g, i * 4 + 3, none⟩) hg2).trans p3
  have y1 := (hW2.frozen (p := ⟨g, i * 4 + 1, none⟩) hg2).trans f1
  have y2 := (hW2.frozen (p := ⟨g, i * 4 + 2, none⟩) hg2).trans f2
  have y3 := (hW2.frozen (p := ⟨g, i * 4 + 3, none⟩) hg2).trans f3
  have hbxA := (hW2.block b hbl).trans hbx1
  have hbxB := (hW2.block (b + 1) (by omega)).trans hbx2
  have hcbA := (hW2.block cbk (by omega)).trans hcb2
  have x0 : W2.cell? ⟨cbk, 0, none⟩ = some (.bool false) := by simp [World.cell?, hcbA]
  have x1 : W2.frozen? ⟨cbk, 0, none⟩ = false := by simp [World.frozen?, hcbA]
  have hwW2 : Below cbk w W2 := hwW1.trans (hW2.mono (by omega))
  have ho2 := ho1.next hW2
  have gn0 := hokp.g0
  have gn1 := hokp.g1
  have HA := Lib.hid (And.intro hbxA hbxB)
  have HC := Lib.hid hcbA
  clear hspan c0 c1 p0 p1 p2 p3 f1 f2 f3 hbx1 hbx2 hcb2 hcb1 hcb hbx hn hn1 hokp hbxA hbxB hcbA
  obtain rfl : q = 0 := by rw [← Hq.out]; unfold spanN; rw [if_pos HCS.out.1]
  have k2 := HCS.out.2.1
  have k2' : p.f2 + 1 < 3 := by omega
  have EG : Hid (hearG now p = min (p.f2 + 1) 3) := Lib.hid (by unfold hearG; rw [if_pos HCS.out.1, if_neg (by omega)]; omega)
  have k3 := HCS.out.2.2
  have K3 := Lib.hid k3
  have K5 : Hid (¬ (hearG now p = 3 ∨ p.f3 = 2)) := Lib.hid (by rw [EG.out]; omega)
  clear HCS
  go_wp2_with fail
  go_ret
  refine hear_fin2 ho2 hat HP.out hg1 (by omega) HA.out.1 HA.out.2 HC.out hwW2 HR.out ?_ ?_
  · rw [HQ.out]; unfold hearP hearS; rw [EG.out, if_neg (by have := K5.out; rwa [EG.out] at this)]
  · rw [HX.out]; unfold hearS; rw [EG.out, if_neg (by have := K5.out; rwa [EG.out] at this)]; simp [K3.out]

set_option maxHeartbeats 4000000 in
theorem hear_bany (now : Int) (ps : List S35) (n : Int) (nb cbk : Nat) (b : Nat) (w : World) (hn : w.cell? ⟨nb, 0, none⟩ = some (.int .i64 n)) (hcb : w.heap[cbk]? = some (.cells #[.bool false] 4 (0, 0))) (hlen : ps.length ≤ 1000) (hr : Rising ps) (hb : w.heap.size ≤ b)
    (hhas : has ps n = true) (hcase : now - (pu ps (idx n ps)).f1 ≤ 4 ∧ ¬ 1 < (pu ps (idx n ps)).f2 ∧ ¬ (pu ps (idx n ps)).f3 = 2 ∧ ¬ (pu ps (idx n ps)).f3 = 1) (hok : ∀ i, i < ps.length → OkN now (pu ps i)) :
    Does 35 #[.pointer (some ⟨nb, 0, none⟩), .pointer (some ⟨cbk, 0, none⟩)] b now ps (dropR ps n) now (hearQ now ps n) w cbk (fun W => W.heap[cbk]? = some (.cells #[.bool (hearC now ps n)] 4 (0, 0))) := by
  intro W v hW hbx hs ho
  have hnlt := block_lt_of_cell hn
  have hn1 := (hW.cell (p := ⟨nb, 0, none⟩) hnlt).trans hn
  have hclt : cbk < w.heap.size := (Array.getElem?_eq_some_iff.1 hcb).1
  have hcb1 := (hW.block cbk hclt).trans hcb
  obtain ⟨A, c, rfl, hc, hm⟩ := ho.c'
  obtain ⟨b0, b1, b2, b3⟩ := boxed_cells hbx
  have hpl : ∀ W' : World, Below W.heap.size W W' → Calls Try.prog 31 #[.agg #[.int .i64 now, .slice A ps.length c], .int .i64 n] W' fun e w' => e = .returned (.tuple #[.int .i64 (idx n ps), .bool (has ps n)]) ∧ Below W.heap.size W w' := by
    intro W' hW'
    obtain ⟨A', c', hv, _, hC⟩ := (ho.next hW').c (by omega)
    cases hv
    exact (place_is ps now n A c W' hC hlen hr).mono fun e w' ⟨h1, h2⟩ => ⟨h1, hW'.trans (h2.mono hW'.size)⟩
  obtain ⟨t, ht⟩ : ∃ t, has ps n = t := ⟨_, rfl⟩
  obtain ⟨i, hi⟩ : ∃ i, idx n ps = i := ⟨_, rfl⟩
  rw [ht, hi] at hpl
  show Calls Try.prog 35 #[.pointer (some ⟨b, 0, none⟩), .pointer (some ⟨nb, 0, none⟩), .pointer (some ⟨cbk, 0, none⟩)] W _
  go_enter Try.func35, Try.ntmps35
  go_wp2_with fail
  refine QP.region (C := fun W' => Below W.heap.size W W') [0, 1, 2, 3, 4, 5, 6, 7, 8, 9] [] (by kernel_rfl) (by kernel_rfl) ((Below.refl _ _).drew) ?_
  simp only [QP.pick, List.getElem?_cons_zero, List.getElem?_cons_succ]
  iterate 2 (refine wpQuiet_step (fun K hK => ?_); go_simp; refine ⟨_, fun _ _ => rfl, hK _ ?_⟩; clear hK K)
  refine wpQuiet_step (fun K hK => ?_)
  go_simp
  refine ⟨.agg #[.int .i64 now, .slice A ps.length c], fun W' hW' => ?_, hK _ ?_⟩
  · have z0 := (hW'.cell (p := ⟨b, 0, none⟩) (by simp; omega)).trans b0
    have z1 := (hW'.cell (p := ⟨b, 1, none⟩) (by simp; omega)).trans b1
    go_simp
  clear hK K
  refine wpQuiet_step (fun K hK => ?_)
  go_simp
  refine ⟨.int .i64 n, fun W' hW' => ?_, hK _ ?_⟩
  · have z0 := (hW'.cell (p := ⟨nb, 0, none⟩) (by have := hW.size; simp; omega)).trans hn1
    go_simp
  clear hK K
  refine wpQuiet_step (fun K hK => ?_)
  go_simp
  refine ⟨_, fun W' hW' => hpl W' hW', hK _ ?_⟩
  clear hK K
  iterate 5 (refine wpQuiet_step (fun K hK => ?_); go_simp; refine ⟨_, fun _ _ => rfl, hK _ ?_⟩; clear hK K)
  refine wpQuiet_nil ?_
  intro W1 hW1
  have c0 := (hW1.cell (p := ⟨b, 0, none⟩) (by simp; omega)).trans b0
  have c1 := (hW1.cell (p := ⟨b, 1, none⟩) (by simp; omega)).trans b1
  have hbx1 := (hW1.block b (by omega)).trans hbx
  have hbx2 := hW1.block (b + 1) (by omega)
  have hs1 := hW1.size
  have hws := hW.size
  have hcb2 := (hW1.block cbk (by omega)).trans hcb1
  have hwW1 : Below cbk w W1 := (hW.trans (hW1.mono hW.size)).mono (by omega)
  have ho1 := ho.next hW1
  clear hpl b0 b1 b2 b3
  obtain rfl : t = true := by rw [← ht]; exact hhas
  have hR : dropR ps n = 0 := by unfold dropR; rw [if_pos ht]
  have hat := (has_at hr ht).1
  rw [hi] at hat
  obtain ⟨p, hp⟩ : ∃ p, pu ps i = p := ⟨_, rfl⟩
  have hQ : hearQ now ps n = ps.set i (hearP now p) := by unfold hearQ; rw [if_pos ht, hi, hp]
  have hX : hearC now ps n = (decide (hearS now p = 1) && decide (p.f3 ≠ 1)) := by unfold hearC; rw [ht, hi, hp]; rfl
  have hokp := hok i hat
  rw [hp] at hokp
  obtain ⟨g, rfl, hg1, hg2⟩ := ho1.some_of (by omega)
  have hpa := (ho1.at hat).1
  have hpf := (ho1.at hat).2
  rw [hp] at hpa
  obtain ⟨p0, p1, p2, p3⟩ := hpa
  have f1 := hpf 1
  have f2 := hpf 2
  have f3 := hpf 3
  have hgb : g ≠ b := by omega
  have hgc : g ≠ cbk := by omega
  have hbc : b ≠ cbk := by omega
  have hspan : ∀ W' : World, Below W1.heap.size W1 W' → Calls Try.prog 36 #[.int .i64 now, .agg #[.int .i64 p.f0, .int .i64 p.f1, .int .i64 p.f2, .int .i64 p.f3]] W' fun e w' => e = .returned (.int .i64 (spanN now p.f1)) ∧ Below W1.heap.size W1 w' := fun W' hW' =>
    (beat_span.calls now p.f0 p.f1 p.f2 p.f3 _ W' (span_is hokp)).mono fun e w' ⟨h1, h2⟩ => ⟨h1, hW'.trans (h2.mono hW'.size)⟩
  have hbl : b < W1.heap.size := by omega
  obtain ⟨q, hq⟩ : ∃ q, spanN now p.f1 = q := ⟨_, rfl⟩
  rw [hq] at hspan
  have hi1 : (i : Int) < ((ps.length : Nat) : Int) := by omega
  rw [hi, hp] at hcase
  have HCS := Lib.hid hcase
  clear hcase
  have HR := Lib.hid hR
  have HQ := Lib.hid hQ
  have HX := Lib.hid hX
  have HP := Lib.hid hp
  have HI := Lib.hid hi
  have Hq := Lib.hid hq
  clear hR hQ hX ht hi hp hok hpf hq hhas
  go_wp2_with fail
  refine QP.region (C := fun W' => Below W1.heap.size W1 W') [0, 1, 2, 3, 4, 5, 6, 7, 8] [] (by kernel_rfl) (by kernel_rfl) ((Below.refl _ _).drew) ?_
  simp only [QP.pick, List.getElem?_cons_zero, List.getElem?_cons_succ]
  iterate 3 (refine wpQuiet_step (fun K hK => ?_); go_simp; refine ⟨_, fun _ _ => rfl, hK _ ?_⟩; clear hK K)
  refine wpQuiet_step (fun K hK => ?_)
  go_simp
  refine ⟨.int .i64 now, fun W' hW' => ?_, hK _ ?_⟩
  · have z0 := (hW'.cell (p := ⟨b, 0, none⟩) (by simp; omega)).trans c0
    go_simp
  clear hK K
  iterate 2 (refine wpQuiet_step (fun K hK => ?_); go_simp; refine ⟨_, fun _ _ => rfl, hK _ ?_⟩; clear hK K)
  refine wpQuiet_step (fun K hK => ?_)
  go_simp
  refine ⟨.agg #[.int .i64 p.f0, .int .i64 p.f1, .int .i64 p.f2, .int .i64 p.f3], fun W' hW' => ?_, hK _ ?_⟩
  · have z0 := (hW'.cell (p := ⟨g, i * 4, none⟩) hg2).trans p0
    have z1 := (hW'.cell (p := ⟨g, i * 4 + 1, none⟩) hg2).trans p1
    have z2 := (hW'.cell (p := ⟨g, i * 4 + 2, none⟩) hg2).trans p2
    have z3 := (hW'.cell (p := ⟨g, i * 4 + 3, none⟩) hg2).trans p3
    go_simp
  clear hK K
  refine wpQuiet_step (fun K hK => ?_)
  go_simp
  refine ⟨_, fun W' hW' => hspan W' hW', hK _ ?_⟩
  clear hK K
  refine wpQuiet_step (fun K hK => ?_)
  go_simp
  refine ⟨_, fun _ _ => rfl, hK _ ?_⟩
  clear hK K
  refine wpQuiet_nil ?_
  intro W2 hW2
  have d0 := (hW2.cell (p := ⟨b, 0, none⟩) (by simp; omega)).trans c0
  have z0 := (hW2.cell (p := ⟨g, i * 4, none⟩) hg2).trans p0
  have z1 := (hW2.cell (p := ⟨g, i * 4 + 1, none⟩) hg2).trans p1
  have z2 := (hW2.cell (p := ⟨g, i * 4 + 2, none⟩) hg2).trans p2
  have z3 := (hW2.cell (p := ⟨g, i * 4 + 3, none⟩) hg2).trans p3
  have y1 := (hW2.frozen (p := ⟨g, i * 4 + 1, none⟩) hg2).trans f1
  have y2 := (hW2.frozen (p := ⟨g, i * 4 + 2, none⟩) hg2).trans f2
  have y3 := (hW2.frozen (p := ⟨g, i * 4 + 3, none⟩) hg2).trans f3
  have hbxA := (hW2.block b hbl).trans hbx1
  have hbxB := (hW2.block (b + 1) (by omega)).trans hbx2
  have hcbA := (hW2.block cbk (by omega)).trans hcb2
  have x0 : W2.cell? ⟨cbk, 0, none⟩ = some (.bool false) := by simp [World.cell?, hcbA]
  have x1 : W2.frozen? ⟨cbk, 0, none⟩ = false := by simp [World.frozen?, hcbA]
  have hwW2 : Below cbk w W2 := hwW1.trans (hW2.mono (by omega))
  have ho2 := ho1.next hW2
  have gn0 := hokp.g0
  have gn1 := hokp.g1
  have HA := Lib.hid (And.intro hbxA hbxB)
  have HC := Lib.hid hcbA
  clear hspan c0 c1 p0 p1 p2 p3 f1 f2 f3 hbx1 hbx2 hcb2 hcb1 hcb hbx hn hn1 hokp hbxA hbxB hcbA
  obtain rfl : q = 0 := by rw [← Hq.out]; unfold spanN; rw [if_pos HCS.out.1]
  have k2 := HCS.out.2.1
  have k2' : p.f2 + 1 < 3 := by omega
  have EG : Hid (hearG now p = min (p.f2 + 1) 3) := Lib.hid (by unfold hearG; rw [if_pos HCS.out.1, if_neg (by omega)]; omega)
  have k3 := HCS.out.2.2.1
  have k4 := HCS.out.2.2.2
  have k7 : (p.f3 == 2) = false := by simpa using k3
  have k8 : (min (p.f2 + 1) 3 == 3) = false := by simp; omega
  have K5 : Hid (¬ (hearG now p = 3 ∨ p.f3 = 2)) := Lib.hid (by rw [EG.out]; omega)
  clear HCS
  go_wp2_with fail
  go_ret
  refine hear_fin2 ho2 hat HP.out hg1 (by omega) HA.out.1 HA.out.2 HC.out hwW2 HR.out ?_ ?_
  · rw [HQ.out]; unfold hearP hearS; rw [EG.out, if_neg (by have := K5.out; rwa [EG.out] at this)]
  · rw [HX.out]; unfold hearS; rw [EG.out, if_neg (by have := K5.out; rwa [EG.out] at this)]; simp [k4]

set_option maxHeartbeats 4000000 in
theorem hear_ctwo (now : Int) (ps : List S35) (n : Int) (nb cbk : Nat) (b : Nat) (w : World) (hn : w.cell? ⟨nb, 0, none⟩ = some (.int .i64 n)) (hcb : w.heap[cbk]? = some (.cells #[.bool false] 4 (0, 0))) (hlen : ps.length ≤ 1000) (hr : Rising ps) (hb : w.heap.size ≤ b)
    (hhas : has ps n = true) (hcase : ¬ now - (pu ps (idx n ps)).f1 ≤ 4 ∧ (pu ps (idx n ps)).f3 = 2) (hok : ∀ i, i < ps.length → OkN now (pu ps i)) :
    Does 35 #[.pointer (some ⟨nb, 0, none⟩), .pointer (some ⟨cbk, 0, none⟩)] b now ps (dropR ps n) now (hearQ now ps n) w cbk (fun W => W.heap[cbk]? = some (.cells #[.bool (hearC now ps n)] 4 (0, 0))) := by
  intro W v hW hbx hs ho
  have hnlt := block_lt_of_cell hn
  have hn1 := (hW.cell (p := ⟨nb, 0, none⟩) hnlt).trans hn
  have hclt : cbk < w.heap.size := (Array.getElem?_eq_some_iff.1 hcb).1
  have hcb1 := (hW.block cbk hclt).trans hcb
  obtain ⟨A, c, rfl, hc, hm⟩ := ho.c'
  obtain ⟨b0, b1, b2, b3⟩ := boxed_cells hbx
  have hpl : ∀ W' : World, Below W.heap.size W W' → Calls Try.prog 31 #[.agg #[.int .i64 now, .slice A ps.length c], .int .i64 n] W' fun e w' => e = .returned (.tuple #[.int .i64 (idx n ps), .bool (has ps n)]) ∧ Below W.heap.size W w' := by
    intro W' hW'
    obtain ⟨A', c', hv, _, hC⟩ := (ho.next hW').c (by omega)
    cases hv
    exact (place_is ps now n A c W' hC hlen hr).mono fun e w' ⟨h1, h2⟩ => ⟨h1, hW'.trans (h2.mono hW'.size)⟩
  obtain ⟨t, ht⟩ : ∃ t, has ps n = t := ⟨_, rfl⟩
  obtain ⟨i, hi⟩ : ∃ i, idx n ps = i := ⟨_, rfl⟩
  rw [ht, hi] at hpl
  show Calls Try.prog 35 #[.pointer (some ⟨b, 0, none⟩), .pointer (some ⟨nb, 0, none⟩), .pointer (some ⟨cbk, 0, none⟩)] W _
  go_enter Try.func35, Try.ntmps35
  go_wp2_with fail
  refine QP.region (C := fun W' => Below W.heap.size W W') [0, 1, 2, 3, 4, 5, 6, 7, 8, 9] [] (by kernel_rfl) (by kernel_rfl) ((Below.refl _ _).drew) ?_
  simp only [QP.pick, List.getElem?_cons_zero, List.getElem?_cons_succ]
  iterate 2 (refine wpQuiet_step (fun K hK => ?_); go_simp; refine ⟨_, fun _ _ => rfl, hK _ ?_⟩; clear hK K)
  refine wpQuiet_step (fun K hK => ?_)
  go_simp
  refine ⟨.agg #[.int .i64 now, .slice A ps.length c], fun W' hW' => ?_, hK _ ?_⟩
  · have z0 := (hW'.cell (p := ⟨b, 0, none⟩) (by simp; omega)).trans b0
    have z1 := (hW'.cell (p := ⟨b, 1, none⟩) (by simp; omega)).trans b1
    go_simp
  clear hK K
  refine wpQuiet_step (fun K hK => ?_)
  go_simp
  refine ⟨.int .i64 n, fun W' hW' => ?_, hK _ ?_⟩
  · have z0 := (hW'.cell (p := ⟨nb, 0, none⟩) (by have := hW.size; simp; omega)).trans hn1
    go_simp
  clear hK K
  refine wpQuiet_step (fun K hK => ?_)
  go_simp
  refine ⟨_, fun W' hW' => hpl W' hW', hK _ ?_⟩
  clear hK K
  iterate 5 (refine wpQuiet_step (fun K hK => ?_); go_simp; refine ⟨_, fun _ _ => rfl, hK _ ?_⟩; clear hK K)
  refine wpQuiet_nil ?_
  intro W1 hW1
  have c0 := (hW1.cell (p := ⟨b, 0, none⟩) (by simp; omega)).trans b0
  have c1 := (hW1.cell (p := ⟨b, 1, none⟩) (by simp; omega)).trans b1
  have hbx1 := (hW1.block b (by omega)).trans hbx
  have hbx2 := hW1.block (b + 1) (by omega)
  have hs1 := hW1.size
  have hws := hW.size
  have hcb2 := (hW1.block cbk (by omega)).trans hcb1
  have hwW1 : Below cbk w W1 := (hW.trans (hW1.mono hW.size)).mono (by omega)
  have ho1 := ho.next hW1
  clear hpl b0 b1 b2 b3
  obtain rfl : t = true := by rw [← ht]; exact hhas
  have hR : dropR ps n = 0 := by unfold dropR; rw [if_pos ht]
  have hat := (has_at hr ht).1
  rw [hi] at hat
  obtain ⟨p, hp⟩ : ∃ p, pu ps i = p := ⟨_, rfl⟩
  have hQ : hearQ now ps n = ps.set i (hearP now p) := by unfold hearQ; rw [if_pos ht, hi, hp]
  have hX : hearC now ps n = (decide (hearS now p = 1) && decide (p.f3 ≠ 1)) := by unfold hearC; rw [ht, hi, hp]; rfl
  have hokp := hok i hat
  rw [hp] at hokp
  obtain ⟨g, rfl, hg1, hg2⟩ := ho1.some_of (by omega)
  have hpa := (ho1.at hat).1
  have hpf := (ho1.at hat).2
  rw [hp] at hpa
  obtain ⟨p0, p1, p2, p3⟩ := hpa
  have f1 := hpf 1
  have f2 := hpf 2
  have f3 := hpf 3
  have hgb : g ≠ b := by omega
  have hgc : g ≠ cbk := by omega
  have hbc : b ≠ cbk := by omega
  have hspan : ∀ W' : World, Below W1.heap.size W1 W' → Calls Try.prog 36 #[.int .i64 now, .agg #[.int .i64 p.f0, .int .i64 p.f1, .int .i64 p.f2, .int .i64 p.f3]] W' fun e w' => e = .returned (.int .i64 (spanN now p.f1)) ∧ Below W1.heap.size W1 w' := fun W' hW' =>
    (beat_span.calls now p.f0 p.f1 p.f2 p.f3 _ W' (span_is hokp)).mono fun e w' ⟨h1, h2⟩ => ⟨h1, hW'.trans (h2.mono hW'.size)⟩
  have hbl : b < W1.heap.size := by omega
  obtain ⟨q, hq⟩ : ∃ q, spanN now p.f1 = q := ⟨_, rfl⟩
  rw [hq] at hspan
  have hi1 : (i : Int) < ((ps.length : Nat) : Int) := by omega
  rw [hi, hp] at hcase
  have HCS := Lib.hid hcase
  clear hcase
  have HR := Lib.hid hR
  have HQ := Lib.hid hQ
  have HX := Lib.hid hX
  have HP := Lib.hid hp
  have HI := Lib.hid hi
  have Hq := Lib.hid hq
  clear hR hQ hX ht hi hp hok hpf hq hhas
  go_wp2_with fail
  refine QP.region (C := fun W' => Below W1.heap.size W1 W') [0, 1, 2, 3, 4, 5, 6, 7, 8] [] (by kernel_rfl) (by kernel_rfl) ((Below.refl _ _).drew) ?_
  simp only [QP.pick, List.getElem?_cons_zero, List.getElem?_cons_succ]
  iterate 3 (refine wpQuiet_step (fun K hK => ?_); go_simp; refine ⟨_, fun _ _ => rfl, hK _ ?_⟩; clear hK K)
  refine wpQuiet_step (fun K hK => ?_)
  go_simp
  refine ⟨.int .i64 now, fun W' hW' => ?_, hK _ ?_⟩
  · have z0 := (hW'.cell (p := ⟨b, 0, none⟩) (by simp; omega)).trans c0
    go_simp
  clear hK K
  iterate 2 (refine wpQuiet_step (fun K hK => ?_); go_simp; refine ⟨_, fun _ _ => rfl, hK _ ?_⟩; clear hK K)
  refine wpQuiet_step (fun K hK => ?_)
  go_simp
  refine ⟨.agg #[.int .i64 p.f0, .int .i64 p.f1, .int .i64 p.f2, .int .i64 p.f3], fun W' hW' => ?_, hK _ ?_⟩
  · have z0 := (hW'.cell (p := ⟨g, i * 4, none⟩) hg2).trans p0
    have z1 := (hW'.cell (p := ⟨g, i * 4 + 1, none⟩) hg2).trans p1
    have z2 := (hW'.cell (p := ⟨g, i * 4 + 2, none⟩) hg2).trans p2
    have z3 := (hW'.cell (p := ⟨g, i * 4 + 3, none⟩) hg2).trans p3
    go_simp
  clear hK K
  refine wpQuiet_step (fun K hK => ?_)
  go_simp
  refine ⟨_, fun W' hW' => hspan W' hW', hK _ ?_⟩
  clear hK K
  refine wpQuiet_step (fun K hK => ?_)
  go_simp
  refine ⟨_, fun _ _ => rfl, hK _ ?_⟩
  clear hK K
  refine wpQuiet_nil ?_
  intro W2 hW2
  have d0 := (hW2.cell (p := ⟨b, 0, none⟩) (by simp; omega)).trans c0
  have z0 := (hW2.cell (p := ⟨g, i * 4, none⟩) hg2).trans p0
  have z1 := (hW2.cell (p := ⟨g, i * 4 + 1, none⟩) hg2).trans p1
  have z2 := (hW2.cell (p := ⟨g, i * 4 + 2, none⟩) hg2).trans p2
  have z3 := (hW2.cell (p := ⟨g, i * 4 + 3, none⟩) hg2).trans p3
  have y1 := (hW2.frozen (p := ⟨g, i * 4 + 1, none⟩) hg2).trans f1
  have y2 := (hW2.frozen (p := ⟨g, i * 4 + 2, none⟩) hg2).trans f2
  have y3 := (hW2.frozen (p := ⟨g, i * 4 + 3, none⟩) hg2).trans f3
  have hbxA := (hW2.block b hbl).trans hbx1
  have hbxB := (hW2.block (b + 1) (by omega)).trans hbx2
  have hcbA := (hW2.block cbk (by omega)).trans hcb2
  have x0 : W2.cell? ⟨cbk, 0, none⟩ = some (.bool false) := by simp [World.cell?, hcbA]
  have x1 : W2.frozen? ⟨cbk, 0, none⟩ = false := by simp [World.frozen?, hcbA]
  have hwW2 : Below cbk w W2 := hwW1.trans (hW2.mono (by omega))
  have ho2 := ho1.next hW2
  have gn0 := hokp.g0
  have gn1 := hokp.g1
  have HA := Lib.hid (And.intro hbxA hbxB)
  have HC := Lib.hid hcbA
  clear hspan c0 c1 p0 p1 p2 p3 f1 f2 f3 hbx1 hbx2 hcb2 hcb1 hcb hbx hn hn1 hokp hbxA hbxB hcbA
  have hqp : ¬ q = 0 := by rw [← Hq.out]; unfold spanN; rw [if_neg (by have := HCS.out.1; omega)]; split <;> omega
  have EG : Hid (hearG now p = 1) := Lib.hid (by unfold hearG; rw [if_neg (by have := HCS.out.1; omega)])
  have k3 := HCS.out.2
  have K3 := Lib.hid k3
  clear HCS
  go_wp2_with fail
  go_ret
  refine hear_fin3 ho2 hat HP.out hg1 (by omega) HA.out.1 HA.out.2 HC.out hwW2 HR.out ?_ ?_
  · rw [HQ.out]; unfold hearP hearS; rw [EG.out, if_pos (.inr K3.out)]
  · rw [HX.out]; unfold hearS; rw [EG.out, if_pos (.inr K3.out)]; simp [K3.out]

set_option maxHeartbeats 4000000 in
theorem hear_cone (now : Int) (ps : List S35) (n : Int) (nb cbk : Nat) (b : Nat) (w : World) (hn : w.cell? ⟨nb, 0, none⟩ = some (.int .i64 n)) (hcb : w.heap[cbk]? = some (.cells #[.bool false] 4 (0, 0))) (hlen : ps.length ≤ 1000) (hr : Rising ps) (hb : w.heap.size ≤ b)
    (hhas : has ps n = true) (hcase : ¬ now - (pu ps (idx n ps)).f1 ≤ 4 ∧ (pu ps (idx n ps)).f3 = 1) (hok : ∀ i, i < ps.length → OkN now (pu ps i)) :
    Does 35 #[.pointer (some ⟨nb, 0, none⟩), .pointer (some ⟨cbk, 0, none⟩)] b now ps (dropR ps n) now (hearQ now ps n) w cbk (fun W => W.heap[cbk]? = some (.cells #[.bool (hearC now ps n)] 4 (0, 0))) := by
  intro W v hW hbx hs ho
  have hnlt := block_lt_of_cell hn
  have hn1 := (hW.cell (p := ⟨nb, 0, none⟩) hnlt).trans hn
  have hclt : cbk < w.heap.size := (Array.getElem?_eq_some_iff.1 hcb).1
  have hcb1 := (hW.block cbk hclt).trans hcb
  obtain ⟨A, c, rfl, hc, hm⟩ := ho.c'
  obtain ⟨b0, b1, b2, b3⟩ := boxed_cells hbx
  have hpl : ∀ W' : World, Below W.heap.size W W' → Calls Try.prog 31 #[.agg #[.int .i64 now, .slice A ps.length c], .int .i64 n] W' fun e w' => e = .returned (.tuple #[.int .i64 (idx n ps), .bool (has ps n)]) ∧ Below W.heap.size W w' := by
    intro W' hW'
    obtain ⟨A', c', hv, _, hC⟩ := (ho.next hW').c (by omega)
    cases hv
    exact (place_is ps now n A c W' hC hlen hr).mono fun e w' ⟨h1, h2⟩ => ⟨h1, hW'.trans (h2.mono hW'.size)⟩
  obtain ⟨t, ht⟩ : ∃ t, has ps n = t := ⟨_, rfl⟩
  obtain ⟨i, hi⟩ : ∃ i, idx n ps = i := ⟨_, rfl⟩
  rw [ht, hi] at hpl
  show Calls Try.prog 35 #[.pointer (some ⟨b, 0, none⟩), .pointer (some ⟨nb, 0, none⟩), .pointer (some ⟨cbk, 0, none⟩)] W _
  go_enter Try.func35, Try.ntmps35
  go_wp2_with fail
  refine QP.region (C := fun W' => Below W.heap.size W W') [0, 1, 2, 3, 4, 5, 6, 7, 8, 9] [] (by kernel_rfl) (by kernel_rfl) ((Below.refl _ _).drew) ?_
  simp only [QP.pick, List.getElem?_cons_zero, List.getElem?_cons_succ]
  iterate 2 (refine wpQuiet_step (fun K hK => ?_); go_simp; refine ⟨_, fun _ _ => rfl, hK _ ?_⟩; clear hK K)
  refine wpQuiet_step (fun K hK => ?_)
  go_simp
  refine ⟨.agg #[.int .i64 now, .slice A ps.length c], fun W' hW' => ?_, hK _ ?_⟩
  · have z0 := (hW'.cell (p := ⟨b, 0, none⟩) (by simp; omega)).trans b0
    have z1 := (hW'.cell (p := ⟨b, 1, none⟩) (by simp; omega)).trans b1
    go_simp
  clear hK K
  refine wpQuiet_step (fun K hK => ?_)
  go_simp
  refine ⟨.int .i64 n, fun W' hW' => ?_, hK _ ?_⟩
  · have z0 := (hW'.cell (p := ⟨nb, 0, none⟩) (by have := hW.size; simp; omega)).trans hn1
    go_simp
  clear hK K
  refine wpQuiet_step (fun K hK => ?_)
  go_simp
  refine ⟨_, fun W' hW' => hpl W' hW', hK _ ?_⟩
  clear hK K
  iterate 5 (refine wpQuiet_step (fun K hK => ?_); go_simp; refine ⟨_, fun _ _ => rfl, hK _ ?_⟩; clear hK K)
  refine wpQuiet_nil ?_
  intro W1 hW1
  have c0 := (hW1.cell (p := ⟨b, 0, none⟩) (by simp; omega)).trans b0
  have c1 := (hW1.cell (p := ⟨b, 1, none⟩) (by simp; omega)).trans b1
  have hbx1 := (hW1.block b (by omega)).trans hbx
  have hbx2 := hW1.block (b + 1) (by omega)
  have hs1 := hW1.size
  have hws := hW.size
  have hcb2 := (hW1.block cbk (by omega)).trans hcb1
  have hwW1 : Below cbk w W1 := (hW.trans (hW1.mono hW.size)).mono (by omega)
  have ho1 := ho.next hW1
  clear hpl b0 b1 b2 b3
  obtain rfl : t = true := by rw [← ht]; exact hhas
  have hR : dropR ps n = 0 := by unfold dropR; rw [if_pos ht]
  have hat := (has_at hr ht).1
  rw [hi] at hat
  obtain ⟨p, hp⟩ : ∃ p, pu ps i = p := ⟨_, rfl⟩
  have hQ : hearQ now ps n = ps.set i (hearP now p) := by unfold hearQ; rw [if_pos ht, hi, hp]
  have hX : hearC now ps n = (decide (hearS now p = 1) && decide (p.f3 ≠ 1)) := by unfold hearC; rw [ht, hi, hp]; rfl
  have hokp := hok i hat
  rw [hp] at hokp
  obtain ⟨g, rfl, hg1, hg2⟩ := ho1.some_of (by omega)
  have hpa := (ho1.at hat).1
  have hpf := (ho1.at hat).2
  rw [hp] at hpa
  obtain ⟨p0, p1, p2, p3⟩ := hpa
  have f1 := hpf 1
  have f2 := hpf 2
  have f3 := hpf 3
  have hgb : g ≠ b := by omega
  have hgc : g ≠ cbk := by omega
  have hbc : b ≠ cbk := by omega
  have hspan : ∀ W' : World, Below W1.heap.size W1 W' → Calls Try.prog 36 #[.int .i64 now, .agg #[.int .i64 p.f0, .int .i64 p.f1, .int .i64 p.f2, .int .i64 p.f3]] W' fun e w' => e = .returned (.int .i64 (spanN now p.f1)) ∧ Below W1.heap.size W1 w' := fun W' hW' =>
    (beat_span.calls now p.f0 p.f1 p.f2 p.f3 _ W' (span_is hokp)).mono fun e w' ⟨h1, h2⟩ => ⟨h1, hW'.trans (h2.mono hW'.size)⟩
  have hbl : b < W1.heap.size := by omega
  obtain ⟨q, hq⟩ : ∃ q, spanN now p.f1 = q := ⟨_, rfl⟩
  rw [hq] at hspan
  have hi1 : (i : Int) < ((ps.length : Nat) : Int) := by omega
  rw [hi, hp] at hcase
  have HCS := Lib.hid hcase
  clear hcase
  have HR := Lib.hid hR
  have HQ := Lib.hid hQ
  have HX := Lib.hid hX
  have HP := Lib.hid hp
  have HI := Lib.hid hi
  have Hq := Lib.hid hq
  clear hR hQ hX ht hi hp hok hpf hq hhas
  go_wp2_with fail
  refine QP.region (C := fun W' => Below W1.heap.size W1 W') [0, 1, 2, 3, 4, 5, 6, 7, 8] [] (by kernel_rfl) (by kernel_rfl) ((Below.refl _ _).drew) ?_
  simp only [QP.pick, List.getElem?_cons_zero, List.getElem?_cons_succ]
  iterate 3 (refine wpQuiet_step (fun K hK => ?_); go_simp; refine ⟨_, fun _ _ => rfl, hK _ ?_⟩; clear hK K)
  refine wpQuiet_step (fun K hK => ?_)
  go_simp
  refine ⟨.int .i64 now, fun W' hW' => ?_, hK _ ?_⟩
  · have z0 := (hW'.cell (p := ⟨b, 0, none⟩) (by simp; omega)).trans c0
    go_simp
  clear hK K
  iterate 2 (refine wpQuiet_step (fun K hK => ?_); go_simp; refine ⟨_, fun _ _ => rfl, hK _ ?_⟩; clear hK K)
  refine wpQuiet_step (fun K hK => ?_)
  go_simp
  refine ⟨.agg #[.int .i64 p.f0, .int .i64 p.f1, .int .i64 p.f2, .int .i64 p.f3], fun W' hW' => ?_, hK _ ?_⟩
  · have z0 := (hW'.cell (p := ⟨g, i * 4, none⟩) hg2).trans p0
    have z1 := (hW'.cell (p := ⟨g, i * 4 + 1, none⟩) hg2).trans p1
    have z2 := (hW'.cell (p := ⟨g, i * 4 + 2, none⟩) hg2).trans p2
    have z3 := (hW'.cell (p := ⟨g, i * 4 + 3, none⟩) hg2).trans p3
    go_simp
  clear hK K
  refine wpQuiet_step (fun K hK => ?_)
  go_simp
  refine ⟨_, fun W' hW' => hspan W' hW', hK _ ?_⟩
  clear hK K
  refine wpQuiet_step (fun K hK => ?_)
  go_simp
  refine ⟨_, fun _ _ => rfl, hK _ ?_⟩
  clear hK K
  refine wpQuiet_nil ?_
  intro W2 hW2
  have d0 := (hW2.cell (p := ⟨b, 0, none⟩) (by simp; omega)).trans c0
  have z0 := (hW2.cell (p := ⟨g, i * 4, none⟩) hg2).trans p0
  have z1 := (hW2.cell (p := ⟨g, i * 4 + 1, none⟩) hg2).trans p1
  have z2 := (hW2.cell (p := ⟨g, i * 4 + 2, none⟩) hg2).trans p2
  have z3 := (hW2.cell (p := ⟨g, i * 4 + 3, none⟩) hg2).trans p3
  have y1 := (hW2.frozen (p := ⟨g, i * 4 + 1, none⟩) hg2).trans f1
  have y2 := (hW2.frozen (p := ⟨g, i * 4 + 2, none⟩) hg2).trans f2
  have y3 := (hW2.frozen (p := ⟨g, i * 4 + 3, none⟩) hg2).trans f3
  have hbxA := (hW2.block b hbl).trans hbx1
  have hbxB := (hW2.block (b + 1) (by omega)).trans hbx2
  have hcbA := (hW2.block cbk (by omega)).trans hcb2
  have x0 : W2.cell? ⟨cbk, 0, none⟩ = some (.bool false) := by simp [World.cell?, hcbA]
  have x1 : W2.frozen? ⟨cbk, 0, none⟩ = false := by simp [World.frozen?, hcbA]
  have hwW2 : Below cbk w W2 := hwW1.trans (hW2.mono (by omega))
  have ho2 := ho1.next hW2
  have gn0 := hokp.g0
  have gn1 := hokp.g1
  have HA := Lib.hid (And.intro hbxA hbxB)
  have HC := Lib.hid hcbA
  clear hspan c0 c1 p0 p1 p2 p3 f1 f2 f3 hbx1 hbx2 hcb2 hcb1 hcb hbx hn hn1 hokp hbxA hbxB hcbA
  have hqp : ¬ q = 0 := by rw [← Hq.out]; unfold spanN; rw [if_neg (by have := HCS.out.1; omega)]; split <;> omega
  have EG : Hid (hearG now p = 1) := Lib.hid (by unfold hearG; rw [if_neg (by have := HCS.out.1; omega)])
  have k3 := HCS.out.2
  have K3 := Lib.hid k3
  have K5 : Hid (¬ (hearG now p = 3 ∨ p.f3 = 2)) := Lib.hid (by rw [EG.out]; omega)
  clear HCS
  go_wp2_with fail
  go_ret
  refine hear_fin2 ho2 hat HP.out hg1 (by omega) HA.out.1 HA.out.2 HC.out hwW2 HR.out ?_ ?_
  · rw [HQ.out]; unfold hearP hearS; rw [EG.out, if_neg (by have := K5.out; rwa [EG.out] at this)]
  · rw [HX.out]; unfold hearS; rw [EG.out, if_neg (by have := K5.out; rwa [EG.out] at this)]; simp [K3.out]

set_option maxHeartbeats 4000000 in
theorem hear_cany (now : Int) (ps : List S35) (n : Int) (nb cbk : Nat) (b : Nat) (w : World) (hn : w.cell? ⟨nb, 0, none⟩ = some (.int .i64 n)) (hcb : w.heap[cbk]? = some (.cells #[.bool false] 4 (0, 0))) (hlen : ps.length ≤ 1000) (hr : Rising ps) (hb : w.heap.size ≤ b)
    (hhas : has ps n = true) (hcase : ¬ now - (pu ps (idx n ps)).f1 ≤ 4 ∧ ¬ (pu ps (idx n ps)).f3 = 2 ∧ ¬ (pu ps (idx n ps)).f3 = 1) (hok : ∀ i, i < ps.length → OkN now (pu ps i)) :
    Does 35 #[.pointer (some ⟨nb, 0, none⟩), .pointer (some ⟨cbk, 0, none⟩)] b now ps (dropR ps n) now (hearQ now ps n) w cbk (fun W => W.heap[cbk]? = some (.cells #[.bool (hearC now ps n)] 4 (0, 0))) := by
  intro W v hW hbx hs ho
  have hnlt := block_lt_of_cell hn
  have hn1 := (hW.cell (p := ⟨nb, 0, none⟩) hnlt).trans hn
  have hclt : cbk < w.heap.size := (Array.getElem?_eq_some_iff.1 hcb).1
  have hcb1 := (hW.block cbk hclt).trans hcb
  obtain ⟨A, c, rfl, hc, hm⟩ := ho.c'
  obtain ⟨b0, b1, b2, b3⟩ := boxed_cells hbx
  have hpl : ∀ W' : World, Below W.heap.size W W' → Calls Try.prog 31 #[.agg #[.int .i64 now, .slice A ps.length c], .int .i64 n] W' fun e w' => e = .returned (.tuple #[.int .i64 (idx n ps), .bool (has ps n)]) ∧ Below W.heap.size W w' := by
    intro W' hW'
    obtain ⟨A', c', hv, _, hC⟩ := (ho.next hW').c (by omega)
    cases hv
    exact (place_is ps now n A c W' hC hlen hr).mono fun e w' ⟨h1, h2⟩ => ⟨h1, hW'.trans (h2.mono hW'.size)⟩
  obtain ⟨t, ht⟩ : ∃ t, has ps n = t := ⟨_, rfl⟩
  obtain ⟨i, hi⟩ : ∃ i, idx n ps = i := ⟨_, rfl⟩
  rw [ht, hi] at hpl
  show Calls Try.prog 35 #[.pointer (some ⟨b, 0, none⟩), .pointer (some ⟨nb, 0, none⟩), .pointer (some ⟨cbk, 0, none⟩)] W _
  go_enter Try.func35, Try.ntmps35
  go_wp2_with fail
  refine QP.region (C := fun W' => Below W.heap.size W W') [0, 1, 2, 3, 4, 5, 6, 7, 8, 9] [] (by kernel_rfl) (by kernel_rfl) ((Below.refl _ _).drew) ?_
  simp only [QP.pick, List.getElem?_cons_zero, List.getElem?_cons_succ]
  iterate 2 (refine wpQuiet_step (fun K hK => ?_); go_simp; refine ⟨_, fun _ _ => rfl, hK _ ?_⟩; clear hK K)
  refine wpQuiet_step (fun K hK => ?_)
  go_simp
  refine ⟨.agg #[.int .i64 now, .slice A ps.length c], fun W' hW' => ?_, hK _ ?_⟩
  · have z0 := (hW'.cell (p := ⟨b, 0, none⟩) (by simp; omega)).trans b0
    have z1 := (hW'.cell (p := ⟨b, 1, none⟩) (by simp; omega)).trans b1
    go_simp
  clear hK K
  refine wpQuiet_step (fun K hK => ?_)
  go_simp
  refine ⟨.int .i64 n, fun W' hW' => ?_, hK _ ?_⟩
  · have z0 := (hW'.cell (p := ⟨nb, 0, none⟩) (by have := hW.size; simp; omega)).trans hn1
    go_simp
  clear hK K
  refine wpQuiet_step (fun K hK => ?_)
  go_simp
  refine ⟨_, fun W' hW' => hpl W' hW', hK _ ?_⟩
  clear hK K
  iterate 5 (refine wpQuiet_step (fun K hK => ?_); go_simp; refine ⟨_, fun _ _ => rfl, hK _ ?_⟩; clear hK K)
  refine wpQuiet_nil ?_
  intro W1 hW1
  have c0 := (hW1.cell (p := ⟨b, 0, none⟩) (by simp; omega)).trans b0
  have c1 := (hW1.cell (p := ⟨b, 1, none⟩) (by simp; omega)).trans b1
  have hbx1 := (hW1.block b (by omega)).trans hbx
  have hbx2 := hW1.block (b + 1) (by omega)
  have hs1 := hW1.size
  have hws := hW.size
  have hcb2 := (hW1.block cbk (by omega)).trans hcb1
  have hwW1 : Below cbk w W1 := (hW.trans (hW1.mono hW.size)).mono (by omega)
  have ho1 := ho.next hW1
  clear hpl b0 b1 b2 b3
  obtain rfl : t = true := by rw [← ht]; exact hhas
  have hR : dropR ps n = 0 := by unfold dropR; rw [if_pos ht]
  have hat := (has_at hr ht).1
  rw [hi] at hat
  obtain ⟨p, hp⟩ : ∃ p, pu ps i = p := ⟨_, rfl⟩
  have hQ : hearQ now ps n = ps.set i (hearP now p) := by unfold hearQ; rw [if_pos ht, hi, hp]
  have hX : hearC now ps n = (decide (hearS now p = 1) && decide (p.f3 ≠ 1)) := by unfold hearC; rw [ht, hi, hp]; rfl
  have hokp := hok i hat
  rw [hp] at hokp
  obtain ⟨g, rfl, hg1, hg2⟩ := ho1.some_of (by omega)
  have hpa := (ho1.at hat).1
  have hpf := (ho1.at hat).2
  rw [hp] at hpa
  obtain ⟨p0, p1, p2, p3⟩ := hpa
  have f1 := hpf 1
  have f2 := hpf 2
  have f3 := hpf 3
  have hgb : g ≠ b := by omega
  have hgc : g ≠ cbk := by omega
  have hbc : b ≠ cbk := by omega
  have hspan : ∀ W' : World, Below W1.heap.size W1 W' → Calls Try.prog 36 #[.int .i64 now, .agg #[.int .i64 p.f0, .int .i64 p.f1, .int .i64 p.f2, .int .i64 p.f3]] W' fun e w' => e = .returned (.int .i64 (spanN now p.f1)) ∧ Below W1.heap.size W1 w' := fun W' hW' =>
    (beat_span.calls now p.f0 p.f1 p.f2 p.f3 _ W' (span_is hokp)).mono fun e w' ⟨h1, h2⟩ => ⟨h1, hW'.trans (h2.mono hW'.size)⟩
  have hbl : b < W1.heap.size := by omega
  obtain ⟨q, hq⟩ : ∃ q, spanN now p.f1 = q := ⟨_, rfl⟩
  rw [hq] at hspan
  have hi1 : (i : Int) < ((ps.length : Nat) : Int) := by omega
  rw [hi, hp] at hcase
  have HCS := Lib.hid hcase
  clear hcase
  have HR := Lib.hid hR
  have HQ := Lib.hid hQ
  have HX := Lib.hid hX
  have HP := Lib.hid hp
  have HI := Lib.hid hi
  have Hq := Lib.hid hq
  clear hR hQ hX ht hi hp hok hpf hq hhas
  go_wp2_with fail
  refine QP.region (C := fun W' => Below W1.heap.size W1 W') [0, 1, 2, 3, 4, 5, 6, 7, 8] [] (by kernel_rfl) (by kernel_rfl) ((Below.refl _ _).drew) ?_
  simp only [QP.pick, List.getElem?_cons_zero, List.getElem?_cons_succ]
  iterate 3 (refine wpQuiet_step (fun K hK => ?_); go_simp; refine ⟨_, fun _ _ => rfl, hK _ ?_⟩; clear hK K)
  refine wpQuiet_step (fun K hK => ?_)
  go_simp
  refine ⟨.int .i64 now, fun W' hW' => ?_, hK _ ?_⟩
  · have z0 := (hW'.cell (p := ⟨b, 0, none⟩) (by simp; omega)).trans c0
    go_simp
  clear hK K
  iterate 2 (refine wpQuiet_step (fun K hK => ?_); go_simp; refine ⟨_, fun _ _ => rfl, hK _ ?_⟩; clear hK K)
  refine wpQuiet_step (fun K hK => ?_)
  go_simp
  refine ⟨.agg #[.int .i64 p.f0, .int .i64 p.f1, .int .i64 p.f2, .int .i64 p.f3], fun W' hW' => ?_, hK _ ?_⟩
  · have z0 := (hW'.cell (p := ⟨g, i * 4, none⟩) hg2).trans p0
    have z1 := (hW'.cell (p := ⟨g, i * 4 + 1, none⟩) hg2).trans p1
    have z2 := (hW'.cell (p := ⟨g, i * 4 + 2, none⟩) hg2).trans p2
    have z3 := (hW'.cell (p := ⟨g, i * 4 + 3, none⟩) hg2).trans p3
    go_simp
  clear hK K
  refine wpQuiet_step (fun K hK => ?_)
  go_simp
  refine ⟨_, fun W' hW' => hspan W' hW', hK _ ?_⟩
  clear hK K
  refine wpQuiet_step (fun K hK => ?_)
  go_simp
  refine ⟨_, fun _ _ => rfl, hK _ ?_⟩
  clear hK K
  refine wpQuiet_nil ?_
  intro W2 hW2
  have d0 := (hW2.cell (p := ⟨b, 0, none⟩) (by simp; omega)).trans c0
  have z0 := (hW2.cell (p := ⟨g, i * 4, none⟩) hg2).trans p0
  have z1 := (hW2.cell (p := ⟨g, i * 4 + 1, none⟩) hg2).trans p1
  have z2 := (hW2.cell (p := ⟨g, i * 4 + 2, none⟩) hg2).trans p2
  have z3 := (hW2.cell (p := ⟨g, i * 4 + 3, none⟩) hg2).trans p3
  have y1 := (hW2.frozen (p := ⟨g, i * 4 + 1, none⟩) hg2).trans f1
  have y2 := (hW2.frozen (p := ⟨g, i * 4 + 2, none⟩) hg2).trans f2
  have y3 := (hW2.frozen (p := ⟨g, i * 4 + 3, none⟩) hg2).trans f3
  have hbxA := (hW2.block b hbl).trans hbx1
  have hbxB := (hW2.block (b + 1) (by omega)).trans hbx2
  have hcbA := (hW2.block cbk (by omega)).trans hcb2
  have x0 : W2.cell? ⟨cbk, 0, none⟩ = some (.bool false) := by simp [World.cell?, hcbA]
  have x1 : W2.frozen? ⟨cbk, 0, none⟩ = false := by simp [World.frozen?, hcbA]
  have hwW2 : Below cbk w W2 := hwW1.trans (hW2.mono (by omega))
  have ho2 := ho1.next hW2
  have gn0 := hokp.g0
  have gn1 := hokp.g1
  have HA := Lib.hid (And.intro hbxA hbxB)
  have HC := Lib.hid hcbA
  clear hspan c0 c1 p0 p1 p2 p3 f1 f2 f3 hbx1 hbx2 hcb2 hcb1 hcb hbx hn hn1 hokp hbxA hbxB hcbA
  have hqp : ¬ q = 0 := by rw [← Hq.out]; unfold spanN; rw [if_neg (by have := HCS.out.1; omega)]; split <;> omega
  have EG : Hid (hearG now p = 1) := Lib.hid (by unfold hearG; rw [if_neg (by have := HCS.out.1; omega)])
  have k3 := HCS.out.2.1
  have k4 := HCS.out.2.2
  have K5 : Hid (¬ (hearG now p = 3 ∨ p.f3 = 2)) := Lib.hid (by rw [EG.out]; omega)
  clear HCS
  go_wp2_with fail
  go_ret
  refine hear_fin2 ho2 hat HP.out hg1 (by omega) HA.out.1 HA.out.2 HC.out hwW2 HR.out ?_ ?_
  · rw [HQ.out]; unfold hearP hearS; rw [EG.out, if_neg (by have := K5.out; rwa [EG.out] at this)]
  · rw [HX.out]; unfold hearS; rw [EG.out, if_neg (by have := K5.out; rwa [EG.out] at this)]; simp [k4]

theorem hear_does (now : Int) (ps : List S35) (n : Int) (nb cbk : Nat) (b : Nat) (w : World) (hn : w.cell? ⟨nb, 0, none⟩ = some (.int .i64 n)) (hcb : w.heap[cbk]? = some (.cells #[.bool false] 4 (0, 0))) (hlen : ps.length ≤ 1000) (hr : Rising ps) (hb : w.heap.size ≤ b)
    (hok : ∀ i, i < ps.length → OkN now (pu ps i)) :
    Does 35 #[.pointer (some ⟨nb, 0, none⟩), .pointer (some ⟨cbk, 0, none⟩)] b now ps (dropR ps n) now (hearQ now ps n) w cbk (fun W => W.heap[cbk]? = some (.cells #[.bool (hearC now ps n)] 4 (0, 0))) := by
  rcases Bool.eq_false_or_eq_true (has ps n) with h | h
  · by_cases h1 : now - (pu ps (idx n ps)).f1 ≤ 4
    · by_cases h2 : 1 < (pu ps (idx n ps)).f2
      · exact hear_a now ps n nb cbk b w hn hcb hlen hr hb h ⟨h1, h2⟩ hok
      · by_cases h3 : (pu ps (idx n ps)).f3 = 2
        · exact hear_btwo now ps n nb cbk b w hn hcb hlen hr hb h ⟨h1, h2, h3⟩ hok
        · by_cases h4 : (pu ps (idx n ps)).f3 = 1
          · exact hear_bone now ps n nb cbk b w hn hcb hlen hr hb h ⟨h1, h2, h4⟩ hok
          · exact hear_bany now ps n nb cbk b w hn hcb hlen hr hb h ⟨h1, h2, h3, h4⟩ hok
    · by_cases h3 : (pu ps (idx n ps)).f3 = 2
      · exact hear_ctwo now ps n nb cbk b w hn hcb hlen hr hb h ⟨h1, h3⟩ hok
      · by_cases h4 : (pu ps (idx n ps)).f3 = 1
        · exact hear_cone now ps n nb cbk b w hn hcb hlen hr hb h ⟨h1, h4⟩ hok
        · exact hear_cany now ps n nb cbk b w hn hcb hlen hr hb h ⟨h1, h3, h4⟩ hok
  · exact hear_none now ps n nb cbk b w hn hcb hlen hr hb h hok

end Go.Proofs.Ytplkimgoogoadaa
