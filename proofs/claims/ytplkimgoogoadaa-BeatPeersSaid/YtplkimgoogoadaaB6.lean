/- What comes of a peer that is added. -/
import Derived.Test.YtplkimgoogoadaaB5
import Derived.Test.YtplkimgoogoadaaJ1
import Derived.Test.YtplkimgoogoadaaQP
namespace Go.Proofs.Ytplkimgoogoadaa
open Go.RowKit Go.Proofs.YtplkimgoogoadaaW.PrintWords PBeatPeers

/-- A peer among the others. -/
def insP (ps : List S35) (p : S35) : List S35 := ps.take (idx p.f0 ps) ++ p :: ps.drop (idx p.f0 ps)
def addR (ps : List S35) (n : Int) : Int := if n < 1 ∨ 8 < n then 2 else if has ps n = true then 5 else 0
def addQ (now : Int) (ps : List S35) (n : Int) : List S35 := if addR ps n = 0 then insP ps ⟨n, now, 0, 0⟩ else ps

theorem Own.drew {w : World} {B : Nat} {v : Value} {ps : List S35} (h : Own w B v ps) : Own w.drew B v ps := h
theorem Own.next {w w' : World} {B : Nat} {v : Value} {ps : List S35} (h : Own w B v ps) (k : Below w.heap.size w w') : Own w' B v ps :=
  World.ownsRow.kept (row := none) h ⟨k.os, k.tape, k.output, k.size, fun i hi _ => k.block i hi⟩ (by
    rcases ho : v.ownBlock with _ | b
    · exact .inl rfl
    · exact .inr (by simp))

set_option maxHeartbeats 4000000 in
theorem add_does (now : Int) (ps : List S35) (n : Int) (nb : Nat) (b : Nat) (w : World) (hn : w.cell? ⟨nb, 0, none⟩ = some (.int .i64 n)) (hlen : ps.length ≤ 1000) (hr : Rising ps) (hb : w.heap.size ≤ b) :
    Does 30 #[.pointer (some ⟨nb, 0, none⟩)] b now ps (addR ps n) now (addQ now ps n) w w.heap.size (fun _ => True) := by
  intro W v hW hbx hs ho
  have hnlt := block_lt_of_cell hn
  have hn1 := (hW.cell (p := ⟨nb, 0, none⟩) hnlt).trans hn
  obtain ⟨A, c, rfl, hc, hm⟩ := ho.c'
  obtain ⟨b0, b1, b2, b3⟩ := boxed_cells hbx
  have hpl : ∀ W' : World, Below W.heap.size W W' → Calls Try.prog 31 #[.agg #[.int .i64 now, .slice A ps.length c], .int .i64 n] W' fun e w' => e = .returned (.tuple #[.int .i64 (idx n ps), .bool (has ps n)]) ∧ Below W.heap.size W w' := by
    intro W' hW'
    obtain ⟨A', c', hv, _, hC⟩ := (ho.next hW').c (by omega)
    cases hv
    exact (place_is ps now n A c W' hC hlen hr).mono fun e w' ⟨h1, h2⟩ => ⟨h1, hW'.trans (h2.mono hW'.size)⟩
  obtain ⟨t, ht⟩ : ∃ t, has ps n = t := ⟨_, rfl⟩
  obtain ⟨i, hi⟩ : ∃ i, idx n ps = i := ⟨_, rfl⟩
  rw [ht, hi] at hpl
  show Calls Try.prog 30 #[.pointer (some ⟨b, 0, none⟩), .pointer (some ⟨nb, 0, none⟩)] W _
  go_enter Try.func30, Try.ntmps30
  go_wp2_with fail
  refine QP.region (C := fun W' => Below W.heap.size W W') [0, 1, 2, 3, 4, 5, 6, 7, 8, 9] [] (by kernel_rfl) (by kernel_rfl) ((Below.refl _ _).drew) ?_
  simp only [QP.pick, List.getElem?_cons_zero, List.getElem?_cons_succ]
  iterate 2 (refine wpQuiet_step (fun K hK => ?_); go_simp; refine ⟨_, fun _ _ => rfl, hK _ ?_⟩; clear hK K)
  · refine wpQuiet_step (fun K hK => ?_)
    go_simp
    refine ⟨.agg #[.int .i64 now, .slice A ps.length c], fun W' hW' => ?_, hK _ ?_⟩
    · have z0 := (hW'.cell (p := ⟨b, 0, none⟩) (by simp; omega)).trans b0
      have z1 := (hW'.cell (p := ⟨b, 1, none⟩) (by simp; omega)).trans b1
      go_simp
    clear hK K
    refine wpQuiet_step (fun K hK => ?_)
    go_simp
    refine ⟨.int .i64 n, fun W' hW' => ?_, hK _ ?_⟩
    · have z0 := (hW'.cell (p := ⟨nb, 0, none⟩) (by have := hW.size; simp; omega)).trans hn1
      go_simp
    clear hK K
    refine wpQuiet_step (fun K hK => ?_)
    go_simp
    refine ⟨_, fun W' hW' => hpl W' hW', hK _ ?_⟩
    clear hK K
    iterate 5 (refine wpQuiet_step (fun K hK => ?_); go_simp; refine ⟨_, fun _ _ => rfl, hK _ ?_⟩; clear hK K)
    refine wpQuiet_nil ?_
    intro W1 hW1
    have c0 := (hW1.cell (p := ⟨b, 0, none⟩) (by simp; omega)).trans b0
    have c1 := (hW1.cell (p := ⟨b, 1, none⟩) (by simp; omega)).trans b1
    have c2 := (hW1.frozen (p := ⟨b, 1, none⟩) (by simp; omega)).trans b3
    have c3 := (hW1.cell (p := ⟨nb, 0, none⟩) (by have := hW.size; simp; omega)).trans hn1
    have hbx1 := (hW1.block b (by omega)).trans hbx
    have hbx2 := hW1.block (b + 1) (by omega)
    have hs1 := hW1.size
    have hwW1 : Below w.heap.size w W1 := hW.trans (hW1.mono hW.size)
    have ho1 := ho.next hW1
    clear hpl b0 b1 b2 b3
    by_cases h1 : n < 1 ∨ 8 < n
    · have hR : addR ps n = 2 := by unfold addR; rw [if_pos h1]
      have hQ : addQ now ps n = ps := by unfold addQ; rw [hR]; rfl
      have HR := Lib.hid hR
      have HQ := Lib.hid hQ
      clear hR hQ ht hi
      by_cases h2 : n < 1
      · go_wp2_with fail
        go_ret
        exact Did.mk HR.out.symm HQ.out.symm hbx1 ho1 hwW1 hbx2 trivial
      · have h3 : 8 < n := by omega
        go_wp2_with fail
        go_ret
        exact Did.mk HR.out.symm HQ.out.symm hbx1 ho1 hwW1 hbx2 trivial
    · have h2 : ¬ n < 1 := by omega
      have h3 : ¬ 8 < n := by omega
      cases t
      rotate_left
      · have hR : addR ps n = 5 := by unfold addR; rw [if_neg h1, if_pos ht]
        have hQ : addQ now ps n = ps := by unfold addQ; rw [hR]; rfl
        have HR := Lib.hid hR
        have HQ := Lib.hid hQ
        clear hR hQ ht hi
        go_wp2_with fail
        go_ret
        exact Did.mk HR.out.symm HQ.out.symm hbx1 ho1 hwW1 hbx2 trivial
      · have hR : addR ps n = 0 := by unfold addR; rw [if_neg h1, if_neg (by simp [ht])]
        have hQ : addQ now ps n = insP ps ⟨n, now, 0, 0⟩ := by unfold addQ; rw [if_pos hR]
        have HR := Lib.hid hR
        have HQ := Lib.hid hQ
        have HT := Lib.hid ht
        have HI := Lib.hid hi
        clear h1 hR hQ ht hi
        go_wp2_with fail
        refine QP.regionM (fun W' => W'.cell? ⟨b, 0, none⟩ = some (.int .i64 now) ∧ W'.cell? ⟨b, 1, none⟩ = some (.slice A ps.length c) ∧ W'.cell? ⟨nb, 0, none⟩ = some (.int .i64 n)) [0, 1, 2, 3, 4, 5, 6, 7, 8, 9, 10, 11] [0] 12 _ [13, 14, 15, 16] (by kernel_rfl) (by rfl) (by intro _ d _ _ _ h; cases d <;> exact h) (by kernel_rfl) ⟨c0, c1, c3⟩ ?_
        simp only [QP.pick, QP.pickB, QP.isIn, List.getElem?_cons_zero, List.getElem?_cons_succ, Nat.reduceBEq, Bool.or_false]
        iterate 4 (refine QP.wpRead_step (fun K hK => ?_); go_simp; (first | refine ⟨_, by intros; rfl, hK _ ?_⟩ | refine hK _ ?_); clear hK K)
        refine QP.wpRead_step (fun K hK => ?_)
        go_simp
        refine ⟨.slice A ps.length c, ?_, hK _ ?_⟩
        · intro W' z0 z1 z2
          go_simp
        clear hK K
        refine QP.wpRead_step (fun K hK => ?_)
        go_simp
        (first | refine ⟨_, by intros; rfl, hK _ ?_⟩ | refine hK _ ?_)
        clear hK K
        refine QP.wpRead_step (fun K hK => ?_)
        go_simp
        refine ⟨.int .i64 n, ?_, hK _ ?_⟩
        · intro W' z0 z1 z2
          go_simp
        clear hK K
        iterate 3 (refine QP.wpRead_step (fun K hK => ?_); go_simp; (first | refine ⟨_, by intros; rfl, hK _ ?_⟩ | refine hK _ ?_); clear hK K)
        refine QP.wpRead_step (fun K hK => ?_)
        go_simp
        refine ⟨.int .i64 now, ?_, hK _ ?_⟩
        · intro W' z0 z1 z2
          go_simp
        clear hK K
        refine QP.wpRead_step (fun K hK => ?_)
        go_simp
        (first | refine ⟨_, by intros; rfl, hK _ ?_⟩ | refine hK _ ?_)
        clear hK K
        refine QP.wpRead_nil ?_
        intro K hK
        go_simp
        refine hK _ _ ?_ ?_
        · have hA := ((Below.refl W1.heap.size W1).alloc (Nat.le_refl _) (.cells #[.int .i64 n, .int .i64 now, .int .i64 0, .int .i64 0] 35)).drew
          exact ⟨(hA.cell (p := ⟨b, 0, none⟩) (by simp; omega)).trans c0, (hA.cell (p := ⟨b, 1, none⟩) (by simp; omega)).trans c1, (hA.cell (p := ⟨nb, 0, none⟩) (by have := hW.size; simp; omega)).trans c3⟩
        clear hK K
        obtain ⟨W2, hW2⟩ : ∃ W2, (W1.alloc (.cells #[.int .i64 n, .int .i64 now, .int .i64 0, .int .i64 0] 35)).drew = W2 := ⟨_, rfl⟩
        have hA : Below W1.heap.size W1 W2 := by rw [← hW2]; exact ((Below.refl W1.heap.size W1).alloc (Nat.le_refl _) _).drew
        have hT : W2.heap[W1.heap.size]? = some (.cells #[.int .i64 n, .int .i64 now, .int .i64 0, .int .i64 0] 35 (0, 0)) := by rw [← hW2]; exact World.alloc_heap_new W1 _
        have hT2 : W1.heap.size < W2.heap.size := (Array.getElem?_eq_some_iff.1 hT).1
        have hil : i ≤ ps.length := by rw [← HI.out]; exact idx_le n ps
        have ho2 := ho1.next hA
        have hob : ∀ g, (Value.slice A ps.length c).ownBlock = some g → b + 2 ≤ g ∧ g < W1.heap.size := by
          intro g hg
          rcases ho1.2 with ⟨h, _⟩ | ⟨g', cap, cur, h, hB, h1, _⟩
          · rw [h] at hg; cases hg
          · rw [h] at hg
            obtain rfl : g' = g := by injection hg
            exact ⟨hB, (Array.getElem?_eq_some_iff.1 h1).1⟩
        have hins := Ins35.insert_any (pcells (ps.take i)) (pcells (ps.drop i)) [.int .i64 n, .int .i64 now, .int .i64 0, .int .i64 0] i ps.length (B := b + 2) (v := .slice A ps.length c) W2 W1.heap.size (by omega) (by omega) hil
          (by rw [pcells_len, List.length_take, Nat.min_eq_left hil]) (by rw [← pcells_app, List.take_append_drop]; exact ho2) ⟨35, hT⟩ (by intro e; have := (hob _ e).2; omega) rfl
          (by intro u hu; simp at hu; rcases hu with rfl | rfl | rfl <;> rfl) (pcells_one _)
        have hA0 := (hA.block b (by omega)).trans hbx1
        have hA1 := (hA.block (b + 1) (by omega)).trans hbx2
        have hwW2 : Below w.heap.size w W2 := hwW1.trans (hA.mono hwW1.size)
        have hbW2 : b + 1 < W2.heap.size := by have := hA.size; omega
        clear hA hT hT2 ho2 c0 c1 c2 c3
        rw [hW2]
        go_wp2_with fail
        refine hins.mono ?_
        rintro e w2 ⟨v', rfl, ho3, hg3⟩
        have hB0 := (hg3.block b (by have := (Array.getElem?_eq_some_iff.1 hA0).1; omega) (by intro e; have := (hob b e.symm).1; omega)).trans hA0
        have hB1 := (hg3.block (b + 1) (by omega) (by intro e; have := (hob (b + 1) e.symm).1; omega)).trans hA1
        have hfin : Below w.heap.size w w2 := hwW2.trans ⟨hg3.os, hg3.tape, hg3.output, hg3.size, fun k hk => hg3.block k (by have := hwW2.size; omega) (by intro e; have := (hob k e.symm).1; omega)⟩
        obtain ⟨y0, y1, y2, y3⟩ := boxed_cells hB0
        have hpl : pcells (ps.take i) ++ ([.int .i64 n, .int .i64 now, .int .i64 0, .int .i64 0] ++ pcells (ps.drop i)) = pcells (insP ps ⟨n, now, 0, 0⟩) := by
          unfold insP
          rw [pcells_app, HI.out]
          rfl
        have hll : (insP ps ⟨n, now, 0, 0⟩).length = ps.length + 1 := by
          unfold insP
          rw [List.length_append, List.length_cons, List.length_take, List.length_drop, HI.out]
          omega
        have ho4 : Own w2 (b + 2) v' (insP ps ⟨n, now, 0, 0⟩) := by
          unfold Own
          rw [hll, ← hpl]
          exact ho3
        have HP := Lib.hid ho4
        clear hpl hll ho3 ho4 hins hob hg3 hA0 hA1
        obtain ⟨A', c', rfl, _, _⟩ := HP.out.c'
        go_wp2_with fail
        go_ret
        refine Did.mk HR.out.symm HQ.out.symm (v' := .slice A' (insP ps ⟨n, now, 0, 0⟩).length c') ?_ (HP.out.far (by simp) _) (hfin.setCell (by simp; omega) _) ?_ trivial
        · simp [World.setCell, Array.getElem?_modify, hB0]
        · exact (Below.heap_setCell w2 ⟨b, 1, none⟩ _ (b + 1) (by simp)).trans hB1

end Go.Proofs.Ytplkimgoogoadaa
