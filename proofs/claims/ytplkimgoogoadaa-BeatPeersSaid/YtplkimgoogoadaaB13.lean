/- Pass, of the one peer that wakes has. -/
import Derived.Test.YtplkimgoogoadaaB12
namespace Go.Proofs.Ytplkimgoogoadaa
open Go.RowKit Go.Proofs.YtplkimgoogoadaaW.PrintWords PBeatPeers

def p1 : S35 := ⟨1, 0, 3, 1⟩
def q1 : S35 := ⟨1, 0, 0, 3⟩
theorem info3 : (Try.prog.info? 3).map (fun i => (i.zero, i.size, i.bytes)) = some (some (.int .i64 0), 1, 8) := by kernel_rfl

/-- The row of those that came down. -/
def Down (db lo : Nat) (W : World) : Prop := ∃ h c, lo ≤ h ∧ W.heap[db]? = some (.cells #[.slice (some ⟨h, 0, none⟩) 1 c] 47 (0, 0)) ∧ W.cell? ⟨h, 0, none⟩ = some (.int .i64 1)

theorem below_drewN {n : Nat} {w w' : World} (h : Below n w w') (k : Nat) : Below n w (w'.drewN k) := ⟨h.os, h.tape, h.output, h.size, h.block⟩
theorem span_p1 : beat_span.f 10 1 0 3 1 = some 2 := span_is (now := 10) (p := ⟨1, 0, 3, 1⟩) ⟨by decide, by decide, by decide, by decide, by decide, by decide⟩

theorem frozen_of {w w' : World} {a : Addr} (h : w'.heap[a.block]? = w.heap[a.block]?) : w'.frozen? a = w.frozen? a := by simp only [World.frozen?, h]
theorem own_one {W : World} {B : Nat} {v : Value} (h : W.ownsRow B 3 1 v (0 + 1) ([] ++ [Value.int .i64 1])) : ∃ r cp, v = .slice (some ⟨r, 0, none⟩) 1 cp ∧ B ≤ r ∧ r < W.heap.size ∧ W.cell? ⟨r, 0, none⟩ = some (.int .i64 1) := by
  rcases h.2 with ⟨_, h0⟩ | ⟨r, cp, cur, rfl, hB, h1, _⟩
  · omega
  · exact ⟨r, cp, rfl, hB, (Array.getElem?_eq_some_iff.1 h1).1, h.cellAt 0 (by decide)⟩

set_option maxRecDepth 100000 in
set_option maxHeartbeats 4000000 in
theorem pass_does (nb db : Nat) (b : Nat) (w : World) (hn : w.cell? ⟨nb, 0, none⟩ = some (.int .i64 10)) (hdb : w.heap[db]? = some (.cells #[.slice none 0 0] 47 (0, 0))) (hb : w.heap.size ≤ b) :
    Does 38 #[.pointer (some ⟨nb, 0, none⟩), .pointer (some ⟨db, 0, none⟩)] b 0 [p1] 0 10 [q1] w db (Down db (b + 2)) := by
  intro W v hW hbx hs ho
  have hnlt := block_lt_of_cell hn
  have hn1 := (hW.cell (p := ⟨nb, 0, none⟩) hnlt).trans hn
  have hdlt : db < w.heap.size := (Array.getElem?_eq_some_iff.1 hdb).1
  have hdb1 := (hW.block db hdlt).trans hdb
  obtain ⟨A, c, rfl, hc, hm⟩ := ho.c'
  obtain ⟨g, rfl, hg1, hg2⟩ := ho.some_of (by decide)
  obtain ⟨b0, b1, b2, b3⟩ := boxed_cells hbx
  have hpa := (ho.at (i := 0) (by decide)).1
  have hpf := (ho.at (i := 0) (by decide)).2
  obtain ⟨p0, p1', p2, p3⟩ := hpa
  have f1 := hpf 1
  have f2 := hpf 2
  have f3 := hpf 3
  simp only [Nat.zero_mul, Nat.zero_add] at p0 p1' p2 p3 f1 f2 f3
  have hws := hW.size
  have hgb : g ≠ b := by omega
  have hgd : g ≠ db := by omega
  have hbd : b ≠ db := by omega
  have d0 : W.cell? ⟨db, 0, none⟩ = some (.slice none 0 0) := by simp [World.cell?, hdb1]
  have d1 : W.frozen? ⟨db, 0, none⟩ = false := by simp [World.frozen?, hdb1]
  show Calls Try.prog 38 #[.pointer (some ⟨b, 0, none⟩), .pointer (some ⟨nb, 0, none⟩), .pointer (some ⟨db, 0, none⟩)] W _
  have hlen1 : [p1].length = 1 := rfl
  rw [hlen1] at b1
  have e0 : (pu [p1] 0) = p1 := rfl
  rw [e0] at p0 p1' p2 p3
  have HX := Lib.hid (And.intro hbx (And.intro hdb1 ho))
  clear hbx hdb1 ho hpf hn hdb
  have hnb : nb ≠ b := by simp at hnlt; omega
  go_enter Try.func38, Try.ntmps38
  go_wp2_with fail
  go_quiet (fail)
  go_wp2_with fail
  go_region
  go_wp2_with fail
  obtain ⟨W3, hW3⟩ : ∃ W3, (W.drewN (nq + 1)).setCell ⟨b, 0, none⟩ (.int .i64 10) = W3 := ⟨_, rfl⟩
  have hfar : ∀ k, k ≠ b → W3.heap[k]? = W.heap[k]? := fun k hk => by rw [← hW3]; exact Below.heap_setCell _ _ _ _ (by simp; omega)
  have hcf : ∀ (a : Addr), a.block ≠ b → W3.cell? a = W.cell? a := fun a ha => World.cell?_of_block (hfar _ ha)
  have hff : ∀ (a : Addr), a.block ≠ b → W3.frozen? a = W.frozen? a := fun a ha => by simp only [World.frozen?, hfar _ ha]
  have hW3b : W3.heap[b]? = some (.cells #[.int .i64 10, .slice (some ⟨g, 0, none⟩) 1 c] 24 (0, 0)) := by
    rw [← hW3]
    have h := HX.out.1
    simp [World.setCell, Array.getElem?_modify, h]
  have hW3s : W3.heap.size = W.heap.size := by rw [← hW3]; simp [World.setCell]
  have hbW3 : Below db w W3 := by rw [← hW3]; exact (below_drewN (hW.mono (by omega)) _).setCell (by simp; omega) _
  rw [hW3]
  go_loopw [32] (fun i wr => (i = .int .i64 0 ∧ wr = W3) ∨ (i = .int .i64 1 ∧ Did b 0 10 [q1] db (Down db (b + 2)) w W (.returned (.int .i64 0)) wr)) (fun i _ => 2 - (intOf i).toNat)
  case atStart => exact .inl ⟨rfl, rfl⟩
  case round =>
    rcases hrel with ⟨rfl, rfl⟩ | ⟨rfl, hdid⟩
    · obtain ⟨y0, y1, y2, y3⟩ := boxed_cells hW3b
      rw [← hcf ⟨g, 0, none⟩ hgb] at p0
      rw [← hcf ⟨g, 1, none⟩ hgb] at p1'
      rw [← hcf ⟨g, 2, none⟩ hgb] at p2
      rw [← hcf ⟨g, 3, none⟩ hgb] at p3
      rw [← hff ⟨g, 2, none⟩ hgb] at f2
      rw [← hff ⟨g, 3, none⟩ hgb] at f3
      rw [← hcf ⟨db, 0, none⟩ (by simp; omega)] at d0
      rw [← hff ⟨db, 0, none⟩ (by simp; omega)] at d1
      have ho3 : Own wr (b + 2) (.slice (some ⟨g, 0, none⟩) 1 c) [p1] := by
        have ho := HX.out.2.2
        unfold Own at ho ⊢
        rcases ho.2 with ⟨h, _⟩ | ⟨g', cap, cur, e, hB, h1, h2⟩
        · cases h
        · injection e with e1 _ e3
          injection e1 with e1
          injection e1 with e1
          subst e1 e3
          exact ⟨ho.1, .inr ⟨g, c, cur, rfl, hB, (hfar _ hgb).trans h1, h2⟩⟩
      have hb1 := hfar (b + 1) (by omega)
      have hdbb := (hfar db (by omega)).trans HX.out.2.1
      have HY := Lib.hid (And.intro ho3 (And.intro hb1 hdbb))
      have HZ := Lib.hid hW3b
      clear hfar hcf hff hW3b ho3 hb1 hdbb hW3
      have hspan : ∀ W' : World, Below wr.heap.size wr W' → Calls Try.prog 36 #[.int .i64 10, .agg #[.int .i64 1, .int .i64 0, .int .i64 3, .int .i64 1]] W' fun e w' => e = .returned (.int .i64 2) ∧ Below wr.heap.size wr w' := fun W' hW' =>
        (beat_span.calls 10 1 0 3 1 2 W' span_p1).mono fun e w' ⟨h1, h2⟩ => ⟨h1, hW'.trans (h2.mono hW'.size)⟩
      have hgs : g < wr.heap.size := by omega
      have hbs : b + 1 < wr.heap.size := by omega
      have hds : db < wr.heap.size := by omega
      have HS := Lib.hid hW3s
      clear hW3s
      go_wp2_with fail
      refine QP.region (C := fun W' => Below wr.heap.size wr W') [0, 1, 2, 3, 4, 5, 6, 7, 8] [] (by kernel_rfl) (by kernel_rfl) ((Below.refl _ _).drew) ?_
      simp only [QP.pick, List.getElem?_cons_zero, List.getElem?_cons_succ]
      iterate 3 (refine wpQuiet_step (fun K hK => ?_); go_simp; refine ⟨_, fun _ _ => rfl, hK _ ?_⟩; clear hK K)
      refine wpQuiet_step (fun K hK => ?_)
      go_simp
      refine ⟨.int .i64 10, fun W' hW' => ?_, hK _ ?_⟩
      · have z0 := (hW'.cell (p := ⟨b, 0, none⟩) (by simp; omega)).trans y0
        go_simp
      clear hK K
      iterate 2 (refine wpQuiet_step (fun K hK => ?_); go_simp; refine ⟨_, fun _ _ => rfl, hK _ ?_⟩; clear hK K)
      refine wpQuiet_step (fun K hK => ?_)
      go_simp
      refine ⟨.agg #[.int .i64 1, .int .i64 0, .int .i64 3, .int .i64 1], fun W' hW' => ?_, hK _ ?_⟩
      · have z0 := (hW'.cell (p := ⟨g, 0, none⟩) hgs).trans p0
        have z1 := (hW'.cell (p := ⟨g, 1, none⟩) hgs).trans p1'
        have z2 := (hW'.cell (p := ⟨g, 2, none⟩) hgs).trans p2
        have z3 := (hW'.cell (p := ⟨g, 3, none⟩) hgs).trans p3
        unfold p1 at z0 z1 z2 z3
        go_simp
      clear hK K
      refine wpQuiet_step (fun K hK => ?_)
      go_simp
      refine ⟨_, fun W' hW' => hspan W' hW', hK _ ?_⟩
      clear hK K
      refine wpQuiet_step (fun K hK => ?_)
      go_simp
      refine ⟨_, fun _ _ => rfl, hK _ ?_⟩
      clear hK K
      refine wpQuiet_nil ?_
      intro W4 hW4
      have z0 := (hW4.cell (p := ⟨g, 0, none⟩) hgs).trans p0
      have z2 := (hW4.cell (p := ⟨g, 2, none⟩) hgs).trans p2
      have z3 := (hW4.cell (p := ⟨g, 3, none⟩) hgs).trans p3
      have x2 := (hW4.frozen (p := ⟨g, 2, none⟩) hgs).trans f2
      have x3 := (hW4.frozen (p := ⟨g, 3, none⟩) hgs).trans f3
      have v0 := (hW4.cell (p := ⟨db, 0, none⟩) (by simp; omega)).trans d0
      have v1 := (hW4.frozen (p := ⟨db, 0, none⟩) (by simp; omega)).trans d1
      unfold p1 at z0 z2 z3
      have hs4 := hW4.size
      clear p0 p1' p2 p3 f1 f2 f3 y0 y1 y2 y3 d0 d1 b0 b1 b2 b3 hspan
      go_wp2_with fail
      refine QP.regionM (fun W' => W'.cell? ⟨db, 0, none⟩ = some (.slice none 0 0) ∧ W'.cell? ⟨g, 0, none⟩ = some (.int .i64 1)) [0, 1, 2, 3, 4] [] 5 _ [6, 7] (by kernel_rfl) (by rfl) (by intro _ d _ _ _ h; cases d <;> exact h) (by kernel_rfl) ⟨v0, z0⟩ ?_
      simp only [QP.pick, QP.pickB, QP.isIn, List.getElem?_cons_zero, List.getElem?_cons_succ]
      refine QP.wpRead_step (fun K hK => ?_)
      go_simp
      refine ⟨.slice none 0 0, ?_, hK _ ?_⟩
      · intro W' u0 u1
        go_simp
      clear hK K
      iterate 3 (refine QP.wpRead_step (fun K hK => ?_); go_simp; (first | refine ⟨_, by intros; rfl, hK _ ?_⟩ | refine hK _ ?_); clear hK K)
      refine QP.wpRead_step (fun K hK => ?_)
      go_simp
      refine ⟨.int .i64 1, ?_, hK _ ?_⟩
      · intro W' u0 u1
        go_simp
      clear hK K
      refine QP.wpRead_nil ?_
      intro K hK
      go_simp
      refine hK _ _ ?_ ?_
      · have hA := ((Below.refl W4.heap.size W4).alloc (Nat.le_refl _) (.cells #[.int .i64 1] 3)).drew
        exact ⟨(hA.cell (p := ⟨db, 0, none⟩) (by simp; omega)).trans v0, (hA.cell (p := ⟨g, 0, none⟩) (by simp; omega)).trans z0⟩
      clear hK K
      obtain ⟨W5, hW5⟩ : ∃ W5, (W4.alloc (.cells #[.int .i64 1] 3)).drew = W5 := ⟨_, rfl⟩
      have hA : Below W4.heap.size W4 W5 := by rw [← hW5]; exact ((Below.refl W4.heap.size W4).alloc (Nat.le_refl _) _).drew
      have hT : W5.heap[W4.heap.size]? = some (.cells #[.int .i64 1] 3 (0, 0)) := by rw [← hW5]; exact World.alloc_heap_new W4 _
      have hT2 : W4.heap.size < W5.heap.size := (Array.getElem?_eq_some_iff.1 hT).1
      have hTc : ∀ j u, [Value.int .i64 1][j]? = some u → W5.cell? ((⟨W4.heap.size, 0, none⟩ : Addr).add j) = some u := by
        intro j u hu
        rw [Ins35.add_lit, Nat.zero_add]
        simp only [World.cell?, hT]
        simpa using hu
      obtain ⟨i0, hi, hz0, hz1, hz2⟩ := info_parts info3
      have hp5 : Below W4.heap.size W4 W5 := hA
      have hdl : db < W4.heap.size := by omega
      have hgl : g < W4.heap.size := by omega
      have hdl5 : db < W5.heap.size := by omega
      have hgl5 : g < W5.heap.size := by omega
      rw [hW5]
      have HW := Lib.hid hW5
      clear hW5
      go_wp2_with (at_builtin; refine wpList_append_own _ rfl _ _ 47 rfl W4.heap.size 3 i0 _ 1 8 Try.underlying47 hi hz0 hz1 hz2 rfl (by decide) (.slice none 0 0) 0 [] rfl (World.ownsRow_nil _ _ _ _) ⟨W4.heap.size, 0, none⟩ 1 1 [.int .i64 1] rfl rfl hTc (by intro u hu; simp at hu; subst hu; rfl) (by unfold maxLen; omega) (by omega) (by omega) ?_; intro v' W6 hown' hgrow _; obtain ⟨r, cp, rfl, hr1, hr2, hr3⟩ := own_one hown'; have hk := fun k (h : k < W5.heap.size) => hgrow.block k h (by intro e; cases e); have s0 : W6.cell? ⟨db, 0, none⟩ = some (.slice none 0 0) := (World.cell?_of_block (hk db hdl5)).trans ((hA.cell (p := ⟨db, 0, none⟩) hdl).trans v0); have s1 : W6.frozen? ⟨db, 0, none⟩ = false := (frozen_of (hk db hdl5)).trans ((hA.frozen (p := ⟨db, 0, none⟩) hdl).trans v1); have t2 : W6.cell? ⟨g, 2, none⟩ = some (.int .i64 3) := (World.cell?_of_block (hk g hgl5)).trans ((hA.cell (p := ⟨g, 2, none⟩) hgl).trans z2); have t3 : W6.cell? ⟨g, 3, none⟩ = some (.int .i64 1) := (World.cell?_of_block (hk g hgl5)).trans ((hA.cell (p := ⟨g, 3, none⟩) hgl).trans z3); have r2 : W6.frozen? ⟨g, 2, none⟩ = false := (frozen_of (hk g hgl5)).trans ((hA.frozen (p := ⟨g, 2, none⟩) hgl).trans x2); have r3 : W6.frozen? ⟨g, 3, none⟩ = false := (frozen_of (hk g hgl5)).trans ((hA.frozen (p := ⟨g, 3, none⟩) hgl).trans x3); have HG := Lib.hid (And.intro hgrow (And.intro hr1 hr3)); clear hgrow hr1 hr3 hown' hk)
      refine ⟨.inr ⟨rfl, ?_⟩, by simp [intOf]⟩
      obtain ⟨hgrow, hr1, hr3⟩ := HG.out
      obtain ⟨ho3, hb1, hdbb⟩ := HY.out
      have hk : ∀ k, k < wr.heap.size → W6.heap[k]? = wr.heap[k]? := fun k hk => (hgrow.block k (by omega) (by intro e; cases e)).trans ((hA.block k (by omega)).trans (hW4.block k hk))
      have hs6 := hgrow.size
      have o6 : Own W6 (b + 2) (.slice (some ⟨g, 0, none⟩) 1 c) [p1] := by
        unfold Own at ho3 ⊢
        rcases ho3.2 with ⟨h, _⟩ | ⟨g', cap, cur, e, hB, h1, h2⟩
        · cases h
        · injection e with e1 _ e3
          injection e1 with e1
          injection e1 with e1
          subst e1 e3
          exact ⟨ho3.1, .inr ⟨g, c, cur, rfl, hB, (hk g hgs).trans h1, h2⟩⟩
      have o7 := Own.far (a := ⟨db, 0, none⟩) o6 (by simp; omega) (.slice (some ⟨r, 0, none⟩) 1 cp)
      have o8 := (o7.put3 (i := 0) (by decide) 3).put2 (i := 0) (by decide) 0
      have hfar : ∀ k, k < wr.heap.size → k ≠ db → k ≠ g → (((W6.setCell ⟨db, 0, none⟩ (.slice (some ⟨r, 0, none⟩) 1 cp)).setCell ⟨g, 3, none⟩ (.int .i64 3)).setCell ⟨g, 2, none⟩ (.int .i64 0)).heap[k]? = wr.heap[k]? := by
        intro k h1 h2 h3
        rw [Below.heap_setCell _ _ _ k (by simp; omega), Below.heap_setCell _ _ _ k (by simp; omega), Below.heap_setCell _ _ _ k (by simp; omega)]
        exact hk k h1
      have hB6 : Below db w W6 := by
        refine hbW3.trans ⟨?_, ?_, ?_, by omega, fun k h => hk k (by omega)⟩
        · exact hgrow.os.trans (hA.os.trans hW4.os)
        · exact hgrow.tape.trans (hA.tape.trans hW4.tape)
        · exact hgrow.output.trans (hA.output.trans hW4.output)
      refine Did.mk rfl rfl ((hfar b (by omega) (by omega) (by omega)).trans HZ.out) o8 ?_ ((hfar (b + 1) (by omega) (by omega) (by omega)).trans hb1) ?_
      · exact ((hB6.setCell (by simp) _).setCell (by simp; omega) _).setCell (by simp; omega) _
      · refine ⟨r, cp, by omega, ?_, ?_⟩
        · rw [Below.heap_setCell _ _ _ db (by simp; omega), Below.heap_setCell _ _ _ db (by simp; omega)]
          have e := (hk db hds).trans hdbb
          simp only [World.setCell] at e ⊢
          rw [Array.getElem?_modify, if_pos rfl, e]
          rfl
        · rw [World.cell?_of_block (w := W6) (by rw [Below.heap_setCell _ _ _ r (by simp; omega), Below.heap_setCell _ _ _ r (by simp; omega), Below.heap_setCell _ _ _ r (by simp; omega)])]
          exact hr3
    · have HD := Lib.hid hdid
      clear hdid
      go_wp2_with fail
      go_ret
      exact HD.out

end Go.Proofs.Ytplkimgoogoadaa
