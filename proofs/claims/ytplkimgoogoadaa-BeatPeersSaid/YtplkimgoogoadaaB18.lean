/- The reference's Without: what it answers. -/
import Derived.Test.YtplkimgoogoadaaB17
namespace Go.Proofs.Ytplkimgoogoadaa
open Go.RowKit Go.Proofs.YtplkimgoogoadaaW.PrintWords PBeatPeers

def woL (ps : List S35) (n : Int) (k : Nat) : List S35 := (ps.take k).filter fun p => p.f0 != n

theorem woL_succ {ps : List S35} {n : Int} {k : Nat} (hk : k < ps.length) : woL ps n (k + 1) = woL ps n k ++ (if (pu ps k).f0 = n then [] else [pu ps k]) := by
  unfold woL
  rw [List.take_succ_eq_append_getElem hk, List.filter_append, pu_eq hk]
  congr 1
  by_cases h : ps[k].f0 = n
  · rw [if_pos h, List.filter_cons_of_neg (by simpa using h)]
    rfl
  · rw [if_neg h, List.filter_cons_of_pos (by simpa using h)]
    rfl
theorem woL_len (ps : List S35) (n : Int) (k : Nat) : (woL ps n k).length ≤ k := by
  unfold woL
  exact Nat.le_trans (List.length_filter_le _ _) (List.length_take_le _ _)

/-- The round's end. -/
theorem box_next {W3 wr W5 W6 : World} {b : Nat} {now : Int} {qs : List S35} {p : S35} {A1 A2 : Option Addr} {c1 c2 : Nat} (hI : Below b W3 wr) (hs4 : b + 1 ≤ wr.heap.size) (ho1 : Own wr (b + 1) (.slice A1 qs.length c1) qs)
    (hb1 : wr.heap[b]? = some (.cells #[.int .i64 now, .slice A1 qs.length c1] 24 (0, 0))) (h5 : Below wr.heap.size wr W5) (hg : W5.grownBy W6 (Value.slice A1 qs.length c1).ownBlock) (ho : Own W6 (b + 1) (.slice A2 (qs ++ [p]).length c2) (qs ++ [p])) :
    W6.heap[b]? = some (.cells #[.int .i64 now, .slice A1 qs.length c1] 24 (0, 0)) ∧ Below b W3 (W6.setCell ⟨b, 1, none⟩ (.slice A2 (qs ++ [p]).length c2)) ∧ b + 1 ≤ (W6.setCell ⟨b, 1, none⟩ (.slice A2 (qs ++ [p]).length c2)).heap.size ∧
      (W6.setCell ⟨b, 1, none⟩ (.slice A2 (qs ++ [p]).length c2)).heap[b]? = some (.cells #[.int .i64 now, .slice A2 (qs ++ [p]).length c2] 24 (0, 0)) ∧ Own (W6.setCell ⟨b, 1, none⟩ (.slice A2 (qs ++ [p]).length c2)) (b + 1) (.slice A2 (qs ++ [p]).length c2) (qs ++ [p]) := by
  have hbase := ho1.base
  have hs5 := h5.size
  have hs6 := hg.size
  have hk : ∀ k, k < b + 1 → W6.heap[k]? = wr.heap[k]? := fun k hk => (hg.block k (by omega) (by intro e; have := (hbase k e.symm).1; omega)).trans (h5.block k (by omega))
  have h1 := (hk b (by omega)).trans hb1
  refine ⟨h1, ?_, by simp [World.setCell]; omega, ?_, ho.far (by simp) _⟩
  · refine Below.setCell ?_ (by simp) _
    exact hI.trans ⟨hg.os.trans h5.os, hg.tape.trans h5.tape, hg.output.trans h5.output, by omega, fun k hk' => hk k (by omega)⟩
  · simp [World.setCell, Array.getElem?_modify, h1]

set_option maxRecDepth 100000 in
set_option maxHeartbeats 8000000 in
theorem without_any (now n : Int) (ps : List S35) (A : Option Addr) (c : Nat) (w : World) (hC : Kd.C k35 w A ps.length ps) (hl : ps.length ≤ 1000) (qs : List S35) (hq : woL ps n ps.length = qs) :
    Calls Try.prog 16 #[.agg #[.int .i64 now, .slice A ps.length c], .int .i64 n] w fun e w' => ∃ A' c', e = .returned (.agg #[.int .i64 now, .slice A' qs.length c']) ∧ Own w' w.heap.size (.slice A' qs.length c') qs ∧ Below w.heap.size w w' := by
  obtain ⟨W2, hW2⟩ : ∃ W2, (w.alloc (.cells #[.int .i64 now, .slice A ps.length c] 24)).alloc (.cells #[.int .i64 0, .slice none 0 0] 24) = W2 := ⟨_, rfl⟩
  have hb : Below w.heap.size w W2 := by rw [← hW2]; exact ((Below.refl _ w).alloc (Nat.le_refl _) _).alloc (by simp) _
  have k0 : W2.heap[w.heap.size]? = some (.cells #[.int .i64 now, .slice A ps.length c] 24 (0, 0)) := by
    rw [← hW2, heap_alloc_old (by simp)]
    exact World.alloc_heap_new w _
  have k1 : W2.heap[w.heap.size + 1]? = some (.cells #[.int .i64 0, .slice none 0 0] 24 (0, 0)) := by
    have h := World.alloc_heap_new (w.alloc (.cells #[.int .i64 now, .slice A ps.length c] 24)) (.cells #[.int .i64 0, .slice none 0 0] 24)
    rw [World.size_alloc, hW2] at h
    exact h
  have k3 : W2.heap.size = w.heap.size + 2 := by rw [← hW2, World.size_alloc, World.size_alloc]
  obtain ⟨y0, y1, _, _⟩ := boxed_cells k0
  obtain ⟨i0, hi, hz0, hz1, hz2⟩ := info_parts info35
  have hcl := C_at hC
  obtain ⟨L, hL⟩ : ∃ L, ps.length = L := ⟨_, rfl⟩
  rw [hL] at hcl hl y1 k0 hq
  rw [hL] at hW2
  rw [hL]
  have H0 : Below (w.heap.size + 2) W2 (W2.alloc (.cells #[.int .i64 now, .slice none 0 0] 24)) ∧ w.heap.size + 3 ≤ (W2.alloc (.cells #[.int .i64 now, .slice none 0 0] 24)).heap.size ∧ ∃ A c, (W2.alloc (.cells #[.int .i64 now, .slice none 0 0] 24)).heap[w.heap.size + 2]? = some (.cells #[.int .i64 now, .slice A (woL ps n 0).length c] 24 (0, 0)) ∧ Own (W2.alloc (.cells #[.int .i64 now, .slice none 0 0] 24)) (w.heap.size + 3) (.slice A (woL ps n 0).length c) (woL ps n 0) := by
    refine ⟨(Below.refl _ _).alloc (by omega) _, by rw [World.size_alloc]; omega, none, 0, ?_, own_nil _ _⟩
    have h := World.alloc_heap_new W2 (.cells #[.int .i64 now, .slice none 0 0] 24)
    rw [k3] at h
    exact h
  have HK := Lib.hid (And.intro k0 (And.intro k1 hb))
  have HL := Lib.hid hL
  clear k0 k1 hL hC
  go_enter Try.func16, Try.ntmps16
  go_wp2_with fail
  go_loopw [6] (fun i wr => ∃ k : Nat, k ≤ L ∧ i = .int .i64 k ∧ Below (w.heap.size + 2) W2 wr ∧ w.heap.size + 3 ≤ wr.heap.size ∧ ∃ A c, wr.heap[w.heap.size + 2]? = some (.cells #[.int .i64 now, .slice A (woL ps n k).length c] 24 (0, 0)) ∧ Own wr (w.heap.size + 3) (.slice A (woL ps n k).length c) (woL ps n k)) (fun i _ => L - (intOf i).toNat)
  case atStart => exact ⟨0, by omega, rfl, H0⟩
  case round =>
    obtain ⟨k, hk, rfl, hI, hs4, A1, c1, hb1, ho1⟩ := hrel
    clear H0 y0 y1
    have e0 := (hI.block w.heap.size (by omega)).trans HK.out.1
    have e1 := (hI.block (w.heap.size + 1) (by omega)).trans HK.out.2.1
    obtain ⟨u0, u1, _, _⟩ := boxed_cells e0
    obtain ⟨r0, r1, r2, r3⟩ := boxed_cells e1
    obtain ⟨b0, b1, b2, b3⟩ := boxed_cells hb1
    have hlen := woL_len ps n k
    by_cases hlt : k < L
    · obtain ⟨g, o, rfl, hg, hcell⟩ := hcl.resolve_left (by omega)
      have hbw := HK.out.2.2.trans (hI.mono (by omega))
      obtain ⟨c0, d1, d2, d3⟩ := (hcell k hlt).below hbw hg
      have hnx := woL_succ (ps := ps) (n := n) (k := k) (by rw [HL.out]; exact hlt)
      obtain ⟨p, hp⟩ : ∃ p, pu ps k = p := ⟨_, rfl⟩
      rw [hp] at hnx c0 d1 d2 d3
      obtain ⟨qk, hqk⟩ : ∃ qk, woL ps n k = qk := ⟨_, rfl⟩
      rw [hqk] at ho1 hb1 b1 hlen hnx
      clear hcell hcl hq hqk hp hbw
      by_cases he : p.f0 = n
      · have HN : Hid (woL ps n (k + 1) = qk) := Lib.hid (by rw [hnx, if_pos he, List.append_nil])
        clear hnx
        have HB1 := Lib.hid (And.intro ho1 (And.intro hb1 (And.intro hI hs4)))
        clear ho1 hb1 hI hs4
        go_wp2_with fail
        go_roundw
        case rel =>
          refine ⟨k + 1, by omega, by go_num, ?_⟩
          rw [HN.out]
          exact ⟨HB1.out.2.2.1, HB1.out.2.2.2, A1, c1, HB1.out.2.1, HB1.out.1⟩
        case measure => simp [intOf]; omega
      · have HN : Hid (woL ps n (k + 1) = qk ++ [p]) := Lib.hid (by rw [hnx, if_neg he])
        clear hnx
        go_wp2_with fail
        refine QP.regionM (fun W' => Below wr.heap.size wr W') [0, 1, 2, 3, 4, 5, 6] [] 7 _ [8, 9, 10] (by kernel_rfl) (by rfl) (by intro _ d _ _ _ h; cases d <;> exact h) (by kernel_rfl) ((Below.refl _ _).drew) ?_
        simp only [QP.pick, QP.pickB, QP.isIn, List.getElem?_cons_zero, List.getElem?_cons_succ]
        refine QP.wpRead_step (fun K hK => ?_); go_simp; (first | refine ⟨_, by intros; rfl, hK _ ?_⟩ | refine hK _ ?_); clear hK K
        refine QP.wpRead_step (fun K hK => ?_)
        go_simp
        refine ⟨.slice A1 qk.length c1, ?_, hK _ ?_⟩
        · intro W' hW'
          have z := (hW'.cell (p := ⟨w.heap.size + 2, 1, none⟩) (by simp; omega)).trans b1
          go_simp
        clear hK K
        refine QP.wpRead_step (fun K hK => ?_); go_simp; (first | refine ⟨_, by intros; rfl, hK _ ?_⟩ | refine hK _ ?_); clear hK K
        refine QP.wpRead_step (fun K hK => ?_)
        go_simp
        refine ⟨.slice (some ⟨g, o, none⟩) L c, ?_, hK _ ?_⟩
        · intro W' hW'
          have z := (hW'.cell (p := ⟨w.heap.size, 1, none⟩) (by simp; omega)).trans u1
          go_simp
        clear hK K
        iterate 2 (refine QP.wpRead_step (fun K hK => ?_); go_simp; (first | refine ⟨_, by intros; rfl, hK _ ?_⟩ | refine hK _ ?_); clear hK K)
        refine QP.wpRead_step (fun K hK => ?_)
        go_simp
        refine ⟨.agg #[.int .i64 p.f0, .int .i64 p.f1, .int .i64 p.f2, .int .i64 p.f3], ?_, hK _ ?_⟩
        · intro W' hW'
          have z0 := (hW'.cell (p := ⟨g, o + k * 4, none⟩) (by simp; omega)).trans c0
          have z1 := (hW'.cell (p := ⟨g, o + k * 4 + 1, none⟩) (by simp; omega)).trans d1
          have z2 := (hW'.cell (p := ⟨g, o + k * 4 + 2, none⟩) (by simp; omega)).trans d2
          have z3 := (hW'.cell (p := ⟨g, o + k * 4 + 3, none⟩) (by simp; omega)).trans d3
          go_simp
        clear hK K
        refine QP.wpRead_nil ?_
        intro K hK
        go_simp
        have h5 : Below wr.heap.size wr (wr.alloc (.cells #[.int .i64 p.f0, .int .i64 p.f1, .int .i64 p.f2, .int .i64 p.f3] 35)).drew := ((Below.refl _ _).alloc (Nat.le_refl _) _).drew
        refine hK _ _ h5 ?_
        clear hK K
        have hown5 := ho1.next h5
        have hT : ∀ j u, [.int .i64 p.f0, .int .i64 p.f1, .int .i64 p.f2, .int .i64 p.f3][j]? = some u → (wr.alloc (.cells #[.int .i64 p.f0, .int .i64 p.f1, .int .i64 p.f2, .int .i64 p.f3] 35)).drew.cell? ((⟨wr.heap.size, 0, none⟩ : Addr).add j) = some u := arg_cells wr wr.heap.size rfl 35 [.int .i64 p.f0, .int .i64 p.f1, .int .i64 p.f2, .int .i64 p.f3]
        have hone := cells4_one p
        have hB5 : w.heap.size + 2 + 1 ≤ (wr.alloc (.cells #[.int .i64 p.f0, .int .i64 p.f1, .int .i64 p.f2, .int .i64 p.f3] 35)).drew.heap.size := by have := h5.size; omega
        have HB1 := Lib.hid (And.intro ho1 (And.intro hb1 (And.intro hI (And.intro hs4 h5))))
        clear u0 u1 r0 r1 r2 r3 b0 b1 b2 b3 e0 e1 ho1 hb1 h5 hI hs4 c0 d1 d2 d3
        go_wp2_with (at_builtin; refine wpList_append_own _ rfl _ _ 22 rfl (w.heap.size + 2 + 1) 35 i0 _ 4 32 Try.underlying22 hi hz0 hz1 hz2 rfl (by decide) (.slice A1 qk.length c1) qk.length (pcells qk) rfl hown5 ⟨wr.heap.size, 0, none⟩ 1 1 [.int .i64 p.f0, .int .i64 p.f1, .int .i64 p.f2, .int .i64 p.f3] rfl rfl hT hone (by unfold maxLen; omega) (by omega) hB5 ?_; intro v' W6 hown' hgrow _; obtain ⟨A2, c2, hv, _, _⟩ := (own_snoc (p := p) hown').c'; subst hv; obtain ⟨hh, hnx⟩ := box_next HB1.out.2.2.1 HB1.out.2.2.2.1 HB1.out.1 HB1.out.2.1 HB1.out.2.2.2.2 hgrow (own_snoc (p := p) hown'); have HNX := Lib.hid hnx; obtain ⟨q0, q1, q2, q3⟩ := boxed_cells hh; clear hown' hgrow hnx hh hown5 hT hone hB5)
        go_roundw
        case rel =>
          refine ⟨k + 1, by omega, by go_num, ?_⟩
          obtain ⟨g1, g2, g3, g4⟩ := HNX.out
          rw [List.length_append, List.length_singleton] at g1 g2 g3 g4
          rw [HN.out, List.length_append, List.length_singleton]
          exact ⟨g1, g2, A2, c2, g3, g4⟩
        case measure => simp [intOf]; omega
    · obtain rfl : k = L := by omega
      go_wp2_with fail
      refine bodyPost_ret (v := .agg #[.int .i64 now, .slice A1 qs.length c1]) ?_ rfl ⟨A1, c1, rfl, ?_, ?_⟩
      · simp [results, Try.f16, go_sem, *]
      · rw [hq] at ho1
        exact ((ho1.far (by simp) _).far (by simp) _).mono (by omega)
      · exact ((HK.out.2.2.trans (hI.mono (by omega))).setCell (by simp) _).setCell (by simp) _

end Go.Proofs.Ytplkimgoogoadaa
