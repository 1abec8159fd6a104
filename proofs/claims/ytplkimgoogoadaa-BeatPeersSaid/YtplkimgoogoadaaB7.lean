/- What comes of a peer that is dropped. -/
import Derived.Test.YtplkimgoogoadaaB6
namespace Go.Proofs.Ytplkimgoogoadaa
open Go.RowKit Go.Proofs.YtplkimgoogoadaaW.PrintWords PBeatPeers

theorem idx_lo (n : Int) : ∀ (ps : List S35) (k : Nat), k < idx n ps → (pu ps k).f0 < n
  | [], k, h => by simp [idx] at h
  | p :: ps, k, h => by
    unfold idx at h
    split at h
    · rename_i hp
      cases k with
      | zero => simpa [pu] using hp
      | succ k => simpa [pu] using idx_lo n ps k (by omega)
    · omega
theorem idx_at (n : Int) : ∀ (ps : List S35), idx n ps < ps.length → n ≤ (pu ps (idx n ps)).f0
  | [], h => by simp at h
  | p :: ps, h => by
    unfold idx at h ⊢
    split
    · rename_i hp
      rw [if_pos hp] at h
      simpa [pu] using idx_at n ps (by simpa using h)
    · rename_i hp
      simp only [pu, List.getD_cons_zero]
      omega

theorem has_at {ps : List S35} {n : Int} (hr : Rising ps) (h : has ps n = true) : idx n ps < ps.length ∧ (pu ps (idx n ps)).f0 = n := by
  unfold has at h
  rw [List.any_eq_true] at h
  obtain ⟨p, hp, he⟩ := h
  obtain ⟨j, hj, rfl⟩ := List.getElem_of_mem hp
  have hj' : (pu ps j).f0 = n := by rw [pu_eq hj]; simpa using he
  have h1 : idx n ps ≤ j := Nat.le_of_not_lt fun hlt => by have := idx_lo n ps j hlt; omega
  have h2 : idx n ps < ps.length := by omega
  have h3 := idx_at n ps h2
  refine ⟨h2, ?_⟩
  rcases Nat.lt_or_ge (idx n ps) j with h4 | h4
  · have := hr _ _ h4 hj; omega
  · rw [show idx n ps = j by omega]; exact hj'

/-- The peers without the one at a place. -/
def delP (ps : List S35) (n : Int) : List S35 := ps.take (idx n ps) ++ ps.drop (idx n ps + 1)
def dropR (ps : List S35) (n : Int) : Int := if has ps n = true then 0 else 4
def dropQ (ps : List S35) (n : Int) : List S35 := if has ps n = true then delP ps n else ps

theorem Own.base {w : World} {B : Nat} {v : Value} {ps : List S35} (h : Own w B v ps) : ∀ g, v.ownBlock = some g → B ≤ g ∧ g < w.heap.size := by
  intro g hg
  rcases h.2 with ⟨rfl, _⟩ | ⟨g', cap, cur, rfl, hB, h1, _⟩
  · cases hg
  · obtain rfl : g' = g := by injection hg
    exact ⟨hB, (Array.getElem?_eq_some_iff.1 h1).1⟩

set_option maxHeartbeats 4000000 in
theorem drop_does (now : Int) (ps : List S35) (n : Int) (nb : Nat) (b : Nat) (w : World) (hn : w.cell? ⟨nb, 0, none⟩ = some (.int .i64 n)) (hlen : ps.length ≤ 1000) (hr : Rising ps) (hb : w.heap.size ≤ b) :
    Does 33 #[.pointer (some ⟨nb, 0, none⟩)] b now ps (dropR ps n) now (dropQ ps n) w w.heap.size (fun _ => True) := by
  intro W v hW hbx hs ho
  have hnlt := block_lt_of_cell hn
  have hn1 := (hW.cell (p := ⟨nb, 0, none⟩) hnlt).trans hn
  obtain ⟨A, c, rfl, hc, hm⟩ := ho.c'
  obtain ⟨b0, b1, b2, b3⟩ := boxed_cells hbx
  have hpl : ∀ W' : World, Below W.heap.size W W' → Calls Try.prog 31 #[.agg #[.int .i64 now, .slice A ps.length c], .int .i64 n] W' fun e w' => e = .returned (.tuple #[.int .i64 (idx n ps), .bool (has ps n)]) ∧ Below W.heap.size W w' := by
    intro W' hW'
    obtain ⟨A', c', hv, _, hC⟩ := (ho.next hW').c (by omega)
    cases hv
    exact (place_is ps now n A c W' hC hlen hr).mono fun e w' ⟨h1, h2⟩ => ⟨h1, hW'.trans (h2.mono hW'.size)⟩
  obtain ⟨t, ht⟩ : ∃ t, has ps n = t := ⟨_, rfl⟩
  obtain ⟨i, hi⟩ : ∃ i, idx n ps = i := ⟨_, rfl⟩
  rw [ht, hi] at hpl
  show Calls Try.prog 33 #[.pointer (some ⟨b, 0, none⟩), .pointer (some ⟨nb, 0, none⟩)] W _
  go_enter Try.func33, Try.ntmps33
  go_wp2_with fail
  refine QP.region (C := fun W' => Below W.heap.size W W') [0, 1, 2, 3, 4, 5, 6, 7, 8, 9] [] (by kernel_rfl) (by kernel_rfl) ((Below.refl _ _).drew) ?_
  simp only [QP.pick, List.getElem?_cons_zero, List.getElem?_cons_succ]
  iterate 2 (refine wpQuiet_step (fun K hK => ?_); go_simp; refine ⟨_, fun _ _ => rfl, hK _ ?_⟩; clear hK K)
  refine wpQuiet_step (fun K hK => ?_)
  go_simp
  refine ⟨.agg #[.int .i64 now, .slice A ps.length c], fun W' hW' => ?_, hK _ ?_⟩
  · have z0 := (hW'.cell (p := ⟨b, 0, none⟩) (by simp; omega)).trans b0
    have z1 := (hW'.cell (p := ⟨b, 1, none⟩) (by simp; omega)).trans b1
    go_simp
  clear hK K
  refine wpQuiet_step (fun K hK => ?_)
  go_simp
  refine ⟨.int .i64 n, fun W' hW' => ?_, hK _ ?_⟩
  · have z0 := (hW'.cell (p := ⟨nb, 0, none⟩) (by have := hW.size; simp; omega)).trans hn1
    go_simp
  clear hK K
  refine wpQuiet_step (fun K hK => ?_)
  go_simp
  refine ⟨_, fun W' hW' => hpl W' hW', hK _ ?_⟩
  clear hK K
  iterate 5 (refine wpQuiet_step (fun K hK => ?_); go_simp; refine ⟨_, fun _ _ => rfl, hK _ ?_⟩; clear hK K)
  refine wpQuiet_nil ?_
  intro W1 hW1
  have c1 := (hW1.cell (p := ⟨b, 1, none⟩) (by simp; omega)).trans b1
  have hbx1 := (hW1.block b (by omega)).trans hbx
  have hbx2 := hW1.block (b + 1) (by omega)
  have hs1 := hW1.size
  have hwW1 : Below w.heap.size w W1 := hW.trans (hW1.mono hW.size)
  have ho1 := ho.next hW1
  clear hpl b0 b1 b2 b3
  cases t
  · have hR : dropR ps n = 4 := by unfold dropR; rw [if_neg (by simp [ht])]
    have hQ : dropQ ps n = ps := by unfold dropQ; rw [if_neg (by simp [ht])]
    have HR := Lib.hid hR
    have HQ := Lib.hid hQ
    clear hR hQ ht hi
    go_wp2_with fail
    go_ret
    exact Did.mk HR.out.symm HQ.out.symm hbx1 ho1 hwW1 hbx2 trivial
  · have hR : dropR ps n = 0 := by unfold dropR; rw [if_pos ht]
    have hQ : dropQ ps n = delP ps n := by unfold dropQ; rw [if_pos ht]
    have hat := (has_at hr ht).1
    rw [hi] at hat
    have HR := Lib.hid hR
    have HQ := Lib.hid hQ
    have HI := Lib.hid hi
    have hsp : ps = ps.take i ++ ps[i] :: ps.drop (i + 1) := by rw [← List.drop_eq_getElem_cons hat, List.take_append_drop]
    have hdel := delete_any (ps.take i) (ps.drop (i + 1)) ps[i] (B := b + 2) (v := .slice A ps.length c) W1 (by rw [← hsp]; exact ho1) (by rw [← hsp]; exact hlen)
    rw [List.length_take, Nat.min_eq_left (by omega)] at hdel
    have HS := Lib.hid hsp
    clear hsp hR hQ ht hi
    have hbW : b + 1 < W1.heap.size := by omega
    go_wp2_with fail
    refine hdel.mono ?_
    rintro e w2 ⟨v', rfl, ho3, hg3, _⟩
    have hB0 := (hg3.block b (by omega) (by intro e; have := (ho1.base b e.symm).1; omega)).trans hbx1
    have hB1 := (hg3.block (b + 1) hbW (by intro e; have := (ho1.base (b + 1) e.symm).1; omega)).trans hbx2
    have hfin : Below w.heap.size w w2 := hwW1.trans ⟨hg3.os, hg3.tape, hg3.output, hg3.size, fun k hk => hg3.block k (by omega) (by intro e; have := (ho1.base k e.symm).1; omega)⟩
    obtain ⟨y0, y1, y2, y3⟩ := boxed_cells hB0
    have ho4 : Own w2 (b + 2) v' (delP ps n) := by unfold delP; rw [HI.out]; exact ho3
    have HP := Lib.hid ho4
    clear ho3 ho4 hdel hg3
    obtain ⟨A', c', rfl, _, _⟩ := HP.out.c'
    go_wp2_with fail
    go_ret
    refine Did.mk HR.out.symm HQ.out.symm (v' := .slice A' (delP ps n).length c') ?_ (HP.out.far (by simp) _) (hfin.setCell (by simp; omega) _) ?_ trivial
    · simp [World.setCell, Array.getElem?_modify, hB0]
    · exact (Below.heap_setCell w2 ⟨b, 1, none⟩ _ (b + 1) (by simp)).trans hB1

end Go.Proofs.Ytplkimgoogoadaa
