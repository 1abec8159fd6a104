/- Pass of the one peer that wakes has; wakes. -/
import Derived.Test.YtplkimgoogoadaaB13
namespace Go.Proofs.Ytplkimgoogoadaa
open Go.RowKit Go.Proofs.YtplkimgoogoadaaW.PrintWords PBeatPeers

theorem enters38 : Enters Try.prog 38 := enters_of Try.func38 (by kernel_rfl) rfl
theorem okp1 : OkW 0 [p1] := okW_iff.1 (by decide)

/-- What Pass answers there. -/
def OutP (w : World) (e : Ending) (w' : World) : Prop :=
  ∃ A c r cp, e = .returned (.tuple #[.agg #[.int .i64 10, .slice A 1 c], .slice (some ⟨r, 0, none⟩) 1 cp, .int .i64 0]) ∧ Below w.heap.size w w' ∧ w'.cell? ⟨r, 0, none⟩ = some (.int .i64 1)

set_option maxHeartbeats 4000000 in
theorem pass_any (A : Option Addr) (c : Nat) (w : World) (hC : Kd.C k35 w A 1 [p1]) (hc : 1 ≤ c) :
    Calls Try.prog 17 #[.agg #[.int .i64 0, .slice A 1 c], .int .i64 10] w (OutP w) := by
  obtain ⟨W3, hW3⟩ : ∃ W3, ((w.alloc (.cells #[.int .i64 0, .slice A 1 c] 24)).alloc (.cells #[.int .i64 10] 2)).alloc (.cells #[.int .i64 0, .slice none 0 0] 24) = W3 := ⟨_, rfl⟩
  obtain ⟨k1, k2, k3, k4, k5⟩ := add_world w (.cells #[.int .i64 0, .slice A 1 c] 24) (.cells #[.int .i64 10] 2) (.cells #[.int .i64 0, .slice none 0 0] 24)
  have hC3 := Kd.C_alloc (Kd.C_alloc (Kd.C_alloc hC (.cells #[.int .i64 0, .slice A 1 c] 24)) (.cells #[.int .i64 10] 2)) (.cells #[.int .i64 0, .slice none 0 0] 24)
  rw [hW3] at k1 k2 k3 k4 k5 hC3
  obtain ⟨W4, hW4⟩ : ∃ W4, W3.alloc (.cells #[.slice none 0 0] 47) = W4 := ⟨_, rfl⟩
  have hC4 := Kd.C_alloc hC3 (.cells #[.slice none 0 0] 47)
  have j1 := heap_alloc_old (w := W3) (o := .cells #[.slice none 0 0] 47) (k := w.heap.size) (by omega)
  have j2 := heap_alloc_old (w := W3) (o := .cells #[.slice none 0 0] 47) (k := w.heap.size + 1) (by omega)
  have j3 := heap_alloc_old (w := W3) (o := .cells #[.slice none 0 0] 47) (k := w.heap.size + 2) (by omega)
  have j4 := World.alloc_heap_new W3 (.cells #[.slice none 0 0] 47)
  have j5 : (W3.alloc (.cells #[.slice none 0 0] 47)).heap.size = w.heap.size + 4 := by rw [World.size_alloc, k3]
  have j6 := k4.alloc (by omega) (.cells #[.slice none 0 0] 47)
  rw [hW4] at hC4 j1 j2 j3 j4 j5 j6
  rw [k5] at j1
  rw [k1] at j2
  rw [k2] at j3
  rw [k3] at j4
  have hnb : W4.cell? ⟨w.heap.size + 1, 0, none⟩ = some (.int .i64 10) := by simp [World.cell?, j2]
  have ht := turn_out 0 [p1] A c 38 #[.pointer (some ⟨w.heap.size + 1, 0, none⟩), .pointer (some ⟨w.heap.size + 3, 0, none⟩)] 0 10 [q1] W4 hC4 hc (by decide) enters38 (w.heap.size + 3) (by omega)
    (Down (w.heap.size + 3) (W4.heap.size + 2))
    (fun W k u h => by
      obtain ⟨r, cp, h0, h1, h2⟩ := h
      exact ⟨r, cp, h0, by rw [Below.heap_setCell _ _ _ _ (by simp; omega)]; exact h1, by rw [World.cell?_of_block (w := W) (Below.heap_setCell _ _ _ r (by simp; omega))]; exact h2⟩)
    okp1 (pass_does (w.heap.size + 1) (w.heap.size + 3) W4.heap.size W4 hnb j4 (Nat.le_refl _))
  obtain ⟨y0, y1, _, _⟩ := boxed_cells k5
  rw [← hW4] at ht
  have HJ := Lib.hid (And.intro j3 (And.intro j5 j6))
  have HW4 := Lib.hid hW4
  clear hnb hC4 hC3 hC k1 k2 k5 j1 j2 j3 j4 j5 j6 hW4
  go_enter Try.func17, Try.ntmps17
  go_wp2_with fail
  refine ht.mono ?_
  rintro e w1 ⟨n2, q2, A', c', h1, _, rfl, ho, hb, hR⟩
  obtain ⟨rfl, rfl⟩ := h1 trivial
  rw [HW4.out] at ho hb hR
  obtain ⟨j3, j5, j6⟩ := HJ.out
  obtain ⟨r, cp, hr0, hr1, hr2⟩ := hR
  have hx := (hb.block (w.heap.size + 2) (by omega)).trans j3
  obtain ⟨x0, x1, x2, x3⟩ := boxed_cells hx
  have c0 : w1.cell? ⟨w.heap.size + 3, 0, none⟩ = some (.slice (some ⟨r, 0, none⟩) 1 cp) := by simp [World.cell?, hr1]
  have hrl : r < w1.heap.size := block_lt_of_cell hr2
  have hs := hb.size
  rw [j5] at ho hs hr0
  have hww : Below w.heap.size w w1 := j6.trans (hb.mono (by omega))
  have hs0 : w.heap.size + 2 < w1.heap.size := by omega
  have hs1 : w.heap.size + 3 < w1.heap.size := by omega
  have hq : [q1].length = 1 := rfl
  rw [hq]
  have HO := Lib.hid (And.intro hww hr2)
  clear ht hx hr1 hr2 ho hww hb j3 j5 j6 y0 y1 k3 hW3 hq
  go_wp2_with fail
  go_region
  go_wp2_with fail
  obtain ⟨hww, hr2⟩ := HO.out
  refine bodyPost_ret (v := .tuple #[.agg #[.int .i64 10, .slice A' 1 c'], .slice (some ⟨r, 0, none⟩) 1 cp, .int .i64 0]) ?_ rfl ⟨A', c', r, cp, rfl, ?_, ?_⟩
  · simp [results, Try.f17, go_sem, *]
  · exact (((hww.setCell (p := ⟨w.heap.size + 1 + 1, 0, none⟩) (by simp; omega) _).setCell (p := ⟨w.heap.size + 1 + 1, 1, none⟩) (by simp; omega) _).alloc (by simp [World.setCell]; omega) _).drew
  · have e : ∀ (W : World), r < W.heap.size → W.cell? ⟨r, 0, none⟩ = some (.int .i64 1) → ∀ o, (W.alloc o).drew.cell? ⟨r, 0, none⟩ = some (.int .i64 1) := fun W h1 h2 o => ((((Below.refl W.heap.size W).alloc (Nat.le_refl _) o).drew).cell (p := ⟨r, 0, none⟩) h1).trans h2
    refine e _ (by simp [World.setCell]; omega) ?_ _
    rw [World.cell?_of_block (w := w1) (by rw [Below.heap_setCell _ _ _ r (by simp; omega), Below.heap_setCell _ _ _ r (by simp; omega)])]
    exact hr2

end Go.Proofs.Ytplkimgoogoadaa
