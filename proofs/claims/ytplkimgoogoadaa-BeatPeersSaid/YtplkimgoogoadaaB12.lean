/- Hear: what it answers. -/
import Derived.Test.YtplkimgoogoadaaB11
import Derived.RegionTactic
import Derived.ChangeAlike
namespace Go.Proofs.Ytplkimgoogoadaa
open Go.RowKit Go.Proofs.YtplkimgoogoadaaW.PrintWords PBeatPeers

def hearOut (now : Int) (ps : List S35) (n : Int) : Int × List S35 × Bool × Int :=
  (turnN now ps (dropR ps n) now, turnQ now ps (dropR ps n) (hearQ now ps n), okW now ps && hearC now ps n, turnR now ps (dropR ps n))

set_option maxHeartbeats 4000000 in
theorem hear_any (now n : Int) (ps : List S35) (A : Option Addr) (c : Nat) (w : World) (hC : Kd.C k35 w A ps.length ps) (hc : ps.length ≤ c) (hl : ps.length ≤ 1000) (n2 : Int) (q2 : List S35) (xb : Bool) (r2 : Int) (hres : hearOut now ps n = (n2, q2, xb, r2)) :
    Calls Try.prog 10 #[.agg #[.int .i64 now, .slice A ps.length c], .int .i64 n] w (Out3 w n2 q2 (.bool xb) r2) := by
  obtain ⟨W3, hW3⟩ : ∃ W3, ((w.alloc (.cells #[.int .i64 now, .slice A ps.length c] 24)).alloc (.cells #[.int .i64 n] 3)).alloc (.cells #[.int .i64 0, .slice none 0 0] 24) = W3 := ⟨_, rfl⟩
  obtain ⟨k1, k2, k3, k4, k5⟩ := add_world w (.cells #[.int .i64 now, .slice A ps.length c] 24) (.cells #[.int .i64 n] 3) (.cells #[.int .i64 0, .slice none 0 0] 24)
  have hC3 := Kd.C_alloc (Kd.C_alloc (Kd.C_alloc hC (.cells #[.int .i64 now, .slice A ps.length c] 24)) (.cells #[.int .i64 n] 3)) (.cells #[.int .i64 0, .slice none 0 0] 24)
  rw [hW3] at k1 k2 k3 k4 k5 hC3
  obtain ⟨W4, hW4⟩ : ∃ W4, W3.alloc (.cells #[.bool false] 4) = W4 := ⟨_, rfl⟩
  have hC4 := Kd.C_alloc hC3 (.cells #[.bool false] 4)
  have j1 := heap_alloc_old (w := W3) (o := .cells #[.bool false] 4) (k := w.heap.size) (by omega)
  have j2 := heap_alloc_old (w := W3) (o := .cells #[.bool false] 4) (k := w.heap.size + 1) (by omega)
  have j3 := heap_alloc_old (w := W3) (o := .cells #[.bool false] 4) (k := w.heap.size + 2) (by omega)
  have j4 := World.alloc_heap_new W3 (.cells #[.bool false] 4)
  have j5 : (W3.alloc (.cells #[.bool false] 4)).heap.size = w.heap.size + 4 := by rw [World.size_alloc, k3]
  have j6 := k4.alloc (by omega) (.cells #[.bool false] 4)
  rw [hW4] at hC4 j1 j2 j3 j4 j5 j6
  rw [k5] at j1
  rw [k1] at j2
  rw [k2] at j3
  rw [k3] at j4
  have hnb : W4.cell? ⟨w.heap.size + 1, 0, none⟩ = some (.int .i64 n) := by simp [World.cell?, j2]
  have ht := turn_all now ps A c 35 #[.pointer (some ⟨w.heap.size + 1, 0, none⟩), .pointer (some ⟨w.heap.size + 3, 0, none⟩)] (dropR ps n) now (hearQ now ps n) W4 hC4 hc hl enters35 (w.heap.size + 3) (by omega)
    (fun W => W.heap[w.heap.size + 3]? = some (.cells #[.bool (okW now ps && hearC now ps n)] 4 (0, 0)))
    (fun W k u h => by rw [Below.heap_setCell _ _ _ _ (by simp; omega)]; exact h)
    (fun hno W hb => by
      have : okW now ps = false := by
        rcases Bool.eq_false_or_eq_true (okW now ps) with h | h
        · exact absurd (okW_iff.1 h) hno
        · exact h
      rw [this, Bool.false_and]
      exact (hb.block _ (by omega)).trans j4)
    (fun hok => by
      rw [okW_iff.2 hok, Bool.true_and]
      exact hear_does now ps n (w.heap.size + 1) (w.heap.size + 3) W4.heap.size W4 hnb j4 hl hok.rising (Nat.le_refl _) hok.nums)
  unfold hearOut at hres
  injection hres with e1 e2
  injection e2 with e2 e3
  injection e3 with e3 e4
  rw [e1, e2, e3, e4] at ht
  obtain ⟨y0, y1, _, _⟩ := boxed_cells k5
  rw [← hW4] at ht
  clear e1 e2 e3 e4 hnb hC4 hC3 hC k1 k2 k5 j1 j2
  have HJ := Lib.hid (And.intro j3 (And.intro j5 j6))
  have HW4 := Lib.hid hW4
  clear j3 j4 j5 j6 hW4
  go_enter Try.func10, Try.ntmps10
  go_wp2_with fail
  refine ht.mono ?_
  rintro e w1 ⟨A', c', rfl, ho, hb, hR⟩
  rw [HW4.out] at ho hb
  obtain ⟨j3, j5, j6⟩ := HJ.out
  have hx := (hb.block (w.heap.size + 2) (by omega)).trans j3
  obtain ⟨x0, x1, x2, x3⟩ := boxed_cells hx
  have c0 : w1.cell? ⟨w.heap.size + 3, 0, none⟩ = some (.bool xb) := by simp [World.cell?, hR]
  have hs := hb.size
  rw [j5] at ho hs
  have hww : Below w.heap.size w w1 := j6.trans (hb.mono (by omega))
  have hs0 : w.heap.size + 2 < w1.heap.size := by omega
  have hs1 : w.heap.size + 3 < w1.heap.size := by omega
  have HO := Lib.hid (And.intro ho hww)
  clear ht hx hR ho hww hb j3 j5 j6 y0 y1 k3 hW3
  go_wp2_with fail
  go_region
  go_wp2_with fail
  obtain ⟨ho, hww⟩ := HO.out
  refine bodyPost_ret (v := .tuple #[.agg #[.int .i64 n2, .slice A' q2.length c'], .bool xb, .int .i64 r2]) ?_ rfl ⟨A', c', rfl, ?_, ?_⟩
  · simp [results, Try.f10, go_sem, *]
  · have h2 := ((Own.far ho (a := ⟨w.heap.size + 1 + 1, 0, none⟩) (by simp) (.int .i64 n2)).far (a := ⟨w.heap.size + 1 + 1, 1, none⟩) (by simp) (.slice A' q2.length c')).mono (B' := w.heap.size) (by omega)
    exact h2.next ((((Below.refl _ _).alloc (Nat.le_refl _) _).drew))
  · exact (((hww.setCell (p := ⟨w.heap.size + 1 + 1, 0, none⟩) (by simp; omega) _).setCell (p := ⟨w.heap.size + 1 + 1, 1, none⟩) (by simp; omega) _).alloc (by simp [World.setCell]; omega) _).drew

end Go.Proofs.Ytplkimgoogoadaa
