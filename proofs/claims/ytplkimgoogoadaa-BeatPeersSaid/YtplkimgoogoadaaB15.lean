/- wakes. -/
import Derived.Test.YtplkimgoogoadaaB14
namespace Go.Proofs.Ytplkimgoogoadaa
open Go.RowKit Go.Proofs.YtplkimgoogoadaaW.PrintWords PBeatPeers

theorem Own.cc {w : World} {B : Nat} {A : Option Addr} {n c : Nat} {ps : List S35} (h : Own w B (.slice A n c) ps) (hl : ps.length ≤ 1000) : ps.length ≤ c ∧ Kd.C k35 w A ps.length ps := by
  obtain ⟨A', c', e, h1, h2⟩ := h.c (by omega)
  cases e
  exact ⟨h1, h2⟩

def w1 : List S35 := [⟨1, 0, 0, 0⟩]
def w2 : List S35 := [⟨1, 0, 1, 0⟩]
def w3 : List S35 := [⟨1, 0, 2, 0⟩]
theorem o1 : addOut 0 [] 1 = (0, w1, 0) := by kernel_rfl
theorem o2 : hearOut 0 w1 1 = (0, w2, false, 0) := by kernel_rfl
theorem o3 : hearOut 0 w2 1 = (0, w3, false, 0) := by kernel_rfl
theorem o4 : hearOut 0 w3 1 = (0, [p1], true, 0) := by kernel_rfl

theorem boxed_new {w : World} {x y : Value} {t : TypeId} : (w.alloc (.cells #[x, y] t)).heap[w.heap.size]? = some (.cells #[x, y] t (0, 0)) := World.alloc_heap_new w _

theorem box_again {W : World} {B base : Nat} {t : TypeId} {x x' v v' : Value} {ps : List S35} (hx : W.heap[B]? = some (.cells #[x, v] t (0, 0))) (ho : Own W base v' ps) (hB : B < base) :
    ((W.setCell ⟨B, 0, none⟩ x').setCell ⟨B, 1, none⟩ v').heap[B]? = some (.cells #[x', v'] t (0, 0)) ∧ Own ((W.setCell ⟨B, 0, none⟩ x').setCell ⟨B, 1, none⟩ v') base v' ps ∧ Below B W ((W.setCell ⟨B, 0, none⟩ x').setCell ⟨B, 1, none⟩ v') ∧ ((W.setCell ⟨B, 0, none⟩ x').setCell ⟨B, 1, none⟩ v').heap.size = W.heap.size := by
  refine ⟨?_, (ho.far (by simpa using hB) _).far (by simpa using hB) _, ((Below.refl _ _).setCell (by simp) _).setCell (by simp) _, by simp [World.setCell]⟩
  simp [World.setCell, Array.getElem?_modify, hx]

set_option maxHeartbeats 4000000 in
theorem wakes_any (w : World) : Calls Try.prog 6 #[] w fun e w' => e = .returned (.bool true) ∧ Below w.heap.size w w' := by
  have h1 := fun W => add_any 0 1 [] none 0 W (C_iff (by decide) (fun h => absurd h (by decide))) (Nat.le_refl 0) (by decide) 0 w1 0 o1
  have g1 : w1.length = 1 := rfl
  have g2 : w2.length = 1 := rfl
  have g3 : w3.length = 1 := rfl
  go_enter Try.func6, Try.ntmps6
  go_wp2_with fail
  refine (h1 _).mono ?_
  rintro e W1 ⟨A1, c1, rfl, ho1, hb1⟩
  have k1 := hb1.size
  rw [g1] at ho1 ⊢
  have hd1 := ho1.next ((Below.refl W1.heap.size W1).alloc (Nat.le_refl _) (.cells #[.int .i64 0, .slice A1 1 c1] 24))
  obtain ⟨hc1, hC1⟩ := hd1.cc (by decide)
  have h2 := hear_any 0 1 w1 A1 c1 _ hC1 hc1 (by decide) 0 w2 false 0 o2
  rw [g1] at h2
  have hz1 : (W1.alloc (.cells #[.int .i64 0, .slice A1 1 c1] 24)).heap.size = W1.heap.size + 1 := World.size_alloc ..
  have hy1 := boxed_new (w := W1) (x := .int .i64 0) (y := .slice A1 1 c1) (t := 24)
  have HB := Lib.hid (hb1.trans (((Below.refl W1.heap.size W1).alloc (Nat.le_refl _) (.cells #[.int .i64 0, .slice A1 1 c1] 24)).mono k1))
  have H1 := Lib.hid (And.intro hz1 hy1)
  clear ho1 hb1 hd1 hc1 hC1 h1 hz1 hy1
  go_wp2_with fail
  refine h2.mono ?_
  rintro e W2 ⟨A2, c2, rfl, ho2, hb2⟩
  rw [H1.out.1] at ho2 hb2
  have hx2 := (hb2.block W1.heap.size (by omega)).trans H1.out.2
  obtain ⟨x0, x1, x2, x3⟩ := boxed_cells hx2
  have HB2 := Lib.hid (HB.out.trans (hb2.mono (by omega)))
  have hs2 := hb2.size
  rw [H1.out.1] at hs2
  rw [g2] at ho2 ⊢
  obtain ⟨m1, m2, m3, m4⟩ := box_again (x' := .int .i64 0) hx2 ho2 (Nat.lt_succ_self _)
  have e2 := HB2.out.trans (m3.mono (Nat.le_trans k1 (Nat.le_refl _)))
  obtain ⟨hc2, hC2⟩ := m2.cc (by decide)
  have h3 := hear_any 0 1 w2 A2 c2 _ hC2 hc2 (by decide) 0 w3 false 0 o3
  rw [g2] at h3
  have H2 := Lib.hid (And.intro m4 (And.intro m1 e2))
  clear h2 hx2 hb2 ho2 m1 m2 m3 m4 hc2 hC2 e2
  go_wp2_with fail
  refine h3.mono ?_
  rintro e W3 ⟨A3, c3, rfl, ho3, hb3⟩
  rw [H2.out.1] at ho3 hb3
  have hx3 := (hb3.block W1.heap.size (by omega)).trans H2.out.2.1
  obtain ⟨u0, u1, u2, u3⟩ := boxed_cells hx3
  have HB3 := Lib.hid (H2.out.2.2.trans (hb3.mono (by omega)))
  have hs3 := hb3.size
  rw [H2.out.1] at hs3
  rw [g3] at ho3 ⊢
  obtain ⟨m1, m2, m3, m4⟩ := box_again (x' := .int .i64 0) hx3 ho3 (by omega)
  have e3 := HB3.out.trans (m3.mono (Nat.le_trans k1 (Nat.le_refl _)))
  obtain ⟨hc3, hC3⟩ := m2.cc (by decide)
  have h4 := hear_any 0 1 w3 A3 c3 _ hC3 hc3 (by decide) 0 [p1] true 0 o4
  rw [g3] at h4
  have H3 := Lib.hid (And.intro m4 (And.intro m1 e3))
  clear h3 hx3 hb3 ho3 m1 m2 m3 m4 hc3 hC3 e3 x0 x1 x2 x3
  go_wp2_with fail
  refine h4.mono ?_
  rintro e W4 ⟨A4, c4, rfl, ho4, hb4⟩
  rw [H3.out.1] at ho4 hb4
  have hx4 := (hb4.block W1.heap.size (by omega)).trans H3.out.2.1
  obtain ⟨y0, y1, y2, y3⟩ := boxed_cells hx4
  have HB4 := Lib.hid (H3.out.2.2.trans (hb4.mono (by omega)))
  have hs4 := hb4.size
  rw [H3.out.1] at hs4
  have g4 : [p1].length = 1 := rfl
  rw [g4] at ho4 ⊢
  obtain ⟨m1, m2, m3, m4⟩ := box_again (x' := .int .i64 0) hx4 ho4 (by omega)
  have e4 := HB4.out.trans (m3.mono (Nat.le_trans k1 (Nat.le_refl _)))
  obtain ⟨hc4, hC4⟩ := m2.cc (by decide)
  have h5 := pass_any A4 c4 _ hC4 hc4
  have H4 := Lib.hid (And.intro m4 e4)
  clear h4 hx4 hb4 ho4 m1 m2 m3 m4 hc4 hC4 e4 u0 u1 u2 u3 g4
  go_wp2_with fail
  refine h5.mono ?_
  rintro e W5 ⟨A5, c5, r, cp, rfl, hb5, hr5⟩
  rw [H4.out.1] at hb5
  have HB5 := Lib.hid (H4.out.2.trans (hb5.mono (by omega)))
  have hs5 := hb5.size
  rw [H4.out.1] at hs5
  have hr6 := block_lt_of_cell hr5
  clear h5 hb5 y0 y1 y2 y3
  go_wp2_with fail
  go_ret
  exact ⟨rfl, HB5.out.alloc (by have := k1; omega) _⟩

end Go.Proofs.Ytplkimgoogoadaa
