/- The reference's Heard: what it answers. -/
import Derived.Test.YtplkimgoogoadaaC3
namespace Go.Proofs.Ytplkimgoogoadaa
open Go.RowKit Go.Proofs.YtplkimgoogoadaaW.PrintWords PBeatPeers

set_option maxHeartbeats 8000000 in
theorem heard_a {now : Int} {p : S35} (h : OkN now p) (hc : now - p.f1 ≤ 4 ∧ 3 < p.f2 + 1) (w : World) : Calls Try.prog 15 #[.int .i64 now, pv p] w fun e w' => e = .returned (pv (hearP now p)) ∧ Below w.heap.size w w' := by
  obtain ⟨W2, hW2⟩ : ∃ W2, (w.alloc (.cells #[.int .i64 p.f0, .int .i64 p.f1, .int .i64 p.f2, .int .i64 p.f3] 35)).alloc (.cells #[.int .i64 0, .int .i64 0, .int .i64 0, .int .i64 0] 35) = W2 := ⟨_, rfl⟩
  have hb : Below w.heap.size w W2 := by rw [← hW2]; exact ((Below.refl _ w).alloc (Nat.le_refl _) _).alloc (by simp) _
  have k0 : W2.heap[w.heap.size]? = some (.cells #[.int .i64 p.f0, .int .i64 p.f1, .int .i64 p.f2, .int .i64 p.f3] 35 (0, 0)) := by
    rw [← hW2, heap_alloc_old (by simp)]
    exact World.alloc_heap_new w _
  have k1 : W2.heap[w.heap.size + 1]? = some (.cells #[.int .i64 0, .int .i64 0, .int .i64 0, .int .i64 0] 35 (0, 0)) := by
    have h := World.alloc_heap_new (w.alloc (.cells #[.int .i64 p.f0, .int .i64 p.f1, .int .i64 p.f2, .int .i64 p.f3] 35)) (.cells #[.int .i64 0, .int .i64 0, .int .i64 0, .int .i64 0] 35)
    rw [World.size_alloc, hW2] at h
    exact h
  have k3 : W2.heap.size = w.heap.size + 2 := by rw [← hW2, World.size_alloc, World.size_alloc]
  obtain ⟨⟨x0, x1, x2, x3⟩, _⟩ := boxed4 k0
  have hw : wrap64 (now - p.f1) = now - p.f1 := by have := h.n1; have := h.h0; have := h.h1; unfold wrap64; omega
  have hin := junctionboxref29_InTime.calls now p.f0 p.f1 p.f2 p.f3 (decide (now - p.f1 ≤ 4)) W2 (by unfold junctionboxref29_InTime.f; rw [hw])
  have g0 := h.g0
  have g1 := h.g1
  unfold pv
  have EG : Hid (hearG now p = 3) := Lib.hid (by unfold hearG; rw [if_pos hc.1, if_pos hc.2])
  have ES : Hid (hearS now p = 1) := Lib.hid (by unfold hearS; rw [EG.out, if_pos (.inl rfl)])
  rw [decide_eq_true hc.1] at hin
  have c2 := hc.2
  have HC := Lib.hid hc
  clear hc
  clear hw
  have HK := Lib.hid (And.intro k0 (And.intro k1 (And.intro hb k3)))
  clear k0 k1 hb k3
  go_enter Try.func15, Try.ntmps15
  go_wp2_with fail
  refine hin.mono ?_
  rintro e w1 ⟨rfl, hb1⟩
  obtain ⟨k0, k1, hb, k3⟩ := HK.out
  obtain ⟨⟨y0, y1, y2, y3⟩, _⟩ := boxed4 ((hb1.block _ (by omega)).trans k0)
  obtain ⟨⟨z0, z1, z2, z3⟩, zf⟩ := boxed4 ((hb1.block _ (by omega)).trans k1)
  have f0 := zf 0
  have f1 := zf 1
  have f2 := zf 2
  have f3 := zf 3
  have HB := Lib.hid (hb.trans (hb1.mono (by omega)))
  clear hin k0 k1 hb hb1 k3 zf x0 x1 x2 x3
  go_wp2_with fail
  refine bodyPost_ret (v := .agg #[.int .i64 p.f0, .int .i64 now, .int .i64 3, .int .i64 1]) ?_ rfl ⟨?_, ?_⟩
  · simp [results, Try.f15, go_sem, *]
  · unfold hearP
    rw [EG.out, ES.out]
  · exact (((HB.out.setCell (by simp) _).setCell (by simp) _).setCell (by simp) _).setCell (by simp) _

set_option maxHeartbeats 8000000 in
theorem heard_b {now : Int} {p : S35} (h : OkN now p) (hc : now - p.f1 ≤ 4 ∧ ¬ 3 < p.f2 + 1 ∧ p.f2 + 1 = 3) (w : World) : Calls Try.prog 15 #[.int .i64 now, pv p] w fun e w' => e = .returned (pv (hearP now p)) ∧ Below w.heap.size w w' := by
  obtain ⟨W2, hW2⟩ : ∃ W2, (w.alloc (.cells #[.int .i64 p.f0, .int .i64 p.f1, .int .i64 p.f2, .int .i64 p.f3] 35)).alloc (.cells #[.int .i64 0, .int .i64 0, .int .i64 0, .int .i64 0] 35) = W2 := ⟨_, rfl⟩
  have hb : Below w.heap.size w W2 := by rw [← hW2]; exact ((Below.refl _ w).alloc (Nat.le_refl _) _).alloc (by simp) _
  have k0 : W2.heap[w.heap.size]? = some (.cells #[.int .i64 p.f0, .int .i64 p.f1, .int .i64 p.f2, .int .i64 p.f3] 35 (0, 0)) := by
    rw [← hW2, heap_alloc_old (by simp)]
    exact World.alloc_heap_new w _
  have k1 : W2.heap[w.heap.size + 1]? = some (.cells #[.int .i64 0, .int .i64 0, .int .i64 0, .int .i64 0] 35 (0, 0)) := by
    have h := World.alloc_heap_new (w.alloc (.cells #[.int .i64 p.f0, .int .i64 p.f1, .int .i64 p.f2, .int .i64 p.f3] 35)) (.cells #[.int .i64 0, .int .i64 0, .int .i64 0, .int .i64 0] 35)
    rw [World.size_alloc, hW2] at h
    exact h
  have k3 : W2.heap.size = w.heap.size + 2 := by rw [← hW2, World.size_alloc, World.size_alloc]
  obtain ⟨⟨x0, x1, x2, x3⟩, _⟩ := boxed4 k0
  have hw : wrap64 (now - p.f1) = now - p.f1 := by have := h.n1; have := h.h0; have := h.h1; unfold wrap64; omega
  have hin := junctionboxref29_InTime.calls now p.f0 p.f1 p.f2 p.f3 (decide (now - p.f1 ≤ 4)) W2 (by unfold junctionboxref29_InTime.f; rw [hw])
  have g0 := h.g0
  have g1 := h.g1
  unfold pv
  have EG : Hid (hearG now p = (p.f2 + 1)) := Lib.hid (by unfold hearG; rw [if_pos hc.1, if_neg hc.2.1])
  have ES : Hid (hearS now p = 1) := Lib.hid (by unfold hearS; rw [EG.out, if_pos (.inl hc.2.2)])
  rw [decide_eq_true hc.1] at hin
  have c2 := hc.2.1
  have c3 := hc.2.2
  have HC := Lib.hid hc
  clear hc
  clear hw
  have HK := Lib.hid (And.intro k0 (And.intro k1 (And.intro hb k3)))
  clear k0 k1 hb k3
  go_enter Try.func15, Try.ntmps15
  go_wp2_with fail
  refine hin.mono ?_
  rintro e w1 ⟨rfl, hb1⟩
  obtain ⟨k0, k1, hb, k3⟩ := HK.out
  obtain ⟨⟨y0, y1, y2, y3⟩, _⟩ := boxed4 ((hb1.block _ (by omega)).trans k0)
  obtain ⟨⟨z0, z1, z2, z3⟩, zf⟩ := boxed4 ((hb1.block _ (by omega)).trans k1)
  have f0 := zf 0
  have f1 := zf 1
  have f2 := zf 2
  have f3 := zf 3
  have HB := Lib.hid (hb.trans (hb1.mono (by omega)))
  clear hin k0 k1 hb hb1 k3 zf x0 x1 x2 x3
  go_wp2_with fail
  refine bodyPost_ret (v := .agg #[.int .i64 p.f0, .int .i64 now, .int .i64 (p.f2 + 1), .int .i64 1]) ?_ rfl ⟨?_, ?_⟩
  · simp [results, Try.f15, go_sem, *]
  · unfold hearP
    rw [EG.out, ES.out]
  · exact (((HB.out.setCell (by simp) _).setCell (by simp) _).setCell (by simp) _).setCell (by simp) _

set_option maxHeartbeats 8000000 in
theorem heard_c {now : Int} {p : S35} (h : OkN now p) (hc : now - p.f1 ≤ 4 ∧ ¬ 3 < p.f2 + 1 ∧ ¬ p.f2 + 1 = 3 ∧ p.f3 = 2) (w : World) : Calls Try.prog 15 #[.int .i64 now, pv p] w fun e w' => e = .returned (pv (hearP now p)) ∧ Below w.heap.size w w' := by
  obtain ⟨W2, hW2⟩ : ∃ W2, (w.alloc (.cells #[.int .i64 p.f0, .int .i64 p.f1, .int .i64 p.f2, .int .i64 p.f3] 35)).alloc (.cells #[.int .i64 0, .int .i64 0, .int .i64 0, .int .i64 0] 35) = W2 := ⟨_, rfl⟩
  have hb : Below w.heap.size w W2 := by rw [← hW2]; exact ((Below.refl _ w).alloc (Nat.le_refl _) _).alloc (by simp) _
  have k0 : W2.heap[w.heap.size]? = some (.cells #[.int .i64 p.f0, .int .i64 p.f1, .int .i64 p.f2, .int .i64 p.f3] 35 (0, 0)) := by
    rw [← hW2, heap_alloc_old (by simp)]
    exact World.alloc_heap_new w _
  have k1 : W2.heap[w.heap.size + 1]? = some (.cells #[.int .i64 0, .int .i64 0, .int .i64 0, .int .i64 0] 35 (0, 0)) := by
    have h := World.alloc_heap_new (w.alloc (.cells #[.int .i64 p.f0, .int .i64 p.f1, .int .i64 p.f2, .int .i64 p.f3] 35)) (.cells #[.int .i64 0, .int .i64 0, .int .i64 0, .int .i64 0] 35)
    rw [World.size_alloc, hW2] at h
    exact h
  have k3 : W2.heap.size = w.heap.size + 2 := by rw [← hW2, World.size_alloc, World.size_alloc]
  obtain ⟨⟨x0, x1, x2, x3⟩, _⟩ := boxed4 k0
  have hw : wrap64 (now - p.f1) = now - p.f1 := by have := h.n1; have := h.h0; have := h.h1; unfold wrap64; omega
  have hin := junctionboxref29_InTime.calls now p.f0 p.f1 p.f2 p.f3 (decide (now - p.f1 ≤ 4)) W2 (by unfold junctionboxref29_InTime.f; rw [hw])
  have g0 := h.g0
  have g1 := h.g1
  unfold pv
  have EG : Hid (hearG now p = (p.f2 + 1)) := Lib.hid (by unfold hearG; rw [if_pos hc.1, if_neg hc.2.1])
  have ES : Hid (hearS now p = 1) := Lib.hid (by unfold hearS; rw [EG.out, if_pos (.inr hc.2.2.2)])
  rw [decide_eq_true hc.1] at hin
  have c2 := hc.2.1
  have c3 := hc.2.2.1
  have c4 : (p.f3 == 2) = true := by simpa using hc.2.2.2
  have HC := Lib.hid hc
  clear hc
  clear hw
  have HK := Lib.hid (And.intro k0 (And.intro k1 (And.intro hb k3)))
  clear k0 k1 hb k3
  go_enter Try.func15, Try.ntmps15
  go_wp2_with fail
  refine hin.mono ?_
  rintro e w1 ⟨rfl, hb1⟩
  obtain ⟨k0, k1, hb, k3⟩ := HK.out
  obtain ⟨⟨y0, y1, y2, y3⟩, _⟩ := boxed4 ((hb1.block _ (by omega)).trans k0)
  obtain ⟨⟨z0, z1, z2, z3⟩, zf⟩ := boxed4 ((hb1.block _ (by omega)).trans k1)
  have f0 := zf 0
  have f1 := zf 1
  have f2 := zf 2
  have f3 := zf 3
  have HB := Lib.hid (hb.trans (hb1.mono (by omega)))
  clear hin k0 k1 hb hb1 k3 zf x0 x1 x2 x3
  go_wp2_with fail
  refine bodyPost_ret (v := .agg #[.int .i64 p.f0, .int .i64 now, .int .i64 (p.f2 + 1), .int .i64 1]) ?_ rfl ⟨?_, ?_⟩
  · simp [results, Try.f15, go_sem, *]
  · unfold hearP
    rw [EG.out, ES.out]
  · exact (((HB.out.setCell (by simp) _).setCell (by simp) _).setCell (by simp) _).setCell (by simp) _

set_option maxHeartbeats 8000000 in
theorem heard_d {now : Int} {p : S35} (h : OkN now p) (hc : now - p.f1 ≤ 4 ∧ ¬ 3 < p.f2 + 1 ∧ ¬ p.f2 + 1 = 3 ∧ ¬ p.f3 = 2) (w : World) : Calls Try.prog 15 #[.int .i64 now, pv p] w fun e w' => e = .returned (pv (hearP now p)) ∧ Below w.heap.size w w' := by
  obtain ⟨W2, hW2⟩ : ∃ W2, (w.alloc (.cells #[.int .i64 p.f0, .int .i64 p.f1, .int .i64 p.f2, .int .i64 p.f3] 35)).alloc (.cells #[.int .i64 0, .int .i64 0, .int .i64 0, .int .i64 0] 35) = W2 := ⟨_, rfl⟩
  have hb : Below w.heap.size w W2 := by rw [← hW2]; exact ((Below.refl _ w).alloc (Nat.le_refl _) _).alloc (by simp) _
  have k0 : W2.heap[w.heap.size]? = some (.cells #[.int .i64 p.f0, .int .i64 p.f1, .int .i64 p.f2, .int .i64 p.f3] 35 (0, 0)) := by
    rw [← hW2, heap_alloc_old (by simp)]
    exact World.alloc_heap_new w _
  have k1 : W2.heap[w.heap.size + 1]? = some (.cells #[.int .i64 0, .int .i64 0, .int .i64 0, .int .i64 0] 35 (0, 0)) := by
    have h := World.alloc_heap_new (w.alloc (.cells #[.int .i64 p.f0, .int .i64 p.f1, .int .i64 p.f2, .int .i64 p.f3] 35)) (.cells #[.int .i64 0, .int .i64 0, .int .i64 0, .int .i64 0] 35)
    rw [World.size_alloc, hW2] at h
    exact h
  have k3 : W2.heap.size = w.heap.size + 2 := by rw [← hW2, World.size_alloc, World.size_alloc]
  obtain ⟨⟨x0, x1, x2, x3⟩, _⟩ := boxed4 k0
  have hw : wrap64 (now - p.f1) = now - p.f1 := by have := h.n1; have := h.h0; have := h.h1; unfold wrap64; omega
  have hin := junctionboxref29_InTime.calls now p.f0 p.f1 p.f2 p.f3 (decide (now - p.f1 ≤ 4)) W2 (by unfold junctionboxref29_InTime.f; rw [hw])
  have g0 := h.g0
  have g1 := h.g1
  unfold pv
  have EG : Hid (hearG now p = (p.f2 + 1)) := Lib.hid (by unfold hearG; rw [if_pos hc.1, if_neg hc.2.1])
  have ES : Hid (hearS now p = p.f3) := Lib.hid (by unfold hearS; rw [EG.out, if_neg (fun e => e.elim hc.2.2.1 hc.2.2.2)])
  rw [decide_eq_true hc.1] at hin
  have c2 := hc.2.1
  have c3 : (p.f2 + 1 == 3) = false := by simpa using hc.2.2.1
  have c4 : (p.f3 == 2) = false := by simpa using hc.2.2.2
  have HC := Lib.hid hc
  clear hc
  clear hw
  have HK := Lib.hid (And.intro k0 (And.intro k1 (And.intro hb k3)))
  clear k0 k1 hb k3
  go_enter Try.func15, Try.ntmps15
  go_wp2_with fail
  refine hin.mono ?_
  rintro e w1 ⟨rfl, hb1⟩
  obtain ⟨k0, k1, hb, k3⟩ := HK.out
  obtain ⟨⟨y0, y1, y2, y3⟩, _⟩ := boxed4 ((hb1.block _ (by omega)).trans k0)
  obtain ⟨⟨z0, z1, z2, z3⟩, zf⟩ := boxed4 ((hb1.block _ (by omega)).trans k1)
  have f0 := zf 0
  have f1 := zf 1
  have f2 := zf 2
  have f3 := zf 3
  have HB := Lib.hid (hb.trans (hb1.mono (by omega)))
  clear hin k0 k1 hb hb1 k3 zf x0 x1 x2 x3
  go_wp2_with fail
  refine bodyPost_ret (v := .agg #[.int .i64 p.f0, .int .i64 now, .int .i64 (p.f2 + 1), .int .i64 p.f3]) ?_ rfl ⟨?_, ?_⟩
  · simp [results, Try.f15, go_sem, *]
  · unfold hearP
    rw [EG.out, ES.out]
  · exact (((HB.out.setCell (by simp) _).setCell (by simp) _).setCell (by simp) _).setCell (by simp) _

set_option maxHeartbeats 8000000 in
theorem heard_e {now : Int} {p : S35} (h : OkN now p) (hc : ¬ now - p.f1 ≤ 4 ∧ p.f3 = 2) (w : World) : Calls Try.prog 15 #[.int .i64 now, pv p] w fun e w' => e = .returned (pv (hearP now p)) ∧ Below w.heap.size w w' := by
  obtain ⟨W2, hW2⟩ : ∃ W2, (w.alloc (.cells #[.int .i64 p.f0, .int .i64 p.f1, .int .i64 p.f2, .int .i64 p.f3] 35)).alloc (.cells #[.int .i64 0, .int .i64 0, .int .i64 0, .int .i64 0] 35) = W2 := ⟨_, rfl⟩
  have hb : Below w.heap.size w W2 := by rw [← hW2]; exact ((Below.refl _ w).alloc (Nat.le_refl _) _).alloc (by simp) _
  have k0 : W2.heap[w.heap.size]? = some (.cells #[.int .i64 p.f0, .int .i64 p.f1, .int .i64 p.f2, .int .i64 p.f3] 35 (0, 0)) := by
    rw [← hW2, heap_alloc_old (by simp)]
    exact World.alloc_heap_new w _
  have k1 : W2.heap[w.heap.size + 1]? = some (.cells #[.int .i64 0, .int .i64 0, .int .i64 0, .int .i64 0] 35 (0, 0)) := by
    have h := World.alloc_heap_new (w.alloc (.cells #[.int .i64 p.f0, .int .i64 p.f1, .int .i64 p.f2, .int .i64 p.f3] 35)) (.cells #[.int .i64 0, .int .i64 0, .int .i64 0, .int .i64 0] 35)
    rw [World.size_alloc, hW2] at h
    exact h
  have k3 : W2.heap.size = w.heap.size + 2 := by rw [← hW2, World.size_alloc, World.size_alloc]
  obtain ⟨⟨x0, x1, x2, x3⟩, _⟩ := boxed4 k0
  have hw : wrap64 (now - p.f1) = now - p.f1 := by have := h.n1; have := h.h0; have := h.h1; unfold wrap64; omega
  have hin := junctionboxref29_InTime.calls now p.f0 p.f1 p.f2 p.f3 (decide (now - p.f1 ≤ 4)) W2 (by unfold junctionboxref29_InTime.f; rw [hw])
  have g0 := h.g0
  have g1 := h.g1
  unfold pv
  have EG : Hid (hearG now p = 1) := Lib.hid (by unfold hearG; rw [if_neg hc.1])
  have ES : Hid (hearS now p = 1) := Lib.hid (by unfold hearS; rw [EG.out, if_pos (.inr hc.2)])
  rw [decide_eq_false hc.1] at hin
  have c4 : (p.f3 == 2) = true := by simpa using hc.2
  have HC := Lib.hid hc
  clear hc
  clear hw
  have HK := Lib.hid (And.intro k0 (And.intro k1 (And.intro hb k3)))
  clear k0 k1 hb k3
  go_enter Try.func15, Try.ntmps15
  go_wp2_with fail
  refine hin.mono ?_
  rintro e w1 ⟨rfl, hb1⟩
  obtain ⟨k0, k1, hb, k3⟩ := HK.out
  obtain ⟨⟨y0, y1, y2, y3⟩, _⟩ := boxed4 ((hb1.block _ (by omega)).trans k0)
  obtain ⟨⟨z0, z1, z2, z3⟩, zf⟩ := boxed4 ((hb1.block _ (by omega)).trans k1)
  have f0 := zf 0
  have f1 := zf 1
  have f2 := zf 2
  have f3 := zf 3
  have HB := Lib.hid (hb.trans (hb1.mono (by omega)))
  clear hin k0 k1 hb hb1 k3 zf x0 x1 x2 x3
  go_wp2_with fail
  refine bodyPost_ret (v := .agg #[.int .i64 p.f0, .int .i64 now, .int .i64 1, .int .i64 1]) ?_ rfl ⟨?_, ?_⟩
  · simp [results, Try.f15, go_sem, *]
  · unfold hearP
    rw [EG.out, ES.out]
  · exact (((HB.out.setCell (by simp) _).setCell (by simp) _).setCell (by simp) _).setCell (by simp) _

set_option maxHeartbeats 8000000 in
theorem heard_f {now : Int} {p : S35} (h : OkN now p) (hc : ¬ now - p.f1 ≤ 4 ∧ ¬ p.f3 = 2) (w : World) : Calls Try.prog 15 #[.int .i64 now, pv p] w fun e w' => e = .returned (pv (hearP now p)) ∧ Below w.heap.size w w' := by
  obtain ⟨W2, hW2⟩ : ∃ W2, (w.alloc (.cells #[.int .i64 p.f0, .int .i64 p.f1, .int .i64 p.f2, .int .i64 p.f3] 35)).alloc (.cells #[.int .i64 0, .int .i64 0, .int .i64 0, .int .i64 0] 35) = W2 := ⟨_, rfl⟩
  have hb : Below w.heap.size w W2 := by rw [← hW2]; exact ((Below.refl _ w).alloc (Nat.le_refl _) _).alloc (by simp) _
  have k0 : W2.heap[w.heap.size]? = some (.cells #[.int .i64 p.f0, .int .i64 p.f1, .int .i64 p.f2, .int .i64 p.f3] 35 (0, 0)) := by
    rw [← hW2, heap_alloc_old (by simp)]
    exact World.alloc_heap_new w _
  have k1 : W2.heap[w.heap.size + 1]? = some (.cells #[.int .i64 0, .int .i64 0, .int .i64 0, .int .i64 0] 35 (0, 0)) := by
    have h := World.alloc_heap_new (w.alloc (.cells #[.int .i64 p.f0, .int .i64 p.f1, .int .i64 p.f2, .int .i64 p.f3] 35)) (.cells #[.int .i64 0, .int .i64 0, .int .i64 0, .int .i64 0] 35)
    rw [World.size_alloc, hW2] at h
    exact h
  have k3 : W2.heap.size = w.heap.size + 2 := by rw [← hW2, World.size_alloc, World.size_alloc]
  obtain ⟨⟨x0, x1, x2, x3⟩, _⟩ := boxed4 k0
  have hw : wrap64 (now - p.f1) = now - p.f1 := by have := h.n1; have := h.h0; have := h.h1; unfold wrap64; omega
  have hin := junctionboxref29_InTime.calls now p.f0 p.f1 p.f2 p.f3 (decide (now - p.f1 ≤ 4)) W2 (by unfold junctionboxref29_InTime.f; rw [hw])
  have g0 := h.g0
  have g1 := h.g1
  unfold pv
  have EG : Hid (hearG now p = 1) := Lib.hid (by unfold hearG; rw [if_neg hc.1])
  have ES : Hid (hearS now p = p.f3) := Lib.hid (by unfold hearS; rw [EG.out, if_neg (fun e => e.elim (by decide) hc.2)])
  rw [decide_eq_false hc.1] at hin
  have c4 : (p.f3 == 2) = false := by simpa using hc.2
  have HC := Lib.hid hc
  clear hc
  clear hw
  have HK := Lib.hid (And.intro k0 (And.intro k1 (And.intro hb k3)))
  clear k0 k1 hb k3
  go_enter Try.func15, Try.ntmps15
  go_wp2_with fail
  refine hin.mono ?_
  rintro e w1 ⟨rfl, hb1⟩
  obtain ⟨k0, k1, hb, k3⟩ := HK.out
  obtain ⟨⟨y0, y1, y2, y3⟩, _⟩ := boxed4 ((hb1.block _ (by omega)).trans k0)
  obtain ⟨⟨z0, z1, z2, z3⟩, zf⟩ := boxed4 ((hb1.block _ (by omega)).trans k1)
  have f0 := zf 0
  have f1 := zf 1
  have f2 := zf 2
  have f3 := zf 3
  have HB := Lib.hid (hb.trans (hb1.mono (by omega)))
  clear hin k0 k1 hb hb1 k3 zf x0 x1 x2 x3
  go_wp2_with fail
  refine bodyPost_ret (v := .agg #[.int .i64 p.f0, .int .i64 now, .int .i64 1, .int .i64 p.f3]) ?_ rfl ⟨?_, ?_⟩
  · simp [results, Try.f15, go_sem, *]
  · unfold hearP
    rw [EG.out, ES.out]
  · exact (((HB.out.setCell (by simp) _).setCell (by simp) _).setCell (by simp) _).setCell (by simp) _

theorem heard_any {now : Int} {p : S35} (h : OkN now p) (w : World) : Calls Try.prog 15 #[.int .i64 now, pv p] w fun e w' => e = .returned (pv (hearP now p)) ∧ Below w.heap.size w w' := by
  by_cases c1 : now - p.f1 ≤ 4
  · by_cases c2 : 3 < p.f2 + 1
    · exact heard_a h ⟨c1, c2⟩ w
    · by_cases c3 : p.f2 + 1 = 3
      · exact heard_b h ⟨c1, c2, c3⟩ w
      · by_cases c4 : p.f3 = 2
        · exact heard_c h ⟨c1, c2, c3, c4⟩ w
        · exact heard_d h ⟨c1, c2, c3, c4⟩ w
  · by_cases c4 : p.f3 = 2
    · exact heard_e h ⟨c1, c4⟩ w
    · exact heard_f h ⟨c1, c4⟩ w

end Go.Proofs.Ytplkimgoogoadaa
