/- A watch behind a change. -/
import Derived.Test.YtplkimgoogoadaaB2
import Derived.Test.YtplkimgoogoadaaPBeatPeersx3
import Derived.Deep.Onto
import Derived.Shelf.Abstract
import Derived.Lib.Hide
namespace Go.Proofs.Ytplkimgoogoadaa
open Go.RowKit Go.Proofs.YtplkimgoogoadaaW.PrintWords PBeatPeers

/-- What a change leaves: the error, the tick and the peers then. -/
def Did (b : Nat) (r : Int) (now' : Int) (qs : List S35) (N : Nat) (R : World → Prop) (w W : World) (e : Ending) (W' : World) : Prop :=
  ∃ v', e = .returned (.int .i64 r) ∧ W'.heap[b]? = some (.cells #[.int .i64 now', v'] 24 (0, 0)) ∧ Own W' (b + 2) v' qs ∧ Below N w W' ∧ W'.heap[b + 1]? = W.heap[b + 1]? ∧ R W'
theorem Did.mk {b : Nat} {r x now' : Int} {qs qs' : List S35} {N : Nat} {R : World → Prop} {w W W' : World} {v' : Value} (hx : x = r) (hq : qs = qs') (h1 : W'.heap[b]? = some (.cells #[.int .i64 now', v'] 24 (0, 0))) (h2 : Own W' (b + 2) v' qs) (h3 : Below N w W') (h4 : W'.heap[b + 1]? = W.heap[b + 1]?) (h5 : R W') :
    Did b r now' qs' N R w W (.returned (.int .i64 x)) W' := ⟨v', by rw [hx], h1, by rw [← hq]; exact h2, h3, h4, h5⟩

/-- What a change does of a watch in block b. -/
def Does (g : Nat) (cb : Array Value) (b : Nat) (now : Int) (ps : List S35) (r : Int) (now' : Int) (qs : List S35) (w : World) (N : Nat) (R : World → Prop) : Prop :=
  ∀ (W : World) (v : Value), Below w.heap.size w W → W.heap[b]? = some (.cells #[.int .i64 now, v] 24 (0, 0)) → b + 1 < W.heap.size → Own W (b + 2) v ps →
    Calls Try.prog g (#[.pointer (some ⟨b, 0, none⟩)] ++ cb) W (Did b r now' qs N R w W)

set_option maxHeartbeats 1000000 in
theorem turn_bad (now : Int) (ps : List S35) (A : Option Addr) (c : Nat) (f : Value) (w : World) (hC : Kd.C k35 w A ps.length ps) (hc : ps.length ≤ c) (k : Nat) (hk : beat_Check.f k now ps = some 390) :
    Calls Try.prog 29 #[.agg #[.int .i64 now, .slice A ps.length c], f] w fun e w' => e = .returned (.tuple #[.agg #[.int .i64 0, .slice none 0 0], .int .i64 390]) ∧ Below w.heap.size w w' := by
  have hch := beat_Check.calls k now A c ps 390 ((w.alloc (.cells #[.int .i64 now, .slice A ps.length c] 24)).alloc (.cells #[.int .i64 0, .slice none 0 0] 24)) (Kd.C_alloc (Kd.C_alloc hC _) _) hc hk
  go_enter Try.func29, Try.ntmps29
  go_wp2_with fail
  refine hch.mono ?_
  rintro e w1 ⟨rfl, hb⟩
  have hx : w1.heap[w.heap.size + 1]? = some (.cells #[.int .i64 0, .slice none 0 0] 24 (0, 0)) := by
    have h := World.alloc_heap_new (w.alloc (.cells #[.int .i64 now, .slice A ps.length c] 24)) (.cells #[.int .i64 0, .slice none 0 0] 24)
    rw [World.size_alloc] at h
    exact (hb.block (w.heap.size + 1) (by simp)).trans h
  have hc0 : w1.cell? ⟨w.heap.size + 1, 0, none⟩ = some (.int .i64 0) := by simp [World.cell?, hx]
  have hc1 : w1.cell? ⟨w.heap.size + 1, 1, none⟩ = some (.slice none 0 0) := by simp [World.cell?, hx]
  have hf0 : w1.frozen? ⟨w.heap.size + 1, 0, none⟩ = false := by simp [World.frozen?, hx]
  have hf1 : w1.frozen? ⟨w.heap.size + 1, 1, none⟩ = false := by simp [World.frozen?, hx]
  go_wp2_with fail
  refine bodyPost_ret (v := .tuple #[.agg #[.int .i64 0, .slice none 0 0], .int .i64 390]) ?_ rfl ⟨rfl, ?_⟩
  · simp [results, Try.f29, go_sem, *]
  · have hb' : Below w.heap.size w w1 := (((Below.refl _ w).alloc (Nat.le_refl _) _).alloc (by simp) _).trans (hb.mono (by simp; omega))
    exact (hb'.setCell (p := ⟨w.heap.size + 1, 0, none⟩) (by simp) _).setCell (p := ⟨w.heap.size + 1, 1, none⟩) (by simp) _

theorem boxed_cells {W : World} {b : Nat} {t : TypeId} {x y : Value} (h : W.heap[b]? = some (.cells #[x, y] t (0, 0))) :
    W.cell? ⟨b, 0, none⟩ = some x ∧ W.cell? ⟨b, 1, none⟩ = some y ∧ W.frozen? ⟨b, 0, none⟩ = false ∧ W.frozen? ⟨b, 1, none⟩ = false := by
  simp [World.cell?, World.frozen?, h]

theorem Own.far {w : World} {B : Nat} {v : Value} {ps : List S35} (h : Own w B v ps) {a : Addr} (ha : a.block < B) (u : Value) : Own (w.setCell a u) B v ps := ownsRow_setCell_below h ha u

theorem Own.mono {w : World} {B B' : Nat} {v : Value} {ps : List S35} (h : Own w B v ps) (k : B' ≤ B) : Own w B' v ps := World.ownsRow.mono h k
theorem Own.c' {w : World} {B : Nat} {v : Value} {ps : List S35} (h : Own w B v ps) : ∃ A c, v = .slice A ps.length c ∧ ps.length ≤ c ∧ c ≤ maxLen := by
  rcases h.2 with ⟨rfl, h0⟩ | ⟨g, cap, cur, rfl, hg, h1, h2, h3, h4, h5⟩
  · exact ⟨none, 0, by rw [h0], by omega, by omega⟩
  · exact ⟨_, cap, rfl, h2, h3⟩

set_option maxHeartbeats 2000000 in
theorem turn_does (now : Int) (ps : List S35) (A : Option Addr) (c : Nat) (g : Nat) (cb : Array Value) (r now' : Int) (qs : List S35) (w : World) (hC : Kd.C k35 w A ps.length ps) (hc : ps.length ≤ c) (hlen : ps.length ≤ 1000) (k : Nat) (hk : beat_Check.f k now ps = some 0)
    (eg : Enters Try.prog g) (N : Nat) (hN : N ≤ w.heap.size) (R : World → Prop) (hR : ∀ W k u, R W → R (W.setCell ⟨w.heap.size + 1, k, none⟩ u)) (hd : Does g cb w.heap.size now ps r now' qs w N R) :
    Calls Try.prog 29 #[.agg #[.int .i64 now, .slice A ps.length c], .func (.func g) #[] cb] w fun e w' =>
      (r ≠ 0 → e = .returned (.tuple #[.agg #[.int .i64 0, .slice none 0 0], .int .i64 r])) ∧
      (r = 0 → ∃ v', e = .returned (.tuple #[.agg #[.int .i64 now', v'], .int .i64 0]) ∧ Own w' w.heap.size v' qs) ∧ Below N w w' ∧ R w' := by
  have hb0 : Below w.heap.size w ((w.alloc (.cells #[.int .i64 now, .slice A ps.length c] 24)).alloc (.cells #[.int .i64 0, .slice none 0 0] 24)) := ((Below.refl _ w).alloc (Nat.le_refl _) _).alloc (by simp) _
  have hC1 := Kd.C_alloc (Kd.C_alloc hC (.cells #[.int .i64 now, .slice A ps.length c] 24)) (.cells #[.int .i64 0, .slice none 0 0] 24)
  have hch := beat_Check.calls k now A c ps 0 ((w.alloc (.cells #[.int .i64 now, .slice A ps.length c] 24)).alloc (.cells #[.int .i64 0, .slice none 0 0] 24)) hC1 hc hk
  go_enter Try.func29, Try.ntmps29
  go_wp2_with fail
  refine hch.mono ?_
  rintro e w1 ⟨rfl, hb⟩
  have hx : w1.heap[w.heap.size + 1]? = some (.cells #[.int .i64 0, .slice none 0 0] 24 (0, 0)) := by
    have h := World.alloc_heap_new (w.alloc (.cells #[.int .i64 now, .slice A ps.length c] 24)) (.cells #[.int .i64 0, .slice none 0 0] 24)
    rw [World.size_alloc] at h
    exact (hb.block (w.heap.size + 1) (by simp)).trans h
  have hy : w1.heap[w.heap.size]? = some (.cells #[.int .i64 now, .slice A ps.length c] 24 (0, 0)) := by
    have h := World.alloc_heap_new w (.cells #[.int .i64 now, .slice A ps.length c] 24)
    have h2 := Below.heap_alloc (w.alloc (.cells #[.int .i64 now, .slice A ps.length c] 24)) (.cells #[.int .i64 0, .slice none 0 0] 24) w.heap.size (by simp)
    exact (hb.block (w.heap.size) (by simp; omega)).trans (h2.trans h)
  have hC2 := Kd.C_below hC1 hb
  have hs1 := hb.size
  simp only [World.size_alloc] at hs1
  have hb1 : Below w.heap.size w w1 := hb0.trans (hb.mono (by simp; omega))
  have eg2 : ∀ (args : Array Value) (W : World), (callFunc g args).run Try.prog W = .ok (.enter g args) W := eg
  obtain ⟨y0, y1, y2, y3⟩ := boxed_cells hy
  clear hb hch hC1 hb0
  go_wp2_with fail
  refine (clone_any ps A c w1 hC2 hlen).mono ?_
  rintro e w2 ⟨v, rfl, ho, hb2⟩
  have hx2 := (hb2.block (w.heap.size + 1) (by omega)).trans hx
  have hy2 := (hb2.block w.heap.size (by omega)).trans hy
  obtain ⟨z0, z1, z2, z3⟩ := boxed_cells hy2
  have hs2 := hb2.size
  have hb2' : Below w.heap.size w w2 := hb1.trans (hb2.mono hb1.size)
  clear y0 y1 y2 y3
  obtain ⟨vA, vc, rfl, _, _⟩ := ho.c (by omega)
  have hoB : Own w2 (w.heap.size + 2) (.slice vA ps.length vc) ps := ho.mono (by omega)
  have hy3 : (w2.setCell ⟨w.heap.size, 1, none⟩ (.slice vA ps.length vc)).heap[w.heap.size]? = some (.cells #[.int .i64 now, .slice vA ps.length vc] 24 (0, 0)) := by
    simp [World.setCell, Array.getElem?_modify, hy2]
  have hx3 : (w2.setCell ⟨w.heap.size, 1, none⟩ (.slice vA ps.length vc)).heap[w.heap.size + 1]? = some (.cells #[.int .i64 0, .slice none 0 0] 24 (0, 0)) :=
    (Below.heap_setCell w2 ⟨w.heap.size, 1, none⟩ _ (w.heap.size + 1) (by simp)).trans hx2
  have hb3 := hb2'.setCell (p := ⟨w.heap.size, 1, none⟩) (Nat.le_refl _) (.slice vA ps.length vc)
  have hs3 : w.heap.size + 1 < (w2.setCell ⟨w.heap.size, 1, none⟩ (.slice vA ps.length vc)).heap.size := by simp [World.setCell]; omega
  have hdd := hd _ _ hb3 hy3 hs3 (hoB.far (by simp) _)
  go_wp2_with fail
  refine hdd.mono ?_
  rintro e w4 ⟨v', rfl, hy4, ho4, hb4, hx4, hR4⟩
  rw [hx3] at hx4
  obtain ⟨y0, y1, y2, y3⟩ := boxed_cells hy4
  obtain ⟨x0, x1, x2, x3⟩ := boxed_cells hx4
  have hs4 := hb4.size
  have HR := Lib.hid (fun W k u => hR W k u)
  have HR4 := Lib.hid hR4
  clear hR hR4
  clear hdd hd hb3 hy3 hx3 hs3 hoB ho hb2 hb2' hy2 hx2 hy hx z0 z1 z2 z3
  by_cases hr : r = 0
  · subst hr
    obtain ⟨uA, uc, hv', _, _⟩ := ho4.c' 
    subst hv'
    go_wp2_with fail
    refine bodyPost_ret (v := .tuple #[.agg #[.int .i64 now', .slice uA qs.length uc], .int .i64 0]) ?_ rfl ⟨⟨_, rfl, ?_⟩, ?_, ?_⟩
    · simp [results, Try.f29, go_sem, *]
    · exact ((ho4.far (by simp) _).far (by simp) _).mono (by omega)
    · exact (hb4.setCell (p := ⟨w.heap.size + 1, 0, none⟩) (by simp; omega) _).setCell (p := ⟨w.heap.size + 1, 1, none⟩) (by simp; omega) _
    · exact HR.out _ _ _ (HR.out _ _ _ HR4.out)
  · have hr' : (r == 0) = false := by simpa using hr
    go_wp2_with fail
    refine bodyPost_ret (v := .tuple #[.agg #[.int .i64 0, .slice none 0 0], .int .i64 r]) ?_ rfl ⟨fun _ => rfl, fun h => absurd h hr, ?_, ?_⟩
    · simp [results, Try.f29, go_sem, *]
    · exact (hb4.setCell (p := ⟨w.heap.size + 1, 0, none⟩) (by simp; omega) _).setCell (p := ⟨w.heap.size + 1, 1, none⟩) (by simp; omega) _
    · exact HR.out _ _ _ (HR.out _ _ _ HR4.out)

end Go.Proofs.Ytplkimgoogoadaa
