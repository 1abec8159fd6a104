/- The reference's With: what it answers. -/
import Derived.Test.YtplkimgoogoadaaB16
namespace Go.Proofs.Ytplkimgoogoadaa
open Go.RowKit Go.Proofs.YtplkimgoogoadaaW.PrintWords PBeatPeers

def withO (ps : List S35) (x : S35) (j : Nat) : Option S35 := if (j : Int) = x.f0 then some x else ofP ps j
def withL (ps : List S35) (x : S35) (k : Nat) : List S35 := (List.range' 1 k).filterMap (withO ps x)

theorem withL_succ (ps : List S35) (x : S35) (k : Nat) : withL ps x (k + 1) = withL ps x k ++ (withO ps x (k + 1)).toList := by
  unfold withL
  rw [List.range'_concat, List.filterMap_append]
  congr 1
  have e : 1 + 1 * k = k + 1 := by omega
  rw [e]
  cases h : withO ps x (k + 1) <;> simp [h]
theorem withL_len (ps : List S35) (x : S35) (k : Nat) : (withL ps x k).length ≤ k := by
  unfold withL
  exact Nat.le_trans (List.length_filterMap_le _ _) (by simp)

/-- What holds at each round's head. -/
def WithI (W3 : World) (s : Nat) (now : Int) (qs : List S35) (wr : World) : Prop :=
  Below (s + 3) W3 wr ∧ s + 4 ≤ wr.heap.size ∧ ∃ A c, wr.heap[s + 3]? = some (.cells #[.int .i64 now, .slice A qs.length c] 24 (0, 0)) ∧ Own wr (s + 4) (.slice A qs.length c) qs

theorem cells4_one (p : S35) : ∀ u ∈ [Value.int .i64 p.f0, .int .i64 p.f1, .int .i64 p.f2, .int .i64 p.f3], u.oneCell' = true := by
  intro u hu
  simp at hu
  rcases hu with rfl | rfl | rfl | rfl <;> rfl

/-- A peer more, at the end. -/
theorem own_snoc {W' : World} {B : Nat} {v' : Value} {qs : List S35} {p : S35} (h : W'.ownsRow B 35 4 v' (qs.length + 1) (pcells qs ++ [Value.int .i64 p.f0, .int .i64 p.f1, .int .i64 p.f2, .int .i64 p.f3])) : Own W' B v' (qs ++ [p]) := by
  unfold Own
  rw [List.length_append, pcells_app]
  exact h

theorem arg_cells (W : World) (T : Nat) (hT : W.heap.size = T) (t : TypeId) (L : List Value) : ∀ j u, L[j]? = some u → (W.alloc (.cells L.toArray t)).cell? ((⟨T, 0, none⟩ : Addr).add j) = some u := by
  intro j u hu
  subst hT
  have h := World.alloc_heap_new W (.cells L.toArray t)
  rw [Ins35.add_lit, Nat.zero_add]
  simp only [World.cell?, h]
  simpa using hu

/-- The round's end. -/
theorem with_next {W3 wr W5 W6 : World} {s : Nat} {now : Int} {qs : List S35} {p : S35} {A1 A2 : Option Addr} {c1 c2 : Nat} (hI : Below (s + 3) W3 wr) (hs4 : s + 4 ≤ wr.heap.size) (ho1 : Own wr (s + 4) (.slice A1 qs.length c1) qs)
    (hb1 : wr.heap[s + 3]? = some (.cells #[.int .i64 now, .slice A1 qs.length c1] 24 (0, 0))) (h5 : Below wr.heap.size wr W5) (hg : W5.grownBy W6 (Value.slice A1 qs.length c1).ownBlock) (ho : Own W6 (s + 4) (.slice A2 (qs ++ [p]).length c2) (qs ++ [p])) :
    W6.heap[s + 3]? = some (.cells #[.int .i64 now, .slice A1 qs.length c1] 24 (0, 0)) ∧ WithI W3 s now (qs ++ [p]) (W6.setCell ⟨s + 3, 1, none⟩ (.slice A2 (qs ++ [p]).length c2)) := by
  have hbase := ho1.base
  have hs5 := h5.size
  have hs6 := hg.size
  have hk : ∀ k, k < s + 4 → W6.heap[k]? = wr.heap[k]? := fun k hk => (hg.block k (by omega) (by intro e; have := (hbase k e.symm).1; omega)).trans (h5.block k (by omega))
  have h1 := (hk (s + 3) (by omega)).trans hb1
  refine ⟨h1, ?_, by simp [World.setCell]; omega, A2, c2, ?_, ho.far (by simp) _⟩
  · refine Below.setCell ?_ (by simp) _
    exact hI.trans ⟨hg.os.trans h5.os, hg.tape.trans h5.tape, hg.output.trans h5.output, by omega, fun k hk' => hk k (by omega)⟩
  · simp [World.setCell, Array.getElem?_modify, h1]

theorem with_keep {W3 wr W5 : World} {s : Nat} {now : Int} {qs : List S35} {A1 : Option Addr} {c1 : Nat} (hI : Below (s + 3) W3 wr) (hs4 : s + 4 ≤ wr.heap.size) (ho1 : Own wr (s + 4) (.slice A1 qs.length c1) qs)
    (hb1 : wr.heap[s + 3]? = some (.cells #[.int .i64 now, .slice A1 qs.length c1] 24 (0, 0))) (h5 : Below wr.heap.size wr W5) : WithI W3 s now qs W5 :=
  ⟨hI.trans (h5.mono (by omega)), Nat.le_trans hs4 h5.size, A1, c1, (h5.block _ (by omega)).trans hb1, ho1.next h5⟩

set_option maxRecDepth 100000 in
set_option maxHeartbeats 8000000 in
theorem with_any (now : Int) (x : S35) (ps : List S35) (A : Option Addr) (c : Nat) (w : World) (hC : Kd.C k35 w A ps.length ps) (hc : ps.length ≤ c) (hl : ps.length ≤ 1000) (qs : List S35) (hq : withL ps x 8 = qs) :
    Calls Try.prog 14 #[.agg #[.int .i64 now, .slice A ps.length c], .agg #[.int .i64 x.f0, .int .i64 x.f1, .int .i64 x.f2, .int .i64 x.f3]] w fun e w' => ∃ A' c', e = .returned (.agg #[.int .i64 now, .slice A' qs.length c']) ∧ Own w' w.heap.size (.slice A' qs.length c') qs ∧ Below w.heap.size w w' := by
  obtain ⟨W3, hW3⟩ : ∃ W3, ((w.alloc (.cells #[.int .i64 now, .slice A ps.length c] 24)).alloc (.cells #[.int .i64 x.f0, .int .i64 x.f1, .int .i64 x.f2, .int .i64 x.f3] 35)).alloc (.cells #[.int .i64 0, .slice none 0 0] 24) = W3 := ⟨_, rfl⟩
  obtain ⟨k1, k2, k3, k4, k5⟩ := add_world w (.cells #[.int .i64 now, .slice A ps.length c] 24) (.cells #[.int .i64 x.f0, .int .i64 x.f1, .int .i64 x.f2, .int .i64 x.f3] 35) (.cells #[.int .i64 0, .slice none 0 0] 24)
  rw [hW3] at k1 k2 k3 k4 k5
  obtain ⟨y0, y1, _, _⟩ := boxed_cells k5
  obtain ⟨i0, hi, hz0, hz1, hz2⟩ := info_parts info35
  have H0 : WithI W3 w.heap.size now (withL ps x 0) (W3.alloc (.cells #[.int .i64 now, .slice none 0 0] 24)) := by
    refine ⟨(Below.refl _ _).alloc (by omega) _, by rw [World.size_alloc]; omega, none, 0, ?_, own_nil _ _⟩
    have h := World.alloc_heap_new W3 (.cells #[.int .i64 now, .slice none 0 0] 24)
    rw [k3] at h
    exact h
  have hCr : ∀ W, Below (w.heap.size + 3) W3 W → Kd.C k35 W A ps.length ps := fun W hW => Kd.C_below hC (k4.trans (hW.mono (by omega)))
  have HK := Lib.hid (And.intro k1 (And.intro k2 (And.intro k4 k5)))
  have HC := Lib.hid (fun W hW => hCr W hW)
  clear k1 k2 k4 k5 hC hCr
  go_enter Try.func14, Try.ntmps14
  go_wp2_with fail
  go_loopw [6] (fun i wr => ∃ k : Nat, k ≤ 8 ∧ i = .int .i64 (k + 1 : Nat) ∧ WithI W3 w.heap.size now (withL ps x k) wr) (fun i _ => 9 - (intOf i).toNat)
  case atStart => exact ⟨0, by omega, rfl, H0⟩
  case round =>
    obtain ⟨k, hk, rfl, hI, hs4, A1, c1, hb1, ho1⟩ := hrel
    clear H0 y0 y1
    have e0 := (hI.block w.heap.size (by omega)).trans HK.out.2.2.2
    have e1 := (hI.block (w.heap.size + 1) (by omega)).trans HK.out.1
    have e2 := (hI.block (w.heap.size + 2) (by omega)).trans HK.out.2.1
    obtain ⟨u0, u1, _, _⟩ := boxed_cells e0
    obtain ⟨⟨x0, x1, x2, x3⟩, _⟩ := boxed4 e1
    obtain ⟨r0, r1, r2, r3⟩ := boxed_cells e2
    obtain ⟨b0, b1, b2, b3⟩ := boxed_cells hb1
    by_cases hlt : k < 8
    · have hof := fun r (hr : ofP ps ((k + 1 : Nat) : Int) = r) => of_any now ((k + 1 : Nat) : Int) ps A c wr (HC.out wr hI) hc hl r hr
      have hlen := withL_len ps x k
      have hnx := withL_succ ps x k
      by_cases hx : ((k + 1 : Nat) : Int) = x.f0
      · have hO : withO ps x (k + 1) = some x := by unfold withO; rw [if_pos hx]
        rw [hO, Option.toList_some] at hnx
        have hof := hof _ rfl
        obtain ⟨r, hr⟩ : ∃ r, ofP ps ((k + 1 : Nat) : Int) = r := ⟨_, rfl⟩
        rw [hr] at hof
        have HX := Lib.hid hx
        have HN := Lib.hid hnx
        have HR := Lib.hid hr
        unfold pv at hof
        rw [← hx] at x0
        clear hx hnx hO hr
        obtain ⟨qk, hqk⟩ : ∃ qk, withL ps x k = qk := ⟨_, rfl⟩
        rw [hqk] at ho1 hb1 b1 hlen
        have HQ := Lib.hid hqk
        clear hqk
        go_wp2_with fail
        refine hof.mono ?_
        rintro e w1 ⟨rfl, hw1⟩
        have hs1 := hw1.size
        have z0 := (hw1.cell (p := ⟨w.heap.size, 0, none⟩) (by simp; omega)).trans u0
        have z1 := (hw1.cell (p := ⟨w.heap.size, 1, none⟩) (by simp; omega)).trans u1
        have z2 := (hw1.cell (p := ⟨w.heap.size + 1, 0, none⟩) (by simp; omega)).trans x0
        have z3 := (hw1.cell (p := ⟨w.heap.size + 1, 1, none⟩) (by simp; omega)).trans x1
        have z4 := (hw1.cell (p := ⟨w.heap.size + 1, 2, none⟩) (by simp; omega)).trans x2
        have z5 := (hw1.cell (p := ⟨w.heap.size + 1, 3, none⟩) (by simp; omega)).trans x3
        have z6 := (hw1.cell (p := ⟨w.heap.size + 3, 1, none⟩) (by simp; omega)).trans b1
        have hl0 : w.heap.size < w1.heap.size := by omega
        have hl1 : w.heap.size + 1 < w1.heap.size := by omega
        have hl3 : w.heap.size + 3 < w1.heap.size := by omega
        have h5 : Below wr.heap.size wr ((w1.alloc (.cells #[.int .i64 ((k : Int) + 1), .int .i64 x.f1, .int .i64 x.f2, .int .i64 x.f3] 35)).alloc (.cells #[.int .i64 ((k : Int) + 1), .int .i64 x.f1, .int .i64 x.f2, .int .i64 x.f3] 35)) := (hw1.alloc (by omega) _).alloc (by simp; omega) _
        have hown5 := ho1.next h5
        have hT := arg_cells (w1.alloc (.cells #[.int .i64 ((k : Int) + 1), .int .i64 x.f1, .int .i64 x.f2, .int .i64 x.f3] 35)) (w1.heap.size + 1) (World.size_alloc ..) 35 [.int .i64 ((k : Int) + 1), .int .i64 x.f1, .int .i64 x.f2, .int .i64 x.f3]
        have hone := cells4_one ⟨(k : Int) + 1, x.f1, x.f2, x.f3⟩
        have hB5 : w.heap.size + 4 ≤ ((w1.alloc (.cells #[.int .i64 ((k : Int) + 1), .int .i64 x.f1, .int .i64 x.f2, .int .i64 x.f3] 35)).alloc (.cells #[.int .i64 ((k : Int) + 1), .int .i64 x.f1, .int .i64 x.f2, .int .i64 x.f3] 35)).heap.size := by have := h5.size; omega
        have HB1 := Lib.hid (And.intro ho1 (And.intro hb1 (And.intro hI (And.intro hs4 h5))))
        clear u0 u1 x0 x1 x2 x3 r0 r1 r2 r3 b0 b1 b2 b3 e0 e1 e2 ho1 hb1 hof h5 hI hs4
        go_wp2_with (at_builtin; refine wpList_append_own _ rfl _ _ 22 rfl (w.heap.size + 4) 35 i0 _ 4 32 Try.underlying22 hi hz0 hz1 hz2 rfl (by decide) (.slice A1 qk.length c1) qk.length (pcells qk) rfl hown5 ⟨w1.heap.size + 1, 0, none⟩ 1 1 [.int .i64 ((k : Int) + 1), .int .i64 x.f1, .int .i64 x.f2, .int .i64 x.f3] rfl rfl hT hone (by unfold maxLen; omega) (by omega) hB5 ?_; intro v' W6 hown' hgrow _; obtain ⟨A2, c2, hv, _, _⟩ := (own_snoc (p := ⟨(k : Int) + 1, x.f1, x.f2, x.f3⟩) hown').c'; subst hv; obtain ⟨hh, hnx⟩ := with_next HB1.out.2.2.1 HB1.out.2.2.2.1 HB1.out.1 HB1.out.2.1 HB1.out.2.2.2.2 hgrow (own_snoc (p := ⟨(k : Int) + 1, x.f1, x.f2, x.f3⟩) hown'); have HNX := Lib.hid hnx; obtain ⟨q0, q1, q2, q3⟩ := boxed_cells hh; clear hown' hgrow hnx hh hown5 hT hone hB5 z0 z1 z2 z3 z4 z5 z6)
        go_roundw
        case rel =>
          refine ⟨k + 1, by omega, by go_num, ?_⟩
          have h := HNX.out
          rw [List.length_append, List.length_singleton] at h
          rw [show (⟨(k : Int) + 1, x.f1, x.f2, x.f3⟩ : S35) = x from by have := HX.out; rw [show (k : Int) + 1 = x.f0 by omega]] at h
          rw [HN.out, HQ.out]
          exact h
        case measure => simp [intOf]; omega
      · have hO : withO ps x (k + 1) = ofP ps ((k + 1 : Nat) : Int) := by unfold withO; rw [if_neg hx]
        have hx2 : ¬ (k : Int) + 1 = x.f0 := by omega
        clear hx
        rcases hr : ofP ps ((k + 1 : Nat) : Int) with _ | p
        · have hof := hof none hr
          rw [hO, hr, Option.toList_none, List.append_nil] at hnx
          have HN := Lib.hid hnx
          clear hnx hO hr
          unfold pv zp at hof
          simp only [Option.getD_none, Option.isSome_none] at hof
          obtain ⟨qk, hqk⟩ : ∃ qk, withL ps x k = qk := ⟨_, rfl⟩
          rw [hqk] at ho1 hb1 b1 hlen
          have HQ := Lib.hid hqk
          clear hqk
          have HB1 := Lib.hid (And.intro ho1 (And.intro hb1 (And.intro hI hs4)))
          go_wp2_with fail
          refine hof.mono ?_
          rintro e w1 ⟨rfl, hw1⟩
          have hs1 := hw1.size
          have z0 := (hw1.cell (p := ⟨w.heap.size, 0, none⟩) (by simp; omega)).trans u0
          have z1 := (hw1.cell (p := ⟨w.heap.size, 1, none⟩) (by simp; omega)).trans u1
          have z2 := (hw1.cell (p := ⟨w.heap.size + 1, 0, none⟩) (by simp; omega)).trans x0
          have z3 := (hw1.cell (p := ⟨w.heap.size + 1, 1, none⟩) (by simp; omega)).trans x1
          have z4 := (hw1.cell (p := ⟨w.heap.size + 1, 2, none⟩) (by simp; omega)).trans x2
          have z5 := (hw1.cell (p := ⟨w.heap.size + 1, 3, none⟩) (by simp; omega)).trans x3
          have z6 := (hw1.cell (p := ⟨w.heap.size + 3, 1, none⟩) (by simp; omega)).trans b1
          have hl0 : w.heap.size < w1.heap.size := by omega
          have hl1 : w.heap.size + 1 < w1.heap.size := by omega
          have hl3 : w.heap.size + 3 < w1.heap.size := by omega
          clear u0 u1 x0 x1 x2 x3 r0 r1 r2 r3 b0 b1 b2 b3 e0 e1 e2 ho1 hb1 hof hI hs4
          go_wp2_with fail
          go_roundw
          case rel =>
            refine ⟨k + 1, by omega, by go_num, ?_⟩
            rw [HN.out, HQ.out]
            exact with_keep HB1.out.2.2.1 HB1.out.2.2.2 HB1.out.1 HB1.out.2.1 (hw1.alloc (by omega) _)
          case measure => simp [intOf]; omega
        · have hof := hof (some p) hr
          rw [hO, hr, Option.toList_some] at hnx
          have HN := Lib.hid hnx
          clear hnx hO hr
          unfold pv at hof
          simp only [Option.getD_some, Option.isSome_some] at hof
          obtain ⟨qk, hqk⟩ : ∃ qk, withL ps x k = qk := ⟨_, rfl⟩
          rw [hqk] at ho1 hb1 b1 hlen
          have HQ := Lib.hid hqk
          clear hqk
          go_wp2_with fail
          refine hof.mono ?_
          rintro e w1 ⟨rfl, hw1⟩
          have hs1 := hw1.size
          have z0 := (hw1.cell (p := ⟨w.heap.size, 0, none⟩) (by simp; omega)).trans u0
          have z1 := (hw1.cell (p := ⟨w.heap.size, 1, none⟩) (by simp; omega)).trans u1
          have z2 := (hw1.cell (p := ⟨w.heap.size + 1, 0, none⟩) (by simp; omega)).trans x0
          have z3 := (hw1.cell (p := ⟨w.heap.size + 1, 1, none⟩) (by simp; omega)).trans x1
          have z4 := (hw1.cell (p := ⟨w.heap.size + 1, 2, none⟩) (by simp; omega)).trans x2
          have z5 := (hw1.cell (p := ⟨w.heap.size + 1, 3, none⟩) (by simp; omega)).trans x3
          have z6 := (hw1.cell (p := ⟨w.heap.size + 3, 1, none⟩) (by simp; omega)).trans b1
          have hl0 : w.heap.size < w1.heap.size := by omega
          have hl1 : w.heap.size + 1 < w1.heap.size := by omega
          have hl3 : w.heap.size + 3 < w1.heap.size := by omega
          have h5 : Below wr.heap.size wr ((w1.alloc (.cells #[.int .i64 p.f0, .int .i64 p.f1, .int .i64 p.f2, .int .i64 p.f3] 35)).alloc (.cells #[.int .i64 p.f0, .int .i64 p.f1, .int .i64 p.f2, .int .i64 p.f3] 35)) := (hw1.alloc (by omega) _).alloc (by simp; omega) _
          have hown5 := ho1.next h5
          have hT := arg_cells (w1.alloc (.cells #[.int .i64 p.f0, .int .i64 p.f1, .int .i64 p.f2, .int .i64 p.f3] 35)) (w1.heap.size + 1) (World.size_alloc ..) 35 [.int .i64 p.f0, .int .i64 p.f1, .int .i64 p.f2, .int .i64 p.f3]
          have hone := cells4_one p
          have hB5 : w.heap.size + 4 ≤ ((w1.alloc (.cells #[.int .i64 p.f0, .int .i64 p.f1, .int .i64 p.f2, .int .i64 p.f3] 35)).alloc (.cells #[.int .i64 p.f0, .int .i64 p.f1, .int .i64 p.f2, .int .i64 p.f3] 35)).heap.size := by have := h5.size; omega
          have HB1 := Lib.hid (And.intro ho1 (And.intro hb1 (And.intro hI (And.intro hs4 h5))))
          clear u0 u1 x0 x1 x2 x3 r0 r1 r2 r3 b0 b1 b2 b3 e0 e1 e2 ho1 hb1 hof h5 hI hs4
          go_wp2_with (at_builtin; refine wpList_append_own _ rfl _ _ 22 rfl (w.heap.size + 4) 35 i0 _ 4 32 Try.underlying22 hi hz0 hz1 hz2 rfl (by decide) (.slice A1 qk.length c1) qk.length (pcells qk) rfl hown5 ⟨w1.heap.size + 1, 0, none⟩ 1 1 [.int .i64 p.f0, .int .i64 p.f1, .int .i64 p.f2, .int .i64 p.f3] rfl rfl hT hone (by unfold maxLen; omega) (by omega) hB5 ?_; intro v' W6 hown' hgrow _; obtain ⟨A2, c2, hv, _, _⟩ := (own_snoc (p := p) hown').c'; subst hv; obtain ⟨hh, hnx⟩ := with_next HB1.out.2.2.1 HB1.out.2.2.2.1 HB1.out.1 HB1.out.2.1 HB1.out.2.2.2.2 hgrow (own_snoc (p := p) hown'); have HNX := Lib.hid hnx; obtain ⟨q0, q1, q2, q3⟩ := boxed_cells hh; clear hown' hgrow hnx hh hown5 hT hone hB5 z0 z1 z2 z3 z4 z5 z6)
          go_roundw
          case rel =>
            refine ⟨k + 1, by omega, by go_num, ?_⟩
            have h := HNX.out
            rw [List.length_append, List.length_singleton] at h
            rw [HN.out, HQ.out]
            exact h
          case measure => simp [intOf]; omega
    · obtain rfl : k = 8 := by omega
      go_wp2_with fail
      refine bodyPost_ret (v := .agg #[.int .i64 now, .slice A1 qs.length c1]) ?_ rfl ⟨A1, c1, rfl, ?_, ?_⟩
      · simp [results, Try.f14, go_sem, *]
      · rw [hq] at ho1
        exact ((ho1.far (by simp) _).far (by simp) _).mono (by omega)
      · exact ((HK.out.2.2.1.trans (hI.mono (by omega))).setCell (by simp; omega) _).setCell (by simp; omega) _

end Go.Proofs.Ytplkimgoogoadaa
