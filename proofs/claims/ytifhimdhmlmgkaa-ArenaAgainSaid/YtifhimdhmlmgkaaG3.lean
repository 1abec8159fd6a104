/- ArenaAgain: the walk. -/
import Derived.Test.YtifhimdhmlmgkaaN2
import Derived.Test.YtifhimdhmlmgkaaG2
namespace Go.Proofs.Ytifhimdhmlmgkaa
open Go.RowKit

theorem info3 : (Try.prog.info? 3).map (fun i => (i.zero, i.size, i.bytes)) = some (some (.int .i64 0), 1, 8) := by kernel_rfl

def placesV (bs : List Blk) : List Int := bs.map fun b => (b.place : Int)

theorem pieces_off_true : ∀ bs : List Blk, piecesB (bs.map off) true = []
  | [] => rfl
  | b :: bs => by
    have := pieces_off_true bs
    unfold piecesB at this ⊢
    rw [List.map_cons, List.filter_cons_of_neg (by simp [off]), this]
theorem pieces_off_false : ∀ bs : List Blk, piecesB (bs.map off) false = bs.map off
  | [] => rfl
  | b :: bs => by
    have := pieces_off_false bs
    unfold piecesB at this ⊢
    rw [List.map_cons, List.filter_cons_of_pos (by simp [off]), this]

/-- The cells of a slice of pieces. -/
def Pc (w : World) (n0 : Nat) (a : Option Addr) (n : Nat) (l : List Blk) : Prop :=
  l = [] ∨ (n = l.length ∧ ∃ g, a = some ⟨g, 0, none⟩ ∧ n0 ≤ g ∧ g < w.heap.size ∧ ∀ j (hj : j < l.length), w.cell? ⟨g, j * 2, none⟩ = some (.int .i64 l[j].place) ∧ w.cell? ⟨g, j * 2 + 1, none⟩ = some (.int .i64 l[j].cls))

theorem Pc.mono {w : World} {n0 n1 : Nat} {a : Option Addr} {n : Nat} {l : List Blk} (h : Pc w n0 a n l) (hn : n1 ≤ n0) : Pc w n1 a n l := by
  rcases h with h | ⟨h0, g, h1, h2, h3⟩
  · exact .inl h
  · exact .inr ⟨h0, g, h1, by omega, h3⟩
theorem Pc.grown {w w' : World} {n0 : Nat} {a : Option Addr} {n : Nat} {l : List Blk} {row : Option Nat} (h : Pc w n0 a n l) (k : w.grownBy w' row) (hr : ∀ g, row = some g → g < n0) : Pc w' n0 a n l := by
  rcases h with h | ⟨h0, g, h1, h2, h3, h4⟩
  · exact .inl h
  · have hg : w'.heap[g]? = w.heap[g]? := k.block g h3 (fun e => by have := hr g e.symm; omega)
    refine .inr ⟨h0, g, h1, h2, Nat.lt_of_lt_of_le h3 k.size, fun j hj => ?_⟩
    rw [World.cell?_of_block (a := ⟨g, j * 2, none⟩) (w := w) hg, World.cell?_of_block (a := ⟨g, j * 2 + 1, none⟩) (w := w) hg]
    exact h4 j hj
theorem Pc.next {w w' : World} {n0 : Nat} {a : Option Addr} {n : Nat} {l : List Blk} (h : Pc w n0 a n l) (k : Below w.heap.size w w') : Pc w' n0 a n l :=
  h.grown (row := none) ⟨k.os, k.tape, k.output, k.size, fun i hi _ => k.block i hi⟩ (by simp)

theorem Pcs.pc {w W' : World} {l : List Blk} {e : Ending} (h : Pcs w W' l e) : ∃ a cap, e = .returned (.slice a l.length cap) ∧ Below w.heap.size w W' ∧ Pc W' w.heap.size a l.length l := by
  obtain ⟨hb, ⟨rfl, a, cap, he⟩ | ⟨hl, g, cap, he, hg, hr, hc⟩⟩ := h.out
  · exact ⟨a, cap, he, hb, .inl rfl⟩
  · refine ⟨_, cap, he, hb, .inr ⟨rfl, g, rfl, hg, ?_, hc⟩⟩
    have := (hc 0 (List.length_pos_iff.2 hl)).1
    exact block_lt_of_cell this

theorem blocks_pc {A B : Nat} {s : St} {w : World} (h : Is w A B s) (l : List Blk) (hl : piecesB s.bs true = l) :
    Calls Try.prog 16 #[.pointer (some ⟨A, 0, none⟩)] w fun e W' => ∃ a cap, e = .returned (.slice a l.length cap) ∧ Below w.heap.size w W' ∧ Pc W' w.heap.size a l.length l := by
  subst hl
  exact (blocks_any h.arb).mono fun _ _ k => k.pc
theorem spare_pc {A B : Nat} {s : St} {w : World} (h : Is w A B s) (l : List Blk) (hl : piecesB s.bs false = l) :
    Calls Try.prog 17 #[.pointer (some ⟨A, 0, none⟩)] w fun e W' => ∃ a cap, e = .returned (.slice a l.length cap) ∧ Below w.heap.size w W' ∧ Pc W' w.heap.size a l.length l := by
  subst hl
  exact (spare_any h.arb).mono fun _ _ k => k.pc

theorem Byt.lt {w : World} {n0 : Nat} {v : Value} {xs : List Int} (h : Byt w n0 v xs) : ∀ k, v.ownBlock = some k → k < w.heap.size := by
  intro k hk
  rcases h.2 with ⟨rfl, _⟩ | ⟨g, c, rfl, _, h2, _⟩
  · simp [Value.ownBlock] at hk
  · simp [Value.ownBlock] at hk; omega
theorem Byt.kept {w w' : World} {n0 : Nat} {v : Value} {xs : List Int} {row : Option Nat} (h : Byt w n0 v xs) (k : w.grownBy w' row) (hr : ∀ g, row = some g → v.ownBlock = some g → False) : Byt w' n0 v xs := by
  refine ⟨h.1, ?_⟩
  rcases h.2 with h2 | ⟨g, c, rfl, h1, h2, h3, h4, h5⟩
  · exact .inl h2
  · refine .inr ⟨g, c, rfl, h1, Nat.lt_of_lt_of_le h2 k.size, h3, h4, fun i u hu => ?_⟩
    have : w'.heap[g]? = w.heap[g]? := k.block g h2 (fun e => hr g e.symm rfl)
    rw [World.cell?_of_block (a := ⟨g, i, none⟩) (w := w) this]
    exact h5 i u hu
theorem Pc.kept {w w' : World} {n0 : Nat} {a : Option Addr} {n : Nat} {l : List Blk} {row : Option Nat} (h : Pc w n0 a n l) (k : w.grownBy w' row) (hr : ∀ g, row = some g → a = some ⟨g, 0, none⟩ → False) : Pc w' n0 a n l := by
  rcases h with h | ⟨h0, g, h1, h2, h3, h4⟩
  · exact .inl h
  · have hg : w'.heap[g]? = w.heap[g]? := k.block g h3 (fun e => hr g e.symm h1)
    refine .inr ⟨h0, g, h1, h2, Nat.lt_of_lt_of_le h3 k.size, fun j hj => ?_⟩
    rw [World.cell?_of_block (a := ⟨g, j * 2, none⟩) (w := w) hg, World.cell?_of_block (a := ⟨g, j * 2 + 1, none⟩) (w := w) hg]
    exact h4 j hj

theorem owns_next {w w' : World} {B : Nat} {e : TypeId} {size : Nat} {v : Value} {n : Nat} {xs : List Value} (h : w.ownsRow B e size v n xs) (k : Below w.heap.size w w') : w'.ownsRow B e size v n xs :=
  h.kept (row := none) ⟨k.os, k.tape, k.output, k.size, fun i hi _ => k.block i hi⟩ (by
    rcases ho : v.ownBlock with _ | b
    · exact .inl rfl
    · exact .inr (by simp))

theorem Gone.fresh_place {s : St} {pre post : List Blk} {b : Blk} (h : Gone s (pre ++ [b]) post) : (b.place : Int) ∉ placesV pre := by
  intro hm
  obtain ⟨x, hx, e⟩ := List.mem_map.1 hm
  have hL := h.iv.lay
  rw [h.bs, List.append_assoc] at hL
  obtain ⟨m, k1, k2⟩ := hL.app
  have k3 : b.place = m + 1 := k2.1
  have := k1.mem x hx
  have := sz_pos x.cls
  omega

theorem Gone.load0 {s : St} {pre post : List Blk} {b : Blk} (h : Gone s (pre ++ [b]) post) : loadR s b.place 0 = (0, 0) := by
  unfold loadR
  rw [findB_mem h.iv (by rw [h.bs]; simp) (h.tk b (by simp))]
  have := sz_pos b.cls
  simp only
  rw [if_neg (by omega)]
  have := h.zr b (by simp) 0 (by omega)
  exact Prod.ext this rfl

set_option maxRecDepth 100000 in
set_option maxHeartbeats 2000000 in
theorem again_walk (a0 : Int) (a1 : Option Addr) (len1 cap1 : Nat) (w : World) (hl : len1 ≤ maxLen) (h1 : IntsAt w a1 len1) :
    Calls Try.prog 5 #[.int .i64 a0, .slice a1 len1 cap1] w fun e w' => e = .returned (.bool true) ∧ Below w.heap.size w w' := by
  unfold maxLen at hl
  have q0 := IntKind.wrap_u64 a0
  obtain ⟨q, hq⟩ : ∃ q, IntKind.u64.wrap a0 = q := ⟨_, rfl⟩
  have q1 : 0 ≤ q := by rw [← hq, q0]; omega
  have q2 : q ≤ 18446744073709551615 := by rw [← hq, q0]; omega
  clear q0
  obtain ⟨m, hm⟩ : ∃ m : Nat, q % 200 = m := ⟨(q % 200).toNat, by omega⟩
  have hm2 : m < 200 := by omega
  obtain ⟨n, hn⟩ : ∃ n : Nat, 64 + m = n := ⟨_, rfl⟩
  have hn1 : 64 ≤ n := by omega
  have hn2 : n ≤ 16384 := by omega
  have hmn : 64 + (m : Int) = n := by omega
  have hwk := wakes_any w
  obtain ⟨i0, hi, hz0, hz1, hz2⟩ := info_parts info3
  go_enter Try.func5, Try.ntmps5
  go_wp2_with fail
  refine hwk.mono ?_
  rintro e w0 ⟨rfl, hb0⟩
  clear hwk
  go_wp2_with fail
  refine (new_is n w0 hn1 hn2).mono ?_
  rintro e w1 ⟨rfl, hb, hi1⟩
  have g0 : Arn w w1 (w0.heap.size + 1) w0.heap.size (newS n) := ⟨hi1, hb0.trans (hb.mono hb0.size), hb0.size⟩
  have hs0 := hb0.size
  clear hi1 hb hb0
  obtain ⟨B, hB⟩ : ∃ B, w0.heap.size = B := ⟨_, rfl⟩
  rw [hB] at g0 hs0 ⊢
  have hA0 := g0.is.ar.ltA
  go_wp2_with fail
  go_loopw [41, 7] (fun i v wr => ∃ (k : Nat) (s : St), i = .int .i64 k ∧ k ≤ len1 ∧ k ≤ 20 ∧ Arn w wr (B + 1) B s ∧ Fresh s ∧ s.bs.length ≤ k ∧ wr.ownsRow (B + 2) 3 1 v s.bs.length (i64s (placesV s.bs))) (fun i _ _ => len1 - (intOf i).toNat)
  case atStart => exact ⟨0, newS n, rfl, by omega, by omega, g0, Fresh.new n hn1, Nat.le_refl _, World.ownsRow_nil _ _ _ _⟩
  case round =>
    obtain ⟨k, s, rfl, hk1, hk2, hs, hf, hbk, hv⟩ := hrel
    clear g0
    by_cases hlt : k < len1
    · obtain ⟨bb, ofs, rfl, hops⟩ : ∃ bb ofs, a1 = some ⟨bb, ofs, none⟩ ∧ ∀ k, k < len1 → ∃ z, w.cell? ⟨bb, ofs + k, none⟩ = some (.int .i64 z) ∧ (Lit.int .i64 z).wf = true := h1.resolve_left (by omega)
      obtain ⟨z, hz, hzw⟩ := hops k hlt
      have hz' := (hs.bl.cell (block_lt_of_cell hz)).trans hz
      have hrs := hs.bl.size
      have hA := hs.is.ar.ltA
      clear hops h1 hz
      by_cases h20 : k = 20
      · subst h20
        go_wp2_with fail
        refine (encode_any hs.is.ar).mono ?_
        rintro e w2 ⟨x1, rfl, hx1, hb2⟩
        have hAs := hs.is.ar.ltA
        have hrs2 := hs.bl.size
        have g2 := hs.next hb2
        have hv2 : Its w2 (B + 2) u7 (placesV s.bs) := (owns_its hv (by unfold maxLen; omega)).next hb2
        have hx2 : Byt w2 (B + 2) x1 (bytesW s.ws) := hx1.mono (by omega)
        clear hb2 hx1 hv
        obtain ⟨N, hN⟩ : ∃ N, s.bs.length = N := ⟨_, rfl⟩
        obtain ⟨pa, pc, rfl⟩ : ∃ pa pc, u7 = .slice pa N pc := by
          rcases hv2.2 with ⟨rfl, h0⟩ | ⟨g, c, rfl, _⟩
          · have : s.bs = [] := by simpa [placesV] using h0
            exact ⟨none, 0, by rw [← hN, this]; rfl⟩
          · exact ⟨some ⟨g, 0, none⟩, c, by simp [placesV, hN]⟩
        rw [hN] at hbk
        have hwl : IntKind.i64.wrap ((N : Int) - 1) = (N : Int) - 1 := IntWalk.i64_in _ (by omega)
        go_wp2_with fail
        go_loopw [13] (fun i wr => ∃ (pre post : List Blk), i = .int .i64 ((pre.length : Int) - 1) ∧ s.bs = pre ++ post ∧ Arn w wr (B + 1) B (stk s post) ∧ Its wr (B + 2) (.slice pa N pc) (placesV s.bs) ∧ Byt wr (B + 2) x1 (bytesW s.ws)) (fun i _ => (intOf i + 1).toNat)
        case atStart => exact ⟨s.bs, [], by rw [hN], by simp, g2, hv2, hx2⟩
        case round =>
          clear g2 hv2 hx2 hwl
          obtain ⟨pre, post, rfl, hpp, hs3, hv3, hx3⟩ := hrel
          have hgn := hf.stk post pre hpp
          rcases List.eq_nil_or_concat pre with rfl | ⟨pre', b, rfl⟩
          · have hsb : s.bs = post := hpp
            have hbs : (stk s post).bs = post.map off := hgn.bs
            have hp1 : piecesB (stk s post).bs true = [] := by rw [hbs]; exact pieces_off_true post
            have hp2 : piecesB (stk s post).bs false = post.map off := by rw [hbs]; exact pieces_off_false post
            have hmi : (([] : List Blk).length : Int) - 1 = -1 := rfl
            rw [hmi]
            go_wp2_with fail
            refine (blocks_pc hs3.is []  hp1).mono ?_
            rintro e w3 ⟨b1a, b1c, rfl, hb3, _⟩
            have g3 := hs3.next hb3
            have x3 := hx3.next hb3
            clear hs3 hx3 hb3 hv3
            go_wp2_with fail
            refine (spare_pc g3.is (post.map off) hp2).mono ?_
            rintro e w4 ⟨b2a, b2c, rfl, hb4, _⟩
            have g4 := g3.next hb4
            have x4 := x3.next hb4
            clear g3 x3 hb4
            have hl2 : (post.map off).length = N := by rw [← hN, hsb]; simp
            rw [hl2]
            go_wp2_with fail
            refine (spare_pc g4.is (post.map off) hp2).mono ?_
            rintro e w5 ⟨b3a, b3c, rfl, hb5, hpc⟩
            have g5 := g4.next hb5
            have x5 := x4.next hb5
            have hs4 := g4.is.ar.ltA
            have hpc5 := hpc.mono (show B + 2 ≤ w4.heap.size by omega)
            clear g4 x4 hb5 hpc
            rw [hl2] at hpc5 ⊢
            go_wp2_with fail
            have hA5 := g5.is.ar.ltA
            obtain ⟨D, hD⟩ : ∃ D, w5.heap.size = D := ⟨_, rfl⟩
            rw [hD] at hA5
            have hxD : ∀ k, x1.ownBlock = some k → k < D := by
              intro k hk
              rw [← hD]
              exact x5.lt k hk
            have hpD : ∀ g, b3a = some ⟨g, 0, none⟩ → N ≠ 0 → g < D := by
              intro g hg hN0
              rcases hpc5 with h0 | ⟨_, g', k1, k2, k3, _⟩
              · rw [h0] at hl2; simp at hl2; omega
              · rw [k1] at hg; injection hg with hg; injection hg with hg; omega
            have hoD : w5.ownsRow D 3 1 (.slice none 0 0) 0 (i64s (placesV [])) := World.ownsRow_nil _ _ _ _
            go_loopw [113, 14] (fun i v wr => ∃ (pre pst : List Blk), i = .int .i64 (pre.length : Int) ∧ s.bs = pre ++ pst ∧ Arn w wr (B + 1) B (stk s pst) ∧ wr.ownsRow D 3 1 v pre.length (i64s (placesV pre)) ∧ Byt wr (B + 2) x1 (bytesW s.ws) ∧ Pc wr (B + 2) b3a N (post.map off) ∧ D ≤ wr.heap.size) (fun i _ _ => N - (intOf i).toNat)
            case atStart => exact ⟨[], post, rfl, hsb, g5, hoD, x5, hpc5, by omega⟩
            case round =>
              clear g5 x5 hpc5 hoD hD
              obtain ⟨pre, pst, rfl, hpp2, hs6, hv6, hx6, hpc6, hDr⟩ := hrel
              have hNN : pre.length + pst.length = N := by rw [← hN, hpp2]; simp
              rcases pst with _ | ⟨b, pst⟩
              · have hpN : pre.length = N := by simpa using hNN
                rw [hpN]
                go_wp2_with fail
                refine (encode_any hs6.is.ar).mono ?_
                rintro e w7 ⟨x7, rfl, hx7, hb7⟩
                have g7 := hs6.next hb7
                go_wp2_with fail
                refine (equal_any hx7 (hx6.next hb7)).mono ?_
                rintro e w8 ⟨rfl, rfl⟩
                go_wp2_with fail
                go_ret
                exact ⟨rfl, g7.bl⟩
              · have hlN : pre.length < N := by simp at hNN; omega
                have hgg := hf.stk pst (pre ++ [b]) (by rw [hpp2]; simp)
                have hbm : b ∈ (stk s pst).bs := by rw [hgg.bs]; simp
                have hbt := hgg.tk b (by simp)
                have e1 := again_eq hgg.iv hbm hbt (hgg.zr b (by simp))
                have e2 := hgg.fresh_place
                have e3 : loadR (stk s pst) b.place 0 = (0, 0) := hgg.load0
                obtain ⟨g, rfl, hg1, hg2, hg3, hg4⟩ : ∃ g, b3a = some ⟨g, 0, none⟩ ∧ B + 2 ≤ g ∧ g < wr.heap.size ∧ wr.cell? ⟨g, pre.length * 2, none⟩ = some (.int .i64 b.place) ∧ wr.cell? ⟨g, pre.length * 2 + 1, none⟩ = some (.int .i64 b.cls) := by
                  have hpo : post.map off = pre.map off ++ off b :: pst.map off := by rw [← hsb, hpp2]; simp
                  rw [hpo] at hpc6
                  rcases hpc6 with h0 | ⟨_, g, k1, k2, k3, k4⟩
                  · simp at h0
                  · refine ⟨g, k1, k2, k3, ?_⟩
                    have := k4 pre.length (by simp)
                    simpa [off] using this
                have hrs6 := hs6.bl.size
                have hA6 := hs6.is.ar.ltA
                have hb6 : Below wr.heap.size wr (wr.alloc (.cells #[.int .i64 b.place, .int .i64 b.cls] 58)) := (Below.refl _ wr).alloc (Nat.le_refl _) _
                have g6 := hs6.next hb6
                have v6 := hv6.alloc (.cells #[.int .i64 b.place, .int .i64 b.cls] 58)
                have x6 := hx6.next hb6
                have p6 := hpc6.next hb6
                clear hs6 hv6 hx6 hpc6 hb6
                go_wp2_with fail
                refine (alloc_st g6.is b.cls _ _ _ e1).mono ?_
                rintro e wA ⟨rfl, hwA, hiA⟩
                have gA := g6.wr hwA hiA
                have vA := v6.kept hwA (.inr (by intro e; have := (v6.lt B e).1; omega))
                have xA := x6.grown hwA (by intro x e; injection e with e; omega)
                have pA := p6.grown hwA (by intro x e; injection e with e; omega)
                have hsz1 := hwA.size
                rw [World.size_alloc] at hsz1
                clear g6 v6 x6 p6 hwA hiA
                go_wp2_with fail
                refine (contains_none vA b.place e2).mono ?_
                rintro e wB ⟨rfl, hbB⟩
                have gB := gA.next hbB
                have vB := owns_next vA hbB
                have xB := xA.next hbB
                have pB := pA.next hbB
                have hsz2 := hbB.size
                clear gA vA xA pA hbB
                have hAB := gB.is.ar.ltA
                have hrsB := gB.bl.size
                have gB' := gB.next ((Below.refl _ wB).alloc (Nat.le_refl _) (.cells #[.int .i64 (b.place : Int)] 3))
                have xB' := xB.next ((Below.refl _ wB).alloc (Nat.le_refl _) (.cells #[.int .i64 (b.place : Int)] 3))
                have pB' := pB.next ((Below.refl _ wB).alloc (Nat.le_refl _) (.cells #[.int .i64 (b.place : Int)] 3))
                go_wp2_with (at_builtin; refine wpList_append_own _ rfl _ _ 41 rfl D 3 i0 (.int .i64 0) 1 8 Try.underlying41 hi hz0 hz1 hz2 rfl (by decide) _ _ _ rfl (vB.alloc _) ⟨wB.heap.size, 0, none⟩ 1 1 [.int .i64 (b.place : Int)] rfl rfl (cell_one_new _ _ _) (by simp [Value.oneCell']) (by unfold maxLen; omega) (by omega) (by rw [World.size_alloc]; omega) ?_; intro v' wC hown' hgrow _)
                have hgD := hpD g rfl (by omega)
                have gC := gB'.grown hgrow (n0 := B + 2) (fun g e => by have := (vB.lt g e).1; omega) (by omega) (by omega) (by omega)
                have xC := xB'.kept hgrow (fun x e e' => by have := (vB.lt x e).1; have := hxD x e'; omega)
                have pC := pB'.kept hgrow (fun x e e' => by have := (vB.lt x e).1; injection e' with e'; injection e' with e'; omega)
                have hsz3 := hgrow.size
                rw [World.size_alloc] at hsz3
                clear gB gB' vB xB xB' pB pB' hgrow
                go_wp2_with fail
                refine (load_st gC.is b.place 0 0 0 e3).mono ?_
                rintro e wD ⟨rfl, hbD⟩
                have gD := gC.next hbD
                have xD := xC.next hbD
                have pD := pC.next hbD
                have vD := owns_next hown' hbD
                have hsz4 := hbD.size
                clear gC xC pC hown' hbD
                go_wp2_with fail
                go_roundw
                case rel => exact ⟨pre ++ [b], pst, by simp, by rw [hpp2]; simp, gD, by simpa [placesV, i64s] using vD, xD, pD, by omega⟩
                case measure => simp [intOf]; omega
          · have hb := (Fresh.stk hf post (pre' ++ [b]) (by simpa using hpp))
            have hbm : b ∈ (stk s post).bs := by rw [hb.bs]; simp
            have hbt := hb.tk b (by simp)
            have e1 := seven_eq hb.iv hbm hbt
            have e2 := given_eq hb.iv hbm hbt hb.r5 hb.r6
            have e3 := given_no (s := stk s post) (b := b)
            have hln : pre'.length < N := by rw [← hN, hpp]; simp
            obtain ⟨g, rfl, hg1, hg2, hgc⟩ : ∃ g, pa = some ⟨g, 0, none⟩ ∧ B + 2 ≤ g ∧ g < wr.heap.size ∧ wr.cell? ⟨g, pre'.length, none⟩ = some (.int .i64 b.place) := by
              rcases hv3.2 with ⟨_, h0'⟩ | ⟨g, c, hgv, k1, k2, k3⟩
              · have : s.bs = [] := by simpa [placesV] using h0'
                rw [← hN, this] at hln
                simp at hln
              · injection hgv with hgv1 _ _
                refine ⟨g, hgv1, k1, k2, ?_⟩
                rw [k3 pre'.length (by simp [placesV]; omega)]
                simp [placesV, hpp]
            have hin : ((pre' ++ [b]).length : Int) - 1 = pre'.length := by simp
            simp only [List.concat_eq_append] at *
            rw [hin]
            have hge : ((pre'.length : Int) ≥ 0) := by omega
            go_wp2_with fail
            refine (store_st hs3.is b.place 0 7 0 _ (by omega) (by omega) e1).mono ?_
            rintro e wA ⟨rfl, hwA, hiA⟩
            have hgA := hwA.cell hgc (by intro e; injection e with e; simp at e; omega)
            have gA := hs3.wr hwA hiA
            have vA := hv3.grown hwA (by intro x e; injection e with e; omega)
            have xA := hx3.grown hwA (by intro x e; injection e with e; omega)
            clear hs3 hv3 hx3 hgc hwA hiA
            go_wp2_with fail
            refine (free_st gA.is b.place 0 _ e2).mono ?_
            rintro e wB ⟨rfl, hwB, hiB⟩
            have hgB := hwB.cell hgA (by intro e; injection e with e; simp at e; omega)
            have gB := gA.wr hwB hiB
            have vB := vA.grown hwB (by intro x e; injection e with e; omega)
            have xB := xA.grown hwB (by intro x e; injection e with e; omega)
            clear gA vA xA hgA hwB hiB
            go_wp2_with fail
            refine (free_st gB.is b.place 4 _ e3).mono ?_
            rintro e wC ⟨rfl, hwC, hiC⟩
            have gC := gB.wr hwC hiC
            have vC := vB.grown hwC (by intro x e; injection e with e; omega)
            have xC := xB.grown hwC (by intro x e; injection e with e; omega)
            clear gB vB xB hgB hwC hiC
            go_wp2_with fail
            go_roundw
            case rel => exact ⟨pre', b :: post, rfl, by rw [hpp]; simp, gC, vC, xC⟩
            case measure => simp [intOf]
      · have h20' : ((k : Int) == 20) = false := by simp; omega
        have hk20 : k < 20 := by omega
        clear h20
        have z0 := IntKind.wrap_u64 z
        obtain ⟨y, hy⟩ : ∃ y, IntKind.u64.wrap z = y := ⟨_, rfl⟩
        have y1 : 0 ≤ y := by rw [← hy, z0]; omega
        have y2 : y ≤ 18446744073709551615 := by rw [← hy, z0]; omega
        clear z0
        obtain ⟨c, hc⟩ : ∃ c : Nat, y % 6 = c := ⟨(y % 6).toNat, by omega⟩
        have hc5 : c ≤ 5 := by omega
        rcases hf.alloc c hc5 with hr | ⟨hr, hf', hbs⟩
        · go_wp2_with fail
          refine (alloc_st hs.is c _ _ _ hr).mono ?_
          rintro e w2 ⟨rfl, hw, hi2⟩
          have hw2 := hw.size
          have hnB : u7.ownBlock ≠ some B := by intro e; have := (hv.lt B e).1; omega
          go_wp2_with fail
          exact ⟨⟨k + 1, s, by go_num, by omega, by omega, hs.wr hw hi2, hf, by omega, hv.kept hw (.inr hnB)⟩, by simp [intOf]; omega⟩
        · go_wp2_with fail
          refine (alloc_st hs.is c _ _ _ hr).mono ?_
          rintro e w2 ⟨rfl, hw, hi2⟩
          have hw2 := hw.size
          have hnB : u7.ownBlock ≠ some B := by intro e; have := (hv.lt B e).1; omega
          have hv2 := hv.kept hw (.inr hnB)
          have g2 := (hs.wr hw hi2).next ((Below.refl _ w2).alloc (Nat.le_refl _) (.cells #[.int .i64 ((s.e : Int) + 1)] 3))
          go_wp2_with (at_builtin; refine wpList_append_own _ rfl _ _ 41 rfl (B + 2) 3 i0 (.int .i64 0) 1 8 Try.underlying41 hi hz0 hz1 hz2 rfl (by decide) _ _ _ rfl (hv2.alloc _) ⟨w2.heap.size, 0, none⟩ 1 1 [.int .i64 ((s.e : Int) + 1)] rfl rfl (cell_one_new _ _ _) (by simp [Value.oneCell']) (by unfold maxLen; omega) (by omega) (by simp; omega) ?_; intro v' w3 hown' hgrow _)
          exact ⟨⟨k + 1, edgeS s c, by go_num, by omega, by omega, g2.grown hgrow (n0 := B + 2) (fun g e => (hv.lt g e).1) (by omega) (by omega) (by omega), hf', by rw [hbs]; simp; omega, by rw [hbs]; simpa [placesV, i64s] using hown'⟩, by simp [intOf]; omega⟩
    · go_wp2_with fail
      refine (encode_any hs.is.ar).mono ?_
      rintro e w2 ⟨x1, rfl, hx1, hb2⟩
      have hAs := hs.is.ar.ltA
      have hrs2 := hs.bl.size
      have g2 := hs.next hb2
      have hv2 : Its w2 (B + 2) u7 (placesV s.bs) := (owns_its hv (by unfold maxLen; omega)).next hb2
      have hx2 : Byt w2 (B + 2) x1 (bytesW s.ws) := hx1.mono (by omega)
      clear hb2 hx1 hv
      obtain ⟨N, hN⟩ : ∃ N, s.bs.length = N := ⟨_, rfl⟩
      obtain ⟨pa, pc, rfl⟩ : ∃ pa pc, u7 = .slice pa N pc := by
        rcases hv2.2 with ⟨rfl, h0⟩ | ⟨g, c, rfl, _⟩
        · have : s.bs = [] := by simpa [placesV] using h0
          exact ⟨none, 0, by rw [← hN, this]; rfl⟩
        · exact ⟨some ⟨g, 0, none⟩, c, by simp [placesV, hN]⟩
      rw [hN] at hbk
      have hwl : IntKind.i64.wrap ((N : Int) - 1) = (N : Int) - 1 := IntWalk.i64_in _ (by omega)
      go_wp2_with fail
      go_loopw [13] (fun i wr => ∃ (pre post : List Blk), i = .int .i64 ((pre.length : Int) - 1) ∧ s.bs = pre ++ post ∧ Arn w wr (B + 1) B (stk s post) ∧ Its wr (B + 2) (.slice pa N pc) (placesV s.bs) ∧ Byt wr (B + 2) x1 (bytesW s.ws)) (fun i _ => (intOf i + 1).toNat)
      case atStart => exact ⟨s.bs, [], by rw [hN], by simp, g2, hv2, hx2⟩
      case round =>
        clear g2 hv2 hx2 hwl
        obtain ⟨pre, post, rfl, hpp, hs3, hv3, hx3⟩ := hrel
        have hgn := hf.stk post pre hpp
        rcases List.eq_nil_or_concat pre with rfl | ⟨pre', b, rfl⟩
        · have hsb : s.bs = post := hpp
          have hbs : (stk s post).bs = post.map off := hgn.bs
          have hp1 : piecesB (stk s post).bs true = [] := by rw [hbs]; exact pieces_off_true post
          have hp2 : piecesB (stk s post).bs false = post.map off := by rw [hbs]; exact pieces_off_false post
          have hmi : (([] : List Blk).length : Int) - 1 = -1 := rfl
          rw [hmi]
          go_wp2_with fail
          refine (blocks_pc hs3.is []  hp1).mono ?_
          rintro e w3 ⟨b1a, b1c, rfl, hb3, _⟩
          have g3 := hs3.next hb3
          have x3 := hx3.next hb3
          clear hs3 hx3 hb3 hv3
          go_wp2_with fail
          refine (spare_pc g3.is (post.map off) hp2).mono ?_
          rintro e w4 ⟨b2a, b2c, rfl, hb4, _⟩
          have g4 := g3.next hb4
          have x4 := x3.next hb4
          clear g3 x3 hb4
          have hl2 : (post.map off).length = N := by rw [← hN, hsb]; simp
          rw [hl2]
          go_wp2_with fail
          refine (spare_pc g4.is (post.map off) hp2).mono ?_
          rintro e w5 ⟨b3a, b3c, rfl, hb5, hpc⟩
          have g5 := g4.next hb5
          have x5 := x4.next hb5
          have hs4 := g4.is.ar.ltA
          have hpc5 := hpc.mono (show B + 2 ≤ w4.heap.size by omega)
          clear g4 x4 hb5 hpc
          rw [hl2] at hpc5 ⊢
          go_wp2_with fail
          have hA5 := g5.is.ar.ltA
          obtain ⟨D, hD⟩ : ∃ D, w5.heap.size = D := ⟨_, rfl⟩
          rw [hD] at hA5
          have hxD : ∀ k, x1.ownBlock = some k → k < D := by
            intro k hk
            rw [← hD]
            exact x5.lt k hk
          have hpD : ∀ g, b3a = some ⟨g, 0, none⟩ → N ≠ 0 → g < D := by
            intro g hg hN0
            rcases hpc5 with h0 | ⟨_, g', k1, k2, k3, _⟩
            · rw [h0] at hl2; simp at hl2; omega
            · rw [k1] at hg; injection hg with hg; injection hg with hg; omega
          have hoD : w5.ownsRow D 3 1 (.slice none 0 0) 0 (i64s (placesV [])) := World.ownsRow_nil _ _ _ _
          go_loopw [113, 14] (fun i v wr => ∃ (pre pst : List Blk), i = .int .i64 (pre.length : Int) ∧ s.bs = pre ++ pst ∧ Arn w wr (B + 1) B (stk s pst) ∧ wr.ownsRow D 3 1 v pre.length (i64s (placesV pre)) ∧ Byt wr (B + 2) x1 (bytesW s.ws) ∧ Pc wr (B + 2) b3a N (post.map off) ∧ D ≤ wr.heap.size) (fun i _ _ => N - (intOf i).toNat)
          case atStart => exact ⟨[], post, rfl, hsb, g5, hoD, x5, hpc5, by omega⟩
          case round =>
            clear g5 x5 hpc5 hoD hD
            obtain ⟨pre, pst, rfl, hpp2, hs6, hv6, hx6, hpc6, hDr⟩ := hrel
            have hNN : pre.length + pst.length = N := by rw [← hN, hpp2]; simp
            rcases pst with _ | ⟨b, pst⟩
            · have hpN : pre.length = N := by simpa using hNN
              rw [hpN]
              go_wp2_with fail
              refine (encode_any hs6.is.ar).mono ?_
              rintro e w7 ⟨x7, rfl, hx7, hb7⟩
              have g7 := hs6.next hb7
              go_wp2_with fail
              refine (equal_any hx7 (hx6.next hb7)).mono ?_
              rintro e w8 ⟨rfl, rfl⟩
              go_wp2_with fail
              go_ret
              exact ⟨rfl, g7.bl⟩
            · have hlN : pre.length < N := by simp at hNN; omega
              have hgg := hf.stk pst (pre ++ [b]) (by rw [hpp2]; simp)
              have hbm : b ∈ (stk s pst).bs := by rw [hgg.bs]; simp
              have hbt := hgg.tk b (by simp)
              have e1 := again_eq hgg.iv hbm hbt (hgg.zr b (by simp))
              have e2 := hgg.fresh_place
              have e3 : loadR (stk s pst) b.place 0 = (0, 0) := hgg.load0
              obtain ⟨g, rfl, hg1, hg2, hg3, hg4⟩ : ∃ g, b3a = some ⟨g, 0, none⟩ ∧ B + 2 ≤ g ∧ g < wr.heap.size ∧ wr.cell? ⟨g, pre.length * 2, none⟩ = some (.int .i64 b.place) ∧ wr.cell? ⟨g, pre.length * 2 + 1, none⟩ = some (.int .i64 b.cls) := by
                have hpo : post.map off = pre.map off ++ off b :: pst.map off := by rw [← hsb, hpp2]; simp
                rw [hpo] at hpc6
                rcases hpc6 with h0 | ⟨_, g, k1, k2, k3, k4⟩
                · simp at h0
                · refine ⟨g, k1, k2, k3, ?_⟩
                  have := k4 pre.length (by simp)
                  simpa [off] using this
              have hrs6 := hs6.bl.size
              have hA6 := hs6.is.ar.ltA
              have hb6 : Below wr.heap.size wr (wr.alloc (.cells #[.int .i64 b.place, .int .i64 b.cls] 58)) := (Below.refl _ wr).alloc (Nat.le_refl _) _
              have g6 := hs6.next hb6
              have v6 := hv6.alloc (.cells #[.int .i64 b.place, .int .i64 b.cls] 58)
              have x6 := hx6.next hb6
              have p6 := hpc6.next hb6
              clear hs6 hv6 hx6 hpc6 hb6
              go_wp2_with fail
              refine (alloc_st g6.is b.cls _ _ _ e1).mono ?_
              rintro e wA ⟨rfl, hwA, hiA⟩
              have gA := g6.wr hwA hiA
              have vA := v6.kept hwA (.inr (by intro e; have := (v6.lt B e).1; omega))
              have xA := x6.grown hwA (by intro x e; injection e with e; omega)
              have pA := p6.grown hwA (by intro x e; injection e with e; omega)
              have hsz1 := hwA.size
              rw [World.size_alloc] at hsz1
              clear g6 v6 x6 p6 hwA hiA
              go_wp2_with fail
              refine (contains_none vA b.place e2).mono ?_
              rintro e wB ⟨rfl, hbB⟩
              have gB := gA.next hbB
              have vB := owns_next vA hbB
              have xB := xA.next hbB
              have pB := pA.next hbB
              have hsz2 := hbB.size
              clear gA vA xA pA hbB
              have hAB := gB.is.ar.ltA
              have hrsB := gB.bl.size
              have gB' := gB.next ((Below.refl _ wB).alloc (Nat.le_refl _) (.cells #[.int .i64 (b.place : Int)] 3))
              have xB' := xB.next ((Below.refl _ wB).alloc (Nat.le_refl _) (.cells #[.int .i64 (b.place : Int)] 3))
              have pB' := pB.next ((Below.refl _ wB).alloc (Nat.le_refl _) (.cells #[.int .i64 (b.place : Int)] 3))
              go_wp2_with (at_builtin; refine wpList_append_own _ rfl _ _ 41 rfl D 3 i0 (.int .i64 0) 1 8 Try.underlying41 hi hz0 hz1 hz2 rfl (by decide) _ _ _ rfl (vB.alloc _) ⟨wB.heap.size, 0, none⟩ 1 1 [.int .i64 (b.place : Int)] rfl rfl (cell_one_new _ _ _) (by simp [Value.oneCell']) (by unfold maxLen; omega) (by omega) (by rw [World.size_alloc]; omega) ?_; intro v' wC hown' hgrow _)
              have hgD := hpD g rfl (by omega)
              have gC := gB'.grown hgrow (n0 := B + 2) (fun g e => by have := (vB.lt g e).1; omega) (by omega) (by omega) (by omega)
              have xC := xB'.kept hgrow (fun x e e' => by have := (vB.lt x e).1; have := hxD x e'; omega)
              have pC := pB'.kept hgrow (fun x e e' => by have := (vB.lt x e).1; injection e' with e'; injection e' with e'; omega)
              have hsz3 := hgrow.size
              rw [World.size_alloc] at hsz3
              clear gB gB' vB xB xB' pB pB' hgrow
              go_wp2_with fail
              refine (load_st gC.is b.place 0 0 0 e3).mono ?_
              rintro e wD ⟨rfl, hbD⟩
              have gD := gC.next hbD
              have xD := xC.next hbD
              have pD := pC.next hbD
              have vD := owns_next hown' hbD
              have hsz4 := hbD.size
              clear gC xC pC hown' hbD
              go_wp2_with fail
              go_roundw
              case rel => exact ⟨pre ++ [b], pst, by simp, by rw [hpp2]; simp, gD, by simpa [placesV, i64s] using vD, xD, pD, by omega⟩
              case measure => simp [intOf]; omega
        · have hb := (Fresh.stk hf post (pre' ++ [b]) (by simpa using hpp))
          have hbm : b ∈ (stk s post).bs := by rw [hb.bs]; simp
          have hbt := hb.tk b (by simp)
          have e1 := seven_eq hb.iv hbm hbt
          have e2 := given_eq hb.iv hbm hbt hb.r5 hb.r6
          have e3 := given_no (s := stk s post) (b := b)
          have hln : pre'.length < N := by rw [← hN, hpp]; simp
          obtain ⟨g, rfl, hg1, hg2, hgc⟩ : ∃ g, pa = some ⟨g, 0, none⟩ ∧ B + 2 ≤ g ∧ g < wr.heap.size ∧ wr.cell? ⟨g, pre'.length, none⟩ = some (.int .i64 b.place) := by
            rcases hv3.2 with ⟨_, h0'⟩ | ⟨g, c, hgv, k1, k2, k3⟩
            · have : s.bs = [] := by simpa [placesV] using h0'
              rw [← hN, this] at hln
              simp at hln
            · injection hgv with hgv1 _ _
              refine ⟨g, hgv1, k1, k2, ?_⟩
              rw [k3 pre'.length (by simp [placesV]; omega)]
              simp [placesV, hpp]
          have hin : ((pre' ++ [b]).length : Int) - 1 = pre'.length := by simp
          simp only [List.concat_eq_append] at *
          rw [hin]
          have hge : ((pre'.length : Int) ≥ 0) := by omega
          go_wp2_with fail
          refine (store_st hs3.is b.place 0 7 0 _ (by omega) (by omega) e1).mono ?_
          rintro e wA ⟨rfl, hwA, hiA⟩
          have hgA := hwA.cell hgc (by intro e; injection e with e; simp at e; omega)
          have gA := hs3.wr hwA hiA
          have vA := hv3.grown hwA (by intro x e; injection e with e; omega)
          have xA := hx3.grown hwA (by intro x e; injection e with e; omega)
          clear hs3 hv3 hx3 hgc hwA hiA
          go_wp2_with fail
          refine (free_st gA.is b.place 0 _ e2).mono ?_
          rintro e wB ⟨rfl, hwB, hiB⟩
          have hgB := hwB.cell hgA (by intro e; injection e with e; simp at e; omega)
          have gB := gA.wr hwB hiB
          have vB := vA.grown hwB (by intro x e; injection e with e; omega)
          have xB := xA.grown hwB (by intro x e; injection e with e; omega)
          clear gA vA xA hgA hwB hiB
          go_wp2_with fail
          refine (free_st gB.is b.place 4 _ e3).mono ?_
          rintro e wC ⟨rfl, hwC, hiC⟩
          have gC := gB.wr hwC hiC
          have vC := vB.grown hwC (by intro x e; injection e with e; omega)
          have xC := xB.grown hwC (by intro x e; injection e with e; omega)
          clear gB vB xB hgB hwC hiC
          go_wp2_with fail
          go_roundw
          case rel => exact ⟨pre', b :: post, rfl, by rw [hpp]; simp, gC, vC, xC⟩
          case measure => simp [intOf]

end Go.Proofs.Ytifhimdhmlmgkaa
