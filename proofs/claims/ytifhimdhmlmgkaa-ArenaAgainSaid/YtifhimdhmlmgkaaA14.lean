/- pieces. -/
import Derived.Test.YtifhimdhmlmgkaaA13
import Derived.Maps.AppendAt
namespace Go.Proofs.Ytifhimdhmlmgkaa
open Go.RowKit Go.Shelf
attribute [local go_sem] Oper.semAt_some

theorem info58 : (Try.prog.info? 58).map (fun i => (i.zero, i.size, i.bytes)) = some (some (.agg #[.int .i64 0, .int .i64 0]), 2, 16) := by kernel_rfl

/-- The blocks that are taken, or those that are free. -/
def piecesB (bs : List Blk) (want : Bool) : List Blk := bs.filter fun b => b.taken == want
/-- Pieces, as cells. -/
def pcs (l : List Blk) : List Value := l.flatMap fun b => [.int .i64 b.place, .int .i64 b.cls]

theorem piecesB_hit (pre : List Blk) {x : Blk} {want : Bool} (h : x.taken = want) : piecesB (pre ++ [x]) want = piecesB pre want ++ [x] := by
  simp [piecesB, h]
theorem piecesB_miss (pre : List Blk) {x : Blk} {want : Bool} (h : x.taken ≠ want) : piecesB (pre ++ [x]) want = piecesB pre want := by
  simp [piecesB, h]
theorem piecesB_le (bs : List Blk) (want : Bool) : (piecesB bs want).length ≤ bs.length := List.length_filter_le _ _

theorem Chain.count {ws : List Int} : ∀ {bs : List Blk} {a e : Nat}, Chain ws a bs e → bs.length * 2 + a ≤ e
  | [], _, _, h => by have : _ = _ := h; simp; omega
  | b :: bs, a, e, ⟨_, _, _, h⟩ => by have := h.count; have := sz_pos b.cls; simp; omega

theorem At.not_row {W : World} {B : Nat} {t e : TypeId} {cs : Array Value} (h : At W B t cs) (hte : t ≠ e) {base size k : Nat} {v : Value} {xs : List Value} (hr : W.ownsRow base e size v k xs) : some B ≠ v.ownBlock := by
  rcases hr.2 with ⟨rfl, _⟩ | ⟨g, cap, cur, rfl, _, hgb, _⟩
  · simp [Value.ownBlock]
  · intro e'
    obtain rfl : B = g := by simpa [Value.ownBlock] using e'
    rw [show W.heap[B]? = _ from h] at hgb
    cases hgb
    exact hte rfl

theorem At.appended {W w1 : World} {n₀ B B' : Nat} {t e : TypeId} {size : Nat} {v v' : Value} {k : Nat} {xs : List Value} {tmp : Obj} {cs : Array Value}
    (h : At W B' t cs) (hte : t ≠ e) (hrow : W.ownsRow n₀ e size v k xs) (hgrow : (W.alloc tmp).grownBy w1 v.ownBlock) (hne : B' ≠ B) : At (w1.setCell ⟨B, 0, none⟩ v') B' t cs :=
  ((h.alloc tmp).kept hgrow (h.not_row hte hrow)).other hne v'

set_option maxRecDepth 100000 in
set_option maxHeartbeats 1000000 in
theorem pieces_in (F : Fence) (n : Nat) (hF : Wide F) (hn : 4 ≤ n) (A B : Nat) (ws : List Int) (bs : List Blk) (edge : Nat) (want : Bool) (w : World) (H : Arb w A B ws bs edge) :
    CallsIn F n Try.prog 35 #[.pointer (some ⟨A, 0, none⟩), .bool want] w fun e W' =>
      ∃ v, e = .returned v ∧ W'.ownsRow w.heap.size 58 2 v (piecesB bs want).length (pcs (piecesB bs want)) ∧ Below w.heap.size w W' := by
  have h1 : 1 ≤ n := by omega
  have hro := hF.round
  have h35 := hF.fn 35
  have h64 := hF.fn 64
  have h77 := hF.fn 77
  have hbl := H.ch.count
  have hel := H.le
  have hhi := H.ar.hi
  obtain ⟨i0, hi, hz0, hz1, hz2⟩ := info_parts info58
  refine callsIn_of_wp_marks Try.func35 rfl h35 ?_ hro
  simp only [Try.ntmps35, List.size_toArray, List.length_cons, List.length_nil, Nat.reduceAdd, Nat.reduceSub, Array.replicate_succ, Array.replicate_zero, List.push_toArray, List.append_toArray, List.nil_append, List.cons_append]
  gi_wp2_with (gi_at_call 64; refine (all_in F (n - 1) hF _ _).mono ?_; rintro e w' ⟨rfl, rfl⟩)
  have bP := ((At.new w 4 #[.bool want]).alloc (.cells #[.slice none 0 0] 43)).alloc (.cells #[.pointer (some ⟨A, 0, none⟩)] 26)
  have bO : Boxed ((((w.alloc (.cells #[.bool want] 4))).alloc (.cells #[.slice none 0 0] 43)).alloc (.cells #[.pointer (some ⟨A, 0, none⟩)] 26)) (w.heap.size + 1) 43 (.slice none 0 0) := by
    have := (Boxed.new (w.alloc (.cells #[.bool want] 4)) 43 (.slice none 0 0)).alloc (.cells #[.pointer (some ⟨A, 0, none⟩)] 26)
    rwa [World.size_alloc] at this
  have bN := At.new ((w.alloc (.cells #[.bool want] 4)).alloc (.cells #[.slice none 0 0] 43)) 26 #[.pointer (some ⟨A, 0, none⟩)]
  simp only [World.size_alloc] at bN
  have hB0 : Below w.heap.size w (((w.alloc (.cells #[.bool want] 4)).alloc (.cells #[.slice none 0 0] 43)).alloc (.cells #[.pointer (some ⟨A, 0, none⟩)] 26)) := (((Below.refl _ w).alloc (Nat.le_refl _) _).alloc (by simp) _).alloc (by simp; omega) _
  have hsz : (((w.alloc (.cells #[.bool want] 4)).alloc (.cells #[.slice none 0 0] 43)).alloc (.cells #[.pointer (some ⟨A, 0, none⟩)] 26)).heap.size = w.heap.size + 3 := by simp
  obtain ⟨W0, hW0⟩ : ∃ W0, ((w.alloc (.cells #[.bool want] 4)).alloc (.cells #[.slice none 0 0] 43)).alloc (.cells #[.pointer (some ⟨A, 0, none⟩)] 26) = W0 := ⟨_, rfl⟩
  rw [hW0] at bP bO bN hB0 hsz ⊢
  clear hW0
  have hltA := H.ar.ltA
  have hltB := H.ar.ltB
  refine wpIn_rangeFunc_ownH hro h1 (gf := 77) (lb := #[.pointer (some ⟨w.heap.size + 1 + 1, 0, none⟩)]) rfl h77 (enters_of Try.func77 (by kernel_rfl) rfl)
    (all_stops F (n - 1) hF (by omega) (w.heap.size + 1 + 1) A B ws bs edge W0 (by omega) H.ch H.ed H.le (bN.cell 0) (H.ar.next hB0)) Keeps.t (Keeps.b (by simp; omega)) (Below.refl _ _) (fun _ => rfl)
    (fun pre W => (((∃ v, Boxed W (w.heap.size + 1) 43 v ∧ W.ownsRow w.heap.size 58 2 v (piecesB pre want).length (pcs (piecesB pre want)) ∧ True) ∧ At W w.heap.size 4 #[.bool want]) ∧ At W (w.heap.size + 1 + 1) 26 #[.pointer (some ⟨A, 0, none⟩)]) ∧ Below w.heap.size w W)
    (fun _ _ _ => False)
    (OwnFrom.and (OwnFrom.and (OwnFrom.and (Own.from (holdsRow_own w.heap.size (w.heap.size + 1) 43 58 2 (fun pre => (piecesB pre want).length) (fun pre => pcs (piecesB pre want)) (fun _ _ => True)) _) (Own.from (at_own _ _ _) _)) (Own.from (at_own _ _ _) _)) (ownFrom_below (Nat.le_refl _) (by omega)))
    (fun _ _ _ _ _ hs _ _ => hs)
    ⟨⟨⟨⟨_, bO, World.ownsRow_nil _ _ _ _, trivial⟩, bP⟩, bN⟩, hB0⟩
    (fun x a' W => ∃ Bx, w.heap.size + 2 < Bx ∧ At W Bx 58 #[.int .i64 x.place, .int .i64 x.cls] ∧ a' = { tmps := #[.pointer (some ⟨A, 0, none⟩), .bool want, undef, .pointer (some ⟨w.heap.size, 0, none⟩), .slice none 0 0, .pointer (some ⟨w.heap.size + 1, 0, none⟩), .pointer (some ⟨Bx, 0, none⟩), .bool x.taken, .pointer (some ⟨A, 0, none⟩), .bool false, .pointer (some ⟨A, 0, none⟩), .func (.func 77) #[] #[.pointer (some ⟨w.heap.size + 1 + 1, 0, none⟩)], .agg #[.int .i64 x.place, .int .i64 x.cls], .bool x.taken, undef, undef, undef, undef, undef, undef, undef, undef], defers := [] })
    (fun x a' _ X Y row hs hg hr => by obtain ⟨Bx, e1, e2, e3⟩ := hs; exact ⟨Bx, e1, at_own Bx 58 (fun (_ : Unit) => #[Value.int .i64 x.place, .int .i64 x.cls]) () X Y row e2 hg (fun r e => (hr r e).2), e3⟩)
    ?assign ?body ?done ?stop
  case assign =>
    rintro l pre x W K ⟨⟨⟨⟨v, hv, hrow, _⟩, b1⟩, b2⟩, hB1⟩ hK
    have hl2 := b2.lt
    simp only [encs]
    gi_wp2
    exact hK _ _ ((KeepsOthers.alloc _ _).from _) (Keeps.alloc _ _ (by simp; omega)) ⟨⟨⟨⟨v, hv.alloc _, hrow.alloc _, trivial⟩, b1.alloc _⟩, b2.alloc _⟩, hB1.alloc hB1.size _⟩ ⟨W.heap.size, by omega, At.new W 58 _, rfl⟩
  case body =>
    rintro l pre x a' W hl ⟨r, hr⟩ ⟨⟨⟨⟨v, hv, hrow, _⟩, b1⟩, b2⟩, hB1⟩ ⟨Bx, hBx, bX, rfl⟩ hlt
    have hpl := piecesB_le pre want
    have c1 := b1.cell 0
    have cX0 := bX.cell 0
    have cX1 := bX.cell 1
    have cv := hv.cell
    simp at c1 cX0 cX1
    rcases Bool.eq_false_or_eq_true (x.taken == want) with ht | ht
    · have hx : x.taken = want := by simpa using ht
      have hsz1 := hB1.size
      have hlv := hv.lt
      gi_wp2_with (gi_at_builtin; refine wpListIn_append_own _ rfl _ _ 43 rfl w.heap.size 58 i0 (.agg #[.int .i64 0, .int .i64 0]) 2 16 Try.underlying43 hi hz0 hz1 hz2 rfl (by decide) _ _ _ rfl (hrow.alloc _) ⟨W.heap.size, 0, none⟩ 1 1 [.int .i64 x.place, .int .i64 x.cls] rfl rfl (cell_two_new _ _ _ _) (by simp [Value.oneCell']) (by unfold maxLen; omega) (by omega) (by simp; omega) ?_; intro v' w1 hown' hgrow _; obtain ⟨g', cap', rfl⟩ := ownsRow_succ hown'; obtain ⟨hv1, hv2, hr2, hk2, hb2⟩ := hv.appended (by decide) hrow hsz1 (by omega) hown' hgrow; have hc1 := hv1.cell; have hf1 := hv1.frozen)
      have b1' := b1.appended (B := w.heap.size + 1) (v' := .slice (some ⟨g', 0, none⟩) ((piecesB pre want).length + 1) cap') (by decide) hrow hgrow (by omega)
      have b2' := b2.appended (B := w.heap.size + 1) (v' := .slice (some ⟨g', 0, none⟩) ((piecesB pre want).length + 1) cap') (by decide) hrow hgrow (by omega)
      refine ⟨hk2.from _, ?_, ⟨⟨⟨_, hv2, by rw [piecesB_hit pre hx]; simpa [pcs] using hr2, trivial⟩, b1'⟩, b2'⟩, hB1.trans hb2⟩
      intro b hb
      simp at hb
      rcases hb with rfl | rfl | rfl
      · exact hb2.block _ hltA
      · exact hb2.block _ hltB
      · exact Eq.trans b2' b2.symm
    · have hx : x.taken ≠ want := by simpa using ht
      gi_wp2
      exact ⟨KeepsFrom.refl _ _, Keeps.refl _ _, ⟨⟨⟨v, hv, by rw [piecesB_miss pre hx]; exact hrow, trivial⟩, b1⟩, b2⟩, hB1⟩
  case done =>
    rintro D zs W hD rfl ⟨⟨⟨⟨v, hv, hrow, _⟩, b1⟩, b2⟩, hB1⟩ hK
    have hc := hv.cell
    gi_wp2
    refine ⟨by simp, .inl ⟨_, _, rfl, run_takeDeferred hK, ?_⟩⟩
    exact ⟨_, results_tmp rfl _ _ _, v, rfl, ownsRow_putObj hrow _ hK rfl, hB1.trans (belowK_b (w := w) (Nat.le_refl _) W D _ _ (by omega) hK rfl rfl)⟩
  case stop =>
    rintro D c pre W _ _ h _
    exact h.elim
theorem pieces_any {A B : Nat} {ws : List Int} {bs : List Blk} {edge : Nat} (want : Bool) {w : World} (H : Arb w A B ws bs edge) :
    Calls Try.prog 35 #[.pointer (some ⟨A, 0, none⟩), .bool want] w fun e W' =>
      ∃ v, e = .returned v ∧ W'.ownsRow w.heap.size 58 2 v (piecesB bs want).length (pcs (piecesB bs want)) ∧ Below w.heap.size w W' :=
  wide_wide.back (pieces_in Fence.wide 4 wide_wide (by omega) A B ws bs edge want w H)

/-- A slice of pieces of one's own. -/
def Pcs (w w' : World) (l : List Blk) (e : Ending) : Prop := ∃ v, e = .returned v ∧ w'.ownsRow w.heap.size 58 2 v l.length (pcs l) ∧ Below w.heap.size w w'

set_option maxHeartbeats 400000 in
theorem blocks_any {A B : Nat} {ws : List Int} {bs : List Blk} {edge : Nat} {w : World} (H : Arb w A B ws bs edge) :
    Calls Try.prog 16 #[.pointer (some ⟨A, 0, none⟩)] w fun e W' => Pcs w W' (piecesB bs true) e := by
  have hp := pieces_any true H
  go_enter Try.func16, Try.ntmps16
  go_wp2_with (go_at_call 35; refine hp.mono ?_; rintro e w' ⟨v, rfl, hr, hb⟩)
  go_ret
  exact ⟨v, rfl, hr, hb⟩

set_option maxHeartbeats 400000 in
theorem spare_any {A B : Nat} {ws : List Int} {bs : List Blk} {edge : Nat} {w : World} (H : Arb w A B ws bs edge) :
    Calls Try.prog 17 #[.pointer (some ⟨A, 0, none⟩)] w fun e W' => Pcs w W' (piecesB bs false) e := by
  have hp := pieces_any false H
  go_enter Try.func17, Try.ntmps17
  go_wp2_with (go_at_call 35; refine hp.mono ?_; rintro e w' ⟨v, rfl, hr, hb⟩)
  go_ret
  exact ⟨v, rfl, hr, hb⟩

end Go.Proofs.Ytifhimdhmlmgkaa
