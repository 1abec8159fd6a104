/- find and pieces. -/
import Derived.Test.YtifhimdhmlmgkaaA2
namespace Go.Proofs.Ytifhimdhmlmgkaa
open Go.RowKit Go.Shelf
attribute [local go_sem] Oper.semAt_some

set_option maxRecDepth 100000 in
set_option maxHeartbeats 1000000 in
theorem find_in (F : Fence) (n : Nat) (hF : Wide F) (hn : 4 ≤ n) (A B : Nat) (ws : List Int) (bs : List Blk) (edge : Nat) (p : Int) (w : World) (hc : Chain ws 16 bs edge) (he : rd ws 15 = edge) (hle : edge ≤ ws.length) (har : Ar w A B ws) :
    CallsIn F n Try.prog 38 #[.pointer (some ⟨A, 0, none⟩), .int .i64 p] w fun e W' =>
      e = .returned (findR (findB bs p)) ∧ Below w.heap.size w W' := by
  have h1 : 1 ≤ n := by omega
  have hro := hF.round
  have h38 := hF.fn 38
  have h64 := hF.fn 64
  have h77 := hF.fn 77
  refine callsIn_of_wp_marks Try.func38 rfl h38 ?_ hro
  simp only [Try.ntmps38, List.size_toArray, List.length_cons, List.length_nil, Nat.reduceAdd, Nat.reduceSub, Array.replicate_succ, Array.replicate_zero, List.push_toArray, List.append_toArray, List.nil_append, List.cons_append]
  gi_wp2_with (gi_at_call 64; refine (all_in F (n - 1) hF _ _).mono ?_; rintro e w' ⟨rfl, rfl⟩)
  have bP := (((At.new w 3 #[.int .i64 p]).alloc (.cells #[.int .i64 0, .int .i64 0] 58)).alloc (.cells #[.bool false] 4)).alloc (.cells #[.pointer (some ⟨A, 0, none⟩)] 26)
  have bR := ((At.new (w.alloc (.cells #[.int .i64 p] 3)) 58 #[.int .i64 0, .int .i64 0]).alloc (.cells #[.bool false] 4)).alloc (.cells #[.pointer (some ⟨A, 0, none⟩)] 26)
  have bO := (At.new ((w.alloc (.cells #[.int .i64 p] 3)).alloc (.cells #[.int .i64 0, .int .i64 0] 58)) 4 #[.bool false]).alloc (.cells #[.pointer (some ⟨A, 0, none⟩)] 26)
  have bN := At.new (((w.alloc (.cells #[.int .i64 p] 3)).alloc (.cells #[.int .i64 0, .int .i64 0] 58)).alloc (.cells #[.bool false] 4)) 26 #[.pointer (some ⟨A, 0, none⟩)]
  simp only [World.size_alloc] at bR bO bN
  have hB0 : Below w.heap.size w ((((w.alloc (.cells #[.int .i64 p] 3)).alloc (.cells #[.int .i64 0, .int .i64 0] 58)).alloc (.cells #[.bool false] 4)).alloc (.cells #[.pointer (some ⟨A, 0, none⟩)] 26)) := ((((Below.refl _ w).alloc (Nat.le_refl _) _).alloc (by simp) _).alloc (by simp; omega) _).alloc (by simp; omega) _
  have hsz : ((((w.alloc (.cells #[.int .i64 p] 3)).alloc (.cells #[.int .i64 0, .int .i64 0] 58)).alloc (.cells #[.bool false] 4)).alloc (.cells #[.pointer (some ⟨A, 0, none⟩)] 26)).heap.size = w.heap.size + 4 := by simp
  obtain ⟨W0, hW0⟩ : ∃ W0, (((w.alloc (.cells #[.int .i64 p] 3)).alloc (.cells #[.int .i64 0, .int .i64 0] 58)).alloc (.cells #[.bool false] 4)).alloc (.cells #[.pointer (some ⟨A, 0, none⟩)] 26) = W0 := ⟨_, rfl⟩
  rw [hW0] at bP bR bO bN hB0 hsz ⊢
  clear hW0
  have hltA := har.ltA
  have hltB := har.ltB
  refine wpIn_rangeFunc_ownH hro h1 (gf := 77) (lb := #[.pointer (some ⟨w.heap.size + 1 + 1 + 1, 0, none⟩)]) rfl h77 (enters_of Try.func77 (by kernel_rfl) rfl)
    (all_stops F (n - 1) hF (by omega) (w.heap.size + 1 + 1 + 1) A B ws bs edge W0 (by omega) hc he hle (bN.cell 0) (har.next hB0)) Keeps.t (Keeps.b (by simp; omega)) (Below.refl _ _) (fun _ => rfl)
    (fun pre W => (((((∀ x ∈ pre, (x.taken && (x.place : Int) == p) = false) ∧ At W w.heap.size 3 #[.int .i64 p]) ∧ At W (w.heap.size + 1) 58 #[.int .i64 0, .int .i64 0]) ∧ At W (w.heap.size + 1 + 1) 4 #[.bool false]) ∧ At W (w.heap.size + 1 + 1 + 1) 26 #[.pointer (some ⟨A, 0, none⟩)]) ∧ Below w.heap.size w W)
    (fun c pre W => (∃ b : Blk, ((c = .ret ∧ (∃ q, pre = q ++ [b] ∧ (∀ x ∈ q, (x.taken && (x.place : Int) == p) = false) ∧ (b.taken && (b.place : Int) == p) = true)) ∧ At W (w.heap.size + 1) 58 #[.int .i64 b.place, .int .i64 b.cls]) ∧ At W (w.heap.size + 1 + 1) 4 #[.bool true]) ∧ Below w.heap.size w W)
    (OwnFrom.and (OwnFrom.and (OwnFrom.and (OwnFrom.and (OwnFrom.and (ownFrom_pure _ _) (Own.from (at_own _ _ _) _)) (Own.from (at_own _ _ _) _)) (Own.from (at_own _ _ _) _)) (Own.from (at_own _ _ _) _)) (ownFrom_below (Nat.le_refl _) (by omega)))
    ?hIx
    ⟨⟨⟨⟨⟨by simp, bP⟩, bR⟩, bO⟩, bN⟩, hB0⟩
    (fun x a' W => ∃ Bx, w.heap.size + 3 < Bx ∧ At W Bx 58 #[.int .i64 x.place, .int .i64 x.cls] ∧ a' = { tmps := #[.pointer (some ⟨A, 0, none⟩), .int .i64 p, undef, .pointer (some ⟨w.heap.size, 0, none⟩), .pointer (some ⟨w.heap.size + 1, 0, none⟩), .pointer (some ⟨w.heap.size + 1 + 1, 0, none⟩), .pointer (some ⟨Bx, 0, none⟩), .bool x.taken, .pointer (some ⟨A, 0, none⟩), .func (.func 77) #[] #[.pointer (some ⟨w.heap.size + 1 + 1 + 1, 0, none⟩)], .agg #[.int .i64 x.place, .int .i64 x.cls], .bool x.taken, undef, undef, undef, undef, undef, undef, undef, undef, undef], defers := [] })
    (fun x a' _ X Y row hs hg hr => by obtain ⟨Bx, e1, e2, e3⟩ := hs; exact ⟨Bx, e1, at_own Bx 58 (fun (_ : Unit) => #[Value.int .i64 x.place, .int .i64 x.cls]) () X Y row e2 hg (fun r e => (hr r e).2), e3⟩)
    ?assign ?body ?done ?stop
  case hIx =>
    intro c s X Y row hs hg hr
    obtain ⟨⟨b, ⟨h1, h2⟩, h3⟩, h4⟩ := hs
    exact ⟨⟨b, ⟨h1, at_own _ 58 (fun (_ : Unit) => #[Value.int .i64 b.place, .int .i64 b.cls]) () X Y row h2 hg (fun r e => (hr r e).2)⟩, at_own _ 4 (fun (_ : Unit) => #[Value.bool true]) () X Y row h3 hg (fun r e => (hr r e).2)⟩, ownFrom_below (β := Unit) (Nat.le_refl _) (by omega) () X Y row h4 hg hr⟩
  case assign =>
    rintro l pre x W K ⟨⟨⟨⟨⟨hp, b1⟩, b2⟩, b3⟩, b4⟩, hB1⟩ hK
    have hl4 := b4.lt
    simp only [encs]
    gi_wp2
    exact hK _ _ ((KeepsOthers.alloc _ _).from _) (Keeps.alloc _ _ (by simp; omega)) ⟨⟨⟨⟨⟨hp, b1.alloc _⟩, b2.alloc _⟩, b3.alloc _⟩, b4.alloc _⟩, hB1.alloc hB1.size _⟩ ⟨W.heap.size, by omega, At.new W 58 _, rfl⟩
  case body =>
    rintro l pre x a' W hl ⟨r, hr⟩ ⟨⟨⟨⟨⟨hp, b1⟩, b2⟩, b3⟩, b4⟩, hB1⟩ ⟨Bx, hBx, bX, rfl⟩ hlt
    have c1 := b1.cell 0
    have c20 := b2.cell 0
    have c21 := b2.cell 1
    have c3 := b3.cell 0
    have cX0 := bX.cell 0
    have cX1 := bX.cell 1
    have f20 := b2.frozen 0
    have f21 := b2.frozen 1
    have f3 := b3.frozen 0
    simp at c1 c20 c21 c3 cX0 cX1
    rcases ht : x.taken with _ | _
    · gi_wp2
      refine ⟨KeepsFrom.refl _ _, Keeps.refl _ _, ⟨⟨⟨⟨fun y hy => (List.mem_append.1 hy).elim (hp y) (fun e => by simp at e; subst e; simp [ht]), b1⟩, b2⟩, b3⟩, b4⟩, hB1⟩
    · by_cases hx : (x.place : Int) = p
      · have hx' : ((x.place : Int) == p) = true := by simp [hx]
        clear hx
        gi_wp2
        refine ⟨(((KeepsOthers.setCell _ _ _).trans (KeepsOthers.setCell _ _ _)).trans (KeepsOthers.setCell _ _ _)).from _, ⟨x, ⟨⟨rfl, pre, rfl, hp, by simp [ht, hx']⟩, (((b2.set 0 _).set 1 _).other (by simp) _)⟩, ((b3.other (by simp) _).other (by simp) _).set 0 _⟩, ((hB1.setCell (p := ⟨w.heap.size + 1, 0, none⟩) (by simp) _).setCell (p := ⟨w.heap.size + 1, 1, none⟩) (by simp) _).setCell (p := ⟨w.heap.size + 1 + 1, 0, none⟩) (by simp; omega) _⟩
      · have hx' : ((x.place : Int) == p) = false := by simp [hx]
        clear hx
        gi_wp2
        refine ⟨KeepsFrom.refl _ _, Keeps.refl _ _, ⟨⟨⟨⟨fun y hy => (List.mem_append.1 hy).elim (hp y) (fun e => by simp at e; subst e; simp [ht, hx']), b1⟩, b2⟩, b3⟩, b4⟩, hB1⟩
  case done =>
    rintro D zs W hD rfl ⟨⟨⟨⟨⟨hp, b1⟩, b2⟩, b3⟩, b4⟩, hB1⟩ hK
    have c20 := b2.cell 0
    have c21 := b2.cell 1
    have c3 := b3.cell 0
    have f20 := b2.frozen 0
    have f21 := b2.frozen 1
    have f3 := b3.frozen 0
    simp at c20 c21 c3
    have hfin : findB zs p = none := List.find?_eq_none.2 (fun x hx => by simp [hp x hx])
    have HF := Lib.hid hfin
    clear hfin
    gi_wp2
    have b2' := ((b2.set 0 (.int .i64 0)).set 1 (.int .i64 0)).other (a := ⟨w.heap.size + 1 + 1, 0, none⟩) (by simp) (.bool false)
    have b3' := ((b3.other (a := ⟨w.heap.size + 1, 0, none⟩) (by simp) (.int .i64 0)).other (a := ⟨w.heap.size + 1, 1, none⟩) (by simp) (.int .i64 0)).set 0 (.bool false)
    have hK' := ((((KeepsOthers.setCell W ⟨w.heap.size + 1, 0, none⟩ (.int .i64 0)).trans (KeepsOthers.setCell _ ⟨w.heap.size + 1, 1, none⟩ (.int .i64 0))).trans (KeepsOthers.setCell _ ⟨w.heap.size + 1 + 1, 0, none⟩ (.bool false)))).same D _ hK rfl
    have hBB := ((hB1.setCell (p := ⟨w.heap.size + 1, 0, none⟩) (by simp) (.int .i64 0)).setCell (p := ⟨w.heap.size + 1, 1, none⟩) (by simp) (.int .i64 0)).setCell (p := ⟨w.heap.size + 1 + 1, 0, none⟩) (by simp; omega) (.bool false)
    refine ⟨by simp, .inl ⟨_, _, rfl, run_takeDeferred hK', ?_⟩⟩
    have d20 := (b2'.kept (grownBy_putObj' _ D (.deferred none)) (by simp; omega)).cell 0
    have d21 := (b2'.kept (grownBy_putObj' _ D (.deferred none)) (by simp; omega)).cell 1
    have d3 := (b3'.kept (grownBy_putObj' _ D (.deferred none)) (by simp; omega)).cell 0
    refine ⟨_, ?_, by rw [HF.out], hBB.trans (belowK_b (w := w) (Nat.le_refl _) _ D _ _ (by omega) hK' rfl rfl)⟩
    simp at d20 d21 d3
    simp [results, Try.f38, go_sem, d20, d21, d3, findR]
  case stop =>
    rintro D c pre W hD hpre ⟨⟨b, ⟨⟨rfl, q, rfl, hq, hb⟩, b2⟩, b3⟩, hB1⟩ hK
    obtain ⟨rest, hrest⟩ := hpre
    have hfin : findB bs p = some b := by
      rw [← hrest]
      unfold findB
      rw [List.find?_append, List.find?_append]
      have : List.find? (fun b => b.taken && (b.place : Int) == p) q = none := List.find?_eq_none.2 (fun x hx => by simp [hq x hx])
      rw [this]
      simp [hb]
    have HF := Lib.hid hfin
    clear hrest hb hq hfin
    gi_wp2
    refine ⟨by simp, .inl ⟨_, _, rfl, run_takeDeferred hK, ?_⟩⟩
    have d20 := (b2.kept (grownBy_putObj' _ D (.deferred none)) (by simp; omega)).cell 0
    have d21 := (b2.kept (grownBy_putObj' _ D (.deferred none)) (by simp; omega)).cell 1
    have d3 := (b3.kept (grownBy_putObj' _ D (.deferred none)) (by simp; omega)).cell 0
    refine ⟨_, ?_, by rw [HF.out], hB1.trans (belowK_b (w := w) (Nat.le_refl _) _ D _ _ (by omega) hK rfl rfl)⟩
    simp at d20 d21 d3
    simp [results, Try.f38, go_sem, d20, d21, d3, findR]
end Go.Proofs.Ytifhimdhmlmgkaa
