/- Free. -/
import Derived.Test.YtifhimdhmlmgkaaA9
namespace Go.Proofs.Ytifhimdhmlmgkaa
open Go.RowKit

set_option maxHeartbeats 400000 in
theorem free_none {A B : Nat} {ws : List Int} {bs : List Blk} {edge : Nat} (p : Int) {w : World} (h : Arb w A B ws bs edge) (hn : findB bs p = none) :
    Calls Try.prog 20 #[.pointer (some ⟨A, 0, none⟩), .int .i64 p] w fun e W' => e = .returned (.int .i64 4) ∧ Below w.heap.size w W' := by
  have hf := find_any p h
  rw [hn] at hf
  simp only [findR] at hf
  clear hn
  go_enter Try.func20, Try.ntmps20
  go_wp2_with (go_at_call 38; refine hf.mono ?_; rintro e w' ⟨rfl, hb⟩)
  go_ret
  exact ⟨rfl, hb.alloc hb.size _⟩

set_option maxHeartbeats 1000000 in
theorem free_root {A B : Nat} {ws : List Int} {bs : List Blk} {edge : Nat} (b : Blk) {w : World} (h : Arb w A B ws bs edge) (hn : findB bs b.place = some b) (hr : rd ws 5 = b.place ∨ rd ws 6 = b.place) :
    Calls Try.prog 20 #[.pointer (some ⟨A, 0, none⟩), .int .i64 b.place] w fun e W' => e = .returned (.int .i64 2) ∧ Below w.heap.size w W' := by
  have hf := find_any b.place h
  rw [hn] at hf
  simp only [findR] at hf
  obtain ⟨hm, ht, _⟩ := findB_some hn
  obtain ⟨m1, m2, m3⟩ := h.ch.mem b hm
  have hle := h.le
  have hhi := h.ar.hi
  have hlo := h.ar.lo
  have hA := h.ar.ha
  have hlt := h.ar.ltA
  have hltB := h.ar.ltB
  have hl5 : (5 : Int) < ws.length := by omega
  have hl6 : (6 : Int) < ws.length := by omega
  have c5 := h.ar.cell (i := 5) (by omega)
  have c6 := h.ar.cell (i := 6) (by omega)
  obtain ⟨pl, hpl⟩ : ∃ pl : Nat, b.place = pl := ⟨_, rfl⟩
  rw [hpl] at hf m1 m2 hr ⊢
  clear hn ht hpl hm
  by_cases h5 : rd ws 5 = pl
  · rw [h5] at c5
    clear hr h5
    have q5 : ((pl : Int) == (pl : Int)) = true := by simp
    go_enter Try.func20, Try.ntmps20
    go_wp2_with (go_at_call 38; refine hf.mono ?_; rintro e w' ⟨rfl, hb⟩; have hA' := (hb.cell (p := ⟨A, 0, none⟩) hlt).trans hA; have c5' := (hb.cell (p := ⟨B, 5, none⟩) hltB).trans c5; have hlt' : A < w'.heap.size := Nat.lt_of_lt_of_le hlt hb.size; have hltB' : B < w'.heap.size := Nat.lt_of_lt_of_le hltB hb.size)
    go_ret
    exact ⟨rfl, hb.alloc hb.size _⟩
  · have h6 : rd ws 6 = pl := by omega
    rw [h6] at c6
    have q5 : ((pl : Int) == rd ws 5) = false := by simp; omega
    clear hr h6 h5
    go_enter Try.func20, Try.ntmps20
    go_wp2_with (go_at_call 38; refine hf.mono ?_; rintro e w' ⟨rfl, hb⟩; have hA' := (hb.cell (p := ⟨A, 0, none⟩) hlt).trans hA; have c5' := (hb.cell (p := ⟨B, 5, none⟩) hltB).trans c5; have c6' := (hb.cell (p := ⟨B, 6, none⟩) hltB).trans c6; have hlt' : A < w'.heap.size := Nat.lt_of_lt_of_le hlt hb.size; have hltB' : B < w'.heap.size := Nat.lt_of_lt_of_le hltB hb.size)
    go_ret
    exact ⟨rfl, hb.alloc hb.size _⟩

theorem andNot_head (c : Nat) (hc : c ≤ 5) : bits BinOp.andNot IntKind.u32 (17 + 2 * (c : Int)) 1 = 16 + 2 * (c : Int) := by
  obtain rfl | rfl | rfl | rfl | rfl | rfl : c = 0 ∨ c = 1 ∨ c = 2 ∨ c = 3 ∨ c = 4 ∨ c = 5 := by omega
  all_goals decide

/-- The words behind a giving back. -/
def freeW (ws : List Int) (p c : Nat) : List Int := (((zset ws p (sz c)).set p (rd ws (9 + c))).set (p - 1) (16 + 2 * c)).set (9 + c) p

theorem Chain.head {ws : List Int} : ∀ {bs : List Blk} {a e : Nat}, Chain ws a bs e → ∀ b ∈ bs, rd ws (b.place - 1) = 16 + 2 * b.cls + (if b.taken then 1 else 0)
  | [], _, _, _, b, hb => by cases hb
  | x :: xs, a, e, ⟨h1, h2, h3, h4⟩, b, hb => by
    rcases List.mem_cons.1 hb with rfl | hb
    · rw [h1]; exact h3
    · exact Chain.head h4 b hb

set_option maxRecDepth 100000 in
set_option maxHeartbeats 1000000 in
theorem free_yes {A B : Nat} {ws : List Int} {bs : List Blk} {edge : Nat} (b : Blk) {w : World} (h : Arb w A B ws bs edge) (hn : findB bs b.place = some b) (hr5 : rd ws 5 ≠ b.place) (hr6 : rd ws 6 ≠ b.place) :
    Calls Try.prog 20 #[.pointer (some ⟨A, 0, none⟩), .int .i64 b.place] w fun e W' => e = .returned (.int .i64 0) ∧ Wr B w W' ∧ Ar W' A B (freeW ws b.place b.cls) := by
  have hf := find_any b.place h
  rw [hn] at hf
  simp only [findR] at hf
  obtain ⟨hm, ht, _⟩ := findB_some hn
  obtain ⟨m1, m2, m3⟩ := h.ch.mem b hm
  have hhd := h.ch.head b hm
  rw [ht] at hhd
  have hhd : rd ws (b.place - 1) = 17 + 2 * b.cls := by rw [hhd]; simp; omega
  have hle := h.le
  have hhi := h.ar.hi
  have hlo := h.ar.lo
  have hA := h.ar.ha
  have hlt := h.ar.ltA
  have hltB := h.ar.ltB
  have hl5 : (5 : Int) < ws.length := by omega
  have hl6 : (6 : Int) < ws.length := by omega
  have c5 := h.ar.cell (i := 5) (by omega)
  have c6 := h.ar.cell (i := 6) (by omega)
  obtain ⟨z1, z2⟩ := sz_le m3
  obtain ⟨pl, hpl⟩ : ∃ pl : Nat, b.place = pl := ⟨_, rfl⟩
  obtain ⟨c, hcl⟩ : ∃ c : Nat, b.cls = c := ⟨_, rfl⟩
  rw [hpl] at hf m1 m2 hr5 hr6 hhd ⊢
  rw [hcl] at hf m2 m3 hhd z1 z2 ⊢
  have HD := Lib.hid hhd
  clear hn ht hpl hm hcl hhd
  have q5 : ((pl : Int) == rd ws 5) = false := by simp; omega
  have q6 : ((pl : Int) == rd ws 6) = false := by simp; omega
  clear hr5 hr6
  go_enter Try.func20, Try.ntmps20
  go_wp2_with (go_at_call 38; refine hf.mono ?_; rintro e w' ⟨rfl, hb⟩; have hA' := (hb.cell (p := ⟨A, 0, none⟩) hlt).trans hA; have c5' := (hb.cell (p := ⟨B, 5, none⟩) hltB).trans c5; have c6' := (hb.cell (p := ⟨B, 6, none⟩) hltB).trans c6; have hlt' : A < w'.heap.size := Nat.lt_of_lt_of_le hlt hb.size; have hltB' : B < w'.heap.size := Nat.lt_of_lt_of_le hltB hb.size)
  go_quiet (fail)
  go_wp2_with fail
  have hw' := h.ar.next hb
  have hW : Ar ((w'.alloc (Obj.cells #[.int .i64 pl, .int .i64 c] 58)).drewN nq) A B ws := (hw'.next ((Below.refl _ _).alloc (Nat.le_refl _) _)).drewN nq
  have hbW : Below w.heap.size w ((w'.alloc (Obj.cells #[.int .i64 pl, .int .i64 c] 58)).drewN nq) := bDrewN (hb.alloc hb.size _) nq
  refine (of_any hW pl c m3 (by omega)).mono ?_
  rintro e w2 ⟨rfl, hb2⟩
  have hw2 := hW.next hb2
  have hclr := fun ty => run_clear hw2 ty pl (sz c) (ws.length - pl) z1 (by omega)
  have h3 := hw2.zset (sz c) pl
  have hwr : Wr B w (w2.setCells B pl (List.replicate (sz c) (.int .u32 0))) := ((Wr.of_below hbW).trans (Wr.of_below hb2)).trans (Wr.zset _ _ _ _)
  obtain ⟨W3, hW3⟩ : ∃ W3, w2.setCells B pl (List.replicate (sz c) (.int .u32 0)) = W3 := ⟨_, rfl⟩
  rw [hW3] at hclr h3 hwr
  clear hW3
  have a3 := h3.ha
  rw [zset_len] at a3
  have d9 := h3.cell (i := 9 + c) (by rw [zset_len]; omega)
  rw [rd_zset _ _ _ _ (by omega), if_neg (by omega)] at d9
  have dp := h3.cell (i := pl) (by rw [zset_len]; omega)
  rw [rd_zset _ _ _ _ (by omega), if_pos (by omega)] at dp
  have dp1 := h3.cell (i := pl - 1) (by rw [zset_len]; omega)
  rw [rd_zset _ _ _ _ (by omega), if_neg (by omega)] at dp1
  have hhd := HD.out
  rw [hhd] at dp1
  clear hhd
  have g9 := h3.free (9 + c)
  have gp := h3.free pl
  have gp1 := h3.free (pl - 1)
  have han := andNot_head c m3
  go_wp2_with fail
  go_region
  go_wp2_with fail
  go_ret
  refine ⟨rfl, ?_, ?_⟩
  · exact (((hwr.trans (Wr.setCell _ _ _ _)).trans (Wr.setCell _ _ _ _)).trans (Wr.setCell _ _ _ _)).trans (Wr.drewN B 1 _)
  · obtain ⟨r1, r2⟩ := rd_rng h.ar.rng (9 + c)
    exact Ar_drew.2 (((h3.set pl r1 r2).set (pl - 1) (by omega) (by omega)).set (9 + c) (by omega) (by omega))
end Go.Proofs.Ytifhimdhmlmgkaa
