/- The arena's methods that read and write one word. -/
import Derived.Test.YtifhimdhmlmgkaaA3
namespace Go.Proofs.Ytifhimdhmlmgkaa
open Go.RowKit

/-- An arena whose blocks are known. -/
structure Arb (w : World) (A B : Nat) (ws : List Int) (bs : List Blk) (edge : Nat) : Prop where
  ar : Ar w A B ws
  ch : Chain ws 16 bs edge
  ed : rd ws 15 = edge
  le : edge ≤ ws.length

theorem find_any {A B : Nat} {ws : List Int} {bs : List Blk} {edge : Nat} (p : Int) {w : World} (h : Arb w A B ws bs edge) :
    Calls Try.prog 38 #[.pointer (some ⟨A, 0, none⟩), .int .i64 p] w fun e W' => e = .returned (findR (findB bs p)) ∧ Below w.heap.size w W' :=
  wide_wide.back (find_in Fence.wide 4 wide_wide (by omega) A B ws bs edge p w h.ch h.ed h.le h.ar)

theorem Chain.mem {ws : List Int} : ∀ {bs : List Blk} {a e : Nat}, Chain ws a bs e → ∀ b ∈ bs, a + 1 ≤ b.place ∧ b.place + sz b.cls ≤ e ∧ b.cls ≤ 5
  | [], _, _, _, b, hb => by cases hb
  | x :: xs, a, e, ⟨h1, h2, _, h4⟩, b, hb => by
    rcases List.mem_cons.1 hb with rfl | hb
    · have := h4.le; exact ⟨by omega, by omega, h2⟩
    · have := Chain.mem h4 b hb; have := sz_pos x.cls; omega

theorem findB_some {bs : List Blk} {p : Int} {b : Blk} (h : findB bs p = some b) : b ∈ bs ∧ b.taken = true ∧ (b.place : Int) = p := by
  unfold findB at h
  have h1 := List.mem_of_find?_eq_some h
  have h2 := List.find?_some h
  simp at h2
  exact ⟨h1, h2.1, h2.2⟩

set_option maxHeartbeats 400000 in
theorem word_none {A B : Nat} {ws : List Int} {bs : List Blk} {edge : Nat} (p i : Int) {w : World} (h : Arb w A B ws bs edge) (hn : findB bs p = none) :
    Calls Try.prog 34 #[.pointer (some ⟨A, 0, none⟩), .int .i64 p, .int .i64 i] w fun e W' => e = .returned (.tuple #[.pointer none, .int .i64 4]) ∧ Below w.heap.size w W' := by
  have hf := find_any p h
  rw [hn] at hf
  simp only [findR] at hf
  clear hn
  go_enter Try.func34, Try.ntmps34
  go_wp2_with (go_at_call 38; refine hf.mono ?_; rintro e w' ⟨rfl, hb⟩)
  go_ret2
  exact ⟨rfl, hb.alloc hb.size _⟩

set_option maxHeartbeats 400000 in
theorem word_some {A B : Nat} {ws : List Int} {bs : List Blk} {edge : Nat} (b : Blk) (i : Nat) {w : World} (h : Arb w A B ws bs edge) (hn : findB bs b.place = some b) (hi : i < sz b.cls) :
    Calls Try.prog 34 #[.pointer (some ⟨A, 0, none⟩), .int .i64 b.place, .int .i64 i] w fun e W' => e = .returned (.tuple #[.pointer (some ⟨B, b.place + i, none⟩), .int .i64 0]) ∧ Below w.heap.size w W' := by
  have hf := find_any b.place h
  rw [hn] at hf
  simp only [findR] at hf
  obtain ⟨hm, ht, _⟩ := findB_some hn
  obtain ⟨m1, m2, m3⟩ := h.ch.mem b hm
  have hle := h.le
  have hhi := h.ar.hi
  have hA := h.ar.ha
  have hlt := h.ar.ltA
  have hd0 : decide ((i : Int) < 0) = false := decide_eq_false (by omega)
  have hd1 : decide ((sz b.cls : Int) ≤ (i : Int)) = false := decide_eq_false (by omega)
  have hd2 : ¬ (i : Int) < 0 := by omega
  have hd3 : ¬ (sz b.cls : Int) ≤ (i : Int) := by omega
  clear hn ht
  go_enter Try.func34, Try.ntmps34
  go_wp2_with (first | (go_at_call 38; refine hf.mono ?_; rintro e w' ⟨rfl, hb⟩; have hA' := (hb.cell (p := ⟨A, 0, none⟩) hlt).trans hA; have hlt' : A < w'.heap.size := Nat.lt_of_lt_of_le hlt hb.size) | (go_at_call 32; refine (wide_any b.cls _ m3).mono ?_; rintro e w'' ⟨rfl, rfl⟩))
  go_ret2
  exact ⟨rfl, hb.alloc hb.size _⟩

set_option maxHeartbeats 400000 in
theorem word_out {A B : Nat} {ws : List Int} {bs : List Blk} {edge : Nat} (b : Blk) (i : Int) {w : World} (h : Arb w A B ws bs edge) (hn : findB bs b.place = some b) (hi0 : i < 0 ∨ sz b.cls ≤ i) :
    Calls Try.prog 34 #[.pointer (some ⟨A, 0, none⟩), .int .i64 b.place, .int .i64 i] w fun e W' => e = .returned (.tuple #[.pointer none, .int .i64 2]) ∧ Below w.heap.size w W' := by
  have hf := find_any b.place h
  rw [hn] at hf
  simp only [findR] at hf
  obtain ⟨hm, ht, _⟩ := findB_some hn
  obtain ⟨m1, m2, m3⟩ := h.ch.mem b hm
  clear hn ht
  rcases hi0 with hi0 | hi0
  · go_enter Try.func34, Try.ntmps34
    go_wp2_with (go_at_call 38; refine hf.mono ?_; rintro e w' ⟨rfl, hb⟩)
    go_ret2
    exact ⟨rfl, hb.alloc hb.size _⟩
  · have hi1 : ¬ i < 0 := by omega
    go_enter Try.func34, Try.ntmps34
    go_wp2_with (first | (go_at_call 38; refine hf.mono ?_; rintro e w' ⟨rfl, hb⟩) | (go_at_call 32; refine (wide_any b.cls _ m3).mono ?_; rintro e w'' ⟨rfl, rfl⟩))
    go_ret2
    exact ⟨rfl, hb.alloc hb.size _⟩

/-- Load of a word. -/
theorem Arb.next {w w' : World} {A B : Nat} {ws : List Int} {bs : List Blk} {edge : Nat} (h : Arb w A B ws bs edge) (k : Below w.heap.size w w') : Arb w' A B ws bs edge := ⟨h.ar.next k, h.ch, h.ed, h.le⟩

set_option maxHeartbeats 400000 in
theorem load_none {A B : Nat} {ws : List Int} {bs : List Blk} {edge : Nat} (p i : Int) {w : World} (h : Arb w A B ws bs edge) (hn : findB bs p = none) :
    Calls Try.prog 14 #[.pointer (some ⟨A, 0, none⟩), .int .i64 p, .int .i64 i] w fun e W' => e = .returned (.tuple #[.int .u32 0, .int .i64 4]) ∧ Below w.heap.size w W' := by
  have hf := word_none p i h hn
  clear hn
  go_enter Try.func14, Try.ntmps14
  go_wp2_with (go_at_call 34; refine hf.mono ?_; rintro e w' ⟨rfl, hb⟩)
  go_ret2
  exact ⟨rfl, hb⟩

set_option maxHeartbeats 400000 in
theorem load_out {A B : Nat} {ws : List Int} {bs : List Blk} {edge : Nat} (b : Blk) (i : Int) {w : World} (h : Arb w A B ws bs edge) (hn : findB bs b.place = some b) (hi0 : i < 0 ∨ sz b.cls ≤ i) :
    Calls Try.prog 14 #[.pointer (some ⟨A, 0, none⟩), .int .i64 b.place, .int .i64 i] w fun e W' => e = .returned (.tuple #[.int .u32 0, .int .i64 2]) ∧ Below w.heap.size w W' := by
  have hf := word_out b i h hn hi0
  clear hn hi0
  go_enter Try.func14, Try.ntmps14
  go_wp2_with (go_at_call 34; refine hf.mono ?_; rintro e w' ⟨rfl, hb⟩)
  go_ret2
  exact ⟨rfl, hb⟩

set_option maxHeartbeats 400000 in
theorem load_some {A B : Nat} {ws : List Int} {bs : List Blk} {edge : Nat} (b : Blk) (i : Nat) {w : World} (h : Arb w A B ws bs edge) (hn : findB bs b.place = some b) (hi : i < sz b.cls) :
    Calls Try.prog 14 #[.pointer (some ⟨A, 0, none⟩), .int .i64 b.place, .int .i64 i] w fun e W' => e = .returned (.tuple #[.int .u32 (rd ws (b.place + i)), .int .i64 0]) ∧ Below w.heap.size w W' := by
  have hf := word_some b i h hn hi
  obtain ⟨hm, ht, _⟩ := findB_some hn
  obtain ⟨m1, m2, m3⟩ := h.ch.mem b hm
  have hle := h.le
  have hlt := h.ar.ltB
  have hc := h.ar.cell (i := b.place + i) (by omega)
  clear hn ht
  go_enter Try.func14, Try.ntmps14
  go_wp2_with (go_at_call 34; refine hf.mono ?_; rintro e w' ⟨rfl, hb⟩; have hc' := (hb.cell (p := ⟨B, b.place + i, none⟩) hlt).trans hc)
  go_ret2
  exact ⟨rfl, hb⟩

set_option maxHeartbeats 400000 in
theorem store_none {A B : Nat} {ws : List Int} {bs : List Blk} {edge : Nat} (p i x : Int) {w : World} (h : Arb w A B ws bs edge) (hn : findB bs p = none) :
    Calls Try.prog 11 #[.pointer (some ⟨A, 0, none⟩), .int .i64 p, .int .i64 i, .int .u32 x] w fun e W' => e = .returned (.int .i64 4) ∧ Below w.heap.size w W' := by
  have hf := word_none p i h hn
  clear hn
  go_enter Try.func11, Try.ntmps11
  go_wp2_with (go_at_call 34; refine hf.mono ?_; rintro e w' ⟨rfl, hb⟩)
  go_ret
  exact ⟨rfl, hb⟩

set_option maxHeartbeats 400000 in
theorem store_out {A B : Nat} {ws : List Int} {bs : List Blk} {edge : Nat} (b : Blk) (i x : Int) {w : World} (h : Arb w A B ws bs edge) (hn : findB bs b.place = some b) (hi0 : i < 0 ∨ sz b.cls ≤ i) :
    Calls Try.prog 11 #[.pointer (some ⟨A, 0, none⟩), .int .i64 b.place, .int .i64 i, .int .u32 x] w fun e W' => e = .returned (.int .i64 2) ∧ Below w.heap.size w W' := by
  have hf := word_out b i h hn hi0
  clear hn hi0
  go_enter Try.func11, Try.ntmps11
  go_wp2_with (go_at_call 34; refine hf.mono ?_; rintro e w' ⟨rfl, hb⟩)
  go_ret
  exact ⟨rfl, hb⟩

/-- What is written is the words' row, beside what is new. -/
def Wr (B : Nat) (w w' : World) : Prop := w.grownBy w' (some B)

theorem Wr.of_below {B : Nat} {w w' : World} (h : Below w.heap.size w w') : Wr B w w' := ⟨h.os, h.tape, h.output, h.size, fun k hk _ => h.block k hk⟩
theorem Wr.refl (B : Nat) (w : World) : Wr B w w := Wr.of_below (Below.refl _ _)
theorem Wr.trans {B : Nat} {a b c : World} (h : Wr B a b) (k : Wr B b c) : Wr B a c := ⟨k.os.trans h.os, k.tape.trans h.tape, k.output.trans h.output, Nat.le_trans h.size k.size, fun i hi hne => (k.block i (Nat.lt_of_lt_of_le hi h.size) hne).trans (h.block i hi hne)⟩
theorem Wr.setCell (B i : Nat) (w : World) (v : Value) : Wr B w (w.setCell ⟨B, i, none⟩ v) := ⟨rfl, rfl, rfl, by simp [World.setCell], fun k _ hne => Below.heap_setCell _ _ _ _ (by intro e; exact hne (by rw [e]))⟩
theorem Wr.drewN (B n : Nat) (w : World) : Wr B w (w.drewN n) := ⟨rfl, rfl, rfl, Nat.le_refl _, fun _ _ _ => rfl⟩
theorem Wr.below {B n : Nat} {w w' : World} (h : Wr B w w') (hn : n ≤ B) (hB : B < w.heap.size) : Below n w w' := ⟨h.os, h.tape, h.output, h.size, fun k hk => h.block k (by omega) (by intro e; cases e; omega)⟩

set_option maxHeartbeats 400000 in
theorem store_some {A B : Nat} {ws : List Int} {bs : List Blk} {edge : Nat} (b : Blk) (i : Nat) (x : Int) {w : World} (h : Arb w A B ws bs edge) (hn : findB bs b.place = some b) (hi : i < sz b.cls) (hx0 : 0 ≤ x) (hx1 : x < 4294967296) :
    Calls Try.prog 11 #[.pointer (some ⟨A, 0, none⟩), .int .i64 b.place, .int .i64 i, .int .u32 x] w fun e W' => e = .returned (.int .i64 0) ∧ Wr B w W' ∧ Ar W' A B (ws.set (b.place + i) x) := by
  have hf := word_some b i h hn hi
  obtain ⟨hm, ht, _⟩ := findB_some hn
  obtain ⟨m1, m2, m3⟩ := h.ch.mem b hm
  have hle := h.le
  have hlt := h.ar.ltB
  have hc := h.ar.cell (i := b.place + i) (by omega)
  have hfz := h.ar.free (b.place + i)
  clear hn ht
  go_enter Try.func11, Try.ntmps11
  go_wp2_with (go_at_call 34; refine hf.mono ?_; rintro e w' ⟨rfl, hb⟩; have hc' := (hb.cell (p := ⟨B, b.place + i, none⟩) hlt).trans hc; have hfz' := (hb.frozen (p := ⟨B, b.place + i, none⟩) hlt).trans hfz)
  go_ret
  exact ⟨rfl, (Wr.of_below hb).trans (Wr.setCell _ _ _ _), (h.ar.next hb).set _ hx0 hx1⟩
end Go.Proofs.Ytifhimdhmlmgkaa
