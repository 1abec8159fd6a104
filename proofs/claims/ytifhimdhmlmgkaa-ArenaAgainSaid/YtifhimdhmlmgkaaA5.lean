/- The arena's cells: left, fence, root. -/
import Derived.Test.YtifhimdhmlmgkaaA4
import Derived.StillTailTactics
import Derived.BigRegion
namespace Go.Proofs.Ytifhimdhmlmgkaa
open Go.RowKit

/-- Two words as a number. -/
def u64at (ws : List Int) (i : Nat) : Int := rd ws i * 4294967296 + rd ws (i + 1)

theorem u64at_rng {ws : List Int} (h : ∀ x ∈ ws, 0 ≤ x ∧ x < 4294967296) (i : Nat) : 0 ≤ u64at ws i ∧ u64at ws i < 18446744073709551616 := by
  have h0 := rd_rng h i
  have h1 := rd_rng h (i + 1)
  unfold u64at
  omega

/-- The pair's two words, read. -/
theorem two_at {A B : Nat} {ws : List Int} {w : World} (h : Ar w A B ws) (i : Nat) (hi : i + 2 ≤ ws.length) :
    Calls Try.prog 36 #[.pointer (some ⟨B, i, none⟩)] w fun e w' => e = .returned (.int .u64 (u64at ws i)) ∧ ∃ n, w.drewN n = w' := by
  have h0 := rd_rng h.rng i
  have h1 := rd_rng h.rng (i + 1)
  exact two_any B i (rd ws i) (rd ws (i + 1)) w h0.1 h0.2 h1.1 h1.2 (h.cell (by omega)) (h.cell (by omega))

theorem pair_at {A B : Nat} {ws : List Int} {w : World} (h : Ar w A B ws) (i : Nat) (hi : i + 2 ≤ ws.length) :
    Calls Try.prog 37 #[.pointer (some ⟨A, 0, none⟩), .int .i64 i] w fun e w' => e = .returned (.pointer (some ⟨B, i, none⟩)) ∧ w = w' :=
  pair_any A B ws.length i w hi h.hi h.ha

set_option maxHeartbeats 400000 in
theorem left_any {A B : Nat} {ws : List Int} {w : World} (h : Ar w A B ws) :
    Calls Try.prog 15 #[.pointer (some ⟨A, 0, none⟩)] w fun e w' => e = .returned (.int .i64 (ws.length - rd ws 15)) ∧ ∃ n, w.drewN n = w' := by
  have h0 := rd_rng h.rng 15
  have hlo := h.lo
  have hhi := h.hi
  have hA := h.ha
  have hc := h.cell (i := 15) (by omega)
  have hlo' : (15 : Int) < ws.length := by omega
  obtain ⟨h0, h1⟩ := h0
  go_enter Try.func15, Try.ntmps15
  go_wp2
  go_quiet (fail)
  go_wp2
  go_ret
  exact ⟨rfl, _, rfl⟩

set_option maxHeartbeats 400000 in
theorem fence_any {A B : Nat} {ws : List Int} {w : World} (h : Ar w A B ws) :
    Calls Try.prog 23 #[.pointer (some ⟨A, 0, none⟩)] w fun e w' => e = .returned (.int .u64 (u64at ws 7)) ∧ ∃ n, w.drewN n = w' := by
  have hlo := h.lo
  go_enter Try.func23, Try.ntmps23
  go_wp2_with (first | (go_at_call 37; refine (pair_at h 7 (by omega)).mono ?_; rintro e w' ⟨rfl, rfl⟩) | (go_at_call 36; refine (two_at h 7 (by omega)).mono ?_; rintro e w' ⟨rfl, n, rfl⟩))
  go_ret
  exact ⟨rfl, _, rfl⟩

set_option maxHeartbeats 400000 in
theorem raise_no {A B : Nat} {ws : List Int} {w : World} (h : Ar w A B ws) (x : Int) (_hx0 : 0 ≤ x) (hx : x < u64at ws 7) :
    Calls Try.prog 22 #[.pointer (some ⟨A, 0, none⟩), .int .u64 x] w fun e w' => e = .returned (.int .i64 161) ∧ ∃ n, w.drewN n = w' := by
  have hlo := h.lo
  go_enter Try.func22, Try.ntmps22
  go_wp2_with (first | (go_at_call 37; refine (pair_at h 7 (by omega)).mono ?_; rintro e w' ⟨rfl, rfl⟩) | (go_at_call 36; refine (two_at h 7 (by omega)).mono ?_; rintro e w' ⟨rfl, n, rfl⟩))
  go_ret
  exact ⟨rfl, _, rfl⟩

/-- Two words are written. -/
def put2 (ws : List Int) (i : Nat) (x : Int) : List Int := (ws.set i (x / 4294967296)).set (i + 1) (x % 4294967296)
theorem put2_len (ws : List Int) (i : Nat) (x : Int) : (put2 ws i x).length = ws.length := by simp [put2]

theorem put_at {A B : Nat} {ws : List Int} {w : World} (h : Ar w A B ws) (i : Nat) (hi : i + 2 ≤ ws.length) (x : Int) (hx0 : 0 ≤ x) (hx : x < 18446744073709551616) :
    Calls Try.prog 40 #[.pointer (some ⟨B, i, none⟩), .int .u64 x] w fun e w' => e = .returned (.tuple #[]) ∧ Ar w' A B (put2 ws i x) ∧ Wr B w w' ∧ w'.heap.size = w.heap.size :=
  (put_any B i (rd ws i) (rd ws (i + 1)) x w hx0 hx (h.cell (by omega)) (h.cell (by omega)) (h.free _) (h.free _)).mono fun e w' ⟨he, n, hw⟩ => by
    subst hw
    exact ⟨he, (((h.set i (by omega) (by omega)).set (i + 1) (by omega) (by omega)).drewN n), ((Wr.setCell _ _ _ _).trans (Wr.setCell _ _ _ _)).trans (Wr.drewN _ _ _), by show (World.drewN _ _).heap.size = _; simp [World.setCell]⟩

set_option maxHeartbeats 400000 in
theorem raise_yes {A B : Nat} {ws : List Int} {w : World} (h : Ar w A B ws) (x : Int) (hx0 : 0 ≤ x) (hx1 : x < 18446744073709551616) (hx : u64at ws 7 ≤ x) :
    Calls Try.prog 22 #[.pointer (some ⟨A, 0, none⟩), .int .u64 x] w fun e w' => e = .returned (.int .i64 0) ∧ Ar w' A B (put2 ws 7 x) ∧ Wr B w w' ∧ w'.heap.size = w.heap.size := by
  have hlo := h.lo
  have hx' : ¬ x < u64at ws 7 := by omega
  go_enter Try.func22, Try.ntmps22
  go_wp2_with (first | (go_at_call 36; refine (two_at h 7 (by omega)).mono ?_; rintro e w' ⟨rfl, n, rfl⟩) | (go_at_call 37; refine (pair_at h 7 (by omega)).mono ?_; rintro e w' ⟨rfl, rfl⟩) | (go_at_call 37; refine (pair_at (h.drewN n) 7 (by omega)).mono ?_; rintro e w' ⟨rfl, rfl⟩) | (go_at_call 40; refine (put_at (h.drewN n) 7 (by omega) x hx0 hx1).mono ?_; rintro e w' ⟨rfl, h1, h2, h3⟩))
  go_ret
  exact ⟨rfl, h1, (Wr.drewN _ _ _).trans h2, h3⟩

end Go.Proofs.Ytifhimdhmlmgkaa
