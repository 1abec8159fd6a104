/- The place of a peer: comparing, the closures, the binary search. -/
import Derived.Test.YtplkimgoogoadaaPBeatPeersx2
import Derived.Lib.Hide
import Derived.RangeFuncRecord
namespace Go.Proofs.Ytplkimgoogoadaa
open Go.RowKit Go.Proofs.YtplkimgoogoadaaW.PrintWords PBeatPeers

def cmpI (a b : Int) : Int := if a < b then -1 else if b < a then 1 else 0

theorem nan_any (a : Int) (w : World) : Calls Try.prog 50 #[.int .i64 a] w fun e w' => e = .returned (.bool false) ∧ w = w' := by
  go_enter Try.func50, Try.ntmps50
  go_wp2
  go_ret
  exact ⟨rfl, rfl⟩

theorem cmp_any (a b : Int) (w : World) : Calls Try.prog 48 #[.int .i64 a, .int .i64 b] w fun e w' => e = .returned (.int .i64 (cmpI a b)) ∧ w = w' := by
  unfold cmpI
  by_cases h1 : a < b
  · rw [if_pos h1]
    go_enter Try.func48, Try.ntmps48
    go_wp2_with (go_at_call 50; refine (nan_any _ _).mono ?_; rintro e w' ⟨rfl, rfl⟩)
    go_ret
    exact ⟨rfl, rfl⟩
  · rw [if_neg h1]
    by_cases h2 : b < a
    · rw [if_pos h2]
      go_enter Try.func48, Try.ntmps48
      go_wp2_with (go_at_call 50; refine (nan_any _ _).mono ?_; rintro e w' ⟨rfl, rfl⟩)
      go_ret
      exact ⟨rfl, rfl⟩
    · rw [if_neg h2]
      go_enter Try.func48, Try.ntmps48
      go_wp2_with (go_at_call 50; refine (nan_any _ _).mono ?_; rintro e w' ⟨rfl, rfl⟩)
      go_ret
      exact ⟨rfl, rfl⟩

def pv (p : S35) : Value := .agg #[.int .i64 p.f0, .int .i64 p.f1, .int .i64 p.f2, .int .i64 p.f3]

theorem num_any (p : S35) (w : World) : Calls Try.prog 43 #[pv p] w fun e w' => e = .returned (.int .i64 p.f0) ∧ Below w.heap.size w w' := by
  unfold pv
  go_enter Try.func43, Try.ntmps43
  go_wp2
  go_ret
  exact ⟨rfl, (Below.refl _ w).alloc (Nat.le_refl _) _⟩

/-- A row's closure: it holds the number's function in a box. -/
theorem rowc_any (p : S35) (n : Int) (b : Nat) (w : World) (hb : w.cell? ⟨b, 0, none⟩ = some (.func (.func 43) #[] #[])) :
    Calls Try.prog 47 #[pv p, .int .i64 n, .pointer (some ⟨b, 0, none⟩)] w fun e w' => e = .returned (.int .i64 (cmpI p.f0 n)) ∧ Below w.heap.size w w' := by
  have hlt := block_lt_of_cell hb
  have hnum := fun W => num_any p W
  unfold pv at hnum ⊢
  go_enter Try.func47, Try.ntmps47
  go_wp2_with fail
  refine (hnum _).mono ?_
  rintro e w1 ⟨rfl, hb1⟩
  go_wp2_with fail
  refine (cmp_any _ _ _).mono ?_
  rintro e w2 ⟨rfl, rfl⟩
  go_wp2_with fail
  go_ret
  exact ⟨rfl, ((Below.refl _ w).alloc (Nat.le_refl _) _).trans (hb1.mono (by simp))⟩

/-- Four cells hold a peer. -/
structure PuAt (w : World) (g o : Nat) (p : S35) : Prop where
  c0 : w.cell? ⟨g, o, none⟩ = some (.int .i64 p.f0)
  c1 : w.cell? ⟨g, o + 1, none⟩ = some (.int .i64 p.f1)
  c2 : w.cell? ⟨g, o + 2, none⟩ = some (.int .i64 p.f2)
  c3 : w.cell? ⟨g, o + 3, none⟩ = some (.int .i64 p.f3)

/-- The j-th peer. -/
def pu (ps : List S35) (j : Nat) : S35 := ps.getD j z35
theorem pu_eq {ps : List S35} {j : Nat} (h : j < ps.length) : pu ps j = ps[j] := by simp [pu, List.getD, h]

theorem spot_none {w : World} {a : Addr} {v : Value} (h : w.cell? a = some v) : a.spot = none := by
  unfold World.cell? at h
  split at h
  · split at h
    · cases h
    · rename_i hs; simpa using hs
  · cases h

theorem C_at {w : World} {A : Option Addr} {n : Nat} {xs : List S35} (h : Kd.C k35 w A n xs) : n = 0 ∨ ∃ g o, A = some ⟨g, o, none⟩ ∧ g < w.heap.size ∧ ∀ j, j < xs.length → PuAt w g (o + j * 4) (pu xs j) := by
  rcases Nat.eq_zero_or_pos n with h0 | hpos
  · exact .inl h0
  · obtain ⟨ad, rfl, hc⟩ := h.2.2 hpos
    have hl := h.1
    have cell : ∀ j (hj : j < xs.length) i u, [Value.int .i64 xs[j].f0, .int .i64 xs[j].f1, .int .i64 xs[j].f2, .int .i64 xs[j].f3][i]? = some u → w.cell? (ad.add (j * 4 + i)) = some u := by
      intro j hj i u hu
      obtain ⟨c, _, hK, hcc⟩ := hc j xs[j] (List.getElem?_eq_getElem hj)
      obtain rfl := k35_open hK
      exact hcc i u hu
    have c00 := cell 0 (by omega) 0 _ rfl
    have hs : ad.spot = none := spot_none (a := ad) c00
    obtain ⟨g, o, sp⟩ := ad
    simp only at hs
    subst hs
    have hadd : ∀ k, (⟨g, o, none⟩ : Addr).add k = ⟨g, o + k, none⟩ := by
      intro k
      unfold Addr.add
      by_cases hk : k = 0
      · subst hk; rfl
      · rw [if_neg hk]
    refine .inr ⟨g, o, rfl, block_lt_of_cell c00, fun j hj => ?_⟩
    have d0 := cell j hj 0 _ rfl
    have d1 := cell j hj 1 _ rfl
    have d2 := cell j hj 2 _ rfl
    have d3 := cell j hj 3 _ rfl
    rw [hadd] at d0 d1 d2 d3
    rw [pu_eq hj]
    exact ⟨d0, d1, d2, d3⟩

theorem PuAt.below {w w' : World} {g o n : Nat} {p : S35} (h : PuAt w g o p) (k : Below n w w') (hg : g < n) : PuAt w' g o p :=
  ⟨(k.cell (p := ⟨g, o, none⟩) hg).trans h.c0, (k.cell (p := ⟨g, o + 1, none⟩) hg).trans h.c1, (k.cell (p := ⟨g, o + 2, none⟩) hg).trans h.c2, (k.cell (p := ⟨g, o + 3, none⟩) hg).trans h.c3⟩

set_option maxHeartbeats 1000000 in
/-- The binary search. -/
theorem search_any (ps : List S35) (n : Int) (A : Option Addr) (c : Nat) (b : Nat) (w : World) (hC : Kd.C k35 w A ps.length ps) (hlen : ps.length ≤ 1000) (hb : w.cell? ⟨b, 0, none⟩ = some (.func (.func 43) #[] #[]))
    (hsort : ∀ i j, i < j → j < ps.length → (pu ps i).f0 < (pu ps j).f0) :
    Calls Try.prog 46 #[.slice A ps.length c, .int .i64 n, .func (.func 47) #[] #[.pointer (some ⟨b, 0, none⟩)]] w fun e w' =>
      ∃ (i : Nat) (t : Bool), e = .returned (.tuple #[.int .i64 i, .bool t]) ∧ i ≤ ps.length ∧ (∀ k, k < i → (pu ps k).f0 < n) ∧ (∀ k, i ≤ k → k < ps.length → n ≤ (pu ps k).f0) ∧
        (t = true ↔ i < ps.length ∧ (pu ps i).f0 = n) ∧ Below w.heap.size w w' := by
  have hlt := block_lt_of_cell hb
  have hcl := C_at hC
  obtain ⟨L, hL⟩ : ∃ L, ps.length = L := ⟨_, rfl⟩
  rw [hL] at hcl hsort
  rw [hL] at hlen
  have hrow : ∀ (p : S35) (W : World), Below w.heap.size w W → Calls Try.prog 47 #[.agg #[.int .i64 p.f0, .int .i64 p.f1, .int .i64 p.f2, .int .i64 p.f3], .int .i64 n, .pointer (some ⟨b, 0, none⟩)] W fun e w' => e = .returned (.int .i64 (cmpI p.f0 n)) ∧ Below W.heap.size W w' :=
    fun p W hW => rowc_any p n b W ((hW.cell hlt).trans hb)
  rw [hL]
  go_enter Try.func46, Try.ntmps46
  go_wp2_with fail
  go_loopw [9, 10] (fun x y wr => ∃ (i j : Nat), x = .int .i64 i ∧ y = .int .i64 j ∧ i ≤ j ∧ j ≤ L ∧ (∀ k, k < i → (pu ps k).f0 < n) ∧ (∀ k, j ≤ k → k < L → n ≤ (pu ps k).f0) ∧ Below w.heap.size w wr) (fun x y _ => (intOf y).toNat - (intOf x).toNat)
  case atStart => exact ⟨0, L, rfl, rfl, by omega, by omega, fun k h => absurd h (by omega), fun k h h' => absurd h' (by omega), Below.refl _ _⟩
  case round =>
    obtain ⟨i, j, rfl, rfl, hij, hjL, hlo, hup, hB⟩ := hrel
    by_cases hlt2 : i < j
    · obtain ⟨h, hh⟩ : ∃ h : Nat, ((i : Int) + (j : Int)) / 2 = h := ⟨(i + j) / 2, by omega⟩
      have hh1 : i ≤ h := by omega
      have hh2 : h < j := by omega
      obtain ⟨g, o, rfl, hg, hcell⟩ := hcl.resolve_left (by omega)
      obtain ⟨c0, c1, c2, c3⟩ := (hcell h (by omega)).below hB hg
      have hr := hrow (pu ps h) wr hB
      have hs := hB.size
      by_cases hc : (pu ps h).f0 < n
      · have e1 : cmpI (pu ps h).f0 n = -1 := if_pos hc
        rw [e1] at hr
        clear hcell hcl hrow
        go_wp2_with fail
        refine hr.mono ?_
        rintro e w1 ⟨rfl, hb1⟩
        go_wp2_with fail
        go_roundw
        case rel =>
          refine ⟨h + 1, j, by go_num, rfl, by omega, by omega, fun k hk => ?_, hup, hB.trans (hb1.mono hs)⟩
          rcases Nat.lt_or_ge k h with hkh | hkh
          · exact Int.lt_trans (hsort k h hkh (by omega)) hc
          · rw [show k = h by omega]; exact hc
        case measure => simp [intOf]; omega
      · have e1 : ¬ cmpI (pu ps h).f0 n < 0 := by unfold cmpI; rw [if_neg hc]; split <;> omega
        clear hcell hcl hrow
        go_wp2_with fail
        refine hr.mono ?_
        rintro e w1 ⟨rfl, hb1⟩
        go_wp2_with fail
        go_roundw
        case rel =>
          refine ⟨i, h, rfl, rfl, by omega, by omega, hlo, fun k hk hk2 => ?_, hB.trans (hb1.mono hs)⟩
          rcases Nat.lt_or_ge h k with hkh | hkh
          · have := hsort h k hkh hk2; omega
          · rw [show k = h by omega]; omega
        case measure => simp [intOf]; omega
    · obtain rfl : i = j := by omega
      by_cases hil : i < L
      · obtain ⟨g, o, rfl, hg, hcell⟩ := hcl.resolve_left (by omega)
        obtain ⟨c0, c1, c2, c3⟩ := (hcell i (by omega)).below hB hg
        have hr := hrow (pu ps i) wr hB
        have hs := hB.size
        clear hcell hcl hrow
        go_wp2_with fail
        refine hr.mono ?_
        rintro e w1 ⟨rfl, hb1⟩
        go_wp2_with fail
        go_ret2
        refine ⟨i, _, rfl, by omega, hlo, hup, ?_, hB.trans (hb1.mono hs)⟩
        rw [show cmpI (pu ps i).f0 n = if (pu ps i).f0 < n then -1 else if n < (pu ps i).f0 then 1 else 0 from rfl]
        by_cases h1 : (pu ps i).f0 < n
        · rw [if_pos h1]; simp; omega
        · by_cases h2 : n < (pu ps i).f0
          · rw [if_neg h1, if_pos h2]; simp; omega
          · rw [if_neg h1, if_neg h2]; simp; omega
      · go_wp2_with fail
        go_ret2
        refine ⟨i, false, rfl, by omega, hlo, hup, by simp; omega, hB⟩

theorem row_any (ps : List S35) (n : Int) (A : Option Addr) (c : Nat) (w : World) (hC : Kd.C k35 w A ps.length ps) (hlen : ps.length ≤ 1000)
    (hsort : ∀ i j, i < j → j < ps.length → (pu ps i).f0 < (pu ps j).f0) :
    Calls Try.prog 42 #[.slice A ps.length c, .int .i64 n, .func (.func 43) #[] #[]] w fun e w' =>
      ∃ (i : Nat) (t : Bool), e = .returned (.tuple #[.int .i64 i, .bool t]) ∧ i ≤ ps.length ∧ (∀ k, k < i → (pu ps k).f0 < n) ∧ (∀ k, i ≤ k → k < ps.length → n ≤ (pu ps k).f0) ∧
        (t = true ↔ i < ps.length ∧ (pu ps i).f0 = n) ∧ Below w.heap.size w w' := by
  have hb : (w.alloc (.cells #[.func (.func 43) #[] #[]] 75)).cell? ⟨w.heap.size, 0, none⟩ = some (.func (.func 43) #[] #[]) := by
    have h : (w.alloc (.cells #[.func (.func 43) #[] #[]] 75)).heap[w.heap.size]? = some (.cells #[.func (.func 43) #[] #[]] 75) := World.alloc_heap_new w _
    simp only [World.cell?, h]
    rfl
  have hs := search_any ps n A c w.heap.size (w.alloc (.cells #[.func (.func 43) #[] #[]] 75)) (Kd.C_alloc hC _) hlen hb hsort
  go_enter Try.func42, Try.ntmps42
  go_wp2_with fail
  refine hs.mono ?_
  rintro e w1 ⟨i, t, rfl, h1, h2, h3, h4, h5⟩
  go_wp2_with fail
  go_ret2
  exact ⟨i, t, rfl, h1, h2, h3, h4, ((Below.refl _ w).alloc (Nat.le_refl _) _).trans (h5.mono (by simp))⟩

theorem place_any (ps : List S35) (now n : Int) (A : Option Addr) (c : Nat) (w : World) (hC : Kd.C k35 w A ps.length ps) (hlen : ps.length ≤ 1000)
    (hsort : ∀ i j, i < j → j < ps.length → (pu ps i).f0 < (pu ps j).f0) :
    Calls Try.prog 31 #[.agg #[.int .i64 now, .slice A ps.length c], .int .i64 n] w fun e w' =>
      ∃ (i : Nat) (t : Bool), e = .returned (.tuple #[.int .i64 i, .bool t]) ∧ i ≤ ps.length ∧ (∀ k, k < i → (pu ps k).f0 < n) ∧ (∀ k, i ≤ k → k < ps.length → n ≤ (pu ps k).f0) ∧
        (t = true ↔ i < ps.length ∧ (pu ps i).f0 = n) ∧ Below w.heap.size w w' := by
  have hs := row_any ps n A c (w.alloc (.cells #[.int .i64 now, .slice A ps.length c] 24)) (Kd.C_alloc hC _) hlen hsort
  go_enter Try.func31, Try.ntmps31
  go_wp2_with fail
  refine hs.mono ?_
  rintro e w1 ⟨i, t, rfl, h1, h2, h3, h4, h5⟩
  go_wp2_with fail
  go_ret2
  exact ⟨i, t, rfl, h1, h2, h3, h4, ((Below.refl _ w).alloc (Nat.le_refl _) _).trans (h5.mono (by simp))⟩

end Go.Proofs.Ytplkimgoogoadaa
