/- The arena's operations, each by its plain answer. -/
import Derived.Test.YtifhimdhmlmgkaaL2
namespace Go.Proofs.Ytifhimdhmlmgkaa
open Go.RowKit

/-- Block A is an arena, its words in block B, in this state. -/
structure Is (w : World) (A B : Nat) (s : St) : Prop where
  ar : Ar w A B s.ws
  iv : Inv s

theorem Is.arb {w : World} {A B : Nat} {s : St} (h : Is w A B s) : Arb w A B s.ws s.bs s.e :=
  ⟨h.ar, chain_iff.2 ⟨h.iv.lay, h.iv.hds⟩, h.iv.ed, h.iv.le⟩
theorem Is.next {w w' : World} {A B : Nat} {s : St} (h : Is w A B s) (k : Below w.heap.size w w') : Is w' A B s := ⟨h.ar.next k, h.iv⟩
theorem Is.drewN {w : World} {A B : Nat} {s : St} (h : Is w A B s) (n : Nat) : Is (w.drewN n) A B s := ⟨h.ar.drewN n, h.iv⟩

def allocR (s : St) (c : Int) : St × Int × Int :=
  if c < 0 ∨ 5 < c then (s, 0, 2) else
  match s.ls c.toNat with
  | p :: ps => (listS s c.toNat p ps, p, 0)
  | [] => if s.ws.length < s.e + 1 + sz c.toNat then (s, 0, 6) else (edgeS s c.toNat, s.e + 1, 0)

theorem alloc_is {A B : Nat} {s : St} (c : Int) {w : World} (h : Is w A B s) :
    Calls Try.prog 10 #[.pointer (some ⟨A, 0, none⟩), .int .i64 c] w fun e W' => e = .returned (.tuple #[.int .i64 (allocR s c).2.1, .int .i64 (allocR s c).2.2]) ∧ Wr B w W' ∧ Is W' A B (allocR s c).1 := by
  unfold allocR
  by_cases hc : c < 0 ∨ 5 < c
  · rw [if_pos hc]
    exact (alloc_bad c hc).mono fun e W' ⟨he, hw⟩ => by subst hw; exact ⟨he, Wr.refl _ _, h⟩
  · rw [if_neg hc]
    obtain ⟨k, rfl⟩ : ∃ k : Nat, c = k := ⟨c.toNat, by omega⟩
    have hk : k ≤ 5 := by omega
    simp only [Int.toNat_natCast]
    rcases hl : s.ls k with _ | ⟨p, ps⟩
    · have h0 : rd s.ws (9 + k) = 0 := by have := h.iv.fl k hk; rw [hl] at this; exact this
      by_cases hf : s.ws.length < s.e + 1 + sz k
      · simp only [if_pos hf]
        exact (alloc_full k s.e h.ar hk h0 h.iv.ed h.iv.le hf).mono fun e W' ⟨he, hb⟩ => ⟨he, Wr.of_below hb, h.next hb⟩
      · simp only [if_neg hf]
        exact (alloc_edge k s.e h.ar hk h0 h.iv.ed h.iv.e16 (by omega)).mono fun e W' ⟨he, hw, ha⟩ => ⟨he, hw, ha, h.iv.edgeS hk (by omega)⟩
    · have hp : rd s.ws (9 + k) = p := by have := h.iv.fl k hk; rw [hl] at this; exact this.1
      have hb := h.iv.fr k hk p (by rw [hl]; exact List.mem_cons_self ..)
      obtain ⟨m1, m2, m3⟩ := h.iv.lay.mem _ hb
      have hle := h.iv.le
      simp only at m1 m2
      exact (alloc_list k p h.ar hk hp (by omega) (by omega)).mono fun e W' ⟨he, hw, ha⟩ => ⟨he, hw, ha, h.iv.listS hk hl⟩

def freeR (s : St) (p : Int) : St × Int :=
  match findB s.bs p with
  | none => (s, 4)
  | some b => if rd s.ws 5 = p ∨ rd s.ws 6 = p then (s, 2) else (freeS s b, 0)

theorem free_is {A B : Nat} {s : St} (p : Int) {w : World} (h : Is w A B s) :
    Calls Try.prog 20 #[.pointer (some ⟨A, 0, none⟩), .int .i64 p] w fun e W' => e = .returned (.int .i64 (freeR s p).2) ∧ Wr B w W' ∧ Is W' A B (freeR s p).1 := by
  unfold freeR
  rcases hn : findB s.bs p with _ | b
  · exact (free_none p h.arb hn).mono fun e W' ⟨he, hb⟩ => ⟨he, Wr.of_below hb, h.next hb⟩
  · obtain ⟨hm, ht, rfl⟩ := findB_some hn
    by_cases hr : rd s.ws 5 = b.place ∨ rd s.ws 6 = b.place
    · simp only [if_pos hr]
      exact (free_root b h.arb hn hr).mono fun e W' ⟨he, hb⟩ => ⟨he, Wr.of_below hb, h.next hb⟩
    · simp only [if_neg hr]
      exact (free_yes b h.arb hn (by omega) (by omega)).mono fun e W' ⟨he, hw, ha⟩ => ⟨he, hw, ha, h.iv.freeS hm ht⟩

def loadR (s : St) (p i : Int) : Int × Int :=
  match findB s.bs p with
  | none => (0, 4)
  | some b => if i < 0 ∨ sz b.cls ≤ i then (0, 2) else (rd s.ws (b.place + i.toNat), 0)

theorem load_is {A B : Nat} {s : St} (p i : Int) {w : World} (h : Is w A B s) :
    Calls Try.prog 14 #[.pointer (some ⟨A, 0, none⟩), .int .i64 p, .int .i64 i] w fun e W' => e = .returned (.tuple #[.int .u32 (loadR s p i).1, .int .i64 (loadR s p i).2]) ∧ Below w.heap.size w W' := by
  unfold loadR
  rcases hn : findB s.bs p with _ | b
  · exact load_none p i h.arb hn
  · obtain ⟨hm, ht, rfl⟩ := findB_some hn
    by_cases hr : i < 0 ∨ sz b.cls ≤ i
    · simp only [if_pos hr]
      exact load_out b i h.arb hn hr
    · simp only [if_neg hr]
      obtain ⟨k, rfl⟩ : ∃ k : Nat, i = k := ⟨i.toNat, by omega⟩
      exact load_some b k h.arb hn (by omega)

def storeR (s : St) (p i x : Int) : St × Int :=
  match findB s.bs p with
  | none => (s, 4)
  | some b => if i < 0 ∨ sz b.cls ≤ i then (s, 2) else ({ s with ws := s.ws.set (b.place + i.toNat) x }, 0)

theorem store_is {A B : Nat} {s : St} (p i x : Int) {w : World} (h : Is w A B s) (hx0 : 0 ≤ x) (hx1 : x < 4294967296) :
    Calls Try.prog 11 #[.pointer (some ⟨A, 0, none⟩), .int .i64 p, .int .i64 i, .int .u32 x] w fun e W' => e = .returned (.int .i64 (storeR s p i x).2) ∧ Wr B w W' ∧ Is W' A B (storeR s p i x).1 := by
  unfold storeR
  rcases hn : findB s.bs p with _ | b
  · exact (store_none p i x h.arb hn).mono fun e W' ⟨he, hb⟩ => ⟨he, Wr.of_below hb, h.next hb⟩
  · obtain ⟨hm, ht, rfl⟩ := findB_some hn
    by_cases hr : i < 0 ∨ sz b.cls ≤ i
    · simp only [if_pos hr]
      exact (store_out b i x h.arb hn hr).mono fun e W' ⟨he, hb⟩ => ⟨he, Wr.of_below hb, h.next hb⟩
    · simp only [if_neg hr]
      obtain ⟨k, rfl⟩ : ∃ k : Nat, i = k := ⟨i.toNat, by omega⟩
      exact (store_some b k x h.arb hn (by omega) hx0 hx1).mono fun e W' ⟨he, hw, ha⟩ => ⟨he, hw, ha, h.iv.store hm ht (by omega) x⟩

def pubR (s : St) (v ep f x : Int) : St × Int :=
  if ep < u64at s.ws 7 then (s, 161)
  else if v = 0 ∨ v - 1 ≠ u64at s.ws 1 then (s, 162)
  else if liesB s.bs f = false ∨ liesB s.bs x = false then (s, 4)
  else ({ s with ws := pubW s.ws v ep f x }, 0)

theorem pub_is {A B : Nat} {s : St} (v ep f x : Int) {w : World} (h : Is w A B s) (hv0 : 0 ≤ v) (hv1 : v < 18446744073709551616) (he0 : 0 ≤ ep) (he1 : ep < 18446744073709551616) :
    Calls Try.prog 21 #[.pointer (some ⟨A, 0, none⟩), .agg #[.int .u64 v, .int .u64 ep, .int .i64 f, .int .i64 x]] w fun e W' => e = .returned (.int .i64 (pubR s v ep f x).2) ∧ Wr B w W' ∧ Is W' A B (pubR s v ep f x).1 := by
  have hbb : ∀ {e : Ending} {W' : World} {k : Int}, e = .returned (.int .i64 k) ∧ Below w.heap.size w W' → e = .returned (.int .i64 k) ∧ Wr B w W' ∧ Is W' A B s := fun ⟨he, hb⟩ => ⟨he, Wr.of_below hb, h.next hb⟩
  unfold pubR
  by_cases h1 : ep < u64at s.ws 7
  · simp only [if_pos h1]
    exact (pub_fence v ep f x h.ar h1).mono fun _ _ k => hbb k
  · simp only [if_neg h1]
    by_cases h2 : v = 0
    · subst h2
      rw [if_pos (.inl rfl)]
      exact (pub_zero ep f x h.ar (by omega)).mono fun _ _ k => hbb k
    · by_cases h3 : v - 1 ≠ u64at s.ws 1
      · rw [if_pos (.inr h3)]
        exact (pub_ver v ep f x h.arb (by omega) (by omega) hv1 h3).mono fun _ _ k => hbb k
      · rw [if_neg (by omega)]
        have h3' : v - 1 = u64at s.ws 1 := by omega
        rcases hf : liesB s.bs f with _ | _
        · simp only [true_or, if_true]
          exact (pub_four v ep f x h.arb (by omega) (by omega) hv1 h3' hf).mono fun _ _ k => hbb k
        · rcases hs : liesB s.bs x with _ | _
          · simp only [or_true, if_true]
            exact (pub_six v ep f x h.arb (by omega) (by omega) hv1 h3' hf hs).mono fun _ _ k => hbb k
          · simp only [Bool.true_eq_false, or_self, if_false]
            exact (pub_ok v ep f x h.arb (by omega) (by omega) hv1 h3' hf hs he1 he0).mono fun e W' ⟨he, hw, ha⟩ => ⟨he, hw, ha, h.iv.pub v ep f x⟩

def raiseR (s : St) (x : Int) : St × Int := if x < u64at s.ws 7 then (s, 161) else ({ s with ws := put2 s.ws 7 x }, 0)

theorem raise_is {A B : Nat} {s : St} (x : Int) {w : World} (h : Is w A B s) (hx0 : 0 ≤ x) (hx1 : x < 18446744073709551616) :
    Calls Try.prog 22 #[.pointer (some ⟨A, 0, none⟩), .int .u64 x] w fun e W' => e = .returned (.int .i64 (raiseR s x).2) ∧ Wr B w W' ∧ Is W' A B (raiseR s x).1 := by
  unfold raiseR
  by_cases h1 : x < u64at s.ws 7
  · simp only [if_pos h1]
    exact (raise_no h.ar x hx0 h1).mono fun e W' ⟨he, n, hw⟩ => by subst hw; exact ⟨he, Wr.drewN _ _ _, h.drewN n⟩
  · simp only [if_neg h1]
    exact (raise_yes h.ar x hx0 hx1 (by omega)).mono fun e W' ⟨he, ha, hw, _⟩ => ⟨he, hw, ha, h.iv.raise x⟩

theorem root_is {A B : Nat} {s : St} {w : World} (h : Is w A B s) :
    Calls Try.prog 18 #[.pointer (some ⟨A, 0, none⟩)] w fun e w' => e = .returned (rootV s.ws) ∧ Below w.heap.size w w' := root_any h.ar
theorem fence_is {A B : Nat} {s : St} {w : World} (h : Is w A B s) :
    Calls Try.prog 23 #[.pointer (some ⟨A, 0, none⟩)] w fun e w' => e = .returned (.int .u64 (u64at s.ws 7)) ∧ Below w.heap.size w w' :=
  (fence_any h.ar).mono fun e w' ⟨he, n, hw⟩ => by subst hw; exact ⟨he, bDrewN (Below.refl _ _) n⟩

theorem new_is (n : Nat) (w : World) (h0 : 64 ≤ n) (h1 : n ≤ 16384) :
    Calls Try.prog 9 #[.int .i64 n] w fun e W' => e = .returned (.tuple #[.pointer (some ⟨w.heap.size + 1, 0, none⟩), .int .i64 0]) ∧ Below w.heap.size w W' ∧ Is W' (w.heap.size + 1) w.heap.size (newS n) :=
  (new_any n w h0 h1).mono fun _ _ ⟨he, hb, ha⟩ => ⟨he, hb, ha, Inv.new n h0⟩
end Go.Proofs.Ytifhimdhmlmgkaa
