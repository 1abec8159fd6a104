/- The law's first line: the layer does something. -/
import Derived.Test.YtifhimdhmlmgkaaL5
namespace Go.Proofs.Ytifhimdhmlmgkaa
open Go.RowKit

/-- An arena behind a world: what was there ahead of it is as it was. -/
structure Arn (w0 w : World) (A B : Nat) (s : St) : Prop where
  is : Is w A B s
  bl : Below w0.heap.size w0 w
  b0 : w0.heap.size ≤ B

theorem Arn.wr {w0 w w' : World} {A B : Nat} {s s' : St} (h : Arn w0 w A B s) (k : Wr B w w') (k' : Is w' A B s') : Arn w0 w' A B s' :=
  ⟨k', h.bl.trans (k.below h.b0 h.is.ar.ltB), h.b0⟩
theorem Arn.next {w0 w w' : World} {A B : Nat} {s : St} (h : Arn w0 w A B s) (k : Below w.heap.size w w') : Arn w0 w' A B s :=
  ⟨h.is.next k, h.bl.trans (k.mono h.bl.size), h.b0⟩

theorem alloc_arn {w0 w : World} {A B : Nat} {s : St} (h : Arn w0 w A B s) (c p e : Int) (s' : St) (hr : allocR s c = (s', p, e)) :
    Calls Try.prog 10 #[.pointer (some ⟨A, 0, none⟩), .int .i64 c] w fun x W' => x = .returned (.tuple #[.int .i64 p, .int .i64 e]) ∧ Arn w0 W' A B s' := by
  have := alloc_is c h.is
  rw [hr] at this
  exact this.mono fun x W' k => ⟨k.1, h.wr k.2.1 k.2.2⟩
theorem free_arn {w0 w : World} {A B : Nat} {s : St} (h : Arn w0 w A B s) (p e : Int) (s' : St) (hr : freeR s p = (s', e)) :
    Calls Try.prog 20 #[.pointer (some ⟨A, 0, none⟩), .int .i64 p] w fun x W' => x = .returned (.int .i64 e) ∧ Arn w0 W' A B s' := by
  have := free_is p h.is
  rw [hr] at this
  exact this.mono fun x W' k => ⟨k.1, h.wr k.2.1 k.2.2⟩
theorem load_arn {w0 w : World} {A B : Nat} {s : St} (h : Arn w0 w A B s) (p i x e : Int) (hr : loadR s p i = (x, e)) :
    Calls Try.prog 14 #[.pointer (some ⟨A, 0, none⟩), .int .i64 p, .int .i64 i] w fun r W' => r = .returned (.tuple #[.int .u32 x, .int .i64 e]) ∧ Arn w0 W' A B s := by
  have := load_is p i h.is
  rw [hr] at this
  exact this.mono fun x W' k => ⟨k.1, h.next k.2⟩
theorem store_arn {w0 w : World} {A B : Nat} {s : St} (h : Arn w0 w A B s) (p i x e : Int) (s' : St) (hx0 : 0 ≤ x) (hx1 : x < 4294967296) (hr : storeR s p i x = (s', e)) :
    Calls Try.prog 11 #[.pointer (some ⟨A, 0, none⟩), .int .i64 p, .int .i64 i, .int .u32 x] w fun r W' => r = .returned (.int .i64 e) ∧ Arn w0 W' A B s' := by
  have := store_is p i x h.is hx0 hx1
  rw [hr] at this
  exact this.mono fun x W' k => ⟨k.1, h.wr k.2.1 k.2.2⟩
theorem pub_arn {w0 w : World} {A B : Nat} {s : St} (h : Arn w0 w A B s) (v ep f x e : Int) (s' : St) (hv0 : 0 ≤ v) (hv1 : v < 18446744073709551616) (he0 : 0 ≤ ep) (he1 : ep < 18446744073709551616) (hr : pubR s v ep f x = (s', e)) :
    Calls Try.prog 21 #[.pointer (some ⟨A, 0, none⟩), .agg #[.int .u64 v, .int .u64 ep, .int .i64 f, .int .i64 x]] w fun r W' => r = .returned (.int .i64 e) ∧ Arn w0 W' A B s' := by
  have := pub_is v ep f x h.is hv0 hv1 he0 he1
  rw [hr] at this
  exact this.mono fun x W' k => ⟨k.1, h.wr k.2.1 k.2.2⟩
theorem raise_arn {w0 w : World} {A B : Nat} {s : St} (h : Arn w0 w A B s) (x e : Int) (s' : St) (hx0 : 0 ≤ x) (hx1 : x < 18446744073709551616) (hr : raiseR s x = (s', e)) :
    Calls Try.prog 22 #[.pointer (some ⟨A, 0, none⟩), .int .u64 x] w fun r W' => r = .returned (.int .i64 e) ∧ Arn w0 W' A B s' := by
  have := raise_is x h.is hx0 hx1
  rw [hr] at this
  exact this.mono fun x W' k => ⟨k.1, h.wr k.2.1 k.2.2⟩
theorem left_arn {w0 w : World} {A B : Nat} {s : St} (h : Arn w0 w A B s) (n : Int) (hn : (s.ws.length : Int) - s.e = n) :
    Calls Try.prog 15 #[.pointer (some ⟨A, 0, none⟩)] w fun r W' => r = .returned (.int .i64 n) ∧ Arn w0 W' A B s := by
  have := left_any h.is.ar
  rw [h.is.iv.ed, hn] at this
  exact this.mono fun x W' ⟨k, m, hm⟩ => by subst hm; exact ⟨k, h.next (bDrewN (Below.refl _ _) m)⟩
theorem fence_arn {w0 w : World} {A B : Nat} {s : St} (h : Arn w0 w A B s) (n : Int) (hn : u64at s.ws 7 = n) :
    Calls Try.prog 23 #[.pointer (some ⟨A, 0, none⟩)] w fun r W' => r = .returned (.int .u64 n) ∧ Arn w0 W' A B s := by
  have := fence_is h.is
  rw [hn] at this
  exact this.mono fun x W' k => ⟨k.1, h.next k.2⟩

def wk1 : St := (allocR (newS 64) 0).1
def wk2 : St := (allocR wk1 2).1
def wk3 : St := (storeR wk2 19 3 7).1
def wk4 : St := (pubR wk3 1 0 19 0).1
def wk5 : St := (raiseR wk4 2).1

theorem wk1_eq : allocR (newS 64) 0 = (wk1, 17, 0) := rfl
theorem wk2_eq : allocR wk1 2 = (wk2, 19, 0) := rfl
theorem wk2_left : (wk2.ws.length : Int) - wk2.e = 41 := rfl
theorem wk3_eq : storeR wk2 19 3 7 = (wk3, 0) := rfl
theorem wk3_load : loadR wk3 19 3 = (7, 0) := rfl
theorem wk4_eq : pubR wk3 1 0 19 0 = (wk4, 0) := Prod.ext rfl (by decide +kernel)
theorem wk4_free : freeR wk4 19 = (wk4, 2) := by
  have h : findB wk4.bs 19 = some ⟨19, 2, true⟩ := by decide +kernel
  have h5 : rd wk4.ws 5 = 19 := by decide +kernel
  unfold freeR
  rw [h]
  simp only [h5, true_or, if_true]
theorem wk5_eq : raiseR wk4 2 = (wk5, 0) := Prod.ext rfl (by decide +kernel)
theorem wk5_fence : u64at wk5.ws 7 = 2 := by decide +kernel

set_option maxRecDepth 100000 in
set_option maxHeartbeats 1000000 in
theorem wakes_any (w : World) : Calls Try.prog 8 #[] w fun e W' => e = .returned (.bool true) ∧ Below w.heap.size w W' := by
  have hnew := new_is 64 w (by omega) (by omega)
  go_enter Try.func8, Try.ntmps8
  go_wp2_with fail
  refine hnew.mono ?_
  rintro e w1 ⟨rfl, hb, hi⟩
  have h0 : Arn w w1 (w.heap.size + 1) w.heap.size (newS 64) := ⟨hi, hb, Nat.le_refl _⟩
  clear hi hb hnew
  go_wp2_with fail
  refine (alloc_arn h0 0 17 0 wk1 wk1_eq).mono ?_
  rintro e w2 ⟨rfl, h1⟩
  clear h0
  go_wp2_with fail
  refine (alloc_arn h1 2 19 0 wk2 wk2_eq).mono ?_
  rintro e w3 ⟨rfl, h2⟩
  clear h1
  go_wp2_with fail
  refine (left_arn h2 41 wk2_left).mono ?_
  rintro e w4 ⟨rfl, h3⟩
  clear h2
  go_wp2_with fail
  refine (store_arn h3 19 3 7 0 wk3 (by omega) (by omega) wk3_eq).mono ?_
  rintro e w5 ⟨rfl, h4⟩
  clear h3
  go_wp2_with fail
  refine (load_arn h4 19 3 7 0 wk3_load).mono ?_
  rintro e w6 ⟨rfl, h5⟩
  clear h4
  go_wp2_with fail
  refine (pub_arn h5 1 0 19 0 0 wk4 (by omega) (by omega) (by omega) (by omega) wk4_eq).mono ?_
  rintro e w7 ⟨rfl, h6⟩
  clear h5
  go_wp2_with fail
  refine (free_arn h6 19 2 wk4 wk4_free).mono ?_
  rintro e w8 ⟨rfl, h7⟩
  clear h6
  go_wp2_with fail
  refine (raise_arn h7 2 0 wk5 (by omega) (by omega) wk5_eq).mono ?_
  rintro e w9 ⟨rfl, h8⟩
  clear h7
  go_wp2_with fail
  refine (fence_arn h8 2 wk5_fence).mono ?_
  rintro e w10 ⟨rfl, h9⟩
  clear h8
  go_wp2
  go_ret
  exact ⟨rfl, h9.bl⟩

end Go.Proofs.Ytifhimdhmlmgkaa
