/- What is given back is taken again, plainly. -/
import Derived.Test.YtifhimdhmlmgkaaL7
namespace Go.Proofs.Ytifhimdhmlmgkaa
open Go.RowKit

theorem rd_ext {a b : List Int} (hl : a.length = b.length) (h : ∀ i, i < a.length → rd a i = rd b i) : a = b := by
  refine List.ext_getElem hl fun i h1 h2 => ?_
  have := h i h1
  unfold rd at this
  rwa [List.getElem?_eq_getElem h1, List.getElem?_eq_getElem h2] at this

def off (b : Blk) : Blk := { b with taken := false }

theorem Lay.app : ∀ {xs ys : List Blk} {a e : Nat}, Lay a (xs ++ ys) e → ∃ m, Lay a xs m ∧ Lay m ys e
  | [], _, a, _, h => ⟨a, rfl, h⟩
  | x :: xs, ys, a, e, ⟨h1, h2, h3⟩ => by
    obtain ⟨m, k1, k2⟩ := Lay.app h3
    exact ⟨m, ⟨h1, h2, k1⟩, k2⟩

/-- The first blocks are taken and empty, the others were given back. -/
structure Gone (s : St) (pre post : List Blk) : Prop where
  iv : Inv s
  bs : s.bs = pre ++ post.map off
  tk : ∀ b ∈ pre, b.taken = true
  tp : ∀ b ∈ post, b.taken = true
  zr : ∀ b ∈ pre, ∀ i, i < sz b.cls → rd s.ws (b.place + i) = 0
  r5 : rd s.ws 5 = 0
  r6 : rd s.ws 6 = 0

def sevenS (s : St) (b : Blk) : St := { s with ws := s.ws.set (b.place + (0 : Int).toNat) 7 }
def givenS (s : St) (b : Blk) : St := freeS (sevenS s b) b

theorem seven_eq {s : St} {b : Blk} (h : Inv s) (hb : b ∈ s.bs) (ht : b.taken = true) : storeR s b.place 0 7 = (sevenS s b, 0) := by
  unfold storeR
  rw [findB_mem h hb ht]
  have := sz_pos b.cls
  simp only
  rw [if_neg (by omega)]
  rfl

theorem seven_inv {s : St} {b : Blk} (h : Inv s) (hb : b ∈ s.bs) (ht : b.taken = true) : Inv (sevenS s b) := by
  have := h.store hb ht (i := (0 : Int).toNat) (by have := sz_pos b.cls; omega) 7
  exact this

theorem given_eq {s : St} {b : Blk} (h : Inv s) (hb : b ∈ s.bs) (ht : b.taken = true) (h5 : rd s.ws 5 = 0) (h6 : rd s.ws 6 = 0) : freeR (sevenS s b) b.place = (givenS s b, 0) := by
  have hm := h.lay.mem b hb
  unfold freeR
  rw [findB_mem (seven_inv h hb ht) (s := sevenS s b) hb ht]
  simp only
  have e5 : rd (sevenS s b).ws 5 = 0 := by
    show rd (s.ws.set _ _) 5 = 0
    rw [rd_set, if_neg (by omega), h5]
  have e6 : rd (sevenS s b).ws 6 = 0 := by
    show rd (s.ws.set _ _) 6 = 0
    rw [rd_set, if_neg (by omega), h6]
  rw [e5, e6, if_neg (by omega)]
  rfl

theorem given_no {s : St} {b : Blk} : freeR (givenS s b) b.place = (givenS s b, 4) := by
  have : findB (givenS s b).bs b.place = none := by
    show (mark s.bs b.place false).find? _ = none
    refine List.find?_eq_none.2 fun x hx => ?_
    obtain ⟨y, hy, rfl⟩ := mem_mark hx
    by_cases hp : y.place = b.place
    · rw [if_pos hp]; simp
    · rw [if_neg hp]; simp; omega
  unfold freeR
  rw [this]

theorem mark_mark {bs : List Blk} {b : Blk} (hu : ∀ x ∈ bs, x.place = b.place → x = b) (ht : b.taken = true) : mark (mark bs b.place false) b.place true = bs := by
  unfold mark
  rw [List.map_map]
  refine Eq.trans (List.map_congr_left (g := id) fun x hx => ?_) (List.map_id _)
  simp only [Function.comp]
  by_cases hp : x.place = b.place
  · rw [if_pos hp]
    have := hu x hx hp
    subst this
    simp only [if_true, id]
    rw [← ht]
  · rw [if_neg hp, if_neg hp]
    rfl

theorem again_eq {s : St} {b : Blk} (h : Inv s) (hb : b ∈ s.bs) (ht : b.taken = true) (hz : ∀ i, i < sz b.cls → rd s.ws (b.place + i) = 0) : allocR (givenS s b) b.cls = (s, (b.place : Int), 0) := by
  obtain ⟨m1, m2, m3⟩ := h.lay.mem b hb
  have hle := h.le
  have hsz := sz_pos b.cls
  unfold allocR
  rw [if_neg (by omega)]
  have hls : (givenS s b).ls b.cls = b.place :: s.ls b.cls := by
    show upd _ _ _ _ = _
    unfold upd
    rw [if_pos rfl]
    rfl
  simp only [Int.toNat_natCast, hls]
  have hs : listS (givenS s b) b.cls b.place (s.ls b.cls) = s := by
    have hws : (listS (givenS s b) b.cls b.place (s.ls b.cls)).ws = s.ws := by
      show listW (freeW (s.ws.set (b.place + (0 : Int).toNat) 7) b.place b.cls) b.cls b.place = s.ws
      refine rd_ext (by rw [len_listW, len_freeW]; simp) fun i hi => ?_
      rw [rd_listW m3 (by omega) (by rw [len_freeW]; simp; omega)]
      have hF := rd_freeW (ws := s.ws.set (b.place + (0 : Int).toNat) 7) m3 (show 17 ≤ b.place by omega) (by simp; omega)
      by_cases h1 : b.place ≤ i ∧ i < b.place + sz b.cls
      · rw [if_pos h1]
        have := hz (i - b.place) (by omega)
        rw [show b.place + (i - b.place) = i by omega] at this
        exact this.symm
      · rw [if_neg h1]
        by_cases h2 : i = b.place - 1
        · rw [if_pos h2, h2, h.hds b hb]
          unfold hd
          rw [ht]
          simp; omega
        · rw [if_neg h2]
          by_cases h3 : i = 9 + b.cls
          · rw [if_pos h3, hF, if_neg (by omega), if_neg (by omega), if_pos rfl, rd_set, if_neg (by omega), h3]
          · rw [if_neg h3, hF, if_neg h3, if_neg h2, if_neg (by omega), if_neg h1, rd_set, if_neg (by omega)]
    have hbs : (listS (givenS s b) b.cls b.place (s.ls b.cls)).bs = s.bs := mark_mark (fun x hx hp => h.lay.inj hx hb hp) ht
    have hl : (listS (givenS s b) b.cls b.place (s.ls b.cls)).ls = s.ls := by
      funext k
      show upd (upd s.ls b.cls (b.place :: s.ls b.cls)) b.cls (s.ls b.cls) k = s.ls k
      unfold upd
      by_cases hk : k = b.cls
      · rw [if_pos hk, hk]
      · rw [if_neg hk, if_neg hk]
    obtain ⟨ws, bs, e, ls⟩ := s
    simp only [listS] at hws hbs hl ⊢
    rw [hws, hbs, hl]
    rfl
  rw [hs]

theorem Gone.give {s : St} {pre post : List Blk} {b : Blk} (h : Gone s (pre ++ [b]) post) : Gone (givenS s b) pre (b :: post) := by
  have hb : b ∈ s.bs := by rw [h.bs]; simp
  have ht := h.tk b (by simp)
  obtain ⟨m1, m2, m3⟩ := h.iv.lay.mem b hb
  have hle := h.iv.le
  have hsz := sz_pos b.cls
  have hL := h.iv.lay
  rw [h.bs, List.append_assoc] at hL
  obtain ⟨m, k1, k2⟩ := hL.app
  obtain ⟨k3, k4, k5⟩ : b.place = m + 1 ∧ b.cls ≤ 5 ∧ Lay (m + 1 + sz b.cls) (post.map off) s.e := k2
  have hF := rd_freeW (ws := s.ws.set (b.place + (0 : Int).toNat) 7) m3 (show 17 ≤ b.place by omega) (by simp; omega)
  refine ⟨(seven_inv h.iv hb ht).freeS (s := sevenS s b) hb ht, ?_, fun x hx => h.tk x (by simp [hx]), ?_, ?_, ?_, ?_⟩
  · show mark s.bs b.place false = _
    rw [h.bs]
    unfold mark
    rw [List.map_append, List.map_append, List.map_cons, List.map_nil, if_pos rfl, List.append_assoc]
    congr 1
    · refine Eq.trans (List.map_congr_left (g := id) fun x hx => ?_) (List.map_id _)
      have := k1.mem x hx
      have := sz_pos x.cls
      rw [if_neg (by omega)]
      rfl
    · show _ = off b :: post.map off
      rw [List.singleton_append]
      congr 1
      refine Eq.trans (List.map_congr_left (g := id) fun x hx => ?_) (List.map_id _)
      have := k5.mem x hx
      rw [if_neg (by omega)]
      rfl
  · intro x hx
    rcases List.mem_cons.1 hx with rfl | hx
    · exact ht
    · exact h.tp x hx
  · intro x hx i hi
    have := k1.mem x hx
    show rd (freeW (s.ws.set (b.place + (0 : Int).toNat) 7) b.place b.cls) (x.place + i) = 0
    rw [hF, if_neg (by omega), if_neg (by omega), if_neg (by omega), if_neg (by omega), rd_set, if_neg (by omega)]
    exact h.zr x (by simp [hx]) i hi
  · show rd (freeW (s.ws.set (b.place + (0 : Int).toNat) 7) b.place b.cls) 5 = 0
    rw [hF, if_neg (by omega), if_neg (by omega), if_neg (by omega), if_neg (by omega), rd_set, if_neg (by omega)]
    exact h.r5
  · show rd (freeW (s.ws.set (b.place + (0 : Int).toNat) 7) b.place b.cls) 6 = 0
    rw [hF, if_neg (by omega), if_neg (by omega), if_neg (by omega), if_neg (by omega), rd_set, if_neg (by omega)]
    exact h.r6

/-- What was given back, the last one first. -/
def stk (s : St) : List Blk → St
  | [] => s
  | b :: post => givenS (stk s post) b

/-- Blocks are taken of an arena that never gave one back. -/
structure Fresh (s : St) : Prop where
  gone : Gone s s.bs []
  ls : ∀ c, c ≤ 5 → s.ls c = []

theorem Fresh.stk {s : St} (h : Fresh s) : ∀ (post pre : List Blk), s.bs = pre ++ post → Gone (Ytifhimdhmlmgkaa.stk s post) pre post
  | [], pre, hp => by rw [List.append_nil] at hp; rw [← hp]; exact h.gone
  | b :: post, pre, hp => (Fresh.stk h post (pre ++ [b]) (by rw [hp]; simp)).give

theorem Fresh.new (n : Nat) (hn : 64 ≤ n) : Fresh (newS n) :=
  ⟨⟨Inv.new n hn, by simp [newS], (fun b hb => by cases hb), (fun b hb => by cases hb), (fun b hb => by cases hb), by rw [rd_new n _ hn]; rfl, by rw [rd_new n _ hn]; rfl⟩, fun _ _ => rfl⟩

theorem Fresh.alloc {s : St} (h : Fresh s) (c : Nat) (hc : c ≤ 5) : allocR s c = (s, 0, 6) ∨
    (allocR s c = (edgeS s c, (s.e : Int) + 1, 0) ∧ Fresh (edgeS s c) ∧ (edgeS s c).bs = s.bs ++ [⟨s.e + 1, c, true⟩]) := by
  unfold allocR
  rw [if_neg (by omega)]
  simp only [Int.toNat_natCast, h.ls c hc]
  by_cases hf : s.ws.length < s.e + 1 + sz c
  · simp only [if_pos hf]; exact .inl trivial
  · simp only [if_neg hf]
    have h16 := h.gone.iv.e16
    have hsz := sz_pos c
    have hR := rd_edgeW (ws := s.ws) h16 (show s.e + 1 + sz c ≤ s.ws.length by omega)
    refine .inr ⟨trivial, ⟨⟨h.gone.iv.edgeS hc (by omega), by simp, ?_, (fun b hb => by cases hb), ?_, ?_, ?_⟩, h.ls⟩, rfl⟩
    · intro b hb
      rcases List.mem_append.1 hb with hb | hb
      · exact h.gone.tk b hb
      · have : b = ⟨s.e + 1, c, true⟩ := by simpa using hb
        rw [this]
    · intro b hb i hi
      show rd (edgeW s.ws c s.e) (b.place + i) = 0
      rcases List.mem_append.1 hb with hb | hb
      · have := h.gone.iv.lay.mem b hb
        rw [hR, if_neg (by omega), if_neg (by omega), if_neg (by omega)]
        exact h.gone.zr b hb i hi
      · have : b = ⟨s.e + 1, c, true⟩ := by simpa using hb
        subst this
        simp only at hi
        rw [hR, if_pos (by simp only; omega)]
    · show rd (edgeW s.ws c s.e) 5 = 0
      rw [hR, if_neg (by omega), if_neg (by omega), if_neg (by omega)]
      exact h.gone.r5
    · show rd (edgeW s.ws c s.e) 6 = 0
      rw [hR, if_neg (by omega), if_neg (by omega), if_neg (by omega)]
      exact h.gone.r6

end Go.Proofs.Ytifhimdhmlmgkaa
