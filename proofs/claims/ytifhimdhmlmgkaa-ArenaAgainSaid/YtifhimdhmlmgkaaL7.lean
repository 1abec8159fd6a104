/- What was stored stays, whatever happens to other blocks. -/
import Derived.Test.YtifhimdhmlmgkaaL6
namespace Go.Proofs.Ytifhimdhmlmgkaa
open Go.RowKit

theorem findB_mem {s : St} (h : Inv s) {b : Blk} (hb : b ∈ s.bs) (ht : b.taken = true) : findB s.bs b.place = some b := by
  unfold findB
  rcases hf : s.bs.find? (fun x => x.taken && (x.place : Int) == (b.place : Int)) with _ | c
  · have := List.find?_eq_none.1 hf b hb
    simp [ht] at this
  · have h1 := List.mem_of_find?_eq_some hf
    have h2 := List.find?_some hf
    simp at h2
    rw [hf, h.lay.inj h1 hb (by omega)]

/-- The block at 17 is taken, and its second word is x. -/
structure Keep (s : St) (x : Int) : Prop where
  mem : ⟨17, 1, true⟩ ∈ s.bs
  wd : rd s.ws 18 = x

theorem Keep.find {s : St} {x : Int} (h : Keep s x) (i : Inv s) : findB s.bs 17 = some ⟨17, 1, true⟩ := findB_mem i h.mem rfl

theorem Keep.load {s : St} {x : Int} (h : Keep s x) (i : Inv s) : loadR s 17 1 = (x, 0) := by
  unfold loadR
  rw [h.find i]
  have : sz 1 = 2 := rfl
  simp only [this]
  rw [if_neg (by omega)]
  rw [show (17 + (1 : Int).toNat) = 18 from rfl, h.wd]

theorem Keep.alloc {s : St} {x : Int} (h : Keep s x) (i : Inv s) (c : Int) : Keep (allocR s c).1 x := by
  unfold allocR
  by_cases hc : c < 0 ∨ 5 < c
  · rw [if_pos hc]; exact h
  · rw [if_neg hc]
    obtain ⟨k, rfl⟩ : ∃ k : Nat, c = k := ⟨c.toNat, by omega⟩
    have hk : k ≤ 5 := by omega
    have h1 : sz 1 = 2 := rfl
    simp only [Int.toNat_natCast]
    rcases hl : s.ls k with _ | ⟨p, ps⟩
    · by_cases hf : s.ws.length < s.e + 1 + sz k
      · simp only [if_pos hf]; exact h
      · simp only [if_neg hf]
        have hm := i.lay.mem _ h.mem
        simp only [h1] at hm
        refine ⟨List.mem_append.2 (.inl h.mem), ?_⟩
        show rd (edgeW s.ws k s.e) 18 = x
        rw [rd_edgeW i.e16 (by omega), if_neg (by omega), if_neg (by omega), if_neg (by omega)]
        exact h.wd
    · have hb := i.fr k hk p (by rw [hl]; exact List.mem_cons_self ..)
      obtain ⟨m1, m2, m3⟩ := i.lay.mem _ hb
      have hle := i.le
      simp only at m1 m2
      have hsep := i.lay.sep _ h.mem _ hb
      have hne : (⟨17, 1, true⟩ : Blk) ≠ ⟨p, k, false⟩ := by intro e; cases e
      have hpn : p ≠ 17 := by rintro rfl; exact hne (i.lay.inj h.mem hb rfl)
      refine ⟨mark_mem h.mem (by simpa using (Ne.symm hpn)), ?_⟩
      show rd (listW s.ws k p) 18 = x
      rw [rd_listW hk (by omega) (by omega)]
      rcases hsep with e | e | e
      · exact absurd e hne
      · simp only [h1] at e; rw [if_neg (by omega), if_neg (by omega), if_neg (by omega)]; exact h.wd
      · simp only at e; rw [if_neg (by omega), if_neg (by omega), if_neg (by omega)]; exact h.wd

theorem Keep.free {s : St} {x : Int} (h : Keep s x) (i : Inv s) (p : Int) (hp : p ≠ 17) : Keep (freeR s p).1 x := by
  unfold freeR
  rcases hn : findB s.bs p with _ | b
  · exact h
  · obtain ⟨hm, ht, rfl⟩ := findB_some hn
    simp only
    by_cases hr : rd s.ws 5 = b.place ∨ rd s.ws 6 = b.place
    · rw [if_pos hr]; exact h
    · rw [if_neg hr]
      have h1 : sz 1 = 2 := rfl
      obtain ⟨m1, m2, m3⟩ := i.lay.mem _ hm
      have hle := i.le
      refine ⟨mark_mem h.mem (by simp only; omega), ?_⟩
      show rd (freeW s.ws b.place b.cls) 18 = x
      rw [rd_freeW m3 (by omega) (by omega)]
      rcases i.lay.sep _ h.mem _ hm with e | e | e
      · rw [← e] at hp; exact absurd rfl hp
      · simp only [h1] at e; rw [if_neg (by omega), if_neg (by omega), if_neg (by omega), if_neg (by omega)]; exact h.wd
      · simp only at e; rw [if_neg (by omega), if_neg (by omega), if_neg (by omega), if_neg (by omega)]; exact h.wd

theorem Keep.store {s : St} {x : Int} (h : Keep s x) (i : Inv s) (p j y : Int) (hp : p ≠ 17) : Keep (storeR s p j y).1 x := by
  unfold storeR
  rcases hn : findB s.bs p with _ | b
  · exact h
  · obtain ⟨hm, ht, rfl⟩ := findB_some hn
    simp only
    by_cases hr : j < 0 ∨ sz b.cls ≤ j
    · rw [if_pos hr]; exact h
    · rw [if_neg hr]
      have h1 : sz 1 = 2 := rfl
      refine ⟨h.mem, ?_⟩
      show rd (s.ws.set _ _) 18 = x
      rw [rd_set, if_neg]
      · exact h.wd
      · rcases i.lay.sep _ h.mem _ hm with e | e | e
        · rw [← e] at hp; exact absurd rfl hp
        · simp only [h1] at e; omega
        · simp only at e; omega

theorem Keep.pub {s : St} {x : Int} (h : Keep s x) (v ep f g : Int) : Keep (pubR s v ep f g).1 x := by
  unfold pubR
  split
  · exact h
  · split
    · exact h
    · split
      · exact h
      · exact ⟨h.mem, (rd_pubW _ _ _ _ _ 18 (by omega)).trans h.wd⟩
theorem Keep.raise {s : St} {x : Int} (h : Keep s x) (y : Int) : Keep (raiseR s y).1 x := by
  unfold raiseR
  split
  · exact h
  · exact ⟨h.mem, (rd_put2 _ _ 18 _ (by omega) (by omega)).trans h.wd⟩

/-- An op's kind. -/
def OpV.k (o : OpV) : Int := IntKind.u64.wrap o.kind % 8
theorem OpV.k_rng (o : OpV) : 0 ≤ o.k ∧ o.k < 8 := by unfold OpV.k; rw [IntKind.wrap_u64]; omega

/-- An op that is not done: it concerns the block at 17. -/
def skips (s : St) (o : OpV) : Prop := 2 ≤ o.k ∧ o.k ≤ 5 ∧ o.k ≠ 3 ∧ rowP s.bs o = 17

theorem Keep.run {s : St} {x : Int} (h : Keep s x) (i : Inv s) (o : OpV) (hs : ¬ skips s o) : Keep (runS s o) x := by
  have hk := o.k_rng
  unfold skips at hs
  have hkk : IntKind.u64.wrap o.kind % 8 = o.k := rfl
  unfold runS
  rw [hkk]
  obtain ⟨m, hm⟩ : ∃ m : Nat, o.k = m := ⟨o.k.toNat, by omega⟩
  rw [hm] at hs ⊢
  have hm8 : m < 8 := by omega
  simp only [Int.toNat_natCast]
  obtain rfl | rfl | rfl | rfl | rfl | rfl | rfl | rfl : m = 0 ∨ m = 1 ∨ m = 2 ∨ m = 3 ∨ m = 4 ∨ m = 5 ∨ m = 6 ∨ m = 7 := by omega
  · exact h.alloc i _
  · exact h.alloc i _
  · exact h.free i _ (fun e => hs ⟨by omega, by omega, by omega, e⟩)
  · exact h
  · exact h.store i _ _ _ (fun e => hs ⟨by omega, by omega, by omega, e⟩)
  · exact h.store i _ _ _ (fun e => hs ⟨by omega, by omega, by omega, e⟩)
  · exact h.pub _ _ _ _
  · exact h.raise _

/-- The state behind the first two steps of ArenaKeeps. -/
def kp1 (n : Nat) : St := (allocR (newS n) 1).1
def kp2 (n : Nat) (x : Int) : St := (storeR (kp1 n) 17 1 x).1

theorem kp1_eq (n : Nat) (hn : 64 ≤ n) : allocR (newS n) 1 = (kp1 n, 17, 0) := by
  have h : ¬ (newS n).ws.length < (newS n).e + 1 + sz 1 := by have : sz 1 = 2 := rfl; simp [newS, this]; omega
  refine Prod.ext rfl ?_
  unfold allocR
  rw [if_neg (by omega)]
  show (if (newS n).ws.length < (newS n).e + 1 + sz 1 then ((newS n), (0 : Int), (6 : Int)) else (edgeS (newS n) 1, ((newS n).e : Int) + 1, 0)).2 = _
  rw [if_neg h]
  rfl
theorem kp1_val (n : Nat) (hn : 64 ≤ n) : kp1 n = edgeS (newS n) 1 := by
  have h : ¬ (newS n).ws.length < (newS n).e + 1 + sz 1 := by have : sz 1 = 2 := rfl; simp [newS, this]; omega
  show (if (1 : Int) < 0 ∨ (5 : Int) < 1 then _ else (if (newS n).ws.length < (newS n).e + 1 + sz 1 then ((newS n), (0 : Int), (6 : Int)) else (edgeS (newS n) 1, ((newS n).e : Int) + 1, 0))).1 = _
  rw [if_neg (by omega), if_neg h]
theorem kp1_mem (n : Nat) (hn : 64 ≤ n) : (⟨17, 1, true⟩ : Blk) ∈ (kp1 n).bs := by
  rw [kp1_val n hn]
  exact List.mem_append.2 (.inr (by simp [newS]))
theorem kp1_find (n : Nat) (hn : 64 ≤ n) : findB (kp1 n).bs 17 = some ⟨17, 1, true⟩ := by
  rw [kp1_val n hn]
  rfl
theorem kp2_eq (n : Nat) (hn : 64 ≤ n) (x : Int) : storeR (kp1 n) 17 1 x = (kp2 n x, 0) := by
  refine Prod.ext rfl ?_
  unfold storeR
  rw [kp1_find n hn]
  rfl
theorem kp2_keep (n : Nat) (hn : 64 ≤ n) (x : Int) : Keep (kp2 n x) x := by
  have e : kp2 n x = { kp1 n with ws := (kp1 n).ws.set 18 x } := by
    unfold kp2 storeR
    rw [kp1_find n hn]
    rfl
  rw [e]
  refine ⟨kp1_mem n hn, ?_⟩
  show rd ((kp1 n).ws.set 18 x) 18 = x
  rw [rd_set, if_pos]
  refine ⟨rfl, ?_⟩
  rw [kp1_val n hn]
  show 18 < (edgeW (newS n).ws 1 (newS n).e).length
  rw [len_edgeW]
  simp [newS]; omega
end Go.Proofs.Ytifhimdhmlmgkaa
