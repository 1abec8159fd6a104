/- The arena, plainly: blocks that lie one behind the other, and free lists. -/
import Derived.Test.YtifhimdhmlmgkaaA14
namespace Go.Proofs.Ytifhimdhmlmgkaa

/-- A block's head. -/
def hd (b : Blk) : Int := 16 + 2 * b.cls + (if b.taken then 1 else 0)

/-- Blocks one behind the other. -/
def Lay : Nat → List Blk → Nat → Prop
  | a, [], e => a = e
  | a, b :: bs, e => b.place = a + 1 ∧ b.cls ≤ 5 ∧ Lay (a + 1 + sz b.cls) bs e

theorem Lay.le : ∀ {bs : List Blk} {a e : Nat}, Lay a bs e → a ≤ e
  | [], _, _, h => Nat.le_of_eq h
  | b :: _, _, _, ⟨_, _, h⟩ => by have := h.le; have := sz_pos b.cls; omega

theorem Lay.mem : ∀ {bs : List Blk} {a e : Nat}, Lay a bs e → ∀ b ∈ bs, a + 1 ≤ b.place ∧ b.place + sz b.cls ≤ e ∧ b.cls ≤ 5
  | [], _, _, _, b, hb => by cases hb
  | x :: xs, a, e, ⟨h1, h2, h4⟩, b, hb => by
    rcases List.mem_cons.1 hb with rfl | hb
    · have := h4.le; exact ⟨by omega, by omega, h2⟩
    · have := Lay.mem h4 b hb; have := sz_pos x.cls; omega

theorem Lay.sep : ∀ {bs : List Blk} {a e : Nat}, Lay a bs e → ∀ b ∈ bs, ∀ b' ∈ bs, b = b' ∨ b.place + sz b.cls + 1 ≤ b'.place ∨ b'.place + sz b'.cls + 1 ≤ b.place
  | [], _, _, _, b, hb, _, _ => by cases hb
  | x :: xs, a, e, ⟨h1, h2, h4⟩, b, hb, b', hb' => by
    rcases List.mem_cons.1 hb with e1 | e1
    · rcases List.mem_cons.1 hb' with e2 | e2
      · exact .inl (e1.trans e2.symm)
      · have := h4.mem b' e2; rw [e1]; exact .inr (.inl (by omega))
    · rcases List.mem_cons.1 hb' with e2 | e2
      · have := h4.mem b e1; rw [e2]; exact .inr (.inr (by omega))
      · exact Lay.sep h4 b e1 b' e2

theorem Lay.inj {bs : List Blk} {a e : Nat} (h : Lay a bs e) {b b' : Blk} (hb : b ∈ bs) (hb' : b' ∈ bs) (hp : b.place = b'.place) : b = b' := by
  rcases h.sep b hb b' hb' with h | h | h
  · exact h
  · omega
  · omega

theorem Lay.snoc : ∀ {bs : List Blk} {a e : Nat}, Lay a bs e → ∀ (c : Nat) (t : Bool), c ≤ 5 → Lay a (bs ++ [⟨e + 1, c, t⟩]) (e + 1 + sz c)
  | [], a, e, h, c, t, hc => by have : a = e := h; subst this; exact ⟨rfl, hc, rfl⟩
  | x :: xs, a, e, ⟨h1, h2, h4⟩, c, t, hc => ⟨h1, h2, Lay.snoc h4 c t hc⟩

/-- The block at a place is taken, or given back. -/
def mark (bs : List Blk) (p : Nat) (t : Bool) : List Blk := bs.map fun b => if b.place = p then { b with taken := t } else b

theorem Lay.mark : ∀ {bs : List Blk} {a e : Nat} (p : Nat) (t : Bool), Lay a bs e → Lay a (Ytifhimdhmlmgkaa.mark bs p t) e
  | [], _, _, _, _, h => h
  | x :: xs, a, e, p, t, ⟨h1, h2, h4⟩ => by
    have := Lay.mark p t h4
    by_cases h : x.place = p
    · simp only [Ytifhimdhmlmgkaa.mark, List.map_cons, h, if_true]; exact ⟨by rw [← h]; exact h1, h2, this⟩
    · simp only [Ytifhimdhmlmgkaa.mark, List.map_cons, h, if_false]; exact ⟨h1, h2, this⟩

theorem mem_mark {bs : List Blk} {p : Nat} {t : Bool} {x : Blk} (h : x ∈ mark bs p t) : ∃ b ∈ bs, x = if b.place = p then { b with taken := t } else b := by
  obtain ⟨b, hb, e⟩ := List.mem_map.1 h
  exact ⟨b, hb, e.symm⟩
theorem mark_mem {bs : List Blk} {p : Nat} {t : Bool} {b : Blk} (h : b ∈ bs) (hp : b.place ≠ p) : b ∈ mark bs p t :=
  List.mem_map.2 ⟨b, h, by rw [if_neg hp]⟩
theorem mark_mem_at {bs : List Blk} {p c : Nat} {t u : Bool} (h : ⟨p, c, u⟩ ∈ bs) : ⟨p, c, t⟩ ∈ mark bs p t :=
  List.mem_map.2 ⟨⟨p, c, u⟩, h, by simp⟩

theorem chain_iff {ws : List Int} : ∀ {bs : List Blk} {a e : Nat}, Chain ws a bs e ↔ Lay a bs e ∧ ∀ b ∈ bs, rd ws (b.place - 1) = hd b
  | [], _, _ => ⟨fun h => ⟨h, fun _ hb => by cases hb⟩, fun h => h.1⟩
  | x :: xs, a, e => by
    constructor
    · rintro ⟨h1, h2, h3, h4⟩
      obtain ⟨k1, k2⟩ := chain_iff.1 h4
      refine ⟨⟨h1, h2, k1⟩, fun b hb => ?_⟩
      rcases List.mem_cons.1 hb with rfl | hb
      · rw [h1]; exact h3
      · exact k2 b hb
    · rintro ⟨⟨h1, h2, k1⟩, k2⟩
      refine ⟨h1, h2, ?_, chain_iff.2 ⟨k1, fun b hb => k2 b (List.mem_cons_of_mem _ hb)⟩⟩
      have := k2 x (List.mem_cons_self ..)
      rw [h1] at this
      exact this

/-- A free list. -/
def FList (ws : List Int) : Int → List Nat → Prop
  | h, [] => h = 0
  | h, p :: ps => h = p ∧ FList ws (rd ws p) ps

theorem FList.congr {ws ws' : List Int} : ∀ {l : List Nat} {h : Int}, FList ws h l → (∀ p ∈ l, rd ws' p = rd ws p) → FList ws' h l
  | [], _, h, _ => h
  | p :: ps, _, ⟨h1, h2⟩, hc => ⟨h1, by rw [hc p (List.mem_cons_self ..)]; exact h2.congr fun q hq => hc q (List.mem_cons_of_mem _ hq)⟩

structure St where
  ws : List Int
  bs : List Blk
  e : Nat
  ls : Nat → List Nat

/-- What holds of an arena at all times. -/
structure Inv (s : St) : Prop where
  lay : Lay 16 s.bs s.e
  hds : ∀ b ∈ s.bs, rd s.ws (b.place - 1) = hd b
  ed : rd s.ws 15 = s.e
  le : s.e ≤ s.ws.length
  lo : 64 ≤ s.ws.length
  fl : ∀ c, c ≤ 5 → FList s.ws (rd s.ws (9 + c)) (s.ls c)
  nd : ∀ c, c ≤ 5 → (s.ls c).Nodup
  fr : ∀ c, c ≤ 5 → ∀ p ∈ s.ls c, ⟨p, c, false⟩ ∈ s.bs

/-- The words behind a taking out of a list; from the edge on. -/
def listW (ws : List Int) (c p : Nat) : List Int := zset ((ws.set (9 + c) (rd ws p)).set (p - 1) (17 + 2 * c)) p (sz c)
def edgeW (ws : List Int) (c e : Nat) : List Int := zset ((ws.set 15 (e + 1 + sz c)).set e (17 + 2 * c)) (e + 1) (sz c)

theorem rd_listW {ws : List Int} {c p : Nat} (hc : c ≤ 5) (hp : 17 ≤ p) (hl : p + sz c ≤ ws.length) (i : Nat) :
    rd (listW ws c p) i = if p ≤ i ∧ i < p + sz c then (0 : Int) else if i = p - 1 then 17 + 2 * c else if i = 9 + c then rd ws p else rd ws i := by
  have := sz_pos c
  unfold listW
  rw [rd_zset _ _ _ _ (by simpa using hl), rd_set, rd_set]
  simp only [List.length_set]
  by_cases h1 : p ≤ i ∧ i < p + sz c
  · rw [if_pos h1, if_pos h1]
  · rw [if_neg h1, if_neg h1]
    by_cases h2 : i = p - 1
    · rw [if_pos (by omega), if_pos h2]
    · rw [if_neg (by omega), if_neg h2]
      by_cases h3 : i = 9 + c
      · rw [if_pos (by omega), if_pos h3]
      · rw [if_neg (by omega), if_neg h3]

theorem rd_edgeW {ws : List Int} {c e : Nat} (he : 16 ≤ e) (hl : e + 1 + sz c ≤ ws.length) (i : Nat) :
    rd (edgeW ws c e) i = if e + 1 ≤ i ∧ i < e + 1 + sz c then (0 : Int) else if i = e then 17 + 2 * c else if i = 15 then e + 1 + sz c else rd ws i := by
  have := sz_pos c
  unfold edgeW
  rw [rd_zset _ _ _ _ (by simpa using hl), rd_set, rd_set]
  simp only [List.length_set]
  by_cases h1 : e + 1 ≤ i ∧ i < e + 1 + sz c
  · rw [if_pos h1, if_pos h1]
  · rw [if_neg h1, if_neg h1]
    by_cases h2 : i = e
    · rw [if_pos (by omega), if_pos h2]
    · rw [if_neg (by omega), if_neg h2]
      by_cases h3 : i = 15
      · rw [if_pos (by omega), if_pos h3]
      · rw [if_neg (by omega), if_neg h3]

theorem len_listW (ws : List Int) (c p : Nat) : (listW ws c p).length = ws.length := by simp [listW, zset_len]
theorem len_edgeW (ws : List Int) (c e : Nat) : (edgeW ws c e).length = ws.length := by simp [edgeW, zset_len]

def upd (ls : Nat → List Nat) (c : Nat) (l : List Nat) : Nat → List Nat := fun k => if k = c then l else ls k

/-- The state behind a taking out of a list. -/
def listS (s : St) (c p : Nat) (ps : List Nat) : St := { ws := listW s.ws c p, bs := mark s.bs p true, e := s.e, ls := upd s.ls c ps }

theorem Inv.listS {s : St} (h : Inv s) {c p : Nat} {ps : List Nat} (hc : c ≤ 5) (hl : s.ls c = p :: ps) : Inv (listS s c p ps) := by
  have hb := h.fr c hc p (by rw [hl]; exact List.mem_cons_self ..)
  obtain ⟨m1, m2, m3⟩ := h.lay.mem _ hb
  simp only at m1 m2 m3
  have hle := h.le
  have hnd := h.nd c hc
  rw [hl] at hnd
  obtain ⟨hnp, hnd'⟩ := List.nodup_cons.1 hnd
  have hR := rd_listW (ws := s.ws) hc (by omega) (show p + sz c ≤ s.ws.length by omega)
  have hfl := h.fl c hc
  rw [hl] at hfl
  -- a word of another block, but its head, is as it was
  have hother : ∀ b ∈ s.bs, b.place ≠ p → ∀ i, b.place - 1 ≤ i → i < b.place + sz b.cls → rd (listW s.ws c p) i = rd s.ws i := by
    intro b hbm hne i hi1 hi2
    have hm := h.lay.mem b hbm
    rw [hR]
    rcases h.lay.sep b hbm _ hb with he | he | he
    · rw [he] at hne; exact absurd rfl hne
    · simp only at he; rw [if_neg (by omega), if_neg (by omega), if_neg (by omega)]
    · simp only at he; rw [if_neg (by omega), if_neg (by omega), if_neg (by omega)]
  refine ⟨h.lay.mark p true, ?_, ?_, by rw [show (Ytifhimdhmlmgkaa.listS s c p ps).ws = listW s.ws c p from rfl, len_listW]; exact hle, by rw [show (Ytifhimdhmlmgkaa.listS s c p ps).ws = listW s.ws c p from rfl, len_listW]; exact h.lo, ?_, ?_, ?_⟩
  · intro x hx
    obtain ⟨b, hbm, rfl⟩ := mem_mark hx
    show rd (listW s.ws c p) _ = _
    by_cases hp : b.place = p
    · have : b = ⟨p, c, false⟩ := h.lay.inj hbm hb hp
      subst this
      rw [if_pos rfl, hR]
      have := sz_pos c
      rw [if_neg (by simp only; omega), if_pos rfl]
      simp [hd]; omega
    · rw [if_neg hp]
      have hm := h.lay.mem b hbm
      rw [hother b hbm hp _ (Nat.le_refl _) (by omega)]
      exact h.hds b hbm
  · show rd (listW s.ws c p) 15 = _
    rw [hR, if_neg (by omega), if_neg (by omega), if_neg (by omega)]
    exact h.ed
  · intro k hk
    show FList (listW s.ws c p) (rd (listW s.ws c p) (9 + k)) (upd s.ls c ps k)
    unfold upd
    by_cases hkc : k = c
    · subst hkc
      rw [if_pos rfl, hR, if_neg (by omega), if_neg (by omega), if_pos rfl]
      refine hfl.2.congr fun q hq => ?_
      have hqb := h.fr k hk q (by rw [hl]; exact List.mem_cons_of_mem _ hq)
      have := sz_pos k
      exact hother _ hqb (by rintro rfl; exact hnp hq) q (by simp) (by simp only; omega)
    · rw [if_neg hkc, hR, if_neg (by omega), if_neg (by omega), if_neg (by omega)]
      refine (h.fl k hk).congr fun q hq => ?_
      have hqb := h.fr k hk q hq
      have := sz_pos k
      refine hother _ hqb ?_ q (by simp) (by simp only; omega)
      intro e
      have := h.lay.inj hqb hb e
      exact hkc (by cases this; rfl)
  · intro k hk
    show (upd s.ls c ps k).Nodup
    unfold upd
    by_cases hkc : k = c
    · rw [if_pos hkc]; exact hnd'
    · rw [if_neg hkc]; exact h.nd k hk
  · intro k hk q hq
    have hq' : q ∈ upd s.ls c ps k := hq
    unfold upd at hq'
    by_cases hkc : k = c
    · subst hkc
      rw [if_pos rfl] at hq'
      have hqb := h.fr k hk q (by rw [hl]; exact List.mem_cons_of_mem _ hq')
      exact mark_mem hqb (by rintro rfl; exact hnp hq')
    · rw [if_neg hkc] at hq'
      have hqb := h.fr k hk q hq'
      refine mark_mem hqb ?_
      intro e
      have := h.lay.inj hqb hb e
      exact hkc (by cases this; rfl)

end Go.Proofs.Ytifhimdhmlmgkaa
