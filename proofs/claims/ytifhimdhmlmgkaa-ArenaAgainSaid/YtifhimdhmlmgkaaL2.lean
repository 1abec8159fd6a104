/- The arena, plainly: what each operation keeps. -/
import Derived.Test.YtifhimdhmlmgkaaL1
namespace Go.Proofs.Ytifhimdhmlmgkaa

/-- Words that are no head, no list's and no free block's first one may be turned. -/
theorem Inv.words {s : St} (h : Inv s) (ws' : List Int) (hlen : ws'.length = s.ws.length)
    (hlow : ∀ i, 9 ≤ i → i ≤ 15 → rd ws' i = rd s.ws i) (hhd : ∀ b ∈ s.bs, rd ws' (b.place - 1) = rd s.ws (b.place - 1)) (hfr : ∀ b ∈ s.bs, b.taken = false → rd ws' b.place = rd s.ws b.place) :
    Inv { s with ws := ws' } := by
  refine ⟨h.lay, fun b hb => (hhd b hb).trans (h.hds b hb), (hlow 15 (by omega) (by omega)).trans h.ed, by show s.e ≤ ws'.length; rw [hlen]; exact h.le, by show 64 ≤ ws'.length; rw [hlen]; exact h.lo, ?_, h.nd, h.fr⟩
  intro c hc
  show FList ws' (rd ws' (9 + c)) (s.ls c)
  rw [hlow (9 + c) (by omega) (by omega)]
  exact (h.fl c hc).congr fun p hp => hfr _ (h.fr c hc p hp) rfl

/-- The state behind a taking from the edge on. -/
def edgeS (s : St) (c : Nat) : St := { ws := edgeW s.ws c s.e, bs := s.bs ++ [⟨s.e + 1, c, true⟩], e := s.e + 1 + sz c, ls := s.ls }

theorem Inv.e16 {s : St} (h : Inv s) : 16 ≤ s.e := h.lay.le

theorem Inv.edgeS {s : St} (h : Inv s) {c : Nat} (hc : c ≤ 5) (hr : s.e + 1 + sz c ≤ s.ws.length) : Inv (edgeS s c) := by
  have h16 := h.e16
  have hz := sz_pos c
  have hR := rd_edgeW (ws := s.ws) h16 hr
  have hother : ∀ b ∈ s.bs, ∀ i, b.place - 1 ≤ i → i < b.place + sz b.cls → rd (edgeW s.ws c s.e) i = rd s.ws i := by
    intro b hbm i hi1 hi2
    have hm := h.lay.mem b hbm
    rw [hR, if_neg (by omega), if_neg (by omega), if_neg (by omega)]
  refine ⟨h.lay.snoc c true hc, ?_, ?_, by rw [show (Ytifhimdhmlmgkaa.edgeS s c).ws = edgeW s.ws c s.e from rfl, len_edgeW]; exact hr, by rw [show (Ytifhimdhmlmgkaa.edgeS s c).ws = edgeW s.ws c s.e from rfl, len_edgeW]; exact h.lo, ?_, h.nd, ?_⟩
  · intro b hb
    show rd (edgeW s.ws c s.e) _ = _
    rcases List.mem_append.1 hb with hb | hb
    · have hm := h.lay.mem b hb
      rw [hother b hb _ (Nat.le_refl _) (by omega)]
      exact h.hds b hb
    · have : b = ⟨s.e + 1, c, true⟩ := by simpa using hb
      subst this
      rw [hR, if_neg (by simp only; omega), if_pos (by simp)]
      simp [hd]; omega
  · show rd (edgeW s.ws c s.e) 15 = _
    rw [hR, if_neg (by omega), if_neg (by omega), if_pos rfl]
    show (s.e : Int) + 1 + sz c = ((s.e + 1 + sz c : Nat) : Int)
    omega
  · intro k hk
    show FList (edgeW s.ws c s.e) (rd (edgeW s.ws c s.e) (9 + k)) (s.ls k)
    rw [hR, if_neg (by omega), if_neg (by omega), if_neg (by omega)]
    refine (h.fl k hk).congr fun q hq => ?_
    have := sz_pos k
    exact hother _ (h.fr k hk q hq) q (by simp) (by simp only; omega)
  · intro k hk q hq
    exact List.mem_append.2 (.inl (h.fr k hk q hq))

/-- The state behind a giving back. -/
def freeS (s : St) (b : Blk) : St := { ws := freeW s.ws b.place b.cls, bs := mark s.bs b.place false, e := s.e, ls := upd s.ls b.cls (b.place :: s.ls b.cls) }

theorem len_freeW (ws : List Int) (p c : Nat) : (freeW ws p c).length = ws.length := by simp [freeW, zset_len]

theorem rd_freeW {ws : List Int} {c p : Nat} (hc : c ≤ 5) (hp : 17 ≤ p) (hl : p + sz c ≤ ws.length) (i : Nat) :
    rd (freeW ws p c) i = if i = 9 + c then (p : Int) else if i = p - 1 then 16 + 2 * c else if i = p then rd ws (9 + c) else if p ≤ i ∧ i < p + sz c then 0 else rd ws i := by
  have := sz_pos c
  unfold freeW
  rw [rd_set, rd_set, rd_set, rd_zset _ _ _ _ hl]
  simp only [List.length_set, zset_len]
  by_cases h1 : i = 9 + c
  · rw [if_pos (by omega), if_pos h1]
  · rw [if_neg (by omega), if_neg h1]
    by_cases h2 : i = p - 1
    · rw [if_pos (by omega), if_pos h2]
    · rw [if_neg (by omega), if_neg h2]
      by_cases h3 : i = p
      · rw [if_pos (by omega), if_pos h3]
      · rw [if_neg (by omega), if_neg h3]

theorem Inv.freeS {s : St} (h : Inv s) {b : Blk} (hb : b ∈ s.bs) (ht : b.taken = true) : Inv (freeS s b) := by
  obtain ⟨m1, m2, m3⟩ := h.lay.mem _ hb
  have hle := h.le
  have hz := sz_pos b.cls
  have hR := rd_freeW (ws := s.ws) m3 (by omega) (show b.place + sz b.cls ≤ s.ws.length by omega)
  have hother : ∀ x ∈ s.bs, x.place ≠ b.place → ∀ i, x.place - 1 ≤ i → i < x.place + sz x.cls → rd (freeW s.ws b.place b.cls) i = rd s.ws i := by
    intro x hx hne i hi1 hi2
    have hm := h.lay.mem x hx
    rw [hR]
    rcases h.lay.sep x hx b hb with he | he | he
    · rw [he] at hne; exact absurd rfl hne
    · rw [if_neg (by omega), if_neg (by omega), if_neg (by omega), if_neg (by omega)]
    · rw [if_neg (by omega), if_neg (by omega), if_neg (by omega), if_neg (by omega)]
  have hnot : ∀ k, k ≤ 5 → ∀ q ∈ s.ls k, q ≠ b.place := by
    intro k hk q hq e
    have hqb := h.fr k hk q hq
    have := h.lay.inj hqb hb e
    rw [← this] at ht
    simp at ht
  refine ⟨h.lay.mark _ _, ?_, ?_, by rw [show (Ytifhimdhmlmgkaa.freeS s b).ws = freeW s.ws b.place b.cls from rfl, len_freeW]; exact hle, by rw [show (Ytifhimdhmlmgkaa.freeS s b).ws = freeW s.ws b.place b.cls from rfl, len_freeW]; exact h.lo, ?_, ?_, ?_⟩
  · intro x hx
    obtain ⟨y, hy, rfl⟩ := mem_mark hx
    show rd (freeW s.ws b.place b.cls) _ = _
    by_cases hp : y.place = b.place
    · have : y = b := h.lay.inj hy hb hp
      subst this
      rw [if_pos rfl, hR, if_neg (by simp only; omega), if_pos rfl]
      simp [hd]
    · rw [if_neg hp]
      have hm := h.lay.mem y hy
      rw [hother y hy hp _ (Nat.le_refl _) (by omega)]
      exact h.hds y hy
  · show rd (freeW s.ws b.place b.cls) 15 = _
    rw [hR, if_neg (by omega), if_neg (by omega), if_neg (by omega), if_neg (by omega)]
    exact h.ed
  · intro k hk
    show FList (freeW s.ws b.place b.cls) (rd (freeW s.ws b.place b.cls) (9 + k)) (upd s.ls b.cls (b.place :: s.ls b.cls) k)
    unfold upd
    by_cases hkc : k = b.cls
    · rw [if_pos hkc, hR, if_pos (by omega)]
      refine ⟨rfl, ?_⟩
      rw [hR, if_neg (by omega), if_neg (by omega), if_pos rfl]
      refine (h.fl _ m3).congr fun q hq => ?_
      exact hother _ (h.fr _ m3 q hq) (hnot _ m3 q hq) q (by simp) (by simp only; omega)
    · rw [if_neg hkc, hR, if_neg (by omega), if_neg (by omega), if_neg (by omega), if_neg (by omega)]
      refine (h.fl k hk).congr fun q hq => ?_
      have := sz_pos k
      exact hother _ (h.fr k hk q hq) (hnot k hk q hq) q (by simp) (by simp only; omega)
  · intro k hk
    show (upd s.ls b.cls (b.place :: s.ls b.cls) k).Nodup
    unfold upd
    by_cases hkc : k = b.cls
    · rw [if_pos hkc]
      exact List.nodup_cons.2 ⟨fun hm => hnot _ m3 _ hm rfl, h.nd _ m3⟩
    · rw [if_neg hkc]; exact h.nd k hk
  · intro k hk q hq
    have hq' : q ∈ upd s.ls b.cls (b.place :: s.ls b.cls) k := hq
    unfold upd at hq'
    by_cases hkc : k = b.cls
    · rw [if_pos hkc] at hq'
      rcases List.mem_cons.1 hq' with e | hq'
      · rw [e, hkc]
        exact mark_mem_at (u := true) (by rw [← ht]; exact hb)
      · exact mark_mem (h.fr k hk q (by rw [hkc]; exact hq')) (hnot k hk q (by rw [hkc]; exact hq'))
    · rw [if_neg hkc] at hq'
      exact mark_mem (h.fr k hk q hq') (hnot k hk q hq')

theorem Inv.store {s : St} (h : Inv s) {b : Blk} (hb : b ∈ s.bs) (ht : b.taken = true) {i : Nat} (hi : i < sz b.cls) (x : Int) : Inv { s with ws := s.ws.set (b.place + i) x } := by
  obtain ⟨m1, m2, m3⟩ := h.lay.mem _ hb
  refine h.words _ (by simp) ?_ ?_ ?_
  · intro j h9 h15
    rw [rd_set, if_neg (by omega)]
  · intro y hy
    have hm := h.lay.mem y hy
    rw [rd_set, if_neg]
    rcases h.lay.sep y hy b hb with e | e | e
    · subst e; omega
    · omega
    · omega
  · intro y hy hyt
    have hm := h.lay.mem y hy
    have := sz_pos y.cls
    rw [rd_set, if_neg]
    rcases h.lay.sep y hy b hb with e | e | e
    · subst e; rw [ht] at hyt; cases hyt
    · omega
    · omega

theorem rd_put2 (ws : List Int) (i j : Nat) (x : Int) (h : j ≠ i) (h' : j ≠ i + 1) : rd (put2 ws i x) j = rd ws j := by
  unfold put2
  rw [rd_set, rd_set, if_neg (by omega), if_neg (by omega)]

/-- Words ahead of the lists may be turned. -/
theorem Inv.low {s : St} (h : Inv s) (ws' : List Int) (hlen : ws'.length = s.ws.length) (hw : ∀ i, 9 ≤ i → rd ws' i = rd s.ws i) : Inv { s with ws := ws' } :=
  h.words ws' hlen (fun i h9 _ => hw i h9) (fun b hb => by have := h.lay.mem b hb; exact hw _ (by omega)) (fun b hb _ => by have := h.lay.mem b hb; exact hw _ (by omega))

theorem pubW_len (ws : List Int) (v ep f s : Int) : (pubW ws v ep f s).length = ws.length := by simp [pubW, put2_len]
theorem rd_pubW (ws : List Int) (v ep f s : Int) (i : Nat) (hi : 7 ≤ i) : rd (pubW ws v ep f s) i = rd ws i := by
  unfold pubW
  rw [rd_set, rd_set, if_neg (by omega), if_neg (by omega), rd_put2 _ _ _ _ (by omega) (by omega), rd_put2 _ _ _ _ (by omega) (by omega)]

theorem Inv.pub {s : St} (h : Inv s) (v ep f x : Int) : Inv { s with ws := pubW s.ws v ep f x } := h.low _ (pubW_len _ _ _ _ _) fun i hi => rd_pubW _ _ _ _ _ i (by omega)
theorem Inv.raise {s : St} (h : Inv s) (x : Int) : Inv { s with ws := put2 s.ws 7 x } := h.low _ (put2_len _ _ _) fun i hi => rd_put2 _ _ _ _ (by omega) (by omega)

/-- An arena without blocks. -/
def newS (n : Nat) : St := { ws := ((List.replicate n (0 : Int)).set 0 n).set 15 16, bs := [], e := 16, ls := fun _ => [] }

theorem rd_new (n : Nat) (i : Nat) (hn : 64 ≤ n) : rd (newS n).ws i = if i = 15 then 16 else if i = 0 then (n : Int) else 0 := by
  show rd (((List.replicate n (0 : Int)).set 0 n).set 15 16) i = _
  rw [rd_set, rd_set]
  simp only [List.length_set, List.length_replicate]
  by_cases h1 : i = 15
  · rw [if_pos (by omega), if_pos h1]
  · rw [if_neg (by omega), if_neg h1]
    by_cases h2 : i = 0
    · rw [if_pos (by omega), if_pos h2]
    · rw [if_neg (by omega), if_neg h2]
      unfold rd
      rw [List.getElem?_replicate]
      split <;> rfl

theorem Inv.new (n : Nat) (h : 64 ≤ n) : Inv (newS n) := by
  refine ⟨rfl, (fun b hb => by cases hb), ?_, by simp [newS]; omega, by simpa [newS] using h, ?_, (fun _ _ => List.nodup_nil), (fun _ _ p hp => by cases hp)⟩
  · rw [rd_new n _ h]; rfl
  · intro c hc
    show rd (newS n).ws (9 + c) = 0
    rw [rd_new n _ h, if_neg (by omega), if_neg (by omega)]
end Go.Proofs.Ytifhimdhmlmgkaa
