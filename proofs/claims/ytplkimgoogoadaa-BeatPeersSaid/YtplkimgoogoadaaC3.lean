/- Plain law: what the program makes of peers is what the reference says. -/
import Derived.Test.YtplkimgoogoadaaB18
namespace Go.Proofs.Ytplkimgoogoadaa
open Go.RowKit Go.Proofs.YtplkimgoogoadaaW.PrintWords PBeatPeers

def Pw (ps : List S35) : Prop := ps.Pairwise fun a b => a.f0 < b.f0
theorem Rising.pw {ps : List S35} (h : Rising ps) : Pw ps := by
  unfold Pw
  rw [List.pairwise_iff_getElem]
  intro i j hi hj hij
  have := h i j hij hj
  rwa [pu_eq hi, pu_eq hj] at this
theorem OkW.mem {now : Int} {ps : List S35} (h : OkW now ps) : ∀ p ∈ ps, 1 ≤ p.f0 ∧ p.f0 ≤ 8 := by
  intro p hp
  obtain ⟨j, hj, rfl⟩ := List.getElem_of_mem hp
  have := h.range j hj
  rwa [pu_eq hj] at this

theorem of_cons (p : S35) (ps : List S35) (j : Int) : ofP (p :: ps) j = if p.f0 = j then some p else ofP ps j := by
  unfold ofP
  rw [List.find?_cons]
  by_cases h : p.f0 = j
  · rw [if_pos h, show (p.f0 == j) = true by simpa using h]
  · rw [if_neg h, show (p.f0 == j) = false by simpa using h]
theorem of_nil (j : Int) : ofP [] j = none := rfl
theorem of_gt {ps : List S35} {j : Int} (h : ∀ p ∈ ps, j < p.f0) : ofP ps j = none := by
  unfold ofP
  rw [List.find?_eq_none]
  intro p hp
  have := h p hp
  simp
  omega

theorem fmap_congr {α β : Type} {f g : α → Option β} : ∀ {l : List α}, (∀ x ∈ l, f x = g x) → l.filterMap f = l.filterMap g
  | [], _ => rfl
  | x :: l, h => by
    rw [List.filterMap_cons, List.filterMap_cons, h x (List.mem_cons_self), fmap_congr fun y hy => h y (List.mem_cons_of_mem _ hy)]

/-- A row by rising numbers is read off number by number. -/
theorem all_of : ∀ (m lo : Nat) (qs : List S35), Pw qs → (∀ p ∈ qs, (lo : Int) ≤ p.f0 ∧ p.f0 < (lo + m : Nat)) → (List.range' lo m).filterMap (fun j : Nat => ofP qs (j : Int)) = qs
  | 0, lo, [], _, _ => rfl
  | 0, lo, q :: qs, _, h => by have := h q (List.mem_cons_self); omega
  | m + 1, lo, [], _, _ => by
    rw [List.range'_succ]
    show (List.range' (lo + 1) m).filterMap (fun j : Nat => ofP [] (j : Int)) = []
    exact all_of m (lo + 1) [] List.Pairwise.nil (fun p hp => by cases hp)
  | m + 1, lo, q :: qs, hp, h => by
    have hq := h q (List.mem_cons_self)
    have hp' := List.pairwise_cons.1 hp
    rw [List.range'_succ]
    by_cases e : q.f0 = (lo : Int)
    · rw [List.filterMap_cons_some (by rw [of_cons, if_pos e])]
      congr 1
      have ih := all_of m (lo + 1) qs hp'.2 (fun p hm => by
        have h1 := hp'.1 p hm
        have h2 := h p (List.mem_cons_of_mem _ hm)
        constructor <;> omega)
      refine Eq.trans ?_ ih
      refine fmap_congr fun j hj => ?_
      rw [List.mem_range'_1] at hj
      rw [of_cons, if_neg (by omega)]
    · rw [List.filterMap_cons_none]
      · refine all_of m (lo + 1) (q :: qs) hp (fun p hm => ?_)
        have h2 := h p hm
        rcases List.mem_cons.1 hm with rfl | hm
        · constructor <;> omega
        · have h1 := hp'.1 p hm
          constructor <;> omega
      · refine of_gt fun p hm => ?_
        have h2 := h p hm
        rcases List.mem_cons.1 hm with rfl | hm
        · omega
        · have h1 := hp'.1 p hm; omega

theorem ins_cons (p : S35) (ps : List S35) (x : S35) : insP (p :: ps) x = if p.f0 < x.f0 then p :: insP ps x else x :: p :: ps := by
  have e : idx x.f0 (p :: ps) = if p.f0 < x.f0 then idx x.f0 ps + 1 else 0 := rfl
  unfold insP
  rw [e]
  by_cases h : p.f0 < x.f0
  · rw [if_pos h, if_pos h]; rfl
  · rw [if_neg h, if_neg h]; rfl
theorem ins_mem (x : S35) : ∀ (ps : List S35) (q : S35), q ∈ insP ps x ↔ q = x ∨ q ∈ ps
  | [], q => by simp [insP, idx]
  | p :: ps, q => by
    rw [ins_cons]
    split
    · rw [List.mem_cons, ins_mem x ps q, List.mem_cons]
      constructor
      · rintro (h | h | h) <;> simp [h]
      · rintro (h | h | h) <;> simp [h]
    · simp
theorem ins_pw (x : S35) : ∀ (ps : List S35), Pw ps → (∀ p ∈ ps, p.f0 ≠ x.f0) → Pw (insP ps x)
  | [], _, _ => by unfold Pw insP; simp
  | p :: ps, hp, hne => by
    have hp' := List.pairwise_cons.1 hp
    rw [ins_cons]
    split
    · rename_i hlt
      refine List.pairwise_cons.2 ⟨fun q hq => ?_, ins_pw x ps hp'.2 (fun q hq => hne q (List.mem_cons_of_mem _ hq))⟩
      rcases (ins_mem x ps q).1 hq with rfl | hq
      · exact hlt
      · exact hp'.1 q hq
    · rename_i hlt
      have h0 := hne p (List.mem_cons_self)
      refine List.pairwise_cons.2 ⟨fun q hq => ?_, hp⟩
      rcases List.mem_cons.1 hq with rfl | hq
      · omega
      · have := hp'.1 q hq; omega
theorem ins_of (x : S35) (j : Int) : ∀ (ps : List S35), Pw ps → (∀ p ∈ ps, p.f0 ≠ x.f0) → ofP (insP ps x) j = if j = x.f0 then some x else ofP ps j
  | [], _, _ => by
    unfold insP
    simp only [idx, List.take_nil, List.drop_nil, List.nil_append]
    rw [of_cons, of_nil]
    by_cases h : j = x.f0
    · rw [if_pos h, if_pos h.symm]
    · rw [if_neg h, if_neg (fun e => h e.symm)]
  | p :: ps, hp, hne => by
    have hp' := List.pairwise_cons.1 hp
    have ih := ins_of x j ps hp'.2 (fun q hq => hne q (List.mem_cons_of_mem _ hq))
    have h0 := hne p (List.mem_cons_self)
    rw [ins_cons]
    split
    · rw [of_cons, ih, of_cons]
      by_cases h : p.f0 = j
      · rw [if_pos h, if_pos h, if_neg (by omega)]
      · rw [if_neg h, if_neg h]
    · rw [of_cons]
      by_cases h : j = x.f0
      · rw [if_pos h, if_pos h.symm]
      · rw [if_neg h, if_neg (fun e => h e.symm)]

theorem has_mem {ps : List S35} {n : Int} (h : has ps n = false) : ∀ p ∈ ps, p.f0 ≠ n := by
  intro p hp he
  unfold has at h
  rw [List.any_eq_false] at h
  have := h p hp
  simp [he] at this

theorem with_ins {now : Int} {ps : List S35} {x : S35} (h : OkW now ps) (hn : has ps x.f0 = false) (h1 : 1 ≤ x.f0) (h8 : x.f0 ≤ 8) : withL ps x 8 = insP ps x := by
  have hpw := h.rising.pw
  have hne := has_mem hn
  have key := all_of 8 1 (insP ps x) (ins_pw x ps hpw hne) (fun p hp => by
    rcases (ins_mem x ps p).1 hp with rfl | hp
    · constructor <;> omega
    · have := h.mem p hp; constructor <;> omega)
  refine Eq.trans ?_ key
  unfold withL
  refine fmap_congr fun j _ => ?_
  rw [ins_of x _ ps hpw hne]
  rfl

theorem set_of (y : S35) (j : Int) : ∀ (ps : List S35) (i : Nat), Pw ps → i < ps.length → (pu ps i).f0 = y.f0 → ofP (ps.set i y) j = if j = y.f0 then some y else ofP ps j
  | [], i, _, h, _ => by simp at h
  | p :: ps, 0, _, _, he => by
    have he' : p.f0 = y.f0 := he
    rw [List.set_cons_zero, of_cons, of_cons]
    by_cases h : j = y.f0
    · rw [if_pos h, if_pos h.symm]
    · rw [if_neg h, if_neg (fun e => h e.symm), if_neg (by omega)]
  | p :: ps, i + 1, hp, hi, he => by
    have hp' := List.pairwise_cons.1 hp
    have hi' : i < ps.length := by simpa using hi
    have he' : (pu ps i).f0 = y.f0 := he
    have ih := set_of y j ps i hp'.2 hi' he'
    have hlt := hp'.1 (pu ps i) (by rw [pu_eq hi']; exact List.getElem_mem hi')
    rw [List.set_cons_succ, of_cons, of_cons, ih]
    by_cases h : p.f0 = j
    · rw [if_pos h, if_pos h, if_neg (by omega)]
    · rw [if_neg h, if_neg h]
theorem set_pw (y : S35) : ∀ (ps : List S35) (i : Nat), Pw ps → i < ps.length → (pu ps i).f0 = y.f0 → Pw (ps.set i y)
  | [], i, _, h, _ => by simp at h
  | p :: ps, 0, hp, _, he => by
    have he' : p.f0 = y.f0 := he
    have hp' := List.pairwise_cons.1 hp
    exact List.pairwise_cons.2 ⟨fun q hq => by have := hp'.1 q hq; omega, hp'.2⟩
  | p :: ps, i + 1, hp, hi, he => by
    have hp' := List.pairwise_cons.1 hp
    have hi' : i < ps.length := by simpa using hi
    have he' : (pu ps i).f0 = y.f0 := he
    have hlt := hp'.1 (pu ps i) (by rw [pu_eq hi']; exact List.getElem_mem hi')
    refine List.pairwise_cons.2 ⟨fun q hq => ?_, set_pw y ps i hp'.2 hi' he'⟩
    rcases List.mem_or_eq_of_mem_set hq with hq | rfl
    · exact hp'.1 q hq
    · omega

theorem with_set {now : Int} {ps : List S35} {y : S35} {i : Nat} (h : OkW now ps) (hi : i < ps.length) (he : (pu ps i).f0 = y.f0) : withL ps y 8 = ps.set i y := by
  have hpw := h.rising.pw
  have hr := h.range i hi
  have key := all_of 8 1 (ps.set i y) (set_pw y ps i hpw hi he) (fun p hp => by
    rcases List.mem_or_eq_of_mem_set hp with hp | rfl
    · have := h.mem p hp; constructor <;> omega
    · constructor <;> omega)
  refine Eq.trans ?_ key
  unfold withL
  refine fmap_congr fun j _ => ?_
  rw [set_of y _ ps i hpw hi he]
  rfl

theorem wo_del {now : Int} {ps : List S35} {n : Int} (h : OkW now ps) (hn : has ps n = true) : woL ps n ps.length = delP ps n := by
  have hr := h.rising
  obtain ⟨hi, he⟩ := has_at hr hn
  unfold woL delP
  rw [List.take_length]
  have hsp : ps = ps.take (idx n ps) ++ ps[idx n ps] :: ps.drop (idx n ps + 1) := by rw [← List.drop_eq_getElem_cons hi, List.take_append_drop]
  rw [pu_eq hi] at he
  have hpw := hr.pw
  unfold Pw at hpw
  rw [hsp, List.pairwise_append] at hpw
  obtain ⟨_, h2, h3⟩ := hpw
  have h2' := List.pairwise_cons.1 h2
  have e1 : (ps.take (idx n ps)).filter (fun p => p.f0 != n) = ps.take (idx n ps) := List.filter_eq_self.2 fun p hp => by
    have := h3 p hp _ (List.mem_cons_self)
    simp; omega
  have e2 : (ps.drop (idx n ps + 1)).filter (fun p => p.f0 != n) = ps.drop (idx n ps + 1) := List.filter_eq_self.2 fun p hp => by
    have := h2'.1 p hp
    simp; omega
  have e3 : (ps.take (idx n ps) ++ ps[idx n ps] :: ps.drop (idx n ps + 1)).filter (fun p => p.f0 != n) = ps.take (idx n ps) ++ ps.drop (idx n ps + 1) := by
    rw [List.filter_append, List.filter_cons_of_neg (by simpa using he), e1, e2]
  rw [← hsp] at e3
  exact e3

theorem of_has {ps : List S35} {n : Int} (hr : Rising ps) (h : has ps n = true) : ofP ps n = some (pu ps (idx n ps)) := by
  obtain ⟨hi, he⟩ := has_at hr h
  exact of_some hi (fun j hj => by have := idx_lo n ps j hj; omega) he
theorem of_hasnt {ps : List S35} {n : Int} (h : has ps n = false) : ofP ps n = none :=
  of_none fun j hj => has_mem h _ (by rw [pu_eq hj]; exact List.getElem_mem hj)

end Go.Proofs.Ytplkimgoogoadaa
