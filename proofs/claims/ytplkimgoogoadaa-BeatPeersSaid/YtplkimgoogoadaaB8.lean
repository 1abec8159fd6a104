/- What comes of a peer that is heard. -/
import Derived.Test.YtplkimgoogoadaaB7
namespace Go.Proofs.Ytplkimgoogoadaa
open Go.RowKit Go.Proofs.YtplkimgoogoadaaW.PrintWords PBeatPeers

def hearG (now : Int) (p : S35) : Int := if now - p.f1 ≤ 4 then (if p.f2 + 1 > 3 then 3 else p.f2 + 1) else 1
def hearS (now : Int) (p : S35) : Int := if hearG now p = 3 ∨ p.f3 = 2 then 1 else p.f3
/-- A peer that is heard. -/
def hearP (now : Int) (p : S35) : S35 := ⟨p.f0, now, hearG now p, hearS now p⟩
def hearQ (now : Int) (ps : List S35) (n : Int) : List S35 := if has ps n = true then ps.set (idx n ps) (hearP now (pu ps (idx n ps))) else ps
def hearC (now : Int) (ps : List S35) (n : Int) : Bool := has ps n && decide (hearS now (pu ps (idx n ps)) = 1) && decide ((pu ps (idx n ps)).f3 ≠ 1)

theorem set1 (x : Int) : ∀ (ps : List S35) (i : Nat), i < ps.length → (pcells ps).set (i * 4 + 1) (.int .i64 x) = pcells (ps.set i { pu ps i with f1 := x })
  | p :: ps, 0, _ => rfl
  | p :: ps, i + 1, h => by
    have ih := set1 x ps i (by simpa using h)
    have e : (i + 1) * 4 + 1 = i * 4 + 1 + 4 := by omega
    rw [e]
    show .int .i64 p.f0 :: .int .i64 p.f1 :: .int .i64 p.f2 :: .int .i64 p.f3 :: (pcells ps).set (i * 4 + 1) (.int .i64 x) = _
    rw [ih]
    rfl
theorem set2 (x : Int) : ∀ (ps : List S35) (i : Nat), i < ps.length → (pcells ps).set (i * 4 + 2) (.int .i64 x) = pcells (ps.set i { pu ps i with f2 := x })
  | p :: ps, 0, _ => rfl
  | p :: ps, i + 1, h => by
    have ih := set2 x ps i (by simpa using h)
    have e : (i + 1) * 4 + 2 = i * 4 + 2 + 4 := by omega
    rw [e]
    show .int .i64 p.f0 :: .int .i64 p.f1 :: .int .i64 p.f2 :: .int .i64 p.f3 :: (pcells ps).set (i * 4 + 2) (.int .i64 x) = _
    rw [ih]
    rfl
theorem set3 (x : Int) : ∀ (ps : List S35) (i : Nat), i < ps.length → (pcells ps).set (i * 4 + 3) (.int .i64 x) = pcells (ps.set i { pu ps i with f3 := x })
  | p :: ps, 0, _ => rfl
  | p :: ps, i + 1, h => by
    have ih := set3 x ps i (by simpa using h)
    have e : (i + 1) * 4 + 3 = i * 4 + 3 + 4 := by omega
    rw [e]
    show .int .i64 p.f0 :: .int .i64 p.f1 :: .int .i64 p.f2 :: .int .i64 p.f3 :: (pcells ps).set (i * 4 + 3) (.int .i64 x) = _
    rw [ih]
    rfl

theorem pu_set {ps : List S35} {i : Nat} (h : i < ps.length) (p : S35) : pu (ps.set i p) i = p := by simp [pu, List.getD, h]

/-- The row behind a field's store. -/
theorem Own.put1 {w : World} {B g n c i : Nat} {ps : List S35} (h : Own w B (.slice (some ⟨g, 0, none⟩) n c) ps) (hi : i < ps.length) (x : Int) : Own (w.setCell ⟨g, i * 4 + 1, none⟩ (.int .i64 x)) B (.slice (some ⟨g, 0, none⟩) n c) (ps.set i { pu ps i with f1 := x }) := by
  obtain ⟨_, _, e, _⟩ := h.c'
  cases e
  unfold Own at h ⊢
  rw [List.length_set, ← set1 x ps i hi]
  exact (World.ownsRow.stored h _ _).1
theorem Own.put2 {w : World} {B g n c i : Nat} {ps : List S35} (h : Own w B (.slice (some ⟨g, 0, none⟩) n c) ps) (hi : i < ps.length) (x : Int) : Own (w.setCell ⟨g, i * 4 + 2, none⟩ (.int .i64 x)) B (.slice (some ⟨g, 0, none⟩) n c) (ps.set i { pu ps i with f2 := x }) := by
  obtain ⟨_, _, e, _⟩ := h.c'
  cases e
  unfold Own at h ⊢
  rw [List.length_set, ← set2 x ps i hi]
  exact (World.ownsRow.stored h _ _).1
theorem Own.put3 {w : World} {B g n c i : Nat} {ps : List S35} (h : Own w B (.slice (some ⟨g, 0, none⟩) n c) ps) (hi : i < ps.length) (x : Int) : Own (w.setCell ⟨g, i * 4 + 3, none⟩ (.int .i64 x)) B (.slice (some ⟨g, 0, none⟩) n c) (ps.set i { pu ps i with f3 := x }) := by
  obtain ⟨_, _, e, _⟩ := h.c'
  cases e
  unfold Own at h ⊢
  rw [List.length_set, ← set3 x ps i hi]
  exact (World.ownsRow.stored h _ _).1

/-- The cells of a peer of an own row. -/
theorem Own.at {w : World} {B g n c i : Nat} {ps : List S35} (h : Own w B (.slice (some ⟨g, 0, none⟩) n c) ps) (hi : i < ps.length) :
    PuAt w g (i * 4) (pu ps i) ∧ (∀ j, w.frozen? ⟨g, i * 4 + j, none⟩ = false) := by
  obtain ⟨_, _, e, _⟩ := h.c'
  cases e
  unfold Own at h
  have key : ∀ j, j < 4 → w.cell? ⟨g, i * 4 + j, none⟩ = [Value.int .i64 (pu ps i).f0, .int .i64 (pu ps i).f1, .int .i64 (pu ps i).f2, .int .i64 (pu ps i).f3][j]? := by
    intro j hj
    rw [h.cellAt _ (by omega), pcells_get ps i j hj, List.getElem?_eq_getElem hi, pu_eq hi]
    rfl
  exact ⟨⟨key 0 (by omega), key 1 (by omega), key 2 (by omega), key 3 (by omega)⟩, fun j => h.frozenAt _⟩

theorem Own.some_of {w : World} {B n c : Nat} {A : Option Addr} {ps : List S35} (h : Own w B (.slice A n c) ps) (hi : 0 < ps.length) : ∃ g, A = some ⟨g, 0, none⟩ ∧ B ≤ g ∧ g < w.heap.size := by
  rcases h.2 with ⟨e, h0⟩ | ⟨g, cap, cur, e, hg, h1, _⟩
  · omega
  · injection e with e1
    exact ⟨g, e1, hg, (Array.getElem?_eq_some_iff.1 h1).1⟩

/-- What is asked of a peer's numbers. -/
structure OkN (now : Int) (p : S35) : Prop where
  n0 : 0 ≤ now
  n1 : now ≤ 1099511627776
  h0 : 0 ≤ p.f1
  h1 : p.f1 ≤ now
  g0 : 0 ≤ p.f2
  g1 : p.f2 ≤ 3

end Go.Proofs.Ytplkimgoogoadaa
