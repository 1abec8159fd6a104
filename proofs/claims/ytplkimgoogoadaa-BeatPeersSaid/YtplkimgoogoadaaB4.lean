/- The place of a peer, as a number. -/
import Derived.Test.YtplkimgoogoadaaB3
namespace Go.Proofs.Ytplkimgoogoadaa
open Go.RowKit Go.Proofs.YtplkimgoogoadaaW.PrintWords PBeatPeers

/-- Peers by rising numbers. -/
def Rising (ps : List S35) : Prop := ∀ i j, i < j → j < ps.length → (pu ps i).f0 < (pu ps j).f0

/-- How many peers are ahead of a number; whether it is there. -/
def idx (n : Int) : List S35 → Nat
  | [] => 0
  | p :: ps => if p.f0 < n then idx n ps + 1 else 0
def has (ps : List S35) (n : Int) : Bool := ps.any fun p => p.f0 == n

theorem idx_le (n : Int) : ∀ ps : List S35, idx n ps ≤ ps.length
  | [] => Nat.le_refl 0
  | p :: ps => by
    have := idx_le n ps
    unfold idx
    split <;> simp <;> omega

theorem idx_eq (n : Int) : ∀ (ps : List S35) (i : Nat), i ≤ ps.length → (∀ k, k < i → (pu ps k).f0 < n) → (∀ k, i ≤ k → k < ps.length → n ≤ (pu ps k).f0) → i = idx n ps
  | [], i, h, _, _ => by simp at h; subst h; rfl
  | p :: ps, 0, _, _, h => by
    have := h 0 (Nat.le_refl 0) (by simp)
    unfold idx
    rw [if_neg (by simpa [pu] using this)]
  | p :: ps, i + 1, hl, h1, h2 => by
    have h0 := h1 0 (by omega)
    unfold idx
    rw [if_pos (by simpa [pu] using h0)]
    rw [← idx_eq n ps i (by simpa using hl) (fun k hk => by simpa [pu] using h1 (k + 1) (by omega)) (fun k hk hk2 => by simpa [pu] using h2 (k + 1) (by omega) (by simp; omega))]

theorem has_eq {ps : List S35} {n : Int} {i : Nat} {t : Bool} (hi : i ≤ ps.length) (h1 : ∀ k, k < i → (pu ps k).f0 < n) (h2 : ∀ k, i ≤ k → k < ps.length → n ≤ (pu ps k).f0) (hr : Rising ps) (ht : t = true ↔ i < ps.length ∧ (pu ps i).f0 = n) : t = has ps n := by
  have key : (has ps n = true) ↔ (i < ps.length ∧ (pu ps i).f0 = n) := by
    unfold has
    rw [List.any_eq_true]
    constructor
    · rintro ⟨p, hp, he⟩
      obtain ⟨j, hj, rfl⟩ := List.getElem_of_mem hp
      have hj' : (pu ps j).f0 = n := by rw [pu_eq hj]; simpa using he
      rcases Nat.lt_or_ge j i with hji | hji
      · have := h1 j hji; omega
      · rcases Nat.lt_or_ge i j with hij | hij
        · have := hr i j hij hj
          have := h2 i (Nat.le_refl i) (by omega)
          omega
        · obtain rfl : i = j := by omega
          exact ⟨hj, hj'⟩
    · rintro ⟨hl, he⟩
      exact ⟨ps[i], List.getElem_mem hl, by rw [pu_eq hl] at he; simpa using he⟩
  rcases Bool.eq_false_or_eq_true t with h | h <;> rcases Bool.eq_false_or_eq_true (has ps n) with h' | h'
  · rw [h, h']
  · rw [h'] at key; exact absurd (key.2 (ht.1 h)) (by simp)
  · rw [h] at ht; exact absurd (ht.2 (key.1 h')) (by simp)
  · rw [h, h']

theorem place_is (ps : List S35) (now n : Int) (A : Option Addr) (c : Nat) (w : World) (hC : Kd.C k35 w A ps.length ps) (hlen : ps.length ≤ 1000) (hr : Rising ps) :
    Calls Try.prog 31 #[.agg #[.int .i64 now, .slice A ps.length c], .int .i64 n] w fun e w' => e = .returned (.tuple #[.int .i64 (idx n ps), .bool (has ps n)]) ∧ Below w.heap.size w w' :=
  (place_any ps now n A c w hC hlen hr).mono fun e w' ⟨i, t, he, h1, h2, h3, h4, h5⟩ => by
    rw [← idx_eq n ps i h1 h2 h3, ← has_eq h1 h2 h3 hr h4]
    exact ⟨he, h5⟩

end Go.Proofs.Ytplkimgoogoadaa
