/- What comes of a peer that is heard: the walk. -/
import Derived.Test.YtplkimgoogoadaaB8
namespace Go.Proofs.Ytplkimgoogoadaa
open Go.RowKit Go.Proofs.YtplkimgoogoadaaW.PrintWords PBeatPeers

def spanN (now h : Int) : Int := if now - h ≤ 4 then 0 else if now - h ≤ 9 then 1 else 2
theorem span_is {now : Int} {p : S35} (h : OkN now p) : beat_span.f now p.f0 p.f1 p.f2 p.f3 = some (spanN now p.f1) := by
  have e : wrap64 (now - p.f1) = now - p.f1 := by have := h.n1; have := h.h0; have := h.h1; unfold wrap64; omega
  unfold beat_span.f spanN
  rw [e]
  split
  · rfl
  · split <;> rfl

/-- The end: three fields are stored. -/
theorem hear_fin3 {W W2 w : World} {b g n c i cbk : Nat} {now G : Int} {ps : List S35} {p : S35} {r : Int} {qs : List S35} {x y : Bool} (ho : Own W2 (b + 2) (.slice (some ⟨g, 0, none⟩) n c) ps) (hi : i < ps.length) (hp : pu ps i = p) (hg : b + 2 ≤ g) (hbc : cbk < b)
    (h0 : W2.heap[b]? = some (.cells #[.int .i64 now, .slice (some ⟨g, 0, none⟩) n c] 24 (0, 0))) (h1 : W2.heap[b + 1]? = W.heap[b + 1]?) (hc : W2.heap[cbk]? = some (.cells #[.bool false] 4 (0, 0))) (hb : Below cbk w W2)
    (hr : r = 0) (hq : qs = ps.set i ⟨p.f0, now, G, 1⟩) (hx : y = x) :
    Did b r now qs cbk (fun W => W.heap[cbk]? = some (.cells #[.bool y] 4 (0, 0))) w W (.returned (.int .i64 0))
      ((((W2.setCell ⟨g, i * 4 + 2, none⟩ (.int .i64 G)).setCell ⟨g, i * 4 + 1, none⟩ (.int .i64 now)).setCell ⟨g, i * 4 + 3, none⟩ (.int .i64 1)).setCell ⟨cbk, 0, none⟩ (.bool x)) := by
  subst hr hq hx hp
  have o1 := ho.put2 hi G
  have o2 := o1.put1 (by simpa using hi) now
  have o3 := o2.put3 (by simpa using hi) 1
  rw [pu_set (by simpa using hi), pu_set (by simpa using hi), List.set_set, List.set_set] at o3
  have far : ∀ k, k < b + 2 → k ≠ cbk → ((((W2.setCell ⟨g, i * 4 + 2, none⟩ (.int .i64 G)).setCell ⟨g, i * 4 + 1, none⟩ (.int .i64 now)).setCell ⟨g, i * 4 + 3, none⟩ (.int .i64 1)).setCell ⟨cbk, 0, none⟩ (.bool y)).heap[k]? = W2.heap[k]? := by
    intro k hk hkc
    rw [Below.heap_setCell _ _ _ k (by simp; omega), Below.heap_setCell _ _ _ k (by simp; omega), Below.heap_setCell _ _ _ k (by simp; omega), Below.heap_setCell _ _ _ k (by simp; omega)]
  refine Did.mk rfl rfl ((far b (by omega) (by omega)).trans h0) (Own.far o3 (by simp; omega) _) ?_ ((far (b + 1) (by omega) (by omega)).trans h1) ?_
  · exact (((hb.setCell (by simp; omega) _).setCell (by simp; omega) _).setCell (by simp; omega) _).setCell (by simp) _
  · have e : (((W2.setCell ⟨g, i * 4 + 2, none⟩ (.int .i64 G)).setCell ⟨g, i * 4 + 1, none⟩ (.int .i64 now)).setCell ⟨g, i * 4 + 3, none⟩ (.int .i64 1)).heap[cbk]? = some (.cells #[.bool false] 4 (0, 0)) := by
      rw [Below.heap_setCell _ _ _ cbk (by simp; omega), Below.heap_setCell _ _ _ cbk (by simp; omega), Below.heap_setCell _ _ _ cbk (by simp; omega)]
      exact hc
    simp only [World.setCell] at e ⊢
    rw [Array.getElem?_modify, if_pos rfl, e]
    rfl

/-- The end: two fields are stored. -/
theorem hear_fin2 {W W2 w : World} {b g n c i cbk : Nat} {now G : Int} {ps : List S35} {p : S35} {r : Int} {qs : List S35} {x y : Bool} (ho : Own W2 (b + 2) (.slice (some ⟨g, 0, none⟩) n c) ps) (hi : i < ps.length) (hp : pu ps i = p) (hg : b + 2 ≤ g) (hbc : cbk < b)
    (h0 : W2.heap[b]? = some (.cells #[.int .i64 now, .slice (some ⟨g, 0, none⟩) n c] 24 (0, 0))) (h1 : W2.heap[b + 1]? = W.heap[b + 1]?) (hc : W2.heap[cbk]? = some (.cells #[.bool false] 4 (0, 0))) (hb : Below cbk w W2)
    (hr : r = 0) (hq : qs = ps.set i ⟨p.f0, now, G, p.f3⟩) (hx : y = x) :
    Did b r now qs cbk (fun W => W.heap[cbk]? = some (.cells #[.bool y] 4 (0, 0))) w W (.returned (.int .i64 0))
      (((W2.setCell ⟨g, i * 4 + 2, none⟩ (.int .i64 G)).setCell ⟨g, i * 4 + 1, none⟩ (.int .i64 now)).setCell ⟨cbk, 0, none⟩ (.bool x)) := by
  subst hr hq hx hp
  have o1 := ho.put2 hi G
  have o2 := o1.put1 (by simpa using hi) now
  rw [pu_set (by simpa using hi), List.set_set] at o2
  have far : ∀ k, k < b + 2 → k ≠ cbk → (((W2.setCell ⟨g, i * 4 + 2, none⟩ (.int .i64 G)).setCell ⟨g, i * 4 + 1, none⟩ (.int .i64 now)).setCell ⟨cbk, 0, none⟩ (.bool y)).heap[k]? = W2.heap[k]? := by
    intro k hk hkc
    rw [Below.heap_setCell _ _ _ k (by simp; omega), Below.heap_setCell _ _ _ k (by simp; omega), Below.heap_setCell _ _ _ k (by simp; omega)]
  refine Did.mk rfl rfl ((far b (by omega) (by omega)).trans h0) (Own.far o2 (by simp; omega) _) ?_ ((far (b + 1) (by omega) (by omega)).trans h1) ?_
  · exact ((hb.setCell (by simp; omega) _).setCell (by simp; omega) _).setCell (by simp) _
  · have e : ((W2.setCell ⟨g, i * 4 + 2, none⟩ (.int .i64 G)).setCell ⟨g, i * 4 + 1, none⟩ (.int .i64 now)).heap[cbk]? = some (.cells #[.bool false] 4 (0, 0)) := by
      rw [Below.heap_setCell _ _ _ cbk (by simp; omega), Below.heap_setCell _ _ _ cbk (by simp; omega)]
      exact hc
    simp only [World.setCell] at e ⊢
    rw [Array.getElem?_modify, if_pos rfl, e]
    rfl

end Go.Proofs.Ytplkimgoogoadaa
