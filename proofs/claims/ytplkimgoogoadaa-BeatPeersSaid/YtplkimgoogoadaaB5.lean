/- A peer goes. -/
import Derived.Test.YtplkimgoogoadaaB4
import Derived.Laws.IdiomCopy
import Derived.StillTailTactics
import Derived.Lib.AppendZeros
namespace Go.Proofs.Ytplkimgoogoadaa
open Go.RowKit Go.Proofs.YtplkimgoogoadaaW.PrintWords PBeatPeers

def zeros4 : List Value := [.int .i64 0, .int .i64 0, .int .i64 0, .int .i64 0]
theorem zero35 (w : World) : (zeroValue 35).run Try.prog w = .ok (.agg #[.int .i64 0, .int .i64 0, .int .i64 0, .int .i64 0]) w := by kernel_rfl

theorem run_clear1 (W : World) (ty : TypeId) (g o c : Nat) (hc : ∀ j, j < 4 → (W.cell? ⟨g, o + j, none⟩).isSome = true) (hf : ∀ j, j < 4 → W.frozen? ⟨g, o + j, none⟩ = false) :
    (Builtin.clear_ #[22] ty #[.slice (some ⟨g, o, none⟩) 1 c]).run Try.prog W = .ok (.tuple #[]) (W.setCells g o zeros4) := by
  have hst := run_storeCells_cells (P := Try.prog) g o zeros4 0 W (by simpa [zeros4] using hc) (by simpa [zeros4] using hf) (by intro v hv; simp [zeros4] at hv; subst hv; rfl)
  simp only [Nat.add_zero] at hst
  have hz : (Builtin.zeroCells (Value.agg #[.int .i64 0, .int .i64 0, .int .i64 0, .int .i64 0]).cells 1).toList = zeros4 := by kernel_rfl
  simp [Builtin.clear_, run_underlying Try.underlying22, hz, hst]

theorem owns_past {g cap n B : Nat} {e : TypeId} {size : Nat} {xs : List Value} : ∀ (vs : List Value) {W : World}, W.ownsRow B e size (.slice (some ⟨g, 0, none⟩) n cap) n xs → ∀ o, n * size ≤ o → (W.setCells g o vs).ownsRow B e size (.slice (some ⟨g, 0, none⟩) n cap) n xs
  | [], _, h, _, _ => h
  | v :: vs, W, h, o, ho => by
    have := (h.stored o v).1
    rw [List.set_eq_of_length_le (by rw [h.1]; exact ho)] at this
    rw [World.setCells]
    exact owns_past vs this (o + 1) (by omega)
theorem grown_setCells (g : Nat) : ∀ (vs : List Value) (o : Nat) (W : World), W.grownBy (W.setCells g o vs) (some g)
  | [], _, W => World.grownBy.refl _ _
  | v :: vs, o, W => by
    rw [World.setCells]
    have h1 : W.grownBy (W.setCell ⟨g, o, none⟩ v) (some g) := ⟨rfl, rfl, rfl, by simp [World.setCell], fun k _ hne => Below.heap_setCell _ _ _ _ (by intro e; exact hne (by rw [e]))⟩
    exact h1.trans (grown_setCells g vs (o + 1) _)

set_option maxHeartbeats 1000000 in
theorem delete_any (xs ys : List S35) (p : S35) {B : Nat} {v : Value} (w : World) (h : Own w B v (xs ++ p :: ys)) (hlen : (xs ++ p :: ys).length ≤ 1000) :
    Calls Try.prog 34 #[v, .int .i64 xs.length, .int .i64 (xs.length + 1 : Nat)] w fun e w' => ∃ v', e = .returned v' ∧ Own w' B v' (xs ++ ys) ∧ w.grownBy w' v.ownBlock ∧ v'.ownBlock = v.ownBlock := by
  rcases h.2 with ⟨rfl, h0⟩ | ⟨g, cap, cur, rfl, hg, h1, h2, h3, h4, h5⟩
  · simp at h0
  · obtain ⟨n, hn⟩ : ∃ n, (xs ++ p :: ys).length = n := ⟨_, rfl⟩
    obtain ⟨i, hi⟩ : ∃ i, xs.length = i := ⟨_, rfl⟩
    have hin : i + 1 ≤ n := by rw [← hn, ← hi]; simp
    rw [hn] at hlen h2 h5
    rw [hn, hi]
    unfold maxLen at h3
    have e1 : ((i : Int) == ((i + 1 : Nat) : Int)) = false := by simp; omega
    go_enter Try.func34, Try.ntmps34
    have e2 : (i : Int) + 1 ≤ (n : Int) := by omega
    have e5 : 0 ≤ (i : Int) + 1 := by omega
    obtain ⟨ad, had⟩ : ∃ ad : Addr, (if cap = i + 1 then some (⟨g, 0, none⟩ : Addr) else some ⟨g, (i + 1) * 4, none⟩) = some ad := by split <;> exact ⟨_, rfl⟩
    have e3 : (i : Int) ≤ (cap : Int) := by omega
    have e4 : (n : Int) ≤ (cap : Int) := by omega
    go_wp2_with fail
    refine wp_region_still_tail 6 (by kernel_rfl) (by kernel_rfl) ?_
    simp only [List.take_succ_cons, List.take_zero, List.drop_succ_cons, List.drop_zero]
    obtain ⟨W4, hW4⟩ : ∃ W4, World.mk w.heap w.tape (w.drawn + 1) w.os w.output = W4 := ⟨_, rfl⟩
    rw [hW4]
    still_step
    still_step
    still_step
    still_step
    still_step
    still_step
    refine wpStill_nil ?_
    have hm : n - (i + 1) = ys.length := by rw [← hn, ← hi]; simp; omega
    have hg4 : W4.heap[g]? = some (.cells cur 35 (0, 0)) := by rw [← hW4]; exact h1
    have hpy := pcells_len ys
    have hck : ∀ k u, (pcells (xs ++ p :: ys))[k]? = some u → W4.cell? ⟨g, k, none⟩ = some u := by
      intro k u hu
      have hk : k < n * 4 := by have := (List.getElem?_eq_some_iff.1 hu).1; rwa [pcells_len, hn] at this
      rw [← h5, List.getElem?_take_of_lt hk] at hu
      simp only [World.cell?, hg4]
      simpa using hu
    have hnews : ∀ j u, (pcells ys)[j]? = some u → W4.cell? (ad.add j) = some u := by
      intro j u hu
      have hj : j < ys.length * 4 := by have := (List.getElem?_eq_some_iff.1 hu).1; rwa [pcells_len] at this
      rw [if_neg (by omega)] at had
      injection had with had
      subst had
      have hc : (pcells (xs ++ p :: ys))[(i + 1) * 4 + j]? = some u := by
        rw [pcells_app, List.getElem?_append_right (by rw [pcells_len]; omega), pcells_len, hi]
        rw [show (i + 1) * 4 + j - i * 4 = 4 + j by omega]
        rw [show pcells (p :: ys) = [.int .i64 p.f0, .int .i64 p.f1, .int .i64 p.f2, .int .i64 p.f3] ++ pcells ys from rfl]
        rw [List.getElem?_append_right (by simp)]
        simpa using hu
      have := hck _ _ hc
      unfold Addr.add
      by_cases hj0 : j = 0
      · subst hj0; simpa using this
      · rw [if_neg hj0]; exact this
    obtain ⟨i0, hi0, hz0, hz1, hz2⟩ := info_parts info35
    have happ : ∀ ty, (Builtin.append_ #[22, 22] ty #[.slice (some ⟨g, 0, none⟩) i cap, .slice (some ad) (n - (i + 1)) (cap - (i + 1))]).run Try.prog W4 = _ := fun ty =>
      run_append_room W4 22 ty 35 i0 Try.underlying22 hi0 g i cap cur hg4 ad (n - (i + 1)) (cap - (i + 1)) (pcells ys) (by rw [hz1, hpy, hm]) hnews (pcells_one ys) (by omega) (by rw [hz1, hpy, h4]; omega)
    obtain ⟨W5, hW5⟩ : ∃ W5, W4.setRow g (cur.toList.take (i * i0.size) ++ pcells ys ++ cur.toList.drop (i * i0.size + (pcells ys).length)).toArray = W5 := ⟨_, rfl⟩
    obtain ⟨N1, hN1⟩ : ∃ N1, i + (n - (i + 1)) = N1 := ⟨_, rfl⟩
    rw [hW5, hN1] at happ
    have hg5 : W5.heap[g]? = some (.cells (cur.toList.take (i * i0.size) ++ pcells ys ++ cur.toList.drop (i * i0.size + (pcells ys).length)).toArray 35 (0, 0)) := by
      rw [← hW5]; simp [World.setRow, Array.getElem?_modify, hg4]
    have hnN : n = N1 + 1 := by omega
    have hlN : (xs ++ ys).length = N1 := by rw [List.length_append]; omega
    have ho5 : W5.ownsRow B 35 4 (.slice (some ⟨g, 0, none⟩) N1 cap) N1 (pcells (xs ++ ys)) := by
      have hxl := pcells_len xs
      have hcl : cur.toList.length = cap * 4 := by simpa using h4
      have htx : cur.toList.take (i * 4) = pcells xs := by
        have : (cur.toList.take (n * 4)).take (i * 4) = (pcells (xs ++ p :: ys)).take (i * 4) := by rw [h5]
        rw [List.take_take, Nat.min_eq_left (by omega), pcells_app, List.take_append_of_le_length (by rw [hxl, hi]; omega)] at this
        rw [this]
        exact List.take_of_length_le (by rw [hxl, hi]; omega)
      refine ⟨by rw [pcells_len, hlN], .inr ⟨g, cap, _, rfl, hg, hg5, by omega, by unfold maxLen; omega, ?_, ?_⟩⟩
      · simp only [List.size_toArray, List.length_append, List.length_take, List.length_drop, hz1, hpy, hcl]; omega
      · simp only [hz1]
        rw [htx, List.take_append_of_le_length (by rw [List.length_append, hxl, hpy, hi]; omega), pcells_app]
        exact List.take_of_length_le (by rw [List.length_append, hxl, hpy, hi]; omega)
    have hgr5 : w.grownBy W5 (some g) := by
      rw [← hW5, ← hW4]
      refine ⟨rfl, rfl, rfl, by simp [World.setRow], fun k hk hne => ?_⟩
      have hne' : g ≠ k := by intro e; exact hne (by rw [e])
      simp [World.setRow, Array.getElem?_modify, hne']
    subst hnN
    refine Lib.wpList_append_run W4 rfl _ _ _ _ rfl _ _ rfl rfl _ _ (happ _) ?_
    obtain ⟨W6, hW6⟩ : ∃ W6, W5.setCells g (N1 * 4) zeros4 = W6 := ⟨_, rfl⟩
    have hcl5 : ∀ j, j < 4 → (W5.cell? ⟨g, N1 * 4 + j, none⟩).isSome = true := by
      intro j hj
      have hsz : N1 * 4 + j < (cur.toList.take (i * i0.size) ++ pcells ys ++ cur.toList.drop (i * i0.size + (pcells ys).length)).length := by
        have hcl : cur.toList.length = cap * 4 := by simpa using h4
        simp only [List.length_append, List.length_take, List.length_drop, hz1, hpy, hcl]; omega
      simp only [World.cell?, hg5, List.getElem?_toArray, List.getElem?_eq_getElem hsz]
      rfl
    have hfr5 : ∀ j, j < 4 → W5.frozen? ⟨g, N1 * 4 + j, none⟩ = false := by
      intro j _
      simp [World.frozen?, hg5]
    have hclr := fun ty => run_clear1 W5 ty g (N1 * 4) (cap - N1) hcl5 hfr5
    rw [hW6] at hclr
    have ho6 : W6.ownsRow B 35 4 (.slice (some ⟨g, 0, none⟩) N1 cap) N1 (pcells (xs ++ ys)) := by
      rw [← hW6]
      exact owns_past zeros4 ho5 (N1 * 4) (Nat.le_refl _)
    have hgr6 : w.grownBy W6 (some g) := by
      rw [← hW6]
      exact hgr5.trans (grown_setCells g zeros4 (N1 * 4) W5)
    clear hcl5 hfr5
    go_wp2_with fail
    go_ret
    exact ⟨_, rfl, by unfold Own; rw [hlN]; exact ho6, hgr6, rfl⟩

end Go.Proofs.Ytplkimgoogoadaa
