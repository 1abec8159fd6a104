/- The reference's Of, With, Without: what they answer. -/
import Derived.Test.YtplkimgoogoadaaB15
namespace Go.Proofs.Ytplkimgoogoadaa
open Go.RowKit Go.Proofs.YtplkimgoogoadaaW.PrintWords PBeatPeers

/-- The peer of a number. -/
def ofP (ps : List S35) (n : Int) : Option S35 := ps.find? fun p => p.f0 == n
theorem of_some {ps : List S35} {n : Int} {k : Nat} (hk : k < ps.length) (h1 : ∀ j, j < k → ¬ (pu ps j).f0 = n) (h2 : (pu ps k).f0 = n) : ofP ps n = some (pu ps k) := by
  unfold ofP
  rw [List.find?_eq_some_iff_getElem]
  refine ⟨by simpa using h2, k, hk, (pu_eq hk).symm, fun j hj => ?_⟩
  have := h1 j hj
  rw [pu_eq (by omega)] at this
  simpa using this
theorem of_none {ps : List S35} {n : Int} (h1 : ∀ j, j < ps.length → ¬ (pu ps j).f0 = n) : ofP ps n = none := by
  unfold ofP
  rw [List.find?_eq_none]
  intro p hp
  obtain ⟨j, hj, rfl⟩ := List.getElem_of_mem hp
  have := h1 j hj
  rw [pu_eq hj] at this
  simpa using this

def zp : S35 := ⟨0, 0, 0, 0⟩
theorem boxed4 {W : World} {b : Nat} {t : TypeId} {x y z u : Value} (h : W.heap[b]? = some (.cells #[x, y, z, u] t (0, 0))) :
    (W.cell? ⟨b, 0, none⟩ = some x ∧ W.cell? ⟨b, 1, none⟩ = some y ∧ W.cell? ⟨b, 2, none⟩ = some z ∧ W.cell? ⟨b, 3, none⟩ = some u) ∧ (∀ j, W.frozen? ⟨b, j, none⟩ = false) := by
  simp [World.cell?, World.frozen?, h]

set_option maxHeartbeats 4000000 in
theorem of_any (now n : Int) (ps : List S35) (A : Option Addr) (c : Nat) (w : World) (hC : Kd.C k35 w A ps.length ps) (_hc : ps.length ≤ c) (hl : ps.length ≤ 1000) (r : Option S35) (hres : ofP ps n = r) :
    Calls Try.prog 13 #[.agg #[.int .i64 now, .slice A ps.length c], .int .i64 n] w fun e w' => e = .returned (.tuple #[pv (r.getD zp), .bool r.isSome]) ∧ Below w.heap.size w w' := by
  obtain ⟨W2, hW2⟩ : ∃ W2, (w.alloc (.cells #[.int .i64 now, .slice A ps.length c] 24)).alloc (.cells #[.int .i64 0, .int .i64 0, .int .i64 0, .int .i64 0] 35) = W2 := ⟨_, rfl⟩
  have hb : Below w.heap.size w W2 := by rw [← hW2]; exact ((Below.refl _ w).alloc (Nat.le_refl _) _).alloc (by simp) _
  have hx : W2.heap[w.heap.size]? = some (.cells #[.int .i64 now, .slice A ps.length c] 24 (0, 0)) := by
    rw [← hW2, heap_alloc_old (by simp)]
    exact World.alloc_heap_new w _
  have hy : W2.heap[w.heap.size + 1]? = some (.cells #[.int .i64 0, .int .i64 0, .int .i64 0, .int .i64 0] 35 (0, 0)) := by
    have h := World.alloc_heap_new (w.alloc (.cells #[.int .i64 now, .slice A ps.length c] 24)) (.cells #[.int .i64 0, .int .i64 0, .int .i64 0, .int .i64 0] 35)
    rw [World.size_alloc, hW2] at h
    exact h
  obtain ⟨x0, x1, _, _⟩ := boxed_cells hx
  obtain ⟨⟨y0, y1, y2, y3⟩, yf⟩ := boxed4 hy
  have f0 := yf 0
  have f1 := yf 1
  have f2 := yf 2
  have f3 := yf 3
  have hcl := C_at hC
  obtain ⟨L, hL⟩ : ∃ L, ps.length = L := ⟨_, rfl⟩
  rw [hL] at hcl hl x1 hx
  rw [hL]
  rw [hL] at hW2
  have hbl := hb.size
  have HF := Lib.hid (And.intro hb (And.intro hy hres))
  have HL := Lib.hid hL
  clear hres yf hx hy hL
  go_enter Try.func13, Try.ntmps13
  go_wp2_with fail
  go_loop [6] (fun i => ∃ k : Nat, k ≤ L ∧ i = .int .i64 k ∧ ∀ j, j < k → ¬ (pu ps j).f0 = n) (fun i => L - (intOf i).toNat)
  case atStart => exact ⟨0, Nat.zero_le _, rfl, fun j h => absurd h (by omega)⟩
  case round =>
    obtain ⟨k, hk, rfl, hno⟩ := hrel
    have HN := Lib.hid hno
    clear hno
    by_cases hlt : k < L
    · obtain ⟨g, o, rfl, hg, hcell⟩ := hcl.resolve_left (by omega)
      obtain ⟨c0, c1, c2, c3⟩ := (hcell k hlt).below hb hg
      clear hcell hcl
      by_cases he : (pu ps k).f0 = n
      · have HE := Lib.hid he
        rw [he] at c0
        clear he
        go_wp2_with fail
        refine bodyPost_ret (v := .tuple #[.agg #[.int .i64 n, .int .i64 (pu ps k).f1, .int .i64 (pu ps k).f2, .int .i64 (pu ps k).f3], .bool true]) ?_ rfl ⟨?_, ?_⟩
        · simp [results, Try.f13, go_sem, *]
        · rw [← HF.out.2.2, of_some (by rw [HL.out]; exact hlt) HN.out HE.out]
          unfold pv
          rw [Option.getD_some, HE.out]
          rfl
        · exact (((HF.out.1.setCell (by simp) _).setCell (by simp) _).setCell (by simp) _).setCell (by simp) _
      · go_wp2_with fail
        go_round
        case rel =>
          refine ⟨k + 1, by omega, by go_num, fun j hj => ?_⟩
          rcases Nat.lt_or_ge j k with h | h
          · exact HN.out j h
          · rw [show j = k by omega]; exact he
        case measure => simp [intOf]; omega
    · go_wp2_with fail
      refine bodyPost_ret (v := .tuple #[.agg #[.int .i64 0, .int .i64 0, .int .i64 0, .int .i64 0], .bool false]) ?_ rfl ⟨?_, ?_⟩
      · simp [results, Try.f13, go_sem, *]
      · rw [← HF.out.2.2, of_none (fun j hj => HN.out j (by rw [HL.out] at hj; omega))]
        rfl
      · exact (((HF.out.1.setCell (by simp) _).setCell (by simp) _).setCell (by simp) _).setCell (by simp) _

end Go.Proofs.Ytplkimgoogoadaa
