/- BeatPeers is true of every input: whatever the watch and the number, peers come, go and are heard as the document says, or it is refused; no condition. -/
import Derived.Test.YtplkimgoogoadaaRows
import Derived.Test.YtplkimgoogoadaaB20
import Derived.Deep.Slices
import Derived.Deep.Fields
import Derived.Lib.SmallJoins
import Derived.ProofKit
import Derived.OpenShut
import Derived.ShutString
import Derived.ChangeOld
import Derived.Below
namespace Go.Proofs.Ytplkimgoogoadaa
open Go.ChangeShapes Go.WideShapes Go.RowKit Go.Deep Go.Proofs.YtplkimgoogoadaaW.PrintWords PBeatPeers

section
variable {H : Type} {enc : TypeId × Value → H} {w : World} {base : Nat} {spare : Nat → Bool} {held : Bool}

theorem list4 {l : List Value} (h : l.length = 4) : ∃ a b c d, l = [a, b, c, d] := by
  match l, h with
  | [a, b, c, d], _ => exact ⟨a, b, c, d, rfl⟩
theorem some_of_lt {α : Type} {l : List α} {j : Nat} (h : j < l.length) : ∃ x, l[j]? = some x := ⟨l[j], List.getElem?_eq_getElem h⟩
theorem cells35 : Try.prog.cellsOf 35 = 4 := by kernel_rfl
theorem cells3 : Try.prog.cellsOf 3 = 1 := by kernel_rfl
theorem cells2 : Try.prog.cellsOf 2 = 1 := by kernel_rfl

theorem open_pulse {fuel : Nat} {cs : List Value} {x : DataW H × List MemPlace} (h : DataW.trod enc Try.prog w base spare held fuel 35 cs = some x) :
    ∃ p : S35, cs = [.int .i64 p.f0, .int .i64 p.f1, .int .i64 p.f2, .int .i64 p.f3] := by
  obtain ⟨xs, n, _, _, hlen, hsz, hf⟩ := DataW.trod_struct Try.underlying35 h
  rw [cells35] at hlen
  obtain ⟨v0, v1, v2, v3, rfl⟩ := list4 hlen
  have hsz' : xs.length = 4 := hsz
  obtain ⟨y0, e0⟩ := some_of_lt (show 0 < xs.length by omega)
  obtain ⟨y1, e1⟩ := some_of_lt (show 1 < xs.length by omega)
  obtain ⟨y2, e2⟩ := some_of_lt (show 2 < xs.length by omega)
  obtain ⟨y3, e3⟩ := some_of_lt (show 3 < xs.length by omega)
  have h0 : DataW.trod enc Try.prog w base spare held n 3 [v0] = some y0 := by have := hf 0 _ rfl; rw [e0] at this; simpa [cells3] using this
  have h1 : DataW.trod enc Try.prog w base spare held n 2 [v1] = some y1 := by have := hf 1 _ rfl; rw [e1] at this; simpa [cells2] using this
  have h2 : DataW.trod enc Try.prog w base spare held n 3 [v2] = some y2 := by have := hf 2 _ rfl; rw [e2] at this; simpa [cells3] using this
  have h3 : DataW.trod enc Try.prog w base spare held n 3 [v3] = some y3 := by have := hf 3 _ rfl; rw [e3] at this; simpa [cells3] using this
  obtain ⟨n0, k0, _, _⟩ := DataW.trod_int Try.underlying3 h0
  obtain ⟨n1, k1, _, _⟩ := DataW.trod_int Try.underlying2 h1
  obtain ⟨n2, k2, _, _⟩ := DataW.trod_int Try.underlying3 h2
  obtain ⟨n3, k3, _, _⟩ := DataW.trod_int Try.underlying3 h3
  simp at k0 k1 k2 k3
  subst k0; subst k1; subst k2; subst k3
  exact ⟨⟨n0, n1, n2, n3⟩, rfl⟩

theorem open_peers {fuel : Nat} {v : Value} {x : DataW H × List MemPlace} (h : DataW.trod enc Try.prog w base spare held fuel 22 [v] = some x) :
    ∃ (A : Option Addr) (c : Nat) (ps : List S35), v = .slice A ps.length c ∧ ps.length ≤ c ∧ Kd.C k35 w A ps.length ps := by
  rcases open_slice Try.underlying22 h with ⟨hcs, _⟩ | ⟨ad, l, c, m, n, D, Pl, hcs, _, hl, hm, hmm, _, hi⟩
  · simp at hcs
    subst hcs
    exact ⟨none, 0, [], rfl, Nat.le_refl _, C_iff (by decide) (fun h => absurd h (by decide))⟩
  · simp at hcs
    subst hcs
    have hlm : l ≤ m := by rw [hmm]; split <;> omega
    have hcell : ∀ i, i < l → ∃ p : S35, ∀ j, j < 4 → w.cell? (ad.add (i * 4 + j)) = [Value.int .i64 p.f0, .int .i64 p.f1, .int .i64 p.f2, .int .i64 p.f3][j]? := by
      intro i him
      obtain ⟨cs', hc, ht⟩ := hi i (by omega)
      rw [cells35] at hc
      obtain ⟨_, hcl, hat⟩ := World.cells?_some hc
      obtain ⟨p, rfl⟩ := open_pulse ht
      exact ⟨p, fun j hj => by rw [← hat j hj, Go.Deep.add_add]⟩
    have hps : ∀ k, k ≤ l → ∃ ps : List S35, ps.length = k ∧ ∀ i, i < k → ∀ j, j < 4 → w.cell? (ad.add (i * 4 + j)) = [Value.int .i64 (pu ps i).f0, .int .i64 (pu ps i).f1, .int .i64 (pu ps i).f2, .int .i64 (pu ps i).f3][j]? := by
      intro k
      induction k with
      | zero => exact fun _ => ⟨[], rfl, fun i h => absurd h (by omega)⟩
      | succ k ih =>
        intro hk
        obtain ⟨ps, hl1, hc1⟩ := ih (by omega)
        obtain ⟨p, hp⟩ := hcell k (by omega)
        refine ⟨ps ++ [p], by rw [List.length_append, hl1]; rfl, fun i hik j hj => ?_⟩
        rcases Nat.lt_or_ge i k with h1 | h1
        · have e : pu (ps ++ [p]) i = pu ps i := by rw [pu_eq (by rw [List.length_append]; omega), pu_eq (by omega), List.getElem_append_left (by omega)]
          rw [e]
          exact hc1 i h1 j hj
        · obtain rfl : i = k := by omega
          have e : pu (ps ++ [p]) i = p := by
            rw [pu_eq (by rw [List.length_append, hl1, List.length_singleton]; omega), List.getElem_append_right (by omega)]
            simp
          rw [e]
          exact hp j hj
    obtain ⟨ps, hpl, hpc⟩ := hps l (Nat.le_refl _)
    subst hpl
    unfold maxLen at hm
    refine ⟨some ad, c, ps, rfl, hl, C_iff (by omega) fun _ => ⟨ad, rfl, fun k u hu => ?_⟩⟩
    have hk : k < ps.length * 4 := by have := (List.getElem?_eq_some_iff.1 hu).1; rwa [pcells_len] at this
    have e1 : k = k / 4 * 4 + k % 4 := by omega
    have hj : k / 4 < ps.length := by omega
    have := hpc (k / 4) hj (k % 4) (by omega)
    rw [e1] at hu ⊢
    rw [pcells_get ps _ _ (by omega), List.getElem?_eq_getElem hj] at hu
    rw [this, pu_eq hj]
    exact hu
end

namespace beatPeers
open Go.ChangeShapes Go.WideShapes Go.ChangeAt Go.RowKit

theorem own : ownKnob Try.prog.godebug = none := by kernel_rfl
theorem laidOut : laidOutB Try.prog = true := by kernel_rfl

set_option maxRecDepth 100000 in
theorem lifted (os : Os) (started : os.Started) (H : Type) (enc : TypeId × Value → H) :
    ReturnsInHanded {} Try.checked os 3 .any (Rows.beatPeersSpec.pre6 enc Try.prog Try.f3 Rows.beatPeersRow.domain false) (Rows.beatPeersSpec.post enc Try.prog Try.f3 false true false false) := by
  refine returnsInHanded_of_change (C := Try.checked) own started (by kernel_rfl) Try.func3
    (ChangeSpec.witness6 (enc := enc) (C := Try.checked) false ⟨#[], #[.agg #[.int .i64 0, .slice none 0 0], .int .i64 0], []⟩ 8 (by kernel_rfl) (by kernel_rfl) (by kernel_rfl) (by kernel_rfl)) ?_
  intro W base args ds gs before hval0 hW hcnd _
  have hval : ∀ (j : Nat) t v, Try.f3.params[j]? = some t → args[j]? = some v → Value.okWide Try.prog W .any base t v := hval0
  have hW' := hW
  obtain ⟨p, q, hA0, hV, rfl, hfz, hnd⟩ := hW
  have hA : DataW.TrodAll enc Try.prog W 0 (fun _ => true) true Try.f3.params.toList args.toList ds p := hA0
  rw [Try.params3] at hA hval
  obtain ⟨v0, vs0, d0, ds0, p0, q0, hargs, rfl, rfl, h0, r0⟩ := trodAll_cons hA
  obtain ⟨v1, vs1, d1, ds1, p1, q1, rfl, rfl, rfl, h1, r1⟩ := trodAll_cons r0
  obtain ⟨rfl, rfl, rfl⟩ := trodAll_nil r1
  obtain rfl : args = #[v0, v1] := by cases args; simp_all
  obtain ⟨rfl, rfl⟩ := trodVars_none hV
  have k0 := h0
  have lt0 : ∀ x ∈ p0, x.block < W.heap.size := by obtain ⟨m, hm⟩ := k0; exact DataW.trod_lt m _ _ _ hm
  obtain ⟨a0, a1, y0, y1, fn, rfl, _, _, t0, t1⟩ := Go.Joins.open_agg2 Try.underlying24 (by kernel_rfl) (by kernel_rfl) (hval 0 24 v0 rfl rfl) h0
  obtain ⟨now, k2, _, _⟩ := DataW.trod_int Try.underlying2 t0
  simp at k2
  subst k2
  obtain ⟨A, c, ps, rfl, hc, hC⟩ := open_peers t1
  obtain ⟨n, rfl, rfl, rfl, w1⟩ := open_int Try.underlying3 (hval 1 3 v1 rfl rfl) h1
  clear hA0 hval0
  refine (peers_any now n ps A c W hC hc).mono fun e W' ⟨he, bel⟩ => ?_
  subst he
  exact ⟨_, rfl, _, _, _, [], _, [], hW', trodAll_mk1 (shut_bool Try.underlying4 _), (trodAll_cons_mk (Below.trod laidOut (by kernel_rfl) (of_decide_eq_true (by kernel_rfl)) k0 bel lt0) (trodAll_cons_mk (shut_int Try.underlying3 w1) trodAll_mk0)), rfl, bel.frame _, fun h => by cases h⟩

theorem over : Rows.beatPeersRow.holds Try.pinned (OpenSpec.ofChange Rows.beatPeersSpec) :=
  OpenClaim.holds_of_wide 3 Try.f3 rfl rfl rfl rfl rfl rfl rfl ⟨rfl, rfl, rfl, rfl, rfl⟩ rfl rfl rfl rfl rfl (by kernel_rfl) Try.func3 (by kernel_rfl)
    (of_decide_eq_true (by kernel_rfl)) (by unfold Func.isWrapper; first | (rw [if_pos (by decide +kernel)]; kernel_rfl) | (rw [if_neg (by decide +kernel)]; exact ⟨rfl, rfl⟩))
    (fun os started H enc _ => lifted os started H enc)

theorem proved : Rows.BeatPeersSaid := over
#print axioms proved
end beatPeers
end Go.Proofs.Ytplkimgoogoadaa
