/- What an op names; what it does. -/
import Derived.Test.YtifhimdhmlmgkaaL3
namespace Go.Proofs.Ytifhimdhmlmgkaa
open Go.RowKit

/-- What is done. -/
structure OpV where
  kind : Int
  cls : Int
  place : Int
  i : Int
  n : Int
  x : Int
  fol : Bool

def OpV.v (o : OpV) : Value := .agg #[.int .i64 o.kind, .int .i64 o.cls, .int .i64 o.place, .int .i64 o.i, .int .i64 o.n, .int .u64 o.x, .bool o.fol]

/-- The place that an op names. -/
def rowP (bs : List Blk) (o : OpV) : Int :=
  if o.fol = true ∧ piecesB bs true ≠ [] then (((piecesB bs true).getD ((IntKind.u64.wrap o.place % (piecesB bs true).length).toNat) default).place : Int) else o.place

theorem pcs_at : ∀ (l : List Blk) (j : Nat) (h : j < l.length), (pcs l)[j * 2]? = some (.int .i64 l[j].place) ∧ (pcs l)[j * 2 + 1]? = some (.int .i64 l[j].cls)
  | b :: l, 0, _ => by simp [pcs]
  | b :: l, j + 1, h => by
    have := pcs_at l j (by simpa using h)
    simp only [pcs, List.flatMap_cons] at this ⊢
    have e1 : (j + 1) * 2 = j * 2 + 1 + 1 := by omega
    rw [e1]
    simpa using this

/-- What a slice of pieces is. -/
theorem Pcs.out {w W' : World} {l : List Blk} {e : Ending} (h : Pcs w W' l e) :
    Below w.heap.size w W' ∧ ((l = [] ∧ ∃ a cap, e = .returned (.slice a 0 cap)) ∨
      (l ≠ [] ∧ ∃ g cap, e = .returned (.slice (some ⟨g, 0, none⟩) l.length cap) ∧ w.heap.size ≤ g ∧ W'.ownsRow w.heap.size 58 2 (.slice (some ⟨g, 0, none⟩) l.length cap) l.length (pcs l) ∧
        ∀ j (hj : j < l.length), W'.cell? ⟨g, j * 2, none⟩ = some (.int .i64 l[j].place) ∧ W'.cell? ⟨g, j * 2 + 1, none⟩ = some (.int .i64 l[j].cls))) := by
  obtain ⟨v, rfl, hr, hb⟩ := h
  refine ⟨hb, ?_⟩
  rcases hr.2 with ⟨rfl, h0⟩ | ⟨g, cap, cur, rfl, hg, h1, h2, h3, h4, h5⟩
  · exact .inl ⟨List.length_eq_zero_iff.1 h0, _, _, rfl⟩
  · rcases l with _ | ⟨b, l⟩
    · exact .inl ⟨rfl, _, _, rfl⟩
    · refine .inr ⟨by simp, g, cap, rfl, hg, hr, fun j hj => ?_⟩
      have := pcs_at (b :: l) j hj
      rw [hr.cellAt (j * 2) (by omega), hr.cellAt (j * 2 + 1) (by omega)]
      exact this

set_option maxHeartbeats 1000000 in
theorem row_no {A B : Nat} {s : St} (o : OpV) {w : World} (h : Is w A B s) (hf : o.fol = false) :
    Calls Try.prog 12 #[o.v, .pointer (some ⟨A, 0, none⟩)] w fun e W' => e = .returned (.int .i64 o.place) ∧ Below w.heap.size w W' := by
  obtain ⟨k, c, p, i, n, x, f⟩ := o
  obtain rfl : f = false := hf
  have h0 : Is (w.alloc (Obj.cells #[.int .i64 k, .int .i64 c, .int .i64 p, .int .i64 i, .int .i64 n, .int .u64 x, .bool false] 35)) A B s := h.next ((Below.refl _ _).alloc (Nat.le_refl _) _)
  have hbl := blocks_any h0.arb
  unfold OpV.v
  go_enter Try.func12, Try.ntmps12
  go_wp2_with fail
  refine hbl.mono ?_
  rintro e w' ⟨v, rfl, hr, hb⟩
  have hx := (At.new w 35 #[.int .i64 k, .int .i64 c, .int .i64 p, .int .i64 i, .int .i64 n, .int .u64 x, .bool false]).below hb (by simp)
  have x2 := hx.cell 2
  have x6 := hx.cell 6
  simp only [List.getElem?_toArray, List.getElem?_cons_zero, List.getElem?_cons_succ] at x2 x6
  clear hr
  go_wp2
  go_ret
  exact ⟨rfl, ((Below.refl _ w).alloc (Nat.le_refl _) _).trans (hb.mono (by simp))⟩

set_option maxHeartbeats 1000000 in
theorem row_yes {A B : Nat} {s : St} (o : OpV) {w : World} (h : Is w A B s) (hf : o.fol = true) :
    Calls Try.prog 12 #[o.v, .pointer (some ⟨A, 0, none⟩)] w fun e W' => e = .returned (.int .i64 (rowP s.bs o)) ∧ Below w.heap.size w W' := by
  obtain ⟨k, c, p, i, n, x, f⟩ := o
  obtain rfl : f = true := hf
  have h0 : Is (w.alloc (Obj.cells #[.int .i64 k, .int .i64 c, .int .i64 p, .int .i64 i, .int .i64 n, .int .u64 x, .bool true] 35)) A B s := h.next ((Below.refl _ _).alloc (Nat.le_refl _) _)
  have hbl := blocks_any h0.arb
  unfold OpV.v rowP
  have hll : (piecesB s.bs true).length ≤ 16384 := by
    have h1 := piecesB_le s.bs true
    have h2 := h.arb.ch.count
    have h3 := h.iv.le
    have h4 := h.ar.hi
    omega
  generalize piecesB s.bs true = l at *
  have q0 := IntKind.wrap_u64 p
  obtain ⟨q, hq⟩ : ∃ q, IntKind.u64.wrap p = q := ⟨_, rfl⟩
  have q1 : 0 ≤ q := by rw [← hq, q0]; omega
  have q2 : q ≤ 18446744073709551615 := by rw [← hq, q0]; omega
  rw [hq]
  clear q0
  rcases hl : l with _ | ⟨b, l'⟩
  · subst hl
    go_enter Try.func12, Try.ntmps12
    go_wp2_with fail
    refine hbl.mono ?_
    rintro e w' hp
    obtain ⟨hb, ⟨_, a, cap, rfl⟩ | ⟨hne, _⟩⟩ := hp.out
    · have hx := (At.new w 35 #[.int .i64 k, .int .i64 c, .int .i64 p, .int .i64 i, .int .i64 n, .int .u64 x, .bool true]).below hb (by simp)
      have x2 := hx.cell 2
      have x6 := hx.cell 6
      simp only [List.getElem?_toArray, List.getElem?_cons_zero, List.getElem?_cons_succ] at x2 x6
      clear hp
      go_wp2
      go_ret
      exact ⟨by simp, ((Below.refl _ w).alloc (Nat.le_refl _) _).trans (hb.mono (by simp))⟩
    · exact absurd rfl hne
  · rw [← hl]
    have hne : l ≠ [] := by rw [hl]; simp
    clear hl
    have hlen : 1 ≤ l.length := by cases l with | nil => exact absurd rfl hne | cons _ _ => simp
    have hnz : ((l.length : Int) == 0) = false := by simp; omega
    have hlw : IntKind.u64.wrap (l.length : Int) = l.length := by rw [IntKind.wrap_u64]; omega
    obtain ⟨j, hj⟩ : ∃ j : Nat, q % (l.length : Int) = j := ⟨(q % (l.length : Int)).toNat, by have := Int.emod_nonneg q (b := (l.length : Int)) (by omega); omega⟩
    have hjl : j < l.length := by have := Int.emod_lt_of_pos q (b := (l.length : Int)) (by omega); omega
    rw [if_pos ⟨rfl, hne⟩, hj]
    have HL := Lib.hid hne
    clear hne
    go_enter Try.func12, Try.ntmps12
    go_wp2_with fail
    refine hbl.mono ?_
    rintro e w' hp
    obtain ⟨hb, ⟨h0, _⟩ | ⟨_, g, cap, rfl, hg, _, hcell⟩⟩ := hp.out
    · exact absurd h0 HL.out
    · have hx := (At.new w 35 #[.int .i64 k, .int .i64 c, .int .i64 p, .int .i64 i, .int .i64 n, .int .u64 x, .bool true]).below hb (by simp)
      have x2 := hx.cell 2
      have x6 := hx.cell 6
      simp only [List.getElem?_toArray, List.getElem?_cons_zero, List.getElem?_cons_succ] at x2 x6
      obtain ⟨cj, _⟩ := hcell j hjl
      clear hp hcell
      go_wp2
      go_ret
      refine ⟨?_, ((Below.refl _ w).alloc (Nat.le_refl _) _).trans (hb.mono (by simp))⟩
      have e1 : l.getD ((j : Int).toNat) default = l[j] := by simp [hjl]
      rw [e1]
      rfl

theorem row_is {A B : Nat} {s : St} (o : OpV) {w : World} (h : Is w A B s) :
    Calls Try.prog 12 #[o.v, .pointer (some ⟨A, 0, none⟩)] w fun e W' => e = .returned (.int .i64 (rowP s.bs o)) ∧ Below w.heap.size w W' := by
  rcases hf : o.fol with _ | _
  · have e : rowP s.bs o = o.place := by unfold rowP; rw [if_neg (by rw [hf]; simp)]
    rw [e]
    exact row_no o h hf
  · exact row_yes o h hf

/-- The version and the epoch that an op publishes. -/
def runV (s : St) (o : OpV) : Int := IntKind.u64.wrap (u64at s.ws 1 + IntKind.u64.wrap (o.n.tmod 3))
def runE (s : St) (o : OpV) : Int := IntKind.u64.wrap (u64at s.ws 7 + IntKind.u64.wrap (o.i.tmod 3))

/-- What an op does. -/
def runS (s : St) (o : OpV) : St :=
  match (IntKind.u64.wrap o.kind % 8).toNat with
  | 0 => (allocR s o.cls).1
  | 1 => (allocR s o.cls).1
  | 2 => (freeR s (rowP s.bs o)).1
  | 3 => s
  | 4 => (storeR s (rowP s.bs o) o.i (o.x % 4294967296)).1
  | 5 => (storeR s (rowP s.bs o) o.i (o.x % 4294967296)).1
  | 6 => (pubR s (runV s o) (runE s o) (rowP s.bs o) 0).1
  | _ => (raiseR s o.x).1

end Go.Proofs.Ytifhimdhmlmgkaa
