/- The blocks, gone along by a function. -/
import Derived.Test.YtifhimdhmlmgkaaA1
import Derived.RangeFuncNested
import Derived.RangeFuncBound
import Derived.RangeFuncCalls
import Derived.RangeFuncLeaves
import Derived.Shelf.Abstract
import Derived.Shelf.RegionOpen
import Derived.OwnWalkIn
import Derived.TacticsInMore
import Derived.LoopNIn
import Derived.LoopIn
namespace Go.Proofs.Ytifhimdhmlmgkaa
open Go.RowKit Go.Shelf
attribute [local go_sem] Oper.semAt_some

/-- What yield is handed. -/
def encs (b : Blk) : Array Value := #[.agg #[.int .i64 b.place, .int .i64 b.cls], .bool b.taken]

/-- A fence that lets everything in. -/
structure Wide (F : Fence) : Prop where
  fn : ∀ k, F.fn k
  round : F.round = none
  calls : ∀ {n : Nat} {P : Program} {f : FuncId} {args : Array Value} {w : World} {R : Ending → World → Prop}, Calls P f args w R → CallsIn F n P f args w R
  back : ∀ {n : Nat} {P : Program} {f : FuncId} {args : Array Value} {w : World} {R : Ending → World → Prop}, CallsIn F n P f args w R → Calls P f args w R

theorem wide_wide : Wide Fence.wide := ⟨fun _ => trivial, rfl, fun h => callsIn_wide.2 h, fun h => callsIn_wide.1 h⟩

/-- The lowest bit of a head. -/
theorem head_taken (c : Nat) (hc : c ≤ 5) (t : Bool) : (bits BinOp.and IntKind.u32 (16 + 2 * (c : Int) + (if t then 1 else 0)) 1 != 0) = t := by
  obtain rfl | rfl | rfl | rfl | rfl | rfl : c = 0 ∨ c = 1 ∨ c = 2 ∨ c = 3 ∨ c = 4 ∨ c = 5 := by omega
  all_goals cases t <;> decide

set_option maxRecDepth 100000 in
set_option maxHeartbeats 1000000 in
theorem all1_in (F : Fence) (n : Nat) (hF : Wide F) (hn : 1 ≤ n) (l Bn A B : Nat) (ws : List Int) (bs : List Blk) (edge : Nat) (J Jx : List Blk → World → Prop)
    (hc : Chain ws 16 bs edge) (he : rd ws 15 = edge) (hle : edge ≤ ws.length)
    (hY : ∀ pre x W, J pre W → pre.length < bs.length → YieldAt F (n - 1) Try.prog l (encs x) W fun e W' =>
      (e = .returned (.bool true) ∧ J (pre ++ [x]) W' ∧ Keeps [A, B, Bn] W W') ∨ (e = .returned (.bool false) ∧ Jx (pre ++ [x]) W'))
    (W : World) (hp : W.cell? ⟨Bn, 0, none⟩ = some (.pointer (some ⟨A, 0, none⟩))) (har : Ar W A B ws) (h0 : J [] W) :
    CallsIn F n Try.prog 77 #[.func (.yield l) #[] #[], .pointer (some ⟨Bn, 0, none⟩)] W fun e W' => (∃ v, e = .returned v) ∧
      ((∃ ys, ys = bs ∧ J ys W') ∨ (∃ pre, pre <+: bs ∧ Jx pre W')) := by
  have h77 := hF.fn 77
  have h72 := hF.fn 72
  have h32 := hF.fn 32
  have hro := hF.round
  refine callsIn_of_wp Try.func77 rfl h77 ?_ hro
  simp only [Try.ntmps77, List.size_toArray, List.length_cons, List.length_nil, Nat.reduceAdd, Nat.reduceSub, Array.replicate_succ, Array.replicate_zero, List.push_toArray, List.append_toArray, List.nil_append, List.cons_append]
  gi_wp2
  gi_loopw [3] (fun i wr => ∃ (pre rest : List Blk) (k : Nat), i = .int .i64 k ∧ bs = pre ++ rest ∧ Chain ws k rest edge ∧ J pre wr ∧ Ar wr A B ws ∧ wr.cell? ⟨Bn, 0, none⟩ = some (.pointer (some ⟨A, 0, none⟩)))
    (fun i _ => edge - (intOf i).toNat)
  case atStart => exact ⟨[], bs, 16, rfl, rfl, hc, h0, har, hp⟩
  case round =>
    obtain ⟨pre, rest, k, rfl, hx, hl, hJs, har', hp'⟩ := hrel
    have hAc := har'.ha
    have hlo := har'.lo
    have hhi := har'.hi
    have h15 := har'.cell (i := 15) (by omega)
    rw [he] at h15
    have hke := hl.le
    cases rest with
    | nil =>
      obtain rfl : k = edge := hl
      gi_wp2
      go_end0
      exact ⟨⟨_, rfl⟩, .inl ⟨pre, by simp [hx], hJs⟩⟩
    | cons x rest =>
      obtain ⟨hpl, hcl, hw, hr⟩ := hl
      have hr' := hr.le
      obtain ⟨hpos, hszle⟩ := sz_le hcl
      have hk := har'.cell (i := k) (by omega)
      obtain ⟨hd, hhd⟩ : ∃ hd, rd ws k = hd := ⟨_, rfl⟩
      have hand := head_taken x.cls hcl x.taken
      rw [← hw, hhd] at hand
      have hd0 : 16 + 2 * (x.cls : Int) ≤ hd := by rw [← hhd, hw]; split <;> omega
      have hd1 : hd ≤ 17 + 2 * (x.cls : Int) := by rw [← hhd, hw]; split <;> omega
      rw [hhd] at hk
      clear he hw hhd
      obtain ⟨fn, tmps, assign, body, hy, hR⟩ := hY pre x wr hJs (by rw [hx]; simp)
      simp only [encs, hpl, Int.natCast_add, Int.cast_ofNat_Int] at hy
      have HX := Lib.hid hx
      have HPL := Lib.hid hpl
      clear hx hpl
      gi_wp2_with (gi_at_call 72; refine (hF.calls (class_any x.cls hd _ hd0 hd1 hcl)).mono ?_; rintro e w' ⟨rfl, rfl⟩)
      refine hR.mono ?_
      rintro e W3 (⟨rfl, hJ3, hk3⟩ | ⟨rfl, hJx3⟩)
      · have har3 := har'.keeps hk3 (by simp) (by simp)
        have hp3 := (World.cell?_of_block (a := ⟨Bn, 0, none⟩) (w := wr) (hk3 Bn (by simp))).trans hp'
        gi_wp2_with (gi_at_call 32; refine (hF.calls (wide_any x.cls _ hcl)).mono ?_; rintro e w' ⟨rfl, rfl⟩)
        go_roundw
        case rel => exact ⟨pre ++ [x], rest, k + 1 + sz x.cls, by go_num, by simp [HX.out], hr, hJ3, har3, hp3⟩
        case measure => simp [intOf]; omega
      · gi_wp2
        refine bodyPost_ret (results_none rfl _ _ _) rfl ?_
        exact ⟨⟨_, rfl⟩, .inr ⟨pre ++ [x], ⟨rest, by simp [HX.out]⟩, hJx3⟩⟩
theorem at_own {β : Type} (B : Nat) (t : TypeId) (f : β → Array Value) : Own (fun s W => At W B t (f s)) := by
  intro s W W' row hs hg hr
  refine hs.kept hg (fun e => ?_)
  obtain ⟨o, ho, hc⟩ := hr B e.symm
  rw [show W.heap[B]? = _ from hs] at ho
  cases ho
  simp [Obj.isCells] at hc

set_option maxHeartbeats 1000000 in
theorem all_in (F : Fence) (n : Nat) (hF : Wide F) (p : Option Addr) (w : World) :
    CallsIn F n Try.prog 64 #[.pointer p] w fun e w' => e = .returned (.func (.func 77) #[] #[.pointer (some ⟨w.heap.size, 0, none⟩)]) ∧ w' = w.alloc (.cells #[.pointer p] 26) := by
  have h64 := hF.fn 64
  have hro := hF.round
  refine callsIn_of_wp Try.func64 rfl h64 ?_ hro
  simp only [Try.ntmps64, List.size_toArray, List.length_cons, List.length_nil, Nat.reduceAdd, Nat.reduceSub, Array.replicate_succ, Array.replicate_zero, List.push_toArray, List.append_toArray, List.nil_append, List.cons_append]
  gi_wp2
  go_ret
  exact ⟨rfl, rfl⟩

theorem all_stops (F : Fence) (n : Nat) (hF : Wide F) (hn : 1 ≤ n) (Bn A B : Nat) (ws : List Int) (bs : List Blk) (edge : Nat) (w : World) (hBn : Bn < w.heap.size) (hc : Chain ws 16 bs edge) (he : rd ws 15 = edge) (hle : edge ≤ ws.length)
    (hp : w.cell? ⟨Bn, 0, none⟩ = some (.pointer (some ⟨A, 0, none⟩))) (har : Ar w A B ws) :
    SeqStopsK F n Try.prog 77 #[.pointer (some ⟨Bn, 0, none⟩)] encs (Keeps [A, B, Bn]) (fun ys => ys = bs) (fun pre => pre <+: bs) bs.length w := fun l J Jx W hW _ _ hY h0 =>
  all1_in F n hF hn l Bn A B ws bs edge J Jx hc he hle hY W ((hW.cell (p := ⟨Bn, 0, none⟩) hBn).trans hp) (har.next hW) h0

/-- What find tells. -/
def findB (bs : List Blk) (p : Int) : Option Blk := bs.find? fun b => b.taken && (b.place : Int) == p

def findR : Option Blk → Value
  | some b => .tuple #[.agg #[.int .i64 b.place, .int .i64 b.cls], .bool true]
  | none => .tuple #[.agg #[.int .i64 0, .int .i64 0], .bool false]

end Go.Proofs.Ytifhimdhmlmgkaa
