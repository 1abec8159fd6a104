/- Alloc from the edge on. -/
import Derived.Test.YtifhimdhmlmgkaaA8
namespace Go.Proofs.Ytifhimdhmlmgkaa
open Go.RowKit

theorem of_int {A B : Nat} {ws : List Int} {w : World} (h : Ar w A B ws) (q : Int) (p c : Nat) (hq : q = p) (hc : c ≤ 5) (hp : p + sz c ≤ ws.length) :
    Calls Try.prog 33 #[.pointer (some ⟨A, 0, none⟩), .agg #[.int .i64 q, .int .i64 c]] w fun e W' => e = .returned (.slice (some ⟨B, p, none⟩) (sz c) (ws.length - p)) ∧ Below w.heap.size w W' := by
  subst hq
  exact of_any h p c hc hp

set_option maxRecDepth 100000 in
set_option maxHeartbeats 1000000 in
theorem alloc_full {A B : Nat} {ws : List Int} (c e0 : Nat) {w : World} (h : Ar w A B ws) (hc : c ≤ 5) (hp : rd ws (9 + c) = 0) (he : rd ws 15 = e0) (hle : e0 ≤ ws.length) (hfull : ws.length < e0 + 1 + sz c) :
    Calls Try.prog 10 #[.pointer (some ⟨A, 0, none⟩), .int .i64 c] w fun e W' => e = .returned (.tuple #[.int .i64 0, .int .i64 6]) ∧ Below w.heap.size w W' := by
  have hf : (decide (0 ≤ (c : Int)) && decide ((c : Int) ≤ 5)) = true := by simp; omega
  have hcl := classed_any c
  simp only [hf] at hcl
  clear hf
  have hA := h.ha
  have hlt := h.ltA
  have hltB := h.ltB
  have hhi := h.hi
  have hlo := h.lo
  obtain ⟨z1, z2⟩ := sz_le hc
  have hneA : A ≠ w.heap.size := by omega
  have hneB : B ≠ w.heap.size := by omega
  have c9 := h.cell (i := 9 + c) (by omega)
  rw [hp] at c9
  have c15 := h.cell (i := 15) (by omega)
  rw [he] at c15
  have HP := Lib.hid hp
  have HE := Lib.hid he
  clear hp he
  go_enter Try.func10, Try.ntmps10
  go_wp2_with (go_at_call 31; refine (hcl _).mono ?_; rintro e w' ⟨rfl, rfl⟩)
  go_quiet ((go_at_call 32; exact Calls.quiet_of_same ((wide_any c _ hc).mono fun _ _ h => ⟨h.1, h.2.symm⟩)))
  go_wp2_with fail
  go_ret2
  exact ⟨rfl, bDrewN ((Below.refl _ w).alloc (Nat.le_refl _) _) _⟩

set_option maxRecDepth 100000 in
set_option maxHeartbeats 1000000 in
theorem alloc_edge {A B : Nat} {ws : List Int} (c e0 : Nat) {w : World} (h : Ar w A B ws) (hc : c ≤ 5) (hp : rd ws (9 + c) = 0) (he : rd ws 15 = e0) (he0 : 16 ≤ e0) (hfull : e0 + 1 + sz c ≤ ws.length) :
    Calls Try.prog 10 #[.pointer (some ⟨A, 0, none⟩), .int .i64 c] w fun e W' => e = .returned (.tuple #[.int .i64 (e0 + 1), .int .i64 0]) ∧ Wr B w W' ∧ Ar W' A B (zset ((ws.set 15 (e0 + 1 + sz c)).set e0 (17 + 2 * c)) (e0 + 1) (sz c)) := by
  have hf : (decide (0 ≤ (c : Int)) && decide ((c : Int) ≤ 5)) = true := by simp; omega
  have hcl := classed_any c
  simp only [hf] at hcl
  clear hf
  have hA := h.ha
  have hlt := h.ltA
  have hltB := h.ltB
  have hhi := h.hi
  have hlo := h.lo
  obtain ⟨z1, z2⟩ := sz_le hc
  have hneA : A ≠ w.heap.size := by omega
  have hneB : B ≠ w.heap.size := by omega
  have c9 := h.cell (i := 9 + c) (by omega)
  rw [hp] at c9
  have c15 := h.cell (i := 15) (by omega)
  rw [he] at c15
  have HP := Lib.hid hp
  have HE := Lib.hid he
  clear hp he
  have f15 := h.free 15
  have ce := h.cell (i := e0) (by omega)
  have fe := h.free e0
  go_enter Try.func10, Try.ntmps10
  go_wp2_with (go_at_call 31; refine (hcl _).mono ?_; rintro e w' ⟨rfl, rfl⟩)
  go_quiet ((go_at_call 32; exact Calls.quiet_of_same ((wide_any c _ hc).mono fun _ _ h => ⟨h.1, h.2.symm⟩)))
  go_wp2_with fail
  go_region
  go_wp2_with fail
  obtain ⟨W1, hW1⟩ : ∃ W1, ((((w.alloc (Obj.cells #[.int .i64 (↑e0 + 1), .int .i64 ↑c] 58)).drewN nq).setCell ⟨B, 15, none⟩ (.int .u32 (↑e0 + 1 + ↑(sz c)))).setCell ⟨B, e0, none⟩ (.int .u32 (16 + ↑c * 2 + 1))).drew = W1 := ⟨_, rfl⟩
  have hW : Ar W1 A B ((ws.set 15 (e0 + 1 + sz c)).set e0 (17 + 2 * c)) := by
    have e : (16 + (c : Int) * 2 + 1) = 17 + 2 * c := by omega
    rw [← hW1, e]
    exact Ar_drew.2 ((((h.next ((Below.refl _ _).alloc (Nat.le_refl _) _)).drewN nq).set 15 (by omega) (by omega)).set e0 (by omega) (by omega))
  have hbx : At W1 w.heap.size 58 #[.int .i64 (↑e0 + 1), .int .i64 c] := by
    rw [← hW1]
    have := (((At.new w 58 #[.int .i64 (↑e0 + 1), .int .i64 c]).drewN nq).other (a := ⟨B, 15, none⟩) (Ne.symm hneB) (.int .u32 (↑e0 + 1 + ↑(sz c)))).other (a := ⟨B, e0, none⟩) (Ne.symm hneB) (.int .u32 (16 + ↑c * 2 + 1))
    exact this
  have hwr : Wr B w W1 := by
    rw [← hW1]
    exact ((((Wr.of_below ((Below.refl _ w).alloc (Nat.le_refl _) _)).trans (Wr.drewN B nq _)).trans (Wr.setCell _ _ _ _)).trans (Wr.setCell _ _ _ _)).trans (Wr.drewN B 1 _)
  rw [hW1]
  clear hW1
  refine (of_int hW (↑e0 + 1) (e0 + 1) c (by omega) hc (by simp; omega)).mono ?_
  rintro e w' ⟨rfl, hb⟩
  have hw' := hW.next hb
  have hclr := fun ty => run_clear hw' ty (e0 + 1) (sz c) (ws.length - (e0 + 1)) z1 (by simp; omega)
  have hbx' : At (w'.setCells B (e0 + 1) (List.replicate (sz c) (.int .u32 0))) w.heap.size 58 #[.int .i64 (↑e0 + 1), .int .i64 c] :=
    (hbx.below hb hbx.lt).kept (Wr.zset (.int .u32 0) (sz c) w' (e0 + 1)) (by simp; omega)
  have cbx := hbx'.cell 0
  simp only [List.getElem?_toArray, List.getElem?_cons_zero] at cbx
  go_wp2
  go_ret2
  exact ⟨rfl, (hwr.trans (Wr.of_below hb)).trans (Wr.zset _ _ _ _), hw'.zset _ _⟩

end Go.Proofs.Ytifhimdhmlmgkaa
