/- Alloc. -/
import Derived.Test.YtifhimdhmlmgkaaA7
import Derived.Lib.SliceRun
namespace Go.Proofs.Ytifhimdhmlmgkaa
open Go.RowKit

theorem size_setCell (w : World) (a : Addr) (v : Value) : (w.setCell a v).heap.size = w.heap.size := by simp [World.setCell]

theorem zero23 (w : World) : (zeroValue 23).run Try.prog w = .ok (.int .u32 0) w := by kernel_rfl

theorem run_clear {A B : Nat} {ws : List Int} {w : World} (h : Ar w A B ws) (ty : TypeId) (p n c : Nat) (hn : 0 < n) (hp : p + n ≤ ws.length) :
    (Builtin.clear_ #[75] ty #[.slice (some ⟨B, p, none⟩) n c]).run Try.prog w = .ok (.tuple #[]) (w.setCells B p (List.replicate n (.int .u32 0))) :=
  Lib.run_clear_slice w 75 23 ty (.int .u32 0) Try.underlying75 zero23 rfl rfl B p n c hn (fun j hj => by rw [h.cell (by omega)]; rfl) (fun j _ => h.free _)

set_option maxHeartbeats 400000 in
theorem alloc_bad {A : Nat} (c : Int) {w : World} (hc : c < 0 ∨ 5 < c) :
    Calls Try.prog 10 #[.pointer (some ⟨A, 0, none⟩), .int .i64 c] w fun e W' => e = .returned (.tuple #[.int .i64 0, .int .i64 2]) ∧ w = W' := by
  have hf : (decide (0 ≤ c) && decide (c ≤ 5)) = false := by simp; omega
  have hcl := classed_any c
  simp only [hf] at hcl
  clear hf
  go_enter Try.func10, Try.ntmps10
  go_wp2_with (go_at_call 31; refine (hcl _).mono ?_; rintro e w' ⟨rfl, rfl⟩)
  go_ret2
  exact ⟨rfl, rfl⟩

set_option maxRecDepth 100000 in
set_option maxHeartbeats 1000000 in
theorem alloc_list {A B : Nat} {ws : List Int} (c : Nat) (p : Nat) {w : World} (h : Ar w A B ws) (hc : c ≤ 5) (hp : rd ws (9 + c) = p) (hp0 : 17 ≤ p) (hp1 : p + sz c ≤ ws.length) :
    Calls Try.prog 10 #[.pointer (some ⟨A, 0, none⟩), .int .i64 c] w fun e W' => e = .returned (.tuple #[.int .i64 p, .int .i64 0]) ∧ Wr B w W' ∧ Ar W' A B (zset ((ws.set (9 + c) (rd ws p)).set (p - 1) (17 + 2 * c)) p (sz c)) := by
  have hf : (decide (0 ≤ (c : Int)) && decide ((c : Int) ≤ 5)) = true := by simp; omega
  have hcl := classed_any c
  simp only [hf] at hcl
  clear hf
  have hA := h.ha
  have hlt := h.ltA
  have hltB := h.ltB
  have hhi := h.hi
  obtain ⟨z1, z2⟩ := sz_le hc
  have hneA : A ≠ w.heap.size := by omega
  have hneB : B ≠ w.heap.size := by omega
  have c9 := h.cell (i := 9 + c) (by omega)
  rw [hp] at c9
  have cp := h.cell (i := p) (by omega)
  have cp1 := h.cell (i := p - 1) (by omega)
  have f9 := h.free (9 + c)
  have fp1 := h.free (p - 1)
  have HP := Lib.hid hp
  clear hp
  have hpz : ((p : Int) == 0) = false := by simp; omega
  have hpz' : ((p : Int) != 0) = true := by simp; omega
  go_enter Try.func10, Try.ntmps10
  go_wp2_with (go_at_call 31; refine (hcl _).mono ?_; rintro e w' ⟨rfl, rfl⟩)
  go_region
  go_wp2_with fail
  go_region
  go_wp2_with fail
  have hW : Ar (((w.setCell ⟨B, 9 + c, none⟩ (.int .u32 (rd ws p))).setCell ⟨B, p - 1, none⟩ (.int .u32 (16 + ↑c * 2 + 1))).alloc (Obj.cells #[.int .i64 p, .int .i64 c] 58)).drew.drew A B ((ws.set (9 + c) (rd ws p)).set (p - 1) (17 + 2 * c)) := by
    obtain ⟨r1, r2⟩ := rd_rng h.rng p
    have e : (16 + (c : Int) * 2 + 1) = 17 + 2 * c := by omega
    rw [e]
    exact Ar_drew.2 (Ar_drew.2 (((h.set (9 + c) r1 r2).set (p - 1) (by omega) (by omega)).next ((Below.refl _ _).alloc (Nat.le_refl _) _)))
  have hbx : At (((w.setCell ⟨B, 9 + c, none⟩ (.int .u32 (rd ws p))).setCell ⟨B, p - 1, none⟩ (.int .u32 (16 + ↑c * 2 + 1))).alloc (Obj.cells #[.int .i64 p, .int .i64 c] 58)).drew.drew w.heap.size 58 #[.int .i64 p, .int .i64 c] := by
    have := At.new ((w.setCell ⟨B, 9 + c, none⟩ (.int .u32 (rd ws p))).setCell ⟨B, p - 1, none⟩ (.int .u32 (16 + ↑c * 2 + 1))) 58 #[.int .i64 p, .int .i64 c]
    simp only [size_setCell] at this
    exact this
  have hwr : Wr B w (((w.setCell ⟨B, 9 + c, none⟩ (.int .u32 (rd ws p))).setCell ⟨B, p - 1, none⟩ (.int .u32 (16 + ↑c * 2 + 1))).alloc (Obj.cells #[.int .i64 p, .int .i64 c] 58)).drew.drew :=
    ((Wr.setCell _ _ _ _).trans (Wr.setCell _ _ _ _)).trans (Wr.of_below ((Below.refl _ _).alloc (Nat.le_refl _) _).drew.drew)
  refine (of_any hW p c hc (by simpa using hp1)).mono ?_
  rintro e w' ⟨rfl, hb⟩
  have hw' := hW.next hb
  have hclr := fun ty => run_clear hw' ty p (sz c) (ws.length - p) z1 (by simpa using hp1)
  have hbx' : At (w'.setCells B p (List.replicate (sz c) (.int .u32 0))) w.heap.size 58 #[.int .i64 p, .int .i64 c] :=
    (hbx.below hb hbx.lt).kept (Wr.zset (.int .u32 0) (sz c) w' p) (by simp; omega)
  have cbx := hbx'.cell 0
  simp only [List.getElem?_toArray, List.getElem?_cons_zero] at cbx
  go_wp2
  go_ret2
  exact ⟨rfl, (hwr.trans (Wr.of_below hb)).trans (Wr.zset _ _ _ _), hw'.zset _ _⟩
end Go.Proofs.Ytifhimdhmlmgkaa
