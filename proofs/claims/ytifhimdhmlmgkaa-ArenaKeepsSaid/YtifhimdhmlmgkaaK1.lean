/- ArenaKeeps: the walk. -/
import Derived.Test.YtifhimdhmlmgkaaL7
namespace Go.Proofs.Ytifhimdhmlmgkaa
open Go.RowKit

/-- Seven cells hold an op. -/
structure OpAt (w : World) (b off : Nat) (o : OpV) : Prop where
  c0 : w.cell? ⟨b, off, none⟩ = some (.int .i64 o.kind)
  c1 : w.cell? ⟨b, off + 1, none⟩ = some (.int .i64 o.cls)
  c2 : w.cell? ⟨b, off + 2, none⟩ = some (.int .i64 o.place)
  c3 : w.cell? ⟨b, off + 3, none⟩ = some (.int .i64 o.i)
  c4 : w.cell? ⟨b, off + 4, none⟩ = some (.int .i64 o.n)
  c5 : w.cell? ⟨b, off + 5, none⟩ = some (.int .u64 o.x)
  c6 : w.cell? ⟨b, off + 6, none⟩ = some (.bool o.fol)
  x0 : 0 ≤ o.x
  x1 : o.x < 18446744073709551616

/-- A slice of ops that came in. -/
def OpsAt (w : World) (a : Option Addr) (len : Nat) : Prop :=
  len = 0 ∨ ∃ b off, a = some ⟨b, off, none⟩ ∧ b < w.heap.size ∧ ∀ k, k < len → ∃ o, OpAt w b (off + k * 7) o

theorem OpAt.below {w w' : World} {b off n : Nat} {o : OpV} (h : OpAt w b off o) (k : Below n w w') (hb : b < n) : OpAt w' b off o :=
  ⟨(k.cell hb).trans h.c0, (k.cell hb).trans h.c1, (k.cell hb).trans h.c2, (k.cell hb).trans h.c3, (k.cell hb).trans h.c4, (k.cell hb).trans h.c5, (k.cell hb).trans h.c6, h.x0, h.x1⟩

theorem run_arn {w0 w : World} {A B : Nat} {s : St} (h : Arn w0 w A B s) (o : OpV) (hx0 : 0 ≤ o.x) (hx1 : o.x < 18446744073709551616) :
    Calls Try.prog 13 #[.pointer (some ⟨A, 0, none⟩), .agg #[.int .i64 o.kind, .int .i64 o.cls, .int .i64 o.place, .int .i64 o.i, .int .i64 o.n, .int .u64 o.x, .bool o.fol]] w fun e W' => e = .returned (.tuple #[]) ∧ Arn w0 W' A B (runS s o) :=
  (run_is o h.is hx0 hx1).mono fun _ _ k => ⟨k.1, h.wr k.2.1 k.2.2⟩
theorem row_arn {w0 w : World} {A B : Nat} {s : St} (h : Arn w0 w A B s) (o : OpV) :
    Calls Try.prog 12 #[.agg #[.int .i64 o.kind, .int .i64 o.cls, .int .i64 o.place, .int .i64 o.i, .int .i64 o.n, .int .u64 o.x, .bool o.fol], .pointer (some ⟨A, 0, none⟩)] w fun e W' => e = .returned (.int .i64 (rowP s.bs o)) ∧ Arn w0 W' A B s ∧ Below w.heap.size w W' :=
  (row_is o h.is).mono fun _ _ k => ⟨k.1, h.next k.2, k.2⟩

set_option maxRecDepth 100000 in
set_option maxHeartbeats 1000000 in
theorem keeps_walk (a0 : Int) (a1 : Option Addr) (len1 cap1 : Nat) (a2 : Int) (w : World) (hl : len1 ≤ maxLen) (h1 : OpsAt w a1 len1) (hx0 : 0 ≤ a2) (hx1 : a2 < 4294967296) :
    Calls Try.prog 3 #[.int .i64 a0, .slice a1 len1 cap1, .int .u32 a2] w fun e w' => e = .returned (.bool true) ∧ Below w.heap.size w w' := by
  unfold maxLen at hl
  have q0 := IntKind.wrap_u64 a0
  obtain ⟨q, hq⟩ : ∃ q, IntKind.u64.wrap a0 = q := ⟨_, rfl⟩
  have q1 : 0 ≤ q := by rw [← hq, q0]; omega
  have q2 : q ≤ 18446744073709551615 := by rw [← hq, q0]; omega
  clear q0
  obtain ⟨m, hm⟩ : ∃ m : Nat, q % 200 = m := ⟨(q % 200).toNat, by omega⟩
  have hm2 : m < 200 := by omega
  obtain ⟨n, hn⟩ : ∃ n : Nat, 64 + m = n := ⟨_, rfl⟩
  have hn1 : 64 ≤ n := by omega
  have hn2 : n ≤ 16384 := by omega
  have hmn : 64 + (m : Int) = n := by omega
  have hwk := wakes_any w
  go_enter Try.func3, Try.ntmps3
  go_wp2_with fail
  refine hwk.mono ?_
  rintro e w0 ⟨rfl, hb0⟩
  clear hwk
  go_wp2_with fail
  refine (new_is n w0 hn1 hn2).mono ?_
  rintro e w1 ⟨rfl, hb, hi⟩
  have g0 : Arn w w1 (w0.heap.size + 1) w0.heap.size (newS n) := ⟨hi, hb0.trans (hb.mono hb0.size), hb0.size⟩
  clear hi hb hb0
  go_wp2_with fail
  refine (alloc_arn g0 1 17 0 (kp1 n) (kp1_eq n hn1)).mono ?_
  rintro e w2 ⟨rfl, g1⟩
  clear g0
  go_wp2_with fail
  refine (store_arn g1 17 1 a2 0 (kp2 n a2) hx0 hx1 (kp2_eq n hn1 a2)).mono ?_
  rintro e w3 ⟨rfl, g2⟩
  clear g1
  have hk := kp2_keep n hn1 a2
  go_wp2_with fail
  go_loopw [49] (fun i wr => ∃ (k : Nat) (s : St), i = .int .i64 k ∧ k ≤ len1 ∧ k ≤ 40 ∧ Arn w wr (w0.heap.size + 1) w0.heap.size s ∧ Keep s a2) (fun i _ => len1 - (intOf i).toNat)
  case atStart => exact ⟨0, kp2 n a2, rfl, by omega, by omega, g2, hk⟩
  case round =>
    obtain ⟨k, s, rfl, hk1, hk2, hs, hkp⟩ := hrel
    clear g2 hk
    by_cases hlt : k < len1
    · by_cases h40 : k = 40
      · subst h40
        obtain ⟨b, off, rfl, hbl, hops⟩ : ∃ b off, a1 = some ⟨b, off, none⟩ ∧ b < w.heap.size ∧ ∀ k, k < len1 → ∃ o, OpAt w b (off + k * 7) o := h1.resolve_left (by omega)
        obtain ⟨o, ho⟩ := hops 40 hlt
        have ho' := ho.below hs.bl hbl
        have hlr := hs.bl.size
        obtain ⟨c0, c1, c2, c3, c4, c5, c6, x0, x1⟩ := ho'
        clear hops ho h1
        go_wp2
        go_ret
        exact ⟨rfl, hs.bl.alloc hs.bl.size _⟩
      · obtain ⟨b, off, rfl, hbl, hops⟩ : ∃ b off, a1 = some ⟨b, off, none⟩ ∧ b < w.heap.size ∧ ∀ k, k < len1 → ∃ o, OpAt w b (off + k * 7) o := h1.resolve_left (by omega)
        obtain ⟨o, ho⟩ := hops k hlt
        have ho' := ho.below hs.bl hbl
        have hlr := hs.bl.size
        obtain ⟨c0, c1, c2, c3, c4, c5, c6, x0, x1⟩ := ho'
        have h40' : ((k : Int) == 40) = false := by simp; omega
        have hk40 : k < 40 := by omega
        clear hops ho h1 h40
        have hs' := hs.next ((Below.refl _ wr).alloc (Nat.le_refl _) (.cells #[.int .i64 o.kind, .int .i64 o.cls, .int .i64 o.place, .int .i64 o.i, .int .i64 o.n, .int .u64 o.x, .bool o.fol] 35))
        have hk8 := o.k_rng
        obtain ⟨j, hj⟩ : ∃ j : Nat, o.k = j := ⟨o.k.toNat, by omega⟩
        have hj8 : j < 8 := by omega
        have z0 := IntKind.wrap_u64 o.kind
        obtain ⟨z, hz⟩ : ∃ z, IntKind.u64.wrap o.kind = z := ⟨_, rfl⟩
        have z1 : 0 ≤ z := by rw [← hz, z0]; omega
        have z2 : z ≤ 18446744073709551615 := by rw [← hz, z0]; omega
        have hjk : z % 8 = (j : Int) := by rw [← hz]; exact hj
        clear z0
        by_cases hsk : 2 ≤ j ∧ j ≤ 5 ∧ j ≠ 3
        · obtain ⟨r, hr⟩ : ∃ r, rowP s.bs o = r := ⟨_, rfl⟩
          have hrow := row_arn hs' o
          rw [hr] at hrow
          by_cases h17 : r = 17
          · subst h17
            clear hk8
            obtain rfl | rfl | rfl : j = 2 ∨ j = 4 ∨ j = 5 := by omega
            all_goals
              clear hj
              go_wp2_with fail
              refine hrow.mono ?_
              rintro e wA ⟨rfl, hA, _⟩
              go_wp2
              go_roundw
              case rel => exact ⟨k + 1, s, by go_num, by omega, by omega, hA, hkp⟩
              case measure => simp [intOf]; omega
          · have hns : ¬ skips s o := fun h => h17 (by rw [← hr]; exact h.2.2.2)
            have h17' : (r == 17) = false := by simp; omega
            clear h17 hr hk8
            obtain rfl | rfl | rfl : j = 2 ∨ j = 4 ∨ j = 5 := by omega
            all_goals
              clear hj
              have HNS := Lib.hid hns
              clear hns
              go_wp2_with fail
              refine hrow.mono ?_
              rintro e wX ⟨rfl, hX, hbX⟩
              have hx := (At.new wr 35 #[.int .i64 o.kind, .int .i64 o.cls, .int .i64 o.place, .int .i64 o.i, .int .i64 o.n, .int .u64 o.x, .bool o.fol]).below hbX (by simp)
              have y0 := hx.cell 0
              have y1 := hx.cell 1
              have y2 := hx.cell 2
              have y3 := hx.cell 3
              have y4 := hx.cell 4
              have y5 := hx.cell 5
              have y6 := hx.cell 6
              simp only [List.getElem?_toArray, List.getElem?_cons_zero, List.getElem?_cons_succ] at y0 y1 y2 y3 y4 y5 y6
              go_wp2_with fail
              have hns := HNS.out
              refine (run_arn hX o x0 x1).mono ?_
              rintro e wA ⟨rfl, hA⟩
              have hkA := hkp.run hs.is.iv o hns
              go_wp2_with fail
              refine (load_arn hA 17 1 a2 0 (hkA.load hA.is.iv)).mono ?_
              rintro e wB ⟨rfl, hB⟩
              go_wp2
              go_roundw
              case rel => exact ⟨k + 1, runS s o, by go_num, by omega, by omega, hB, hkA⟩
              case measure => simp [intOf]; omega
        · have hns : ¬ skips s o := fun h => hsk (by obtain ⟨a, b, c, _⟩ := h; omega)
          clear hk8
          obtain rfl | rfl | rfl | rfl | rfl : j = 0 ∨ j = 1 ∨ j = 3 ∨ j = 6 ∨ j = 7 := by omega
          all_goals
            clear hj hsk
            have HNS := Lib.hid hns
            clear hns
            go_wp2_with fail
            have hns := HNS.out
            refine (run_arn hs' o x0 x1).mono ?_
            rintro e wA ⟨rfl, hA⟩
            have hkA := hkp.run hs.is.iv o hns
            go_wp2_with fail
            refine (load_arn hA 17 1 a2 0 (hkA.load hA.is.iv)).mono ?_
            rintro e wB ⟨rfl, hB⟩
            go_wp2
            go_roundw
            case rel => exact ⟨k + 1, runS s o, by go_num, by omega, by omega, hB, hkA⟩
            case measure => simp [intOf]; omega
    · go_wp2
      go_ret
      exact ⟨rfl, hs.bl⟩
end Go.Proofs.Ytifhimdhmlmgkaa
