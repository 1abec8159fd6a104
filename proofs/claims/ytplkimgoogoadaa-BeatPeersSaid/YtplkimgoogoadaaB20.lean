/- BeatPeers: the walk. -/
import Derived.Test.YtplkimgoogoadaaB19
namespace Go.Proofs.Ytplkimgoogoadaa
open Go.RowKit Go.Proofs.YtplkimgoogoadaaW.PrintWords PBeatPeers

/-- Behind a box and a call. -/
theorem after_box {W W' : World} {o : Obj} (hb : Below (W.alloc o).heap.size (W.alloc o) W') : Below W.heap.size W W' ∧ W'.heap[W.heap.size]? = some o ∧ W.heap.size < W'.heap.size := by
  have hs : (W.alloc o).heap.size = W.heap.size + 1 := World.size_alloc ..
  have h := World.alloc_heap_new W o
  have h1 := hb.size
  rw [hs] at h1
  exact ⟨((Below.refl _ W).alloc (Nat.le_refl _) o).trans (hb.mono (by omega)), (hb.block _ (by omega)).trans h, by omega⟩

theorem copied_is (now : Int) (ps : List S35) (hl : ps.length ≤ 1000) : junctionboxlaw29_copied.f now ps = some (now, ps) := by
  unfold junctionboxlaw29_copied.f
  simp only [Option.bind_some, List.length_nil, List.nil_append]
  rw [if_pos (by omega)]

theorem ins_len (ps : List S35) (n now : Int) : (insP ps ⟨n, now, 0, 0⟩).length = ps.length + 1 := by
  have := idx_le n ps
  unfold insP
  rw [List.length_append, List.length_cons, List.length_take, List.length_drop]
  show min (idx n ps) ps.length + (ps.length - idx n ps + 1) = ps.length + 1
  omega

/-- What the calls answer, case by case. -/
theorem res_bad {now : Int} {ps : List S35} {n : Int} (h : okW now ps = false) : addOut now ps n = (0, [], 390) ∧ dropOut now ps n = (0, [], 390) ∧ hearOut now ps n = (0, [], false, 390) := by
  have e : ∀ r, turnR now ps r = 390 := fun r => by unfold turnR; rw [if_neg (by simp [h])]
  unfold addOut dropOut hearOut turnN turnQ
  simp only [e, h]
  simp
theorem res_out {now : Int} {ps : List S35} {n : Int} (h : okW now ps = true) (hn : has ps n = false) (hr : n < 1 ∨ 8 < n) : addOut now ps n = (0, [], 2) ∧ dropOut now ps n = (0, [], 4) ∧ hearOut now ps n = (0, [], false, 4) := by
  have e : ∀ r, turnR now ps r = r := fun r => by unfold turnR; rw [if_pos h]
  unfold addOut dropOut hearOut turnN turnQ addR dropR hearC
  simp only [e, hn, if_pos hr]
  simp
theorem res_add {now : Int} {ps : List S35} {n : Int} (h : okW now ps = true) (hn : has ps n = false) (hr : ¬ (n < 1 ∨ 8 < n)) : addOut now ps n = (now, insP ps ⟨n, now, 0, 0⟩, 0) ∧ dropOut now ps n = (0, [], 4) ∧ hearOut now ps n = (0, [], false, 4) := by
  have e : ∀ r, turnR now ps r = r := fun r => by unfold turnR; rw [if_pos h]
  have e2 : addR ps n = 0 := by unfold addR; rw [if_neg hr, if_neg (by simp [hn])]
  unfold addOut dropOut hearOut turnN turnQ addQ
  rw [e2]
  unfold dropR hearC
  simp only [e, hn]
  simp
theorem res_has {now : Int} {ps : List S35} {n : Int} (h : OkW now ps) (hn : has ps n = true) : addOut now ps n = (0, [], 5) ∧ dropOut now ps n = (now, delP ps n, 0) ∧ hearOut now ps n = (now, ps.set (idx n ps) (hearP now (pu ps (idx n ps))), hearC now ps n, 0) := by
  have h' := okW_iff.2 h
  have e : ∀ r, turnR now ps r = r := fun r => by unfold turnR; rw [if_pos h']
  obtain ⟨hi, he⟩ := has_at h.rising hn
  have hr := h.range _ hi
  rw [he] at hr
  have e2 : addR ps n = 5 := by unfold addR; rw [if_neg (by omega), if_pos hn]
  unfold addOut dropOut hearOut turnN turnQ
  rw [e2]
  unfold dropR dropQ hearQ
  simp only [e, hn, h']
  simp

set_option maxRecDepth 100000 in
set_option maxHeartbeats 8000000 in
theorem peers_bad (now n : Int) (ps : List S35) (A : Option Addr) (c : Nat) (w : World) (hC : Kd.C k35 w A ps.length ps) (hc : ps.length ≤ c) (hl : ps.length ≤ 100) (h : okW now ps = false) :
    Calls Try.prog 3 #[.agg #[.int .i64 now, .slice A ps.length c], .int .i64 n] w fun e w' => e = .returned (.bool true) ∧ Below w.heap.size w w' := by
  obtain ⟨ha, hd, hh⟩ := res_bad (n := n) h
  have hcop := copied_is now ps (by omega)
  have hsame := same_is now ps (by omega)
  have hli : ((ps.length : Nat) : Int) ≤ 100 := by omega
  go_enter Try.func3, Try.ntmps3
  go_wp2_with fail
  refine (wakes_any _).mono ?_
  rintro e W1 ⟨rfl, hb1⟩
  obtain ⟨E1, bw1, l1⟩ := after_box hb1
  have C1 := Kd.C_below hC E1
  obtain ⟨x0, x1, _, _⟩ := boxed_cells bw1
  have P1 := Lib.hid (And.intro E1 (And.intro bw1 C1))
  have hcp := junctionboxlaw29_copied.calls now A c ps now ps W1 C1 hc hcop
  clear hb1 E1 bw1 C1 hC hcop
  go_wp2_with fail
  refine hcp.mono ?_
  rintro e W2 ⟨v2, rfl, R2, hb2⟩
  obtain ⟨A2, c2, rfl, hc2, C2⟩ := Kd.R_reads R2
  obtain ⟨E1, bw1, C1⟩ := P1.out
  have s2 := hb2.size
  have l2 : w.heap.size < W2.heap.size := by omega
  have bw2 := (hb2.block _ l1).trans bw1
  have Cw2 := Kd.C_below C1 hb2
  have E2 := E1.trans (hb2.mono (by omega))
  obtain ⟨y0, y1, _, _⟩ := boxed_cells bw2
  have P2 := Lib.hid (And.intro E2 (And.intro bw2 (And.intro Cw2 C2)))
  have hadd := add_any now n ps A2 c2 _ (Kd.C_alloc C2 (.cells #[.int .i64 now, .slice A2 ps.length c2] 24)) hc2 (by omega) _ _ _ ha
  clear hcp R2 E1 bw1 C1 P1 hb2 bw2 Cw2 E2 C2 x0 x1 l1
  go_wp2_with fail
  refine hadd.mono ?_
  rintro e W4 ⟨A4, c4, rfl, o4, hb4⟩
  obtain ⟨E4, b5, l4⟩ := after_box hb4
  obtain ⟨E2, bw2, Cw2, C2⟩ := P2.out
  obtain ⟨hc4, Ca4⟩ := o4.cc (by decide)
  have bw4 := (E4.block _ l2).trans bw2
  have Cw4 := Kd.C_below Cw2 E4
  have C24 := Kd.C_below C2 E4
  have F4 := E2.trans (E4.mono (by omega))
  have l4' : w.heap.size < W4.heap.size := by omega
  obtain ⟨x0, x1, _, _⟩ := boxed_cells bw4
  obtain ⟨u0, u1, _, _⟩ := boxed_cells b5
  have P4 := Lib.hid (And.intro F4 (And.intro bw4 (And.intro Cw4 (And.intro C24 (And.intro b5 Ca4)))))
  have hdrop := drop_any now n ps A2 c2 _ (Kd.C_alloc C24 (.cells #[.int .i64 0, .slice A4 (([] : List S35)).length c4] 24)) hc2 (by omega) _ _ _ hd
  clear hadd o4 hb4 E4 E2 bw2 Cw2 C2 P2 bw4 Cw4 C24 F4 b5 Ca4 y0 y1
  go_wp2_with fail
  refine hdrop.mono ?_
  rintro e W6 ⟨A6, c6, rfl, o6, hb6⟩
  obtain ⟨E6, b6, l6⟩ := after_box hb6
  obtain ⟨F4, bw4, Cw4, C24, b5, Ca4⟩ := P4.out
  obtain ⟨hc6, Cd6⟩ := o6.cc (by decide)
  have bw6 := (E6.block _ l4').trans bw4
  have b56 := (E6.block _ l4).trans b5
  have Cw6 := Kd.C_below Cw4 E6
  have C26 := Kd.C_below C24 E6
  have Ca6 := Kd.C_below Ca4 E6
  have F6 := F4.trans (E6.mono (by omega))
  have l6' : w.heap.size < W6.heap.size := by omega
  have l62 : W2.heap.size < W6.heap.size := by omega
  obtain ⟨y0, y1, _, _⟩ := boxed_cells bw6
  obtain ⟨v0, v1, _, _⟩ := boxed_cells b56
  have P6 := Lib.hid (And.intro F6 (And.intro bw6 (And.intro Cw6 (And.intro C26 (And.intro b56 (And.intro Ca6 (And.intro b6 Cd6)))))))
  have hhear := hear_any now n ps A2 c2 _ (Kd.C_alloc C26 (.cells #[.int .i64 0, .slice A6 (([] : List S35)).length c6] 24)) hc2 (by omega) _ _ _ _ hh
  clear hdrop o6 hb6 E6 F4 bw4 Cw4 C24 b5 Ca4 P4 bw6 b56 Cw6 C26 Ca6 F6 b6 Cd6 x0 x1 u0 u1
  go_wp2_with fail
  refine hhear.mono ?_
  rintro e W8 ⟨A8, c8, rfl, o8, hb8⟩
  obtain ⟨E8, b8, l8⟩ := after_box hb8
  obtain ⟨F6, bw6, Cw6, C26, b56, Ca6, b6, Cd6⟩ := P6.out
  obtain ⟨hc8, Ch8⟩ := o8.cc (by decide)
  have bw8 := (E8.block _ l6').trans bw6
  have b58 := (E8.block _ l62).trans b56
  have b68 := (E8.block _ l6).trans b6
  have Cw8 := Kd.C_below Cw6 E8
  have C28 := Kd.C_below C26 E8
  have Ca8 := Kd.C_below Ca6 E8
  have Cd8 := Kd.C_below Cd6 E8
  have F8 := F6.trans (E8.mono (by omega))
  have l8' : w.heap.size < W8.heap.size := by omega
  have l82 : W2.heap.size < W8.heap.size := by omega
  have l84 : W4.heap.size < W8.heap.size := by omega
  obtain ⟨x0, x1, _, _⟩ := boxed_cells bw8
  obtain ⟨u0, u1, _, _⟩ := boxed_cells b58
  have P8 := Lib.hid (And.intro F8 (And.intro bw8 (And.intro Cw8 (And.intro b58 (And.intro Ca8 (And.intro b68 (And.intro Cd8 (And.intro b8 Ch8))))))))
  have hsm := junctionboxref29_Same.calls _ now A2 c2 ps now A c ps true _ (Kd.C_alloc C28 (.cells #[.int .i64 0, .slice A8 (([] : List S35)).length c8] 24)) hc2 (Kd.C_alloc Cw8 (.cells #[.int .i64 0, .slice A8 (([] : List S35)).length c8] 24)) hc hsame
  clear hhear o8 hb8 E8 F6 bw6 Cw6 C26 b56 Ca6 b6 Cd6 P6 bw8 b58 b68 Cw8 C28 Ca8 Cd8 F8 b8 Ch8 y0 y1 v0 v1 hsame
  go_wp2_with fail
  refine hsm.mono ?_
  rintro e W10 ⟨rfl, hb10⟩
  obtain ⟨E10, b10, l10⟩ := after_box hb10
  obtain ⟨F8, bw8, Cw8, b58, Ca8, b68, Cd8, b8, Ch8⟩ := P8.out
  have bwX := (E10.block _ l8').trans bw8
  have b6X := (E10.block _ l84).trans b68
  have b8X := (E10.block _ l8).trans b8
  have CwX := Kd.C_below Cw8 E10
  have CaX := Kd.C_below Ca8 E10
  have CdX := Kd.C_below Cd8 E10
  have ChX := Kd.C_below Ch8 E10
  have FX := F8.trans (E10.mono (by omega))
  have lXw : w.heap.size < W10.heap.size := by omega
  have lX4 : W4.heap.size < W10.heap.size := by omega
  have lX6 : W6.heap.size < W10.heap.size := by omega
  obtain ⟨y0, y1, _, _⟩ := boxed_cells bwX
  have PX := Lib.hid (And.intro FX (And.intro bwX (And.intro CwX (And.intro CaX (And.intro b6X (And.intro CdX (And.intro b8X (And.intro ChX b10))))))))
  have hrt := junctionboxref29_Right.calls _ now A c ps _ W10 CwX hc (ref_bad (fun hk => by rw [okW_iff.2 hk] at h; cases h) (by omega) _ (Nat.lt_succ_self _))
  clear hsm hb10 E10 F8 bw8 Cw8 b58 Ca8 b68 Cd8 b8 Ch8 P8 bwX b6X b8X CwX CaX CdX ChX FX b10 x0 x1 u0 u1
  go_wp2_with fail
  refine hrt.mono ?_
  rintro e W11 ⟨rfl, E11⟩
  obtain ⟨FX, bwX, CwX, CaX, b6X, CdX, b8X, ChX, b10⟩ := PX.out
  have s11 := E11.size
  have bw := (E11.block _ lXw).trans bwX
  have b6 := (E11.block _ lX4).trans b6X
  have b8 := (E11.block _ lX6).trans b8X
  have b10' := (E11.block _ l10).trans b10
  have Cw := Kd.C_below CwX E11
  have Ca := Kd.C_below CaX E11
  have Cd := Kd.C_below CdX E11
  have Ch := Kd.C_below ChX E11
  have F := FX.trans (E11.mono (by omega))
  have l11w : w.heap.size < W11.heap.size := by omega
  have l114 : W4.heap.size < W11.heap.size := by omega
  have l116 : W6.heap.size < W11.heap.size := by omega
  have l118 : W8.heap.size < W11.heap.size := by omega
  obtain ⟨x0, x1, _, _⟩ := boxed_cells bw
  obtain ⟨a0, a1, _, _⟩ := boxed_cells b6
  obtain ⟨d0, d1, _, _⟩ := boxed_cells b8
  obtain ⟨h0, h1, _, _⟩ := boxed_cells b10'
  have P := Lib.hid (And.intro F (And.intro bw (And.intro Cw (And.intro Ca (And.intro b6 (And.intro Cd (And.intro b8 (And.intro Ch b10'))))))))
  clear hrt PX FX bwX CwX CaX b6X CdX b8X ChX b10 E11 F bw Cw Ca b6 Cd b8 Ch b10' y0 y1
  go_wp2_with fail
  go_ret
  exact ⟨rfl, P.out.1⟩

set_option maxRecDepth 100000 in
set_option maxHeartbeats 8000000 in
theorem peers_out (now n : Int) (ps : List S35) (A : Option Addr) (c : Nat) (w : World) (hC : Kd.C k35 w A ps.length ps) (hc : ps.length ≤ c) (hl : ps.length ≤ 100) (h : okW now ps = true) (hn : has ps n = false) (hr : n < 1 ∨ 8 < n) :
    Calls Try.prog 3 #[.agg #[.int .i64 now, .slice A ps.length c], .int .i64 n] w fun e w' => e = .returned (.bool true) ∧ Below w.heap.size w w' := by
  obtain ⟨ha, hd, hh⟩ := res_out h hn hr
  have hcop := copied_is now ps (by omega)
  have hsame := same_is now ps (by omega)
  have hli : ((ps.length : Nat) : Int) ≤ 100 := by omega
  go_enter Try.func3, Try.ntmps3
  go_wp2_with fail
  refine (wakes_any _).mono ?_
  rintro e W1 ⟨rfl, hb1⟩
  obtain ⟨E1, bw1, l1⟩ := after_box hb1
  have C1 := Kd.C_below hC E1
  obtain ⟨x0, x1, _, _⟩ := boxed_cells bw1
  have P1 := Lib.hid (And.intro E1 (And.intro bw1 C1))
  have hcp := junctionboxlaw29_copied.calls now A c ps now ps W1 C1 hc hcop
  clear hb1 E1 bw1 C1 hC hcop
  go_wp2_with fail
  refine hcp.mono ?_
  rintro e W2 ⟨v2, rfl, R2, hb2⟩
  obtain ⟨A2, c2, rfl, hc2, C2⟩ := Kd.R_reads R2
  obtain ⟨E1, bw1, C1⟩ := P1.out
  have s2 := hb2.size
  have l2 : w.heap.size < W2.heap.size := by omega
  have bw2 := (hb2.block _ l1).trans bw1
  have Cw2 := Kd.C_below C1 hb2
  have E2 := E1.trans (hb2.mono (by omega))
  obtain ⟨y0, y1, _, _⟩ := boxed_cells bw2
  have P2 := Lib.hid (And.intro E2 (And.intro bw2 (And.intro Cw2 C2)))
  have hadd := add_any now n ps A2 c2 _ (Kd.C_alloc C2 (.cells #[.int .i64 now, .slice A2 ps.length c2] 24)) hc2 (by omega) _ _ _ ha
  clear hcp R2 E1 bw1 C1 P1 hb2 bw2 Cw2 E2 C2 x0 x1 l1
  go_wp2_with fail
  refine hadd.mono ?_
  rintro e W4 ⟨A4, c4, rfl, o4, hb4⟩
  obtain ⟨E4, b5, l4⟩ := after_box hb4
  obtain ⟨E2, bw2, Cw2, C2⟩ := P2.out
  obtain ⟨hc4, Ca4⟩ := o4.cc (by decide)
  have bw4 := (E4.block _ l2).trans bw2
  have Cw4 := Kd.C_below Cw2 E4
  have C24 := Kd.C_below C2 E4
  have F4 := E2.trans (E4.mono (by omega))
  have l4' : w.heap.size < W4.heap.size := by omega
  obtain ⟨x0, x1, _, _⟩ := boxed_cells bw4
  obtain ⟨u0, u1, _, _⟩ := boxed_cells b5
  have P4 := Lib.hid (And.intro F4 (And.intro bw4 (And.intro Cw4 (And.intro C24 (And.intro b5 Ca4)))))
  have hdrop := drop_any now n ps A2 c2 _ (Kd.C_alloc C24 (.cells #[.int .i64 0, .slice A4 (([] : List S35)).length c4] 24)) hc2 (by omega) _ _ _ hd
  clear hadd o4 hb4 E4 E2 bw2 Cw2 C2 P2 bw4 Cw4 C24 F4 b5 Ca4 y0 y1
  go_wp2_with fail
  refine hdrop.mono ?_
  rintro e W6 ⟨A6, c6, rfl, o6, hb6⟩
  obtain ⟨E6, b6, l6⟩ := after_box hb6
  obtain ⟨F4, bw4, Cw4, C24, b5, Ca4⟩ := P4.out
  obtain ⟨hc6, Cd6⟩ := o6.cc (by decide)
  have bw6 := (E6.block _ l4').trans bw4
  have b56 := (E6.block _ l4).trans b5
  have Cw6 := Kd.C_below Cw4 E6
  have C26 := Kd.C_below C24 E6
  have Ca6 := Kd.C_below Ca4 E6
  have F6 := F4.trans (E6.mono (by omega))
  have l6' : w.heap.size < W6.heap.size := by omega
  have l62 : W2.heap.size < W6.heap.size := by omega
  obtain ⟨y0, y1, _, _⟩ := boxed_cells bw6
  obtain ⟨v0, v1, _, _⟩ := boxed_cells b56
  have P6 := Lib.hid (And.intro F6 (And.intro bw6 (And.intro Cw6 (And.intro C26 (And.intro b56 (And.intro Ca6 (And.intro b6 Cd6)))))))
  have hhear := hear_any now n ps A2 c2 _ (Kd.C_alloc C26 (.cells #[.int .i64 0, .slice A6 (([] : List S35)).length c6] 24)) hc2 (by omega) _ _ _ _ hh
  clear hdrop o6 hb6 E6 F4 bw4 Cw4 C24 b5 Ca4 P4 bw6 b56 Cw6 C26 Ca6 F6 b6 Cd6 x0 x1 u0 u1
  go_wp2_with fail
  refine hhear.mono ?_
  rintro e W8 ⟨A8, c8, rfl, o8, hb8⟩
  obtain ⟨E8, b8, l8⟩ := after_box hb8
  obtain ⟨F6, bw6, Cw6, C26, b56, Ca6, b6, Cd6⟩ := P6.out
  obtain ⟨hc8, Ch8⟩ := o8.cc (by decide)
  have bw8 := (E8.block _ l6').trans bw6
  have b58 := (E8.block _ l62).trans b56
  have b68 := (E8.block _ l6).trans b6
  have Cw8 := Kd.C_below Cw6 E8
  have C28 := Kd.C_below C26 E8
  have Ca8 := Kd.C_below Ca6 E8
  have Cd8 := Kd.C_below Cd6 E8
  have F8 := F6.trans (E8.mono (by omega))
  have l8' : w.heap.size < W8.heap.size := by omega
  have l82 : W2.heap.size < W8.heap.size := by omega
  have l84 : W4.heap.size < W8.heap.size := by omega
  obtain ⟨x0, x1, _, _⟩ := boxed_cells bw8
  obtain ⟨u0, u1, _, _⟩ := boxed_cells b58
  have P8 := Lib.hid (And.intro F8 (And.intro bw8 (And.intro Cw8 (And.intro b58 (And.intro Ca8 (And.intro b68 (And.intro Cd8 (And.intro b8 Ch8))))))))
  have hsm := junctionboxref29_Same.calls _ now A2 c2 ps now A c ps true _ (Kd.C_alloc C28 (.cells #[.int .i64 0, .slice A8 (([] : List S35)).length c8] 24)) hc2 (Kd.C_alloc Cw8 (.cells #[.int .i64 0, .slice A8 (([] : List S35)).length c8] 24)) hc hsame
  clear hhear o8 hb8 E8 F6 bw6 Cw6 C26 b56 Ca6 b6 Cd6 P6 bw8 b58 b68 Cw8 C28 Ca8 Cd8 F8 b8 Ch8 y0 y1 v0 v1 hsame
  go_wp2_with fail
  refine hsm.mono ?_
  rintro e W10 ⟨rfl, hb10⟩
  obtain ⟨E10, b10, l10⟩ := after_box hb10
  obtain ⟨F8, bw8, Cw8, b58, Ca8, b68, Cd8, b8, Ch8⟩ := P8.out
  have bwX := (E10.block _ l8').trans bw8
  have b6X := (E10.block _ l84).trans b68
  have b8X := (E10.block _ l8).trans b8
  have CwX := Kd.C_below Cw8 E10
  have CaX := Kd.C_below Ca8 E10
  have CdX := Kd.C_below Cd8 E10
  have ChX := Kd.C_below Ch8 E10
  have FX := F8.trans (E10.mono (by omega))
  have lXw : w.heap.size < W10.heap.size := by omega
  have lX4 : W4.heap.size < W10.heap.size := by omega
  have lX6 : W6.heap.size < W10.heap.size := by omega
  obtain ⟨y0, y1, _, _⟩ := boxed_cells bwX
  have PX := Lib.hid (And.intro FX (And.intro bwX (And.intro CwX (And.intro CaX (And.intro b6X (And.intro CdX (And.intro b8X (And.intro ChX b10))))))))
  have hrt := junctionboxref29_Right.calls _ now A c ps _ W10 CwX hc (ref_ok (okW_iff.1 h) _ (Nat.lt_succ_self _))
  clear hsm hb10 E10 F8 bw8 Cw8 b58 Ca8 b68 Cd8 b8 Ch8 P8 bwX b6X b8X CwX CaX CdX ChX FX b10 x0 x1 u0 u1
  go_wp2_with fail
  refine hrt.mono ?_
  rintro e W11 ⟨rfl, E11⟩
  obtain ⟨FX, bwX, CwX, CaX, b6X, CdX, b8X, ChX, b10⟩ := PX.out
  have s11 := E11.size
  have bw := (E11.block _ lXw).trans bwX
  have b6 := (E11.block _ lX4).trans b6X
  have b8 := (E11.block _ lX6).trans b8X
  have b10' := (E11.block _ l10).trans b10
  have Cw := Kd.C_below CwX E11
  have Ca := Kd.C_below CaX E11
  have Cd := Kd.C_below CdX E11
  have Ch := Kd.C_below ChX E11
  have F := FX.trans (E11.mono (by omega))
  have l11w : w.heap.size < W11.heap.size := by omega
  have l114 : W4.heap.size < W11.heap.size := by omega
  have l116 : W6.heap.size < W11.heap.size := by omega
  have l118 : W8.heap.size < W11.heap.size := by omega
  obtain ⟨x0, x1, _, _⟩ := boxed_cells bw
  obtain ⟨a0, a1, _, _⟩ := boxed_cells b6
  obtain ⟨d0, d1, _, _⟩ := boxed_cells b8
  obtain ⟨h0, h1, _, _⟩ := boxed_cells b10'
  have P := Lib.hid (And.intro F (And.intro bw (And.intro Cw (And.intro Ca (And.intro b6 (And.intro Cd (And.intro b8 (And.intro Ch b10'))))))))
  clear hrt PX FX bwX CwX CaX b6X CdX b8X ChX b10 E11 F bw Cw Ca b6 Cd b8 Ch b10' y0 y1
  obtain ⟨F, bw, Cw, Ca, b6, Cd, b8, Ch, b10⟩ := P.out
  have hof := of_any now n ps A c W11 Cw hc (by omega) none (of_hasnt hn)
  unfold pv at hof
  simp only [Option.getD_none, Option.isSome_none, zp] at hof
  clear F bw Cw Ca b6 Cd b8 Ch b10
  go_wp2_with fail
  refine hof.mono ?_
  rintro e W12 ⟨rfl, E12⟩
  obtain ⟨F, bw, Cw, Ca, b6, Cd, b8, Ch, b10⟩ := P.out
  have s12 := E12.size
  have bw' := (E12.block _ l11w).trans bw
  have b6' := (E12.block _ l114).trans b6
  have b8' := (E12.block _ l116).trans b8
  have b10' := (E12.block _ l118).trans b10
  have Cw' := Kd.C_below Cw E12
  have Ca' := Kd.C_below Ca E12
  have Cd' := Kd.C_below Cd E12
  have Ch' := Kd.C_below Ch E12
  have F' := F.trans (E12.mono (by omega))
  have l12w : w.heap.size < W12.heap.size := by omega
  have l124 : W4.heap.size < W12.heap.size := by omega
  have l126 : W6.heap.size < W12.heap.size := by omega
  have l128 : W8.heap.size < W12.heap.size := by omega
  clear x0 x1 a0 a1 d0 d1 h0 h1
  obtain ⟨x0, x1, _, _⟩ := boxed_cells bw'
  obtain ⟨a0, a1, _, _⟩ := boxed_cells b6'
  obtain ⟨d0, d1, _, _⟩ := boxed_cells b8'
  obtain ⟨h0, h1, _, _⟩ := boxed_cells b10'
  have P' := Lib.hid (And.intro F' (And.intro bw' (And.intro Cw' (And.intro Ca' (And.intro b6' (And.intro Cd' (And.intro b8' (And.intro Ch' b10'))))))))
  clear P hof F bw Cw Ca b6 Cd b8 Ch b10 E12 F' bw' Cw' Ca' b6' Cd' b8' Ch' b10'
  by_cases hr1 : n < 1
  · clear hr
    go_wp2_with fail
    go_ret
    exact ⟨rfl, P'.out.1.alloc (by have := l12w; omega) _⟩
  · have hr2 : 8 < n := by omega
    clear hr
    go_wp2_with fail
    go_ret
    exact ⟨rfl, P'.out.1.alloc (by have := l12w; omega) _⟩

set_option maxRecDepth 100000 in
set_option maxHeartbeats 8000000 in
theorem peers_add (now n : Int) (ps : List S35) (A : Option Addr) (c : Nat) (w : World) (hC : Kd.C k35 w A ps.length ps) (hc : ps.length ≤ c) (hl : ps.length ≤ 100) (h : okW now ps = true) (hn : has ps n = false) (hr : ¬ (n < 1 ∨ 8 < n)) :
    Calls Try.prog 3 #[.agg #[.int .i64 now, .slice A ps.length c], .int .i64 n] w fun e w' => e = .returned (.bool true) ∧ Below w.heap.size w w' := by
  obtain ⟨ha, hd, hh⟩ := res_add h hn hr
  have hcop := copied_is now ps (by omega)
  have hsame := same_is now ps (by omega)
  have hli : ((ps.length : Nat) : Int) ≤ 100 := by omega
  go_enter Try.func3, Try.ntmps3
  go_wp2_with fail
  refine (wakes_any _).mono ?_
  rintro e W1 ⟨rfl, hb1⟩
  obtain ⟨E1, bw1, l1⟩ := after_box hb1
  have C1 := Kd.C_below hC E1
  obtain ⟨x0, x1, _, _⟩ := boxed_cells bw1
  have P1 := Lib.hid (And.intro E1 (And.intro bw1 C1))
  have hcp := junctionboxlaw29_copied.calls now A c ps now ps W1 C1 hc hcop
  clear hb1 E1 bw1 C1 hC hcop
  go_wp2_with fail
  refine hcp.mono ?_
  rintro e W2 ⟨v2, rfl, R2, hb2⟩
  obtain ⟨A2, c2, rfl, hc2, C2⟩ := Kd.R_reads R2
  obtain ⟨E1, bw1, C1⟩ := P1.out
  have s2 := hb2.size
  have l2 : w.heap.size < W2.heap.size := by omega
  have bw2 := (hb2.block _ l1).trans bw1
  have Cw2 := Kd.C_below C1 hb2
  have E2 := E1.trans (hb2.mono (by omega))
  obtain ⟨y0, y1, _, _⟩ := boxed_cells bw2
  have P2 := Lib.hid (And.intro E2 (And.intro bw2 (And.intro Cw2 C2)))
  have hadd := add_any now n ps A2 c2 _ (Kd.C_alloc C2 (.cells #[.int .i64 now, .slice A2 ps.length c2] 24)) hc2 (by omega) _ _ _ ha
  clear hcp R2 E1 bw1 C1 P1 hb2 bw2 Cw2 E2 C2 x0 x1 l1
  go_wp2_with fail
  refine hadd.mono ?_
  rintro e W4 ⟨A4, c4, rfl, o4, hb4⟩
  obtain ⟨E4, b5, l4⟩ := after_box hb4
  obtain ⟨E2, bw2, Cw2, C2⟩ := P2.out
  obtain ⟨hc4, Ca4⟩ := o4.cc (by have := ins_len ps n now; omega)
  have bw4 := (E4.block _ l2).trans bw2
  have Cw4 := Kd.C_below Cw2 E4
  have C24 := Kd.C_below C2 E4
  have F4 := E2.trans (E4.mono (by omega))
  have l4' : w.heap.size < W4.heap.size := by omega
  obtain ⟨x0, x1, _, _⟩ := boxed_cells bw4
  obtain ⟨u0, u1, _, _⟩ := boxed_cells b5
  have P4 := Lib.hid (And.intro F4 (And.intro bw4 (And.intro Cw4 (And.intro C24 (And.intro b5 Ca4)))))
  have hdrop := drop_any now n ps A2 c2 _ (Kd.C_alloc C24 (.cells #[.int .i64 now, .slice A4 ((insP ps ⟨n, now, 0, 0⟩)).length c4] 24)) hc2 (by omega) _ _ _ hd
  clear hadd o4 hb4 E4 E2 bw2 Cw2 C2 P2 bw4 Cw4 C24 F4 b5 Ca4 y0 y1
  go_wp2_with fail
  refine hdrop.mono ?_
  rintro e W6 ⟨A6, c6, rfl, o6, hb6⟩
  obtain ⟨E6, b6, l6⟩ := after_box hb6
  obtain ⟨F4, bw4, Cw4, C24, b5, Ca4⟩ := P4.out
  obtain ⟨hc6, Cd6⟩ := o6.cc (by decide)
  have bw6 := (E6.block _ l4').trans bw4
  have b56 := (E6.block _ l4).trans b5
  have Cw6 := Kd.C_below Cw4 E6
  have C26 := Kd.C_below C24 E6
  have Ca6 := Kd.C_below Ca4 E6
  have F6 := F4.trans (E6.mono (by omega))
  have l6' : w.heap.size < W6.heap.size := by omega
  have l62 : W2.heap.size < W6.heap.size := by omega
  obtain ⟨y0, y1, _, _⟩ := boxed_cells bw6
  obtain ⟨v0, v1, _, _⟩ := boxed_cells b56
  have P6 := Lib.hid (And.intro F6 (And.intro bw6 (And.intro Cw6 (And.intro C26 (And.intro b56 (And.intro Ca6 (And.intro b6 Cd6)))))))
  have hhear := hear_any now n ps A2 c2 _ (Kd.C_alloc C26 (.cells #[.int .i64 0, .slice A6 (([] : List S35)).length c6] 24)) hc2 (by omega) _ _ _ _ hh
  clear hdrop o6 hb6 E6 F4 bw4 Cw4 C24 b5 Ca4 P4 bw6 b56 Cw6 C26 Ca6 F6 b6 Cd6 x0 x1 u0 u1
  go_wp2_with fail
  refine hhear.mono ?_
  rintro e W8 ⟨A8, c8, rfl, o8, hb8⟩
  obtain ⟨E8, b8, l8⟩ := after_box hb8
  obtain ⟨F6, bw6, Cw6, C26, b56, Ca6, b6, Cd6⟩ := P6.out
  obtain ⟨hc8, Ch8⟩ := o8.cc (by decide)
  have bw8 := (E8.block _ l6').trans bw6
  have b58 := (E8.block _ l62).trans b56
  have b68 := (E8.block _ l6).trans b6
  have Cw8 := Kd.C_below Cw6 E8
  have C28 := Kd.C_below C26 E8
  have Ca8 := Kd.C_below Ca6 E8
  have Cd8 := Kd.C_below Cd6 E8
  have F8 := F6.trans (E8.mono (by omega))
  have l8' : w.heap.size < W8.heap.size := by omega
  have l82 : W2.heap.size < W8.heap.size := by omega
  have l84 : W4.heap.size < W8.heap.size := by omega
  obtain ⟨x0, x1, _, _⟩ := boxed_cells bw8
  obtain ⟨u0, u1, _, _⟩ := boxed_cells b58
  have P8 := Lib.hid (And.intro F8 (And.intro bw8 (And.intro Cw8 (And.intro b58 (And.intro Ca8 (And.intro b68 (And.intro Cd8 (And.intro b8 Ch8))))))))
  have hsm := junctionboxref29_Same.calls _ now A2 c2 ps now A c ps true _ (Kd.C_alloc C28 (.cells #[.int .i64 0, .slice A8 (([] : List S35)).length c8] 24)) hc2 (Kd.C_alloc Cw8 (.cells #[.int .i64 0, .slice A8 (([] : List S35)).length c8] 24)) hc hsame
  clear hhear o8 hb8 E8 F6 bw6 Cw6 C26 b56 Ca6 b6 Cd6 P6 bw8 b58 b68 Cw8 C28 Ca8 Cd8 F8 b8 Ch8 y0 y1 v0 v1 hsame
  go_wp2_with fail
  refine hsm.mono ?_
  rintro e W10 ⟨rfl, hb10⟩
  obtain ⟨E10, b10, l10⟩ := after_box hb10
  obtain ⟨F8, bw8, Cw8, b58, Ca8, b68, Cd8, b8, Ch8⟩ := P8.out
  have bwX := (E10.block _ l8').trans bw8
  have b6X := (E10.block _ l84).trans b68
  have b8X := (E10.block _ l8).trans b8
  have CwX := Kd.C_below Cw8 E10
  have CaX := Kd.C_below Ca8 E10
  have CdX := Kd.C_below Cd8 E10
  have ChX := Kd.C_below Ch8 E10
  have FX := F8.trans (E10.mono (by omega))
  have lXw : w.heap.size < W10.heap.size := by omega
  have lX4 : W4.heap.size < W10.heap.size := by omega
  have lX6 : W6.heap.size < W10.heap.size := by omega
  obtain ⟨y0, y1, _, _⟩ := boxed_cells bwX
  have PX := Lib.hid (And.intro FX (And.intro bwX (And.intro CwX (And.intro CaX (And.intro b6X (And.intro CdX (And.intro b8X (And.intro ChX b10))))))))
  have hrt := junctionboxref29_Right.calls _ now A c ps _ W10 CwX hc (ref_ok (okW_iff.1 h) _ (Nat.lt_succ_self _))
  clear hsm hb10 E10 F8 bw8 Cw8 b58 Ca8 b68 Cd8 b8 Ch8 P8 bwX b6X b8X CwX CaX CdX ChX FX b10 x0 x1 u0 u1
  go_wp2_with fail
  refine hrt.mono ?_
  rintro e W11 ⟨rfl, E11⟩
  obtain ⟨FX, bwX, CwX, CaX, b6X, CdX, b8X, ChX, b10⟩ := PX.out
  have s11 := E11.size
  have bw := (E11.block _ lXw).trans bwX
  have b6 := (E11.block _ lX4).trans b6X
  have b8 := (E11.block _ lX6).trans b8X
  have b10' := (E11.block _ l10).trans b10
  have Cw := Kd.C_below CwX E11
  have Ca := Kd.C_below CaX E11
  have Cd := Kd.C_below CdX E11
  have Ch := Kd.C_below ChX E11
  have F := FX.trans (E11.mono (by omega))
  have l11w : w.heap.size < W11.heap.size := by omega
  have l114 : W4.heap.size < W11.heap.size := by omega
  have l116 : W6.heap.size < W11.heap.size := by omega
  have l118 : W8.heap.size < W11.heap.size := by omega
  obtain ⟨x0, x1, _, _⟩ := boxed_cells bw
  obtain ⟨a0, a1, _, _⟩ := boxed_cells b6
  obtain ⟨d0, d1, _, _⟩ := boxed_cells b8
  obtain ⟨h0, h1, _, _⟩ := boxed_cells b10'
  have P := Lib.hid (And.intro F (And.intro bw (And.intro Cw (And.intro Ca (And.intro b6 (And.intro Cd (And.intro b8 (And.intro Ch b10'))))))))
  clear hrt PX FX bwX CwX CaX b6X CdX b8X ChX b10 E11 F bw Cw Ca b6 Cd b8 Ch b10' y0 y1
  obtain ⟨F, bw, Cw, Ca, b6, Cd, b8, Ch, b10⟩ := P.out
  have hof := of_any now n ps A c W11 Cw hc (by omega) none (of_hasnt hn)
  unfold pv at hof
  simp only [Option.getD_none, Option.isSome_none, zp] at hof
  clear F bw Cw Ca b6 Cd b8 Ch b10
  go_wp2_with fail
  refine hof.mono ?_
  rintro e W12 ⟨rfl, E12⟩
  obtain ⟨F, bw, Cw, Ca, b6, Cd, b8, Ch, b10⟩ := P.out
  have s12 := E12.size
  have bw' := (E12.block _ l11w).trans bw
  have b6' := (E12.block _ l114).trans b6
  have b8' := (E12.block _ l116).trans b8
  have b10' := (E12.block _ l118).trans b10
  have Cw' := Kd.C_below Cw E12
  have Ca' := Kd.C_below Ca E12
  have Cd' := Kd.C_below Cd E12
  have Ch' := Kd.C_below Ch E12
  have F' := F.trans (E12.mono (by omega))
  have l12w : w.heap.size < W12.heap.size := by omega
  have l124 : W4.heap.size < W12.heap.size := by omega
  have l126 : W6.heap.size < W12.heap.size := by omega
  have l128 : W8.heap.size < W12.heap.size := by omega
  clear x0 x1 a0 a1 d0 d1 h0 h1
  obtain ⟨x0, x1, _, _⟩ := boxed_cells bw'
  obtain ⟨a0, a1, _, _⟩ := boxed_cells b6'
  obtain ⟨d0, d1, _, _⟩ := boxed_cells b8'
  obtain ⟨h0, h1, _, _⟩ := boxed_cells b10'
  have P' := Lib.hid (And.intro F' (And.intro bw' (And.intro Cw' (And.intro Ca' (And.intro b6' (And.intro Cd' (And.intro b8' (And.intro Ch' b10'))))))))
  clear P hof F bw Cw Ca b6 Cd b8 Ch b10 E12 F' bw' Cw' Ca' b6' Cd' b8' Ch' b10'
  have hr1 : ¬ n < 1 := by omega
  have hr2 : ¬ 8 < n := by omega
  have HR := Lib.hid hr
  clear hr
  go_wp2_with fail
  obtain ⟨F, bw, Cw, Ca, b6, Cd, b8, Ch, b10⟩ := P'.out
  obtain ⟨WB, hWB⟩ : ∃ WB, W12.alloc (.cells #[.int .i64 0, .int .i64 0, .int .i64 0, .int .i64 0] 35) = WB := ⟨_, rfl⟩
  have EB : Below W12.heap.size W12 WB := by rw [← hWB]; exact (Below.refl _ _).alloc (Nat.le_refl _) _
  have sB := EB.size
  have z0 := (EB.cell (p := ⟨w.heap.size, 0, none⟩) (by simp; omega)).trans x0
  have z1 := (EB.cell (p := ⟨w.heap.size, 1, none⟩) (by simp; omega)).trans x1
  have y0 := (EB.cell (p := ⟨W4.heap.size, 0, none⟩) (by simp; omega)).trans a0
  have y1 := (EB.cell (p := ⟨W4.heap.size, 1, none⟩) (by simp; omega)).trans a1
  have CwB := Kd.C_below Cw EB
  have CaB := Kd.C_below Ca EB
  have FB := F.trans (EB.mono (by omega))
  have hok := okW_iff.1 h
  have hwi := fun W hW => with_any now ⟨n, now, 0, 0⟩ ps A c W (Kd.C_below CwB hW) hc (by omega) (insP ps ⟨n, now, 0, 0⟩) (with_ins hok hn (by omega) (by omega))
  have PB := Lib.hid (And.intro FB (And.intro CaB sB))
  rw [hWB]
  clear F bw Cw Ca b6 Cd b8 Ch b10 P' EB CwB CaB FB hWB x0 x1 a0 a1 d0 d1 h0 h1 hok
  refine QP.regionS (fun W' => Below WB.heap.size WB W') [(0, 0), (1, 0), (2, 0), (3, 0), (4, 0), (5, 0), (6, 0), (7, 0), (8, 0), (9, 2), (10, 2), (11, 0), (12, 0)] [] (by kernel_rfl) (by intro _ d _ _ _ h; cases d <;> exact h) (by kernel_rfl) ((Below.refl _ _).drew) ?_
  simp only [QP.pick, QP.pickK, List.getElem?_cons_zero, List.getElem?_cons_succ]
  iterate 3 (refine QP.steps_read (fun K hK => ?_); go_simp; (first | refine ⟨_, by intros; rfl, hK _ _ ?_⟩ | refine hK _ _ ?_); clear hK K)
  refine QP.steps_read (fun K hK => ?_)
  go_simp
  refine ⟨.agg #[.int .i64 now, .slice A4 (insP ps ⟨n, now, 0, 0⟩).length c4], ?_, hK _ _ ?_⟩
  · intro W' hW'
    have q0 := (hW'.cell (p := ⟨W4.heap.size, 0, none⟩) (by simp; omega)).trans y0
    have q1 := (hW'.cell (p := ⟨W4.heap.size, 1, none⟩) (by simp; omega)).trans y1
    go_simp
  clear hK K
  refine QP.steps_read (fun K hK => ?_)
  go_simp
  refine ⟨.agg #[.int .i64 now, .slice A ps.length c], ?_, hK _ _ ?_⟩
  · intro W' hW'
    have q0 := (hW'.cell (p := ⟨w.heap.size, 0, none⟩) (by simp; omega)).trans z0
    have q1 := (hW'.cell (p := ⟨w.heap.size, 1, none⟩) (by simp; omega)).trans z1
    go_simp
  clear hK K
  iterate 2 (refine QP.steps_read (fun K hK => ?_); go_simp; (first | refine ⟨_, by intros; rfl, hK _ _ ?_⟩ | refine hK _ _ ?_); clear hK K)
  refine QP.steps_read (fun K hK => ?_)
  go_simp
  refine ⟨.int .i64 now, ?_, hK _ _ ?_⟩
  · intro W' hW'
    have q0 := (hW'.cell (p := ⟨w.heap.size, 0, none⟩) (by simp; omega)).trans z0
    go_simp
  clear hK K
  refine QP.steps_read (fun K hK => ?_); go_simp; (first | refine ⟨_, by intros; rfl, hK _ _ ?_⟩ | refine hK _ _ ?_); clear hK K
  refine QP.steps_act (fun K hK => ?_)
  go_simp
  refine (hwi WB.drew ((Below.refl _ _).drew)).mono ?_
  rintro e W14 ⟨A', c', rfl, oX, hbX⟩
  have SX : Below WB.heap.size WB W14 := ((Below.refl WB.heap.size WB).drew).trans hbX
  refine hK _ _ SX ?_
  clear hK K
  obtain ⟨FB, CaB, _⟩ := PB.out
  obtain ⟨hcX, CX⟩ := oX.cc (by have := ins_len ps n now; omega)
  have hc4' : (insP ps ⟨n, now, 0, 0⟩).length ≤ c4 := hc4
  have hsm2 := junctionboxref29_Same.calls _ now A4 c4 (insP ps ⟨n, now, 0, 0⟩) now A' c' (insP ps ⟨n, now, 0, 0⟩) true W14 (Kd.C_below CaB SX) hc4' CX hcX (same_is now _ (by have := ins_len ps n now; omega))
  clear FB CaB oX hbX hcX CX
  refine QP.steps_act (fun K hK => ?_)
  go_simp
  refine hsm2.mono ?_
  rintro e W15 ⟨rfl, hbY⟩
  have SY : Below WB.heap.size WB W15 := SX.trans (hbY.mono SX.size)
  refine hK _ _ SY ?_
  clear hK K
  iterate 2 (refine QP.steps_read (fun K hK => ?_); go_simp; (first | refine ⟨_, by intros; rfl, hK _ _ ?_⟩ | refine hK _ _ ?_); clear hK K)
  refine QP.steps_nil ?_
  obtain ⟨FB, _, sB⟩ := PB.out
  go_wp2_with fail
  go_ret
  exact ⟨rfl, FB.trans (SY.mono (by omega))⟩

set_option maxRecDepth 100000 in
set_option maxHeartbeats 8000000 in
theorem peers_has_a (now n : Int) (ps : List S35) (A : Option Addr) (c : Nat) (w : World) (hC : Kd.C k35 w A ps.length ps) (hc : ps.length ≤ c) (hl : ps.length ≤ 100) (h : okW now ps = true) (p : S35) (qd qh : List S35) (ha0 : addOut now ps n = (0, [], 5)) (hd0 : dropOut now ps n = (now, qd, 0)) (hh0 : hearOut now ps n = (now, qh, false, 0)) (hqd : woL ps n ps.length = qd) (hqh : withL ps (hearP now p) 8 = qh) (hlq : qd.length ≤ 1000) (hlh : qh.length ≤ 1000) (hofp : ofP ps n = some p) (hokp : OkN now p) (hS : (hearS now p == 1) = false) :
    Calls Try.prog 3 #[.agg #[.int .i64 now, .slice A ps.length c], .int .i64 n] w fun e w' => e = .returned (.bool true) ∧ Below w.heap.size w w' := by
  obtain ⟨ha, hd, hh⟩ := And.intro ha0 (And.intro hd0 hh0)
  have HQ := Lib.hid (And.intro hqd (And.intro hqh hofp))
  clear hqd hqh hofp ha0 hd0 hh0
  have hcop := copied_is now ps (by omega)
  have hsame := same_is now ps (by omega)
  have hli : ((ps.length : Nat) : Int) ≤ 100 := by omega
  go_enter Try.func3, Try.ntmps3
  go_wp2_with fail
  refine (wakes_any _).mono ?_
  rintro e W1 ⟨rfl, hb1⟩
  obtain ⟨E1, bw1, l1⟩ := after_box hb1
  have C1 := Kd.C_below hC E1
  obtain ⟨x0, x1, _, _⟩ := boxed_cells bw1
  have P1 := Lib.hid (And.intro E1 (And.intro bw1 C1))
  have hcp := junctionboxlaw29_copied.calls now A c ps now ps W1 C1 hc hcop
  clear hb1 E1 bw1 C1 hC hcop
  go_wp2_with fail
  refine hcp.mono ?_
  rintro e W2 ⟨v2, rfl, R2, hb2⟩
  obtain ⟨A2, c2, rfl, hc2, C2⟩ := Kd.R_reads R2
  obtain ⟨E1, bw1, C1⟩ := P1.out
  have s2 := hb2.size
  have l2 : w.heap.size < W2.heap.size := by omega
  have bw2 := (hb2.block _ l1).trans bw1
  have Cw2 := Kd.C_below C1 hb2
  have E2 := E1.trans (hb2.mono (by omega))
  obtain ⟨y0, y1, _, _⟩ := boxed_cells bw2
  have P2 := Lib.hid (And.intro E2 (And.intro bw2 (And.intro Cw2 C2)))
  have hadd := add_any now n ps A2 c2 _ (Kd.C_alloc C2 (.cells #[.int .i64 now, .slice A2 ps.length c2] 24)) hc2 (by omega) _ _ _ ha
  clear hcp R2 E1 bw1 C1 P1 hb2 bw2 Cw2 E2 C2 x0 x1 l1
  go_wp2_with fail
  refine hadd.mono ?_
  rintro e W4 ⟨A4, c4, rfl, o4, hb4⟩
  obtain ⟨E4, b5, l4⟩ := after_box hb4
  obtain ⟨E2, bw2, Cw2, C2⟩ := P2.out
  obtain ⟨hc4, Ca4⟩ := o4.cc (by decide)
  have bw4 := (E4.block _ l2).trans bw2
  have Cw4 := Kd.C_below Cw2 E4
  have C24 := Kd.C_below C2 E4
  have F4 := E2.trans (E4.mono (by omega))
  have l4' : w.heap.size < W4.heap.size := by omega
  obtain ⟨x0, x1, _, _⟩ := boxed_cells bw4
  obtain ⟨u0, u1, _, _⟩ := boxed_cells b5
  have P4 := Lib.hid (And.intro F4 (And.intro bw4 (And.intro Cw4 (And.intro C24 (And.intro b5 Ca4)))))
  have hdrop := drop_any now n ps A2 c2 _ (Kd.C_alloc C24 (.cells #[.int .i64 0, .slice A4 (([] : List S35)).length c4] 24)) hc2 (by omega) _ _ _ hd
  clear hadd o4 hb4 E4 E2 bw2 Cw2 C2 P2 bw4 Cw4 C24 F4 b5 Ca4 y0 y1
  go_wp2_with fail
  refine hdrop.mono ?_
  rintro e W6 ⟨A6, c6, rfl, o6, hb6⟩
  obtain ⟨E6, b6, l6⟩ := after_box hb6
  obtain ⟨F4, bw4, Cw4, C24, b5, Ca4⟩ := P4.out
  obtain ⟨hc6, Cd6⟩ := o6.cc (by omega)
  have bw6 := (E6.block _ l4').trans bw4
  have b56 := (E6.block _ l4).trans b5
  have Cw6 := Kd.C_below Cw4 E6
  have C26 := Kd.C_below C24 E6
  have Ca6 := Kd.C_below Ca4 E6
  have F6 := F4.trans (E6.mono (by omega))
  have l6' : w.heap.size < W6.heap.size := by omega
  have l62 : W2.heap.size < W6.heap.size := by omega
  obtain ⟨y0, y1, _, _⟩ := boxed_cells bw6
  obtain ⟨v0, v1, _, _⟩ := boxed_cells b56
  have P6 := Lib.hid (And.intro F6 (And.intro bw6 (And.intro Cw6 (And.intro C26 (And.intro b56 (And.intro Ca6 (And.intro b6 Cd6)))))))
  have hhear := hear_any now n ps A2 c2 _ (Kd.C_alloc C26 (.cells #[.int .i64 now, .slice A6 (qd).length c6] 24)) hc2 (by omega) _ _ _ _ hh
  clear hdrop o6 hb6 E6 F4 bw4 Cw4 C24 b5 Ca4 P4 bw6 b56 Cw6 C26 Ca6 F6 b6 Cd6 x0 x1 u0 u1
  go_wp2_with fail
  refine hhear.mono ?_
  rintro e W8 ⟨A8, c8, rfl, o8, hb8⟩
  obtain ⟨E8, b8, l8⟩ := after_box hb8
  obtain ⟨F6, bw6, Cw6, C26, b56, Ca6, b6, Cd6⟩ := P6.out
  obtain ⟨hc8, Ch8⟩ := o8.cc (by omega)
  have bw8 := (E8.block _ l6').trans bw6
  have b58 := (E8.block _ l62).trans b56
  have b68 := (E8.block _ l6).trans b6
  have Cw8 := Kd.C_below Cw6 E8
  have C28 := Kd.C_below C26 E8
  have Ca8 := Kd.C_below Ca6 E8
  have Cd8 := Kd.C_below Cd6 E8
  have F8 := F6.trans (E8.mono (by omega))
  have l8' : w.heap.size < W8.heap.size := by omega
  have l82 : W2.heap.size < W8.heap.size := by omega
  have l84 : W4.heap.size < W8.heap.size := by omega
  obtain ⟨x0, x1, _, _⟩ := boxed_cells bw8
  obtain ⟨u0, u1, _, _⟩ := boxed_cells b58
  have P8 := Lib.hid (And.intro F8 (And.intro bw8 (And.intro Cw8 (And.intro b58 (And.intro Ca8 (And.intro b68 (And.intro Cd8 (And.intro b8 Ch8))))))))
  have hsm := junctionboxref29_Same.calls _ now A2 c2 ps now A c ps true _ (Kd.C_alloc C28 (.cells #[.int .i64 now, .slice A8 (qh).length c8] 24)) hc2 (Kd.C_alloc Cw8 (.cells #[.int .i64 now, .slice A8 (qh).length c8] 24)) hc hsame
  clear hhear o8 hb8 E8 F6 bw6 Cw6 C26 b56 Ca6 b6 Cd6 P6 bw8 b58 b68 Cw8 C28 Ca8 Cd8 F8 b8 Ch8 y0 y1 v0 v1 hsame
  go_wp2_with fail
  refine hsm.mono ?_
  rintro e W10 ⟨rfl, hb10⟩
  obtain ⟨E10, b10, l10⟩ := after_box hb10
  obtain ⟨F8, bw8, Cw8, b58, Ca8, b68, Cd8, b8, Ch8⟩ := P8.out
  have bwX := (E10.block _ l8').trans bw8
  have b6X := (E10.block _ l84).trans b68
  have b8X := (E10.block _ l8).trans b8
  have CwX := Kd.C_below Cw8 E10
  have CaX := Kd.C_below Ca8 E10
  have CdX := Kd.C_below Cd8 E10
  have ChX := Kd.C_below Ch8 E10
  have FX := F8.trans (E10.mono (by omega))
  have lXw : w.heap.size < W10.heap.size := by omega
  have lX4 : W4.heap.size < W10.heap.size := by omega
  have lX6 : W6.heap.size < W10.heap.size := by omega
  obtain ⟨y0, y1, _, _⟩ := boxed_cells bwX
  have PX := Lib.hid (And.intro FX (And.intro bwX (And.intro CwX (And.intro CaX (And.intro b6X (And.intro CdX (And.intro b8X (And.intro ChX b10))))))))
  have hrt := junctionboxref29_Right.calls _ now A c ps _ W10 CwX hc (ref_ok (okW_iff.1 h) _ (Nat.lt_succ_self _))
  clear hsm hb10 E10 F8 bw8 Cw8 b58 Ca8 b68 Cd8 b8 Ch8 P8 bwX b6X b8X CwX CaX CdX ChX FX b10 x0 x1 u0 u1
  go_wp2_with fail
  refine hrt.mono ?_
  rintro e W11 ⟨rfl, E11⟩
  obtain ⟨FX, bwX, CwX, CaX, b6X, CdX, b8X, ChX, b10⟩ := PX.out
  have s11 := E11.size
  have bw := (E11.block _ lXw).trans bwX
  have b6 := (E11.block _ lX4).trans b6X
  have b8 := (E11.block _ lX6).trans b8X
  have b10' := (E11.block _ l10).trans b10
  have Cw := Kd.C_below CwX E11
  have Ca := Kd.C_below CaX E11
  have Cd := Kd.C_below CdX E11
  have Ch := Kd.C_below ChX E11
  have F := FX.trans (E11.mono (by omega))
  have l11w : w.heap.size < W11.heap.size := by omega
  have l114 : W4.heap.size < W11.heap.size := by omega
  have l116 : W6.heap.size < W11.heap.size := by omega
  have l118 : W8.heap.size < W11.heap.size := by omega
  obtain ⟨x0, x1, _, _⟩ := boxed_cells bw
  obtain ⟨a0, a1, _, _⟩ := boxed_cells b6
  obtain ⟨d0, d1, _, _⟩ := boxed_cells b8
  obtain ⟨h0, h1, _, _⟩ := boxed_cells b10'
  have P := Lib.hid (And.intro F (And.intro bw (And.intro Cw (And.intro Ca (And.intro b6 (And.intro Cd (And.intro b8 (And.intro Ch b10'))))))))
  clear hrt PX FX bwX CwX CaX b6X CdX b8X ChX b10 E11 F bw Cw Ca b6 Cd b8 Ch b10' y0 y1
  obtain ⟨F, bw, Cw, Ca, b6, Cd, b8, Ch, b10⟩ := P.out
  have hof := of_any now n ps A c W11 Cw hc (by omega) (some p) HQ.out.2.2
  unfold pv at hof
  simp only [Option.getD_some, Option.isSome_some] at hof
  clear F bw Cw Ca b6 Cd b8 Ch b10
  go_wp2_with fail
  refine hof.mono ?_
  rintro e W12 ⟨rfl, E12⟩
  obtain ⟨F, bw, Cw, Ca, b6, Cd, b8, Ch, b10⟩ := P.out
  have s12 := E12.size
  have bw' := (E12.block _ l11w).trans bw
  have b6' := (E12.block _ l114).trans b6
  have b8' := (E12.block _ l116).trans b8
  have b10' := (E12.block _ l118).trans b10
  have Cw' := Kd.C_below Cw E12
  have Ca' := Kd.C_below Ca E12
  have Cd' := Kd.C_below Cd E12
  have Ch' := Kd.C_below Ch E12
  have F' := F.trans (E12.mono (by omega))
  have l12w : w.heap.size < W12.heap.size := by omega
  have l124 : W4.heap.size < W12.heap.size := by omega
  have l126 : W6.heap.size < W12.heap.size := by omega
  have l128 : W8.heap.size < W12.heap.size := by omega
  clear x0 x1 a0 a1 d0 d1 h0 h1
  obtain ⟨x0, x1, _, _⟩ := boxed_cells bw'
  obtain ⟨a0, a1, _, _⟩ := boxed_cells b6'
  obtain ⟨d0, d1, _, _⟩ := boxed_cells b8'
  obtain ⟨h0, h1, _, _⟩ := boxed_cells b10'
  have P' := Lib.hid (And.intro F' (And.intro bw' (And.intro Cw' (And.intro Ca' (And.intro b6' (And.intro Cd' (And.intro b8' (And.intro Ch' b10'))))))))
  clear P hof F bw Cw Ca b6 Cd b8 Ch b10 E12 F' bw' Cw' Ca' b6' Cd' b8' Ch' b10'
  obtain ⟨F, bw, Cw, Ca, b6, Cd, b8, Ch, b10⟩ := P'.out
  have hhd := fun W => heard_any hokp W
  unfold pv hearP at hhd
  clear F bw Cw Ca b6 Cd b8 Ch b10
  go_wp2_with fail
  refine (hhd _).mono ?_
  rintro e WA ⟨rfl, hbA⟩
  go_wp2_with fail
  obtain ⟨EA, b13, lA⟩ := after_box hbA
  obtain ⟨F, bw, Cw, Ca, b6, Cd, b8, Ch, b10⟩ := P'.out
  obtain ⟨WB, hWB⟩ : ∃ WB, WA.alloc (.cells #[.int .i64 p.f0, .int .i64 now, .int .i64 (hearG now p), .int .i64 (hearS now p)] 35) = WB := ⟨_, rfl⟩
  have EB0 : Below WA.heap.size WA WB := by rw [← hWB]; exact (Below.refl _ _).alloc (Nat.le_refl _) _
  have b15 : WB.heap[WA.heap.size]? = some (.cells #[.int .i64 p.f0, .int .i64 now, .int .i64 (hearG now p), .int .i64 (hearS now p)] 35 (0, 0)) := by rw [← hWB]; exact World.alloc_heap_new WA _
  have EB : Below W12.heap.size W12 WB := EA.trans (EB0.mono (by omega))
  have sB := EB.size
  have sA : WA.heap.size < WB.heap.size := (Array.getElem?_eq_some_iff.1 b15).1
  have k13 := (EB0.block _ lA).trans b13
  have z0 := (EB.cell (p := ⟨w.heap.size, 0, none⟩) (by simp; omega)).trans x0
  have z1 := (EB.cell (p := ⟨w.heap.size, 1, none⟩) (by simp; omega)).trans x1
  have y0 := (EB.cell (p := ⟨W4.heap.size, 0, none⟩) (by simp; omega)).trans a0
  have y1 := (EB.cell (p := ⟨W4.heap.size, 1, none⟩) (by simp; omega)).trans a1
  have v0 := (EB.cell (p := ⟨W6.heap.size, 0, none⟩) (by simp; omega)).trans d0
  have v1 := (EB.cell (p := ⟨W6.heap.size, 1, none⟩) (by simp; omega)).trans d1
  have t0 := (EB.cell (p := ⟨W8.heap.size, 0, none⟩) (by simp; omega)).trans h0
  have t1 := (EB.cell (p := ⟨W8.heap.size, 1, none⟩) (by simp; omega)).trans h1
  obtain ⟨⟨m0, m1, m2, m3⟩, _⟩ := boxed4 k13
  obtain ⟨⟨o0, o1, o2, o3⟩, _⟩ := boxed4 b15
  have CwB := Kd.C_below Cw EB
  have CdB := Kd.C_below Cd EB
  have ChB := Kd.C_below Ch EB
  have FB := F.trans (EB.mono (by omega))
  have hwo := fun W hW => without_any now n ps A c W (Kd.C_below CwB hW) (by omega) qd HQ.out.1
  have hwi := fun W hW => with_any now ⟨p.f0, now, hearG now p, hearS now p⟩ ps A c W (Kd.C_below CwB hW) hc (by omega) qh HQ.out.2.1
  have PB := Lib.hid (And.intro FB (And.intro CdB (And.intro ChB sB)))
  rw [hWB]
  clear F bw Cw Ca b6 Cd b8 Ch b10 P' EB CwB CdB ChB FB hWB x0 x1 a0 a1 d0 d1 h0 h1 hhd hbA EA b13 EB0 b15 k13
  refine QP.regionS (fun W' => Below WB.heap.size WB W') [(0, 0), (1, 0), (2, 0), (3, 0), (4, 0), (5, 0), (6, 0), (7, 0), (8, 0), (9, 0), (10, 0), (11, 0), (12, 0), (13, 0), (14, 0), (15, 0), (16, 2), (17, 2), (18, 0), (19, 0), (20, 0), (21, 0), (22, 0), (23, 0), (24, 0), (25, 0), (26, 0), (27, 2), (28, 2), (29, 0), (30, 0), (31, 0), (32, 0), (33, 0), (34, 0), (35, 0), (36, 0), (37, 0), (38, 0), (39, 0), (40, 0), (41, 0), (42, 0)] [] (by kernel_rfl) (by intro _ d _ _ _ h; cases d <;> exact h) (by kernel_rfl) ((Below.refl _ _).drew) ?_
  simp only [QP.pick, QP.pickK, List.getElem?_cons_zero, List.getElem?_cons_succ]
  refine QP.steps_read (fun K hK => ?_); go_simp; (first | refine ⟨_, by intros; rfl, hK _ _ ?_⟩ | refine hK _ _ ?_); clear hK K
  refine QP.steps_read (fun K hK => ?_); go_simp; (first | refine ⟨_, by intros; rfl, hK _ _ ?_⟩ | refine hK _ _ ?_); clear hK K
  refine QP.steps_read (fun K hK => ?_); go_simp; (first | refine ⟨_, by intros; rfl, hK _ _ ?_⟩ | refine hK _ _ ?_); clear hK K
  refine QP.steps_read (fun K hK => ?_); go_simp; (first | refine ⟨_, by intros; rfl, hK _ _ ?_⟩ | refine hK _ _ ?_); clear hK K
  refine QP.steps_read (fun K hK => ?_)
  go_simp
  refine ⟨.slice A4 ([] : List S35).length c4, ?_, hK _ _ ?_⟩
  · intro W' hW'
    have q0 := (hW'.cell (p := ⟨W4.heap.size, 1, none⟩) (by simp; omega)).trans y1
    go_simp
  clear hK K
  refine QP.steps_read (fun K hK => ?_); go_simp; (first | refine ⟨_, by intros; rfl, hK _ _ ?_⟩ | refine hK _ _ ?_); clear hK K
  refine QP.steps_read (fun K hK => ?_); go_simp; (first | refine ⟨_, by intros; rfl, hK _ _ ?_⟩ | refine hK _ _ ?_); clear hK K
  refine QP.steps_read (fun K hK => ?_); go_simp; (first | refine ⟨_, by intros; rfl, hK _ _ ?_⟩ | refine hK _ _ ?_); clear hK K
  refine QP.steps_read (fun K hK => ?_); go_simp; (first | refine ⟨_, by intros; rfl, hK _ _ ?_⟩ | refine hK _ _ ?_); clear hK K
  refine QP.steps_read (fun K hK => ?_); go_simp; (first | refine ⟨_, by intros; rfl, hK _ _ ?_⟩ | refine hK _ _ ?_); clear hK K
  refine QP.steps_read (fun K hK => ?_); go_simp; (first | refine ⟨_, by intros; rfl, hK _ _ ?_⟩ | refine hK _ _ ?_); clear hK K
  refine QP.steps_read (fun K hK => ?_); go_simp; (first | refine ⟨_, by intros; rfl, hK _ _ ?_⟩ | refine hK _ _ ?_); clear hK K
  refine QP.steps_read (fun K hK => ?_); go_simp; (first | refine ⟨_, by intros; rfl, hK _ _ ?_⟩ | refine hK _ _ ?_); clear hK K
  refine QP.steps_read (fun K hK => ?_)
  go_simp
  refine ⟨.agg #[.int .i64 now, .slice A6 qd.length c6], ?_, hK _ _ ?_⟩
  · intro W' hW'
    have q0 := (hW'.cell (p := ⟨W6.heap.size, 0, none⟩) (by simp; omega)).trans v0
    have q1 := (hW'.cell (p := ⟨W6.heap.size, 1, none⟩) (by simp; omega)).trans v1
    go_simp
  clear hK K
  refine QP.steps_read (fun K hK => ?_)
  go_simp
  refine ⟨.agg #[.int .i64 now, .slice A ps.length c], ?_, hK _ _ ?_⟩
  · intro W' hW'
    have q0 := (hW'.cell (p := ⟨w.heap.size, 0, none⟩) (by simp; omega)).trans z0
    have q1 := (hW'.cell (p := ⟨w.heap.size, 1, none⟩) (by simp; omega)).trans z1
    go_simp
  clear hK K
  refine QP.steps_read (fun K hK => ?_); go_simp; (first | refine ⟨_, by intros; rfl, hK _ _ ?_⟩ | refine hK _ _ ?_); clear hK K
  refine QP.steps_act (fun K hK => ?_)
  go_simp
  refine (hwo WB.drew ((Below.refl _ _).drew)).mono ?_
  rintro e W14 ⟨A', c', rfl, oX, hbX⟩
  have SX : Below WB.heap.size WB W14 := ((Below.refl WB.heap.size WB).drew).trans hbX
  refine hK _ _ SX ?_
  clear hK K
  obtain ⟨FB, CdB, ChB, _⟩ := PB.out
  obtain ⟨hcX, CX⟩ := oX.cc hlq
  have hsm2 := junctionboxref29_Same.calls _ now A6 c6 qd now A' c' qd true W14 (Kd.C_below CdB SX) hc6 CX hcX (same_is now _ (by omega))
  clear FB CdB ChB oX hbX hcX CX
  refine QP.steps_act (fun K hK => ?_)
  go_simp
  refine hsm2.mono ?_
  rintro e W15 ⟨rfl, hbY⟩
  have SY : Below WB.heap.size WB W15 := SX.trans (hbY.mono SX.size)
  refine hK _ _ SY ?_
  clear hK K hsm2
  refine QP.steps_read (fun K hK => ?_); go_simp; (first | refine ⟨_, by intros; rfl, hK _ _ ?_⟩ | refine hK _ _ ?_); clear hK K
  refine QP.steps_read (fun K hK => ?_); go_simp; (first | refine ⟨_, by intros; rfl, hK _ _ ?_⟩ | refine hK _ _ ?_); clear hK K
  refine QP.steps_read (fun K hK => ?_); go_simp; (first | refine ⟨_, by intros; rfl, hK _ _ ?_⟩ | refine hK _ _ ?_); clear hK K
  refine QP.steps_read (fun K hK => ?_); go_simp; (first | refine ⟨_, by intros; rfl, hK _ _ ?_⟩ | refine hK _ _ ?_); clear hK K
  refine QP.steps_read (fun K hK => ?_); go_simp; (first | refine ⟨_, by intros; rfl, hK _ _ ?_⟩ | refine hK _ _ ?_); clear hK K
  refine QP.steps_read (fun K hK => ?_); go_simp; (first | refine ⟨_, by intros; rfl, hK _ _ ?_⟩ | refine hK _ _ ?_); clear hK K
  refine QP.steps_read (fun K hK => ?_)
  go_simp
  refine ⟨.agg #[.int .i64 now, .slice A8 qh.length c8], ?_, hK _ _ ?_⟩
  · intro W' hW'
    have q0 := (hW'.cell (p := ⟨W8.heap.size, 0, none⟩) (by simp; omega)).trans t0
    have q1 := (hW'.cell (p := ⟨W8.heap.size, 1, none⟩) (by simp; omega)).trans t1
    go_simp
  clear hK K
  refine QP.steps_read (fun K hK => ?_)
  go_simp
  refine ⟨.agg #[.int .i64 now, .slice A ps.length c], ?_, hK _ _ ?_⟩
  · intro W' hW'
    have q0 := (hW'.cell (p := ⟨w.heap.size, 0, none⟩) (by simp; omega)).trans z0
    have q1 := (hW'.cell (p := ⟨w.heap.size, 1, none⟩) (by simp; omega)).trans z1
    go_simp
  clear hK K
  refine QP.steps_read (fun K hK => ?_)
  go_simp
  refine ⟨.agg #[.int .i64 p.f0, .int .i64 now, .int .i64 (hearG now p), .int .i64 (hearS now p)], ?_, hK _ _ ?_⟩
  · intro W' hW'
    have q0 := (hW'.cell (p := ⟨WA.heap.size, 0, none⟩) (by simp; omega)).trans o0
    have q1 := (hW'.cell (p := ⟨WA.heap.size, 1, none⟩) (by simp; omega)).trans o1
    have q2 := (hW'.cell (p := ⟨WA.heap.size, 2, none⟩) (by simp; omega)).trans o2
    have q3 := (hW'.cell (p := ⟨WA.heap.size, 3, none⟩) (by simp; omega)).trans o3
    go_simp
  clear hK K
  refine QP.steps_act (fun K hK => ?_)
  go_simp
  refine (hwi W15 SY).mono ?_
  rintro e W16 ⟨A'', c'', rfl, oZ, hbZ⟩
  have SZ : Below WB.heap.size WB W16 := SY.trans (hbZ.mono SY.size)
  refine hK _ _ SZ ?_
  clear hK K
  obtain ⟨FB, CdB, ChB, _⟩ := PB.out
  obtain ⟨hcZ, CZ⟩ := oZ.cc hlh
  have hsm3 := junctionboxref29_Same.calls _ now A8 c8 qh now A'' c'' qh true W16 (Kd.C_below ChB SZ) hc8 CZ hcZ (same_is now _ (by omega))
  clear FB CdB ChB oZ hbZ hcZ CZ
  refine QP.steps_act (fun K hK => ?_)
  go_simp
  refine hsm3.mono ?_
  rintro e W17 ⟨rfl, hbU⟩
  have SU : Below WB.heap.size WB W17 := SZ.trans (hbU.mono SZ.size)
  refine hK _ _ SU ?_
  clear hK K hsm3
  refine QP.steps_read (fun K hK => ?_); go_simp; (first | refine ⟨_, by intros; rfl, hK _ _ ?_⟩ | refine hK _ _ ?_); clear hK K
  refine QP.steps_read (fun K hK => ?_); go_simp; (first | refine ⟨_, by intros; rfl, hK _ _ ?_⟩ | refine hK _ _ ?_); clear hK K
  refine QP.steps_read (fun K hK => ?_); go_simp; (first | refine ⟨_, by intros; rfl, hK _ _ ?_⟩ | refine hK _ _ ?_); clear hK K
  refine QP.steps_read (fun K hK => ?_); go_simp; (first | refine ⟨_, by intros; rfl, hK _ _ ?_⟩ | refine hK _ _ ?_); clear hK K
  refine QP.steps_read (fun K hK => ?_)
  go_simp
  refine ⟨.int .i64 (hearS now p), ?_, hK _ _ ?_⟩
  · intro W' hW'
    have q0 := (hW'.cell (p := ⟨WA.heap.size, 3, none⟩) (by simp; omega)).trans o3
    go_simp
  clear hK K
  refine QP.steps_read (fun K hK => ?_); go_simp; (first | refine ⟨_, by intros; rfl, hK _ _ ?_⟩ | refine hK _ _ ?_); clear hK K
  refine QP.steps_read (fun K hK => ?_); go_simp; (first | refine ⟨_, by intros; rfl, hK _ _ ?_⟩ | refine hK _ _ ?_); clear hK K
  refine QP.steps_read (fun K hK => ?_); go_simp; (first | refine ⟨_, by intros; rfl, hK _ _ ?_⟩ | refine hK _ _ ?_); clear hK K
  refine QP.steps_read (fun K hK => ?_); go_simp; (first | refine ⟨_, by intros; rfl, hK _ _ ?_⟩ | refine hK _ _ ?_); clear hK K
  refine QP.steps_read (fun K hK => ?_); go_simp; (first | refine ⟨_, by intros; rfl, hK _ _ ?_⟩ | refine hK _ _ ?_); clear hK K
  refine QP.steps_read (fun K hK => ?_); go_simp; (first | refine ⟨_, by intros; rfl, hK _ _ ?_⟩ | refine hK _ _ ?_); clear hK K
  refine QP.steps_read (fun K hK => ?_); go_simp; (first | refine ⟨_, by intros; rfl, hK _ _ ?_⟩ | refine hK _ _ ?_); clear hK K
  refine QP.steps_read (fun K hK => ?_); go_simp; (first | refine ⟨_, by intros; rfl, hK _ _ ?_⟩ | refine hK _ _ ?_); clear hK K
  refine QP.steps_read (fun K hK => ?_); go_simp; (first | refine ⟨_, by intros; rfl, hK _ _ ?_⟩ | refine hK _ _ ?_); clear hK K
  refine QP.steps_nil ?_
  obtain ⟨FB, _, _, sB⟩ := PB.out
  go_wp2_with fail
  go_ret
  exact ⟨rfl, FB.trans (SU.mono (by omega))⟩

set_option maxRecDepth 100000 in
set_option maxHeartbeats 8000000 in
theorem peers_has_b (now n : Int) (ps : List S35) (A : Option Addr) (c : Nat) (w : World) (hC : Kd.C k35 w A ps.length ps) (hc : ps.length ≤ c) (hl : ps.length ≤ 100) (h : okW now ps = true) (p : S35) (qd qh : List S35) (ha0 : addOut now ps n = (0, [], 5)) (hd0 : dropOut now ps n = (now, qd, 0)) (hh0 : hearOut now ps n = (now, qh, false, 0)) (hqd : woL ps n ps.length = qd) (hqh : withL ps (hearP now p) 8 = qh) (hlq : qd.length ≤ 1000) (hlh : qh.length ≤ 1000) (hofp : ofP ps n = some p) (hokp : OkN now p) (hS : (hearS now p == 1) = true) (hF : (p.f3 != 1) = false) :
    Calls Try.prog 3 #[.agg #[.int .i64 now, .slice A ps.length c], .int .i64 n] w fun e w' => e = .returned (.bool true) ∧ Below w.heap.size w w' := by
  obtain ⟨ha, hd, hh⟩ := And.intro ha0 (And.intro hd0 hh0)
  have HQ := Lib.hid (And.intro hqd (And.intro hqh hofp))
  clear hqd hqh hofp ha0 hd0 hh0
  have hcop := copied_is now ps (by omega)
  have hsame := same_is now ps (by omega)
  have hli : ((ps.length : Nat) : Int) ≤ 100 := by omega
  go_enter Try.func3, Try.ntmps3
  go_wp2_with fail
  refine (wakes_any _).mono ?_
  rintro e W1 ⟨rfl, hb1⟩
  obtain ⟨E1, bw1, l1⟩ := after_box hb1
  have C1 := Kd.C_below hC E1
  obtain ⟨x0, x1, _, _⟩ := boxed_cells bw1
  have P1 := Lib.hid (And.intro E1 (And.intro bw1 C1))
  have hcp := junctionboxlaw29_copied.calls now A c ps now ps W1 C1 hc hcop
  clear hb1 E1 bw1 C1 hC hcop
  go_wp2_with fail
  refine hcp.mono ?_
  rintro e W2 ⟨v2, rfl, R2, hb2⟩
  obtain ⟨A2, c2, rfl, hc2, C2⟩ := Kd.R_reads R2
  obtain ⟨E1, bw1, C1⟩ := P1.out
  have s2 := hb2.size
  have l2 : w.heap.size < W2.heap.size := by omega
  have bw2 := (hb2.block _ l1).trans bw1
  have Cw2 := Kd.C_below C1 hb2
  have E2 := E1.trans (hb2.mono (by omega))
  obtain ⟨y0, y1, _, _⟩ := boxed_cells bw2
  have P2 := Lib.hid (And.intro E2 (And.intro bw2 (And.intro Cw2 C2)))
  have hadd := add_any now n ps A2 c2 _ (Kd.C_alloc C2 (.cells #[.int .i64 now, .slice A2 ps.length c2] 24)) hc2 (by omega) _ _ _ ha
  clear hcp R2 E1 bw1 C1 P1 hb2 bw2 Cw2 E2 C2 x0 x1 l1
  go_wp2_with fail
  refine hadd.mono ?_
  rintro e W4 ⟨A4, c4, rfl, o4, hb4⟩
  obtain ⟨E4, b5, l4⟩ := after_box hb4
  obtain ⟨E2, bw2, Cw2, C2⟩ := P2.out
  obtain ⟨hc4, Ca4⟩ := o4.cc (by decide)
  have bw4 := (E4.block _ l2).trans bw2
  have Cw4 := Kd.C_below Cw2 E4
  have C24 := Kd.C_below C2 E4
  have F4 := E2.trans (E4.mono (by omega))
  have l4' : w.heap.size < W4.heap.size := by omega
  obtain ⟨x0, x1, _, _⟩ := boxed_cells bw4
  obtain ⟨u0, u1, _, _⟩ := boxed_cells b5
  have P4 := Lib.hid (And.intro F4 (And.intro bw4 (And.intro Cw4 (And.intro C24 (And.intro b5 Ca4)))))
  have hdrop := drop_any now n ps A2 c2 _ (Kd.C_alloc C24 (.cells #[.int .i64 0, .slice A4 (([] : List S35)).length c4] 24)) hc2 (by omega) _ _ _ hd
  clear hadd o4 hb4 E4 E2 bw2 Cw2 C2 P2 bw4 Cw4 C24 F4 b5 Ca4 y0 y1
  go_wp2_with fail
  refine hdrop.mono ?_
  rintro e W6 ⟨A6, c6, rfl, o6, hb6⟩
  obtain ⟨E6, b6, l6⟩ := after_box hb6
  obtain ⟨F4, bw4, Cw4, C24, b5, Ca4⟩ := P4.out
  obtain ⟨hc6, Cd6⟩ := o6.cc (by omega)
  have bw6 := (E6.block _ l4').trans bw4
  have b56 := (E6.block _ l4).trans b5
  have Cw6 := Kd.C_below Cw4 E6
  have C26 := Kd.C_below C24 E6
  have Ca6 := Kd.C_below Ca4 E6
  have F6 := F4.trans (E6.mono (by omega))
  have l6' : w.heap.size < W6.heap.size := by omega
  have l62 : W2.heap.size < W6.heap.size := by omega
  obtain ⟨y0, y1, _, _⟩ := boxed_cells bw6
  obtain ⟨v0, v1, _, _⟩ := boxed_cells b56
  have P6 := Lib.hid (And.intro F6 (And.intro bw6 (And.intro Cw6 (And.intro C26 (And.intro b56 (And.intro Ca6 (And.intro b6 Cd6)))))))
  have hhear := hear_any now n ps A2 c2 _ (Kd.C_alloc C26 (.cells #[.int .i64 now, .slice A6 (qd).length c6] 24)) hc2 (by omega) _ _ _ _ hh
  clear hdrop o6 hb6 E6 F4 bw4 Cw4 C24 b5 Ca4 P4 bw6 b56 Cw6 C26 Ca6 F6 b6 Cd6 x0 x1 u0 u1
  go_wp2_with fail
  refine hhear.mono ?_
  rintro e W8 ⟨A8, c8, rfl, o8, hb8⟩
  obtain ⟨E8, b8, l8⟩ := after_box hb8
  obtain ⟨F6, bw6, Cw6, C26, b56, Ca6, b6, Cd6⟩ := P6.out
  obtain ⟨hc8, Ch8⟩ := o8.cc (by omega)
  have bw8 := (E8.block _ l6').trans bw6
  have b58 := (E8.block _ l62).trans b56
  have b68 := (E8.block _ l6).trans b6
  have Cw8 := Kd.C_below Cw6 E8
  have C28 := Kd.C_below C26 E8
  have Ca8 := Kd.C_below Ca6 E8
  have Cd8 := Kd.C_below Cd6 E8
  have F8 := F6.trans (E8.mono (by omega))
  have l8' : w.heap.size < W8.heap.size := by omega
  have l82 : W2.heap.size < W8.heap.size := by omega
  have l84 : W4.heap.size < W8.heap.size := by omega
  obtain ⟨x0, x1, _, _⟩ := boxed_cells bw8
  obtain ⟨u0, u1, _, _⟩ := boxed_cells b58
  have P8 := Lib.hid (And.intro F8 (And.intro bw8 (And.intro Cw8 (And.intro b58 (And.intro Ca8 (And.intro b68 (And.intro Cd8 (And.intro b8 Ch8))))))))
  have hsm := junctionboxref29_Same.calls _ now A2 c2 ps now A c ps true _ (Kd.C_alloc C28 (.cells #[.int .i64 now, .slice A8 (qh).length c8] 24)) hc2 (Kd.C_alloc Cw8 (.cells #[.int .i64 now, .slice A8 (qh).length c8] 24)) hc hsame
  clear hhear o8 hb8 E8 F6 bw6 Cw6 C26 b56 Ca6 b6 Cd6 P6 bw8 b58 b68 Cw8 C28 Ca8 Cd8 F8 b8 Ch8 y0 y1 v0 v1 hsame
  go_wp2_with fail
  refine hsm.mono ?_
  rintro e W10 ⟨rfl, hb10⟩
  obtain ⟨E10, b10, l10⟩ := after_box hb10
  obtain ⟨F8, bw8, Cw8, b58, Ca8, b68, Cd8, b8, Ch8⟩ := P8.out
  have bwX := (E10.block _ l8').trans bw8
  have b6X := (E10.block _ l84).trans b68
  have b8X := (E10.block _ l8).trans b8
  have CwX := Kd.C_below Cw8 E10
  have CaX := Kd.C_below Ca8 E10
  have CdX := Kd.C_below Cd8 E10
  have ChX := Kd.C_below Ch8 E10
  have FX := F8.trans (E10.mono (by omega))
  have lXw : w.heap.size < W10.heap.size := by omega
  have lX4 : W4.heap.size < W10.heap.size := by omega
  have lX6 : W6.heap.size < W10.heap.size := by omega
  obtain ⟨y0, y1, _, _⟩ := boxed_cells bwX
  have PX := Lib.hid (And.intro FX (And.intro bwX (And.intro CwX (And.intro CaX (And.intro b6X (And.intro CdX (And.intro b8X (And.intro ChX b10))))))))
  have hrt := junctionboxref29_Right.calls _ now A c ps _ W10 CwX hc (ref_ok (okW_iff.1 h) _ (Nat.lt_succ_self _))
  clear hsm hb10 E10 F8 bw8 Cw8 b58 Ca8 b68 Cd8 b8 Ch8 P8 bwX b6X b8X CwX CaX CdX ChX FX b10 x0 x1 u0 u1
  go_wp2_with fail
  refine hrt.mono ?_
  rintro e W11 ⟨rfl, E11⟩
  obtain ⟨FX, bwX, CwX, CaX, b6X, CdX, b8X, ChX, b10⟩ := PX.out
  have s11 := E11.size
  have bw := (E11.block _ lXw).trans bwX
  have b6 := (E11.block _ lX4).trans b6X
  have b8 := (E11.block _ lX6).trans b8X
  have b10' := (E11.block _ l10).trans b10
  have Cw := Kd.C_below CwX E11
  have Ca := Kd.C_below CaX E11
  have Cd := Kd.C_below CdX E11
  have Ch := Kd.C_below ChX E11
  have F := FX.trans (E11.mono (by omega))
  have l11w : w.heap.size < W11.heap.size := by omega
  have l114 : W4.heap.size < W11.heap.size := by omega
  have l116 : W6.heap.size < W11.heap.size := by omega
  have l118 : W8.heap.size < W11.heap.size := by omega
  obtain ⟨x0, x1, _, _⟩ := boxed_cells bw
  obtain ⟨a0, a1, _, _⟩ := boxed_cells b6
  obtain ⟨d0, d1, _, _⟩ := boxed_cells b8
  obtain ⟨h0, h1, _, _⟩ := boxed_cells b10'
  have P := Lib.hid (And.intro F (And.intro bw (And.intro Cw (And.intro Ca (And.intro b6 (And.intro Cd (And.intro b8 (And.intro Ch b10'))))))))
  clear hrt PX FX bwX CwX CaX b6X CdX b8X ChX b10 E11 F bw Cw Ca b6 Cd b8 Ch b10' y0 y1
  obtain ⟨F, bw, Cw, Ca, b6, Cd, b8, Ch, b10⟩ := P.out
  have hof := of_any now n ps A c W11 Cw hc (by omega) (some p) HQ.out.2.2
  unfold pv at hof
  simp only [Option.getD_some, Option.isSome_some] at hof
  clear F bw Cw Ca b6 Cd b8 Ch b10
  go_wp2_with fail
  refine hof.mono ?_
  rintro e W12 ⟨rfl, E12⟩
  obtain ⟨F, bw, Cw, Ca, b6, Cd, b8, Ch, b10⟩ := P.out
  have s12 := E12.size
  have bw' := (E12.block _ l11w).trans bw
  have b6' := (E12.block _ l114).trans b6
  have b8' := (E12.block _ l116).trans b8
  have b10' := (E12.block _ l118).trans b10
  have Cw' := Kd.C_below Cw E12
  have Ca' := Kd.C_below Ca E12
  have Cd' := Kd.C_below Cd E12
  have Ch' := Kd.C_below Ch E12
  have F' := F.trans (E12.mono (by omega))
  have l12w : w.heap.size < W12.heap.size := by omega
  have l124 : W4.heap.size < W12.heap.size := by omega
  have l126 : W6.heap.size < W12.heap.size := by omega
  have l128 : W8.heap.size < W12.heap.size := by omega
  clear x0 x1 a0 a1 d0 d1 h0 h1
  obtain ⟨x0, x1, _, _⟩ := boxed_cells bw'
  obtain ⟨a0, a1, _, _⟩ := boxed_cells b6'
  obtain ⟨d0, d1, _, _⟩ := boxed_cells b8'
  obtain ⟨h0, h1, _, _⟩ := boxed_cells b10'
  have P' := Lib.hid (And.intro F' (And.intro bw' (And.intro Cw' (And.intro Ca' (And.intro b6' (And.intro Cd' (And.intro b8' (And.intro Ch' b10'))))))))
  clear P hof F bw Cw Ca b6 Cd b8 Ch b10 E12 F' bw' Cw' Ca' b6' Cd' b8' Ch' b10'
  obtain ⟨F, bw, Cw, Ca, b6, Cd, b8, Ch, b10⟩ := P'.out
  have hhd := fun W => heard_any hokp W
  unfold pv hearP at hhd
  clear F bw Cw Ca b6 Cd b8 Ch b10
  go_wp2_with fail
  refine (hhd _).mono ?_
  rintro e WA ⟨rfl, hbA⟩
  go_wp2_with fail
  obtain ⟨EA, b13, lA⟩ := after_box hbA
  obtain ⟨F, bw, Cw, Ca, b6, Cd, b8, Ch, b10⟩ := P'.out
  obtain ⟨WB, hWB⟩ : ∃ WB, WA.alloc (.cells #[.int .i64 p.f0, .int .i64 now, .int .i64 (hearG now p), .int .i64 (hearS now p)] 35) = WB := ⟨_, rfl⟩
  have EB0 : Below WA.heap.size WA WB := by rw [← hWB]; exact (Below.refl _ _).alloc (Nat.le_refl _) _
  have b15 : WB.heap[WA.heap.size]? = some (.cells #[.int .i64 p.f0, .int .i64 now, .int .i64 (hearG now p), .int .i64 (hearS now p)] 35 (0, 0)) := by rw [← hWB]; exact World.alloc_heap_new WA _
  have EB : Below W12.heap.size W12 WB := EA.trans (EB0.mono (by omega))
  have sB := EB.size
  have sA : WA.heap.size < WB.heap.size := (Array.getElem?_eq_some_iff.1 b15).1
  have k13 := (EB0.block _ lA).trans b13
  have z0 := (EB.cell (p := ⟨w.heap.size, 0, none⟩) (by simp; omega)).trans x0
  have z1 := (EB.cell (p := ⟨w.heap.size, 1, none⟩) (by simp; omega)).trans x1
  have y0 := (EB.cell (p := ⟨W4.heap.size, 0, none⟩) (by simp; omega)).trans a0
  have y1 := (EB.cell (p := ⟨W4.heap.size, 1, none⟩) (by simp; omega)).trans a1
  have v0 := (EB.cell (p := ⟨W6.heap.size, 0, none⟩) (by simp; omega)).trans d0
  have v1 := (EB.cell (p := ⟨W6.heap.size, 1, none⟩) (by simp; omega)).trans d1
  have t0 := (EB.cell (p := ⟨W8.heap.size, 0, none⟩) (by simp; omega)).trans h0
  have t1 := (EB.cell (p := ⟨W8.heap.size, 1, none⟩) (by simp; omega)).trans h1
  obtain ⟨⟨m0, m1, m2, m3⟩, _⟩ := boxed4 k13
  obtain ⟨⟨o0, o1, o2, o3⟩, _⟩ := boxed4 b15
  have CwB := Kd.C_below Cw EB
  have CdB := Kd.C_below Cd EB
  have ChB := Kd.C_below Ch EB
  have FB := F.trans (EB.mono (by omega))
  have hwo := fun W hW => without_any now n ps A c W (Kd.C_below CwB hW) (by omega) qd HQ.out.1
  have hwi := fun W hW => with_any now ⟨p.f0, now, hearG now p, hearS now p⟩ ps A c W (Kd.C_below CwB hW) hc (by omega) qh HQ.out.2.1
  have PB := Lib.hid (And.intro FB (And.intro CdB (And.intro ChB sB)))
  rw [hWB]
  clear F bw Cw Ca b6 Cd b8 Ch b10 P' EB CwB CdB ChB FB hWB x0 x1 a0 a1 d0 d1 h0 h1 hhd hbA EA b13 EB0 b15 k13
  refine QP.regionS (fun W' => Below WB.heap.size WB W') [(0, 0), (1, 0), (2, 0), (3, 0), (4, 0), (5, 0), (6, 0), (7, 0), (8, 0), (9, 0), (10, 0), (11, 0), (12, 0), (13, 0), (14, 0), (15, 0), (16, 2), (17, 2), (18, 0), (19, 0), (20, 0), (21, 0), (22, 0), (23, 0), (24, 0), (25, 0), (26, 0), (27, 2), (28, 2), (29, 0), (30, 0), (31, 0), (32, 0), (33, 0), (34, 0), (35, 0), (36, 0), (37, 0), (38, 0), (39, 0), (40, 0), (41, 0), (42, 0)] [] (by kernel_rfl) (by intro _ d _ _ _ h; cases d <;> exact h) (by kernel_rfl) ((Below.refl _ _).drew) ?_
  simp only [QP.pick, QP.pickK, List.getElem?_cons_zero, List.getElem?_cons_succ]
  refine QP.steps_read (fun K hK => ?_); go_simp; (first | refine ⟨_, by intros; rfl, hK _ _ ?_⟩ | refine hK _ _ ?_); clear hK K
  refine QP.steps_read (fun K hK => ?_); go_simp; (first | refine ⟨_, by intros; rfl, hK _ _ ?_⟩ | refine hK _ _ ?_); clear hK K
  refine QP.steps_read (fun K hK => ?_); go_simp; (first | refine ⟨_, by intros; rfl, hK _ _ ?_⟩ | refine hK _ _ ?_); clear hK K
  refine QP.steps_read (fun K hK => ?_); go_simp; (first | refine ⟨_, by intros; rfl, hK _ _ ?_⟩ | refine hK _ _ ?_); clear hK K
  refine QP.steps_read (fun K hK => ?_)
  go_simp
  refine ⟨.slice A4 ([] : List S35).length c4, ?_, hK _ _ ?_⟩
  · intro W' hW'
    have q0 := (hW'.cell (p := ⟨W4.heap.size, 1, none⟩) (by simp; omega)).trans y1
    go_simp
  clear hK K
  refine QP.steps_read (fun K hK => ?_); go_simp; (first | refine ⟨_, by intros; rfl, hK _ _ ?_⟩ | refine hK _ _ ?_); clear hK K
  refine QP.steps_read (fun K hK => ?_); go_simp; (first | refine ⟨_, by intros; rfl, hK _ _ ?_⟩ | refine hK _ _ ?_); clear hK K
  refine QP.steps_read (fun K hK => ?_); go_simp; (first | refine ⟨_, by intros; rfl, hK _ _ ?_⟩ | refine hK _ _ ?_); clear hK K
  refine QP.steps_read (fun K hK => ?_); go_simp; (first | refine ⟨_, by intros; rfl, hK _ _ ?_⟩ | refine hK _ _ ?_); clear hK K
  refine QP.steps_read (fun K hK => ?_); go_simp; (first | refine ⟨_, by intros; rfl, hK _ _ ?_⟩ | refine hK _ _ ?_); clear hK K
  refine QP.steps_read (fun K hK => ?_); go_simp; (first | refine ⟨_, by intros; rfl, hK _ _ ?_⟩ | refine hK _ _ ?_); clear hK K
  refine QP.steps_read (fun K hK => ?_); go_simp; (first | refine ⟨_, by intros; rfl, hK _ _ ?_⟩ | refine hK _ _ ?_); clear hK K
  refine QP.steps_read (fun K hK => ?_); go_simp; (first | refine ⟨_, by intros; rfl, hK _ _ ?_⟩ | refine hK _ _ ?_); clear hK K
  refine QP.steps_read (fun K hK => ?_)
  go_simp
  refine ⟨.agg #[.int .i64 now, .slice A6 qd.length c6], ?_, hK _ _ ?_⟩
  · intro W' hW'
    have q0 := (hW'.cell (p := ⟨W6.heap.size, 0, none⟩) (by simp; omega)).trans v0
    have q1 := (hW'.cell (p := ⟨W6.heap.size, 1, none⟩) (by simp; omega)).trans v1
    go_simp
  clear hK K
  refine QP.steps_read (fun K hK => ?_)
  go_simp
  refine ⟨.agg #[.int .i64 now, .slice A ps.length c], ?_, hK _ _ ?_⟩
  · intro W' hW'
    have q0 := (hW'.cell (p := ⟨w.heap.size, 0, none⟩) (by simp; omega)).trans z0
    have q1 := (hW'.cell (p := ⟨w.heap.size, 1, none⟩) (by simp; omega)).trans z1
    go_simp
  clear hK K
  refine QP.steps_read (fun K hK => ?_); go_simp; (first | refine ⟨_, by intros; rfl, hK _ _ ?_⟩ | refine hK _ _ ?_); clear hK K
  refine QP.steps_act (fun K hK => ?_)
  go_simp
  refine (hwo WB.drew ((Below.refl _ _).drew)).mono ?_
  rintro e W14 ⟨A', c', rfl, oX, hbX⟩
  have SX : Below WB.heap.size WB W14 := ((Below.refl WB.heap.size WB).drew).trans hbX
  refine hK _ _ SX ?_
  clear hK K
  obtain ⟨FB, CdB, ChB, _⟩ := PB.out
  obtain ⟨hcX, CX⟩ := oX.cc hlq
  have hsm2 := junctionboxref29_Same.calls _ now A6 c6 qd now A' c' qd true W14 (Kd.C_below CdB SX) hc6 CX hcX (same_is now _ (by omega))
  clear FB CdB ChB oX hbX hcX CX
  refine QP.steps_act (fun K hK => ?_)
  go_simp
  refine hsm2.mono ?_
  rintro e W15 ⟨rfl, hbY⟩
  have SY : Below WB.heap.size WB W15 := SX.trans (hbY.mono SX.size)
  refine hK _ _ SY ?_
  clear hK K hsm2
  refine QP.steps_read (fun K hK => ?_); go_simp; (first | refine ⟨_, by intros; rfl, hK _ _ ?_⟩ | refine hK _ _ ?_); clear hK K
  refine QP.steps_read (fun K hK => ?_); go_simp; (first | refine ⟨_, by intros; rfl, hK _ _ ?_⟩ | refine hK _ _ ?_); clear hK K
  refine QP.steps_read (fun K hK => ?_); go_simp; (first | refine ⟨_, by intros; rfl, hK _ _ ?_⟩ | refine hK _ _ ?_); clear hK K
  refine QP.steps_read (fun K hK => ?_); go_simp; (first | refine ⟨_, by intros; rfl, hK _ _ ?_⟩ | refine hK _ _ ?_); clear hK K
  refine QP.steps_read (fun K hK => ?_); go_simp; (first | refine ⟨_, by intros; rfl, hK _ _ ?_⟩ | refine hK _ _ ?_); clear hK K
  refine QP.steps_read (fun K hK => ?_); go_simp; (first | refine ⟨_, by intros; rfl, hK _ _ ?_⟩ | refine hK _ _ ?_); clear hK K
  refine QP.steps_read (fun K hK => ?_)
  go_simp
  refine ⟨.agg #[.int .i64 now, .slice A8 qh.length c8], ?_, hK _ _ ?_⟩
  · intro W' hW'
    have q0 := (hW'.cell (p := ⟨W8.heap.size, 0, none⟩) (by simp; omega)).trans t0
    have q1 := (hW'.cell (p := ⟨W8.heap.size, 1, none⟩) (by simp; omega)).trans t1
    go_simp
  clear hK K
  refine QP.steps_read (fun K hK => ?_)
  go_simp
  refine ⟨.agg #[.int .i64 now, .slice A ps.length c], ?_, hK _ _ ?_⟩
  · intro W' hW'
    have q0 := (hW'.cell (p := ⟨w.heap.size, 0, none⟩) (by simp; omega)).trans z0
    have q1 := (hW'.cell (p := ⟨w.heap.size, 1, none⟩) (by simp; omega)).trans z1
    go_simp
  clear hK K
  refine QP.steps_read (fun K hK => ?_)
  go_simp
  refine ⟨.agg #[.int .i64 p.f0, .int .i64 now, .int .i64 (hearG now p), .int .i64 (hearS now p)], ?_, hK _ _ ?_⟩
  · intro W' hW'
    have q0 := (hW'.cell (p := ⟨WA.heap.size, 0, none⟩) (by simp; omega)).trans o0
    have q1 := (hW'.cell (p := ⟨WA.heap.size, 1, none⟩) (by simp; omega)).trans o1
    have q2 := (hW'.cell (p := ⟨WA.heap.size, 2, none⟩) (by simp; omega)).trans o2
    have q3 := (hW'.cell (p := ⟨WA.heap.size, 3, none⟩) (by simp; omega)).trans o3
    go_simp
  clear hK K
  refine QP.steps_act (fun K hK => ?_)
  go_simp
  refine (hwi W15 SY).mono ?_
  rintro e W16 ⟨A'', c'', rfl, oZ, hbZ⟩
  have SZ : Below WB.heap.size WB W16 := SY.trans (hbZ.mono SY.size)
  refine hK _ _ SZ ?_
  clear hK K
  obtain ⟨FB, CdB, ChB, _⟩ := PB.out
  obtain ⟨hcZ, CZ⟩ := oZ.cc hlh
  have hsm3 := junctionboxref29_Same.calls _ now A8 c8 qh now A'' c'' qh true W16 (Kd.C_below ChB SZ) hc8 CZ hcZ (same_is now _ (by omega))
  clear FB CdB ChB oZ hbZ hcZ CZ
  refine QP.steps_act (fun K hK => ?_)
  go_simp
  refine hsm3.mono ?_
  rintro e W17 ⟨rfl, hbU⟩
  have SU : Below WB.heap.size WB W17 := SZ.trans (hbU.mono SZ.size)
  refine hK _ _ SU ?_
  clear hK K hsm3
  refine QP.steps_read (fun K hK => ?_); go_simp; (first | refine ⟨_, by intros; rfl, hK _ _ ?_⟩ | refine hK _ _ ?_); clear hK K
  refine QP.steps_read (fun K hK => ?_); go_simp; (first | refine ⟨_, by intros; rfl, hK _ _ ?_⟩ | refine hK _ _ ?_); clear hK K
  refine QP.steps_read (fun K hK => ?_); go_simp; (first | refine ⟨_, by intros; rfl, hK _ _ ?_⟩ | refine hK _ _ ?_); clear hK K
  refine QP.steps_read (fun K hK => ?_); go_simp; (first | refine ⟨_, by intros; rfl, hK _ _ ?_⟩ | refine hK _ _ ?_); clear hK K
  refine QP.steps_read (fun K hK => ?_)
  go_simp
  refine ⟨.int .i64 (hearS now p), ?_, hK _ _ ?_⟩
  · intro W' hW'
    have q0 := (hW'.cell (p := ⟨WA.heap.size, 3, none⟩) (by simp; omega)).trans o3
    go_simp
  clear hK K
  refine QP.steps_read (fun K hK => ?_); go_simp; (first | refine ⟨_, by intros; rfl, hK _ _ ?_⟩ | refine hK _ _ ?_); clear hK K
  refine QP.steps_read (fun K hK => ?_); go_simp; (first | refine ⟨_, by intros; rfl, hK _ _ ?_⟩ | refine hK _ _ ?_); clear hK K
  refine QP.steps_read (fun K hK => ?_); go_simp; (first | refine ⟨_, by intros; rfl, hK _ _ ?_⟩ | refine hK _ _ ?_); clear hK K
  refine QP.steps_read (fun K hK => ?_)
  go_simp
  refine ⟨.int .i64 p.f3, ?_, hK _ _ ?_⟩
  · intro W' hW'
    have q0 := (hW'.cell (p := ⟨W12.heap.size, 3, none⟩) (by simp; omega)).trans m3
    go_simp
  clear hK K
  refine QP.steps_read (fun K hK => ?_); go_simp; (first | refine ⟨_, by intros; rfl, hK _ _ ?_⟩ | refine hK _ _ ?_); clear hK K
  refine QP.steps_read (fun K hK => ?_); go_simp; (first | refine ⟨_, by intros; rfl, hK _ _ ?_⟩ | refine hK _ _ ?_); clear hK K
  refine QP.steps_read (fun K hK => ?_); go_simp; (first | refine ⟨_, by intros; rfl, hK _ _ ?_⟩ | refine hK _ _ ?_); clear hK K
  refine QP.steps_read (fun K hK => ?_); go_simp; (first | refine ⟨_, by intros; rfl, hK _ _ ?_⟩ | refine hK _ _ ?_); clear hK K
  refine QP.steps_read (fun K hK => ?_); go_simp; (first | refine ⟨_, by intros; rfl, hK _ _ ?_⟩ | refine hK _ _ ?_); clear hK K
  refine QP.steps_nil ?_
  obtain ⟨FB, _, _, sB⟩ := PB.out
  go_wp2_with fail
  go_ret
  exact ⟨rfl, FB.trans (SU.mono (by omega))⟩

set_option maxRecDepth 100000 in
set_option maxHeartbeats 8000000 in
theorem peers_has_c (now n : Int) (ps : List S35) (A : Option Addr) (c : Nat) (w : World) (hC : Kd.C k35 w A ps.length ps) (hc : ps.length ≤ c) (hl : ps.length ≤ 100) (h : okW now ps = true) (p : S35) (qd qh : List S35) (ha0 : addOut now ps n = (0, [], 5)) (hd0 : dropOut now ps n = (now, qd, 0)) (hh0 : hearOut now ps n = (now, qh, true, 0)) (hqd : woL ps n ps.length = qd) (hqh : withL ps (hearP now p) 8 = qh) (hlq : qd.length ≤ 1000) (hlh : qh.length ≤ 1000) (hofp : ofP ps n = some p) (hokp : OkN now p) (hS : (hearS now p == 1) = true) (hF : (p.f3 != 1) = true) :
    Calls Try.prog 3 #[.agg #[.int .i64 now, .slice A ps.length c], .int .i64 n] w fun e w' => e = .returned (.bool true) ∧ Below w.heap.size w w' := by
  obtain ⟨ha, hd, hh⟩ := And.intro ha0 (And.intro hd0 hh0)
  have HQ := Lib.hid (And.intro hqd (And.intro hqh hofp))
  clear hqd hqh hofp ha0 hd0 hh0
  have hcop := copied_is now ps (by omega)
  have hsame := same_is now ps (by omega)
  have hli : ((ps.length : Nat) : Int) ≤ 100 := by omega
  go_enter Try.func3, Try.ntmps3
  go_wp2_with fail
  refine (wakes_any _).mono ?_
  rintro e W1 ⟨rfl, hb1⟩
  obtain ⟨E1, bw1, l1⟩ := after_box hb1
  have C1 := Kd.C_below hC E1
  obtain ⟨x0, x1, _, _⟩ := boxed_cells bw1
  have P1 := Lib.hid (And.intro E1 (And.intro bw1 C1))
  have hcp := junctionboxlaw29_copied.calls now A c ps now ps W1 C1 hc hcop
  clear hb1 E1 bw1 C1 hC hcop
  go_wp2_with fail
  refine hcp.mono ?_
  rintro e W2 ⟨v2, rfl, R2, hb2⟩
  obtain ⟨A2, c2, rfl, hc2, C2⟩ := Kd.R_reads R2
  obtain ⟨E1, bw1, C1⟩ := P1.out
  have s2 := hb2.size
  have l2 : w.heap.size < W2.heap.size := by omega
  have bw2 := (hb2.block _ l1).trans bw1
  have Cw2 := Kd.C_below C1 hb2
  have E2 := E1.trans (hb2.mono (by omega))
  obtain ⟨y0, y1, _, _⟩ := boxed_cells bw2
  have P2 := Lib.hid (And.intro E2 (And.intro bw2 (And.intro Cw2 C2)))
  have hadd := add_any now n ps A2 c2 _ (Kd.C_alloc C2 (.cells #[.int .i64 now, .slice A2 ps.length c2] 24)) hc2 (by omega) _ _ _ ha
  clear hcp R2 E1 bw1 C1 P1 hb2 bw2 Cw2 E2 C2 x0 x1 l1
  go_wp2_with fail
  refine hadd.mono ?_
  rintro e W4 ⟨A4, c4, rfl, o4, hb4⟩
  obtain ⟨E4, b5, l4⟩ := after_box hb4
  obtain ⟨E2, bw2, Cw2, C2⟩ := P2.out
  obtain ⟨hc4, Ca4⟩ := o4.cc (by decide)
  have bw4 := (E4.block _ l2).trans bw2
  have Cw4 := Kd.C_below Cw2 E4
  have C24 := Kd.C_below C2 E4
  have F4 := E2.trans (E4.mono (by omega))
  have l4' : w.heap.size < W4.heap.size := by omega
  obtain ⟨x0, x1, _, _⟩ := boxed_cells bw4
  obtain ⟨u0, u1, _, _⟩ := boxed_cells b5
  have P4 := Lib.hid (And.intro F4 (And.intro bw4 (And.intro Cw4 (And.intro C24 (And.intro b5 Ca4)))))
  have hdrop := drop_any now n ps A2 c2 _ (Kd.C_alloc C24 (.cells #[.int .i64 0, .slice A4 (([] : List S35)).length c4] 24)) hc2 (by omega) _ _ _ hd
  clear hadd o4 hb4 E4 E2 bw2 Cw2 C2 P2 bw4 Cw4 C24 F4 b5 Ca4 y0 y1
  go_wp2_with fail
  refine hdrop.mono ?_
  rintro e W6 ⟨A6, c6, rfl, o6, hb6⟩
  obtain ⟨E6, b6, l6⟩ := after_box hb6
  obtain ⟨F4, bw4, Cw4, C24, b5, Ca4⟩ := P4.out
  obtain ⟨hc6, Cd6⟩ := o6.cc (by omega)
  have bw6 := (E6.block _ l4').trans bw4
  have b56 := (E6.block _ l4).trans b5
  have Cw6 := Kd.C_below Cw4 E6
  have C26 := Kd.C_below C24 E6
  have Ca6 := Kd.C_below Ca4 E6
  have F6 := F4.trans (E6.mono (by omega))
  have l6' : w.heap.size < W6.heap.size := by omega
  have l62 : W2.heap.size < W6.heap.size := by omega
  obtain ⟨y0, y1, _, _⟩ := boxed_cells bw6
  obtain ⟨v0, v1, _, _⟩ := boxed_cells b56
  have P6 := Lib.hid (And.intro F6 (And.intro bw6 (And.intro Cw6 (And.intro C26 (And.intro b56 (And.intro Ca6 (And.intro b6 Cd6)))))))
  have hhear := hear_any now n ps A2 c2 _ (Kd.C_alloc C26 (.cells #[.int .i64 now, .slice A6 (qd).length c6] 24)) hc2 (by omega) _ _ _ _ hh
  clear hdrop o6 hb6 E6 F4 bw4 Cw4 C24 b5 Ca4 P4 bw6 b56 Cw6 C26 Ca6 F6 b6 Cd6 x0 x1 u0 u1
  go_wp2_with fail
  refine hhear.mono ?_
  rintro e W8 ⟨A8, c8, rfl, o8, hb8⟩
  obtain ⟨E8, b8, l8⟩ := after_box hb8
  obtain ⟨F6, bw6, Cw6, C26, b56, Ca6, b6, Cd6⟩ := P6.out
  obtain ⟨hc8, Ch8⟩ := o8.cc (by omega)
  have bw8 := (E8.block _ l6').trans bw6
  have b58 := (E8.block _ l62).trans b56
  have b68 := (E8.block _ l6).trans b6
  have Cw8 := Kd.C_below Cw6 E8
  have C28 := Kd.C_below C26 E8
  have Ca8 := Kd.C_below Ca6 E8
  have Cd8 := Kd.C_below Cd6 E8
  have F8 := F6.trans (E8.mono (by omega))
  have l8' : w.heap.size < W8.heap.size := by omega
  have l82 : W2.heap.size < W8.heap.size := by omega
  have l84 : W4.heap.size < W8.heap.size := by omega
  obtain ⟨x0, x1, _, _⟩ := boxed_cells bw8
  obtain ⟨u0, u1, _, _⟩ := boxed_cells b58
  have P8 := Lib.hid (And.intro F8 (And.intro bw8 (And.intro Cw8 (And.intro b58 (And.intro Ca8 (And.intro b68 (And.intro Cd8 (And.intro b8 Ch8))))))))
  have hsm := junctionboxref29_Same.calls _ now A2 c2 ps now A c ps true _ (Kd.C_alloc C28 (.cells #[.int .i64 now, .slice A8 (qh).length c8] 24)) hc2 (Kd.C_alloc Cw8 (.cells #[.int .i64 now, .slice A8 (qh).length c8] 24)) hc hsame
  clear hhear o8 hb8 E8 F6 bw6 Cw6 C26 b56 Ca6 b6 Cd6 P6 bw8 b58 b68 Cw8 C28 Ca8 Cd8 F8 b8 Ch8 y0 y1 v0 v1 hsame
  go_wp2_with fail
  refine hsm.mono ?_
  rintro e W10 ⟨rfl, hb10⟩
  obtain ⟨E10, b10, l10⟩ := after_box hb10
  obtain ⟨F8, bw8, Cw8, b58, Ca8, b68, Cd8, b8, Ch8⟩ := P8.out
  have bwX := (E10.block _ l8').trans bw8
  have b6X := (E10.block _ l84).trans b68
  have b8X := (E10.block _ l8).trans b8
  have CwX := Kd.C_below Cw8 E10
  have CaX := Kd.C_below Ca8 E10
  have CdX := Kd.C_below Cd8 E10
  have ChX := Kd.C_below Ch8 E10
  have FX := F8.trans (E10.mono (by omega))
  have lXw : w.heap.size < W10.heap.size := by omega
  have lX4 : W4.heap.size < W10.heap.size := by omega
  have lX6 : W6.heap.size < W10.heap.size := by omega
  obtain ⟨y0, y1, _, _⟩ := boxed_cells bwX
  have PX := Lib.hid (And.intro FX (And.intro bwX (And.intro CwX (And.intro CaX (And.intro b6X (And.intro CdX (And.intro b8X (And.intro ChX b10))))))))
  have hrt := junctionboxref29_Right.calls _ now A c ps _ W10 CwX hc (ref_ok (okW_iff.1 h) _ (Nat.lt_succ_self _))
  clear hsm hb10 E10 F8 bw8 Cw8 b58 Ca8 b68 Cd8 b8 Ch8 P8 bwX b6X b8X CwX CaX CdX ChX FX b10 x0 x1 u0 u1
  go_wp2_with fail
  refine hrt.mono ?_
  rintro e W11 ⟨rfl, E11⟩
  obtain ⟨FX, bwX, CwX, CaX, b6X, CdX, b8X, ChX, b10⟩ := PX.out
  have s11 := E11.size
  have bw := (E11.block _ lXw).trans bwX
  have b6 := (E11.block _ lX4).trans b6X
  have b8 := (E11.block _ lX6).trans b8X
  have b10' := (E11.block _ l10).trans b10
  have Cw := Kd.C_below CwX E11
  have Ca := Kd.C_below CaX E11
  have Cd := Kd.C_below CdX E11
  have Ch := Kd.C_below ChX E11
  have F := FX.trans (E11.mono (by omega))
  have l11w : w.heap.size < W11.heap.size := by omega
  have l114 : W4.heap.size < W11.heap.size := by omega
  have l116 : W6.heap.size < W11.heap.size := by omega
  have l118 : W8.heap.size < W11.heap.size := by omega
  obtain ⟨x0, x1, _, _⟩ := boxed_cells bw
  obtain ⟨a0, a1, _, _⟩ := boxed_cells b6
  obtain ⟨d0, d1, _, _⟩ := boxed_cells b8
  obtain ⟨h0, h1, _, _⟩ := boxed_cells b10'
  have P := Lib.hid (And.intro F (And.intro bw (And.intro Cw (And.intro Ca (And.intro b6 (And.intro Cd (And.intro b8 (And.intro Ch b10'))))))))
  clear hrt PX FX bwX CwX CaX b6X CdX b8X ChX b10 E11 F bw Cw Ca b6 Cd b8 Ch b10' y0 y1
  obtain ⟨F, bw, Cw, Ca, b6, Cd, b8, Ch, b10⟩ := P.out
  have hof := of_any now n ps A c W11 Cw hc (by omega) (some p) HQ.out.2.2
  unfold pv at hof
  simp only [Option.getD_some, Option.isSome_some] at hof
  clear F bw Cw Ca b6 Cd b8 Ch b10
  go_wp2_with fail
  refine hof.mono ?_
  rintro e W12 ⟨rfl, E12⟩
  obtain ⟨F, bw, Cw, Ca, b6, Cd, b8, Ch, b10⟩ := P.out
  have s12 := E12.size
  have bw' := (E12.block _ l11w).trans bw
  have b6' := (E12.block _ l114).trans b6
  have b8' := (E12.block _ l116).trans b8
  have b10' := (E12.block _ l118).trans b10
  have Cw' := Kd.C_below Cw E12
  have Ca' := Kd.C_below Ca E12
  have Cd' := Kd.C_below Cd E12
  have Ch' := Kd.C_below Ch E12
  have F' := F.trans (E12.mono (by omega))
  have l12w : w.heap.size < W12.heap.size := by omega
  have l124 : W4.heap.size < W12.heap.size := by omega
  have l126 : W6.heap.size < W12.heap.size := by omega
  have l128 : W8.heap.size < W12.heap.size := by omega
  clear x0 x1 a0 a1 d0 d1 h0 h1
  obtain ⟨x0, x1, _, _⟩ := boxed_cells bw'
  obtain ⟨a0, a1, _, _⟩ := boxed_cells b6'
  obtain ⟨d0, d1, _, _⟩ := boxed_cells b8'
  obtain ⟨h0, h1, _, _⟩ := boxed_cells b10'
  have P' := Lib.hid (And.intro F' (And.intro bw' (And.intro Cw' (And.intro Ca' (And.intro b6' (And.intro Cd' (And.intro b8' (And.intro Ch' b10'))))))))
  clear P hof F bw Cw Ca b6 Cd b8 Ch b10 E12 F' bw' Cw' Ca' b6' Cd' b8' Ch' b10'
  obtain ⟨F, bw, Cw, Ca, b6, Cd, b8, Ch, b10⟩ := P'.out
  have hhd := fun W => heard_any hokp W
  unfold pv hearP at hhd
  clear F bw Cw Ca b6 Cd b8 Ch b10
  go_wp2_with fail
  refine (hhd _).mono ?_
  rintro e WA ⟨rfl, hbA⟩
  go_wp2_with fail
  obtain ⟨EA, b13, lA⟩ := after_box hbA
  obtain ⟨F, bw, Cw, Ca, b6, Cd, b8, Ch, b10⟩ := P'.out
  obtain ⟨WB, hWB⟩ : ∃ WB, WA.alloc (.cells #[.int .i64 p.f0, .int .i64 now, .int .i64 (hearG now p), .int .i64 (hearS now p)] 35) = WB := ⟨_, rfl⟩
  have EB0 : Below WA.heap.size WA WB := by rw [← hWB]; exact (Below.refl _ _).alloc (Nat.le_refl _) _
  have b15 : WB.heap[WA.heap.size]? = some (.cells #[.int .i64 p.f0, .int .i64 now, .int .i64 (hearG now p), .int .i64 (hearS now p)] 35 (0, 0)) := by rw [← hWB]; exact World.alloc_heap_new WA _
  have EB : Below W12.heap.size W12 WB := EA.trans (EB0.mono (by omega))
  have sB := EB.size
  have sA : WA.heap.size < WB.heap.size := (Array.getElem?_eq_some_iff.1 b15).1
  have k13 := (EB0.block _ lA).trans b13
  have z0 := (EB.cell (p := ⟨w.heap.size, 0, none⟩) (by simp; omega)).trans x0
  have z1 := (EB.cell (p := ⟨w.heap.size, 1, none⟩) (by simp; omega)).trans x1
  have y0 := (EB.cell (p := ⟨W4.heap.size, 0, none⟩) (by simp; omega)).trans a0
  have y1 := (EB.cell (p := ⟨W4.heap.size, 1, none⟩) (by simp; omega)).trans a1
  have v0 := (EB.cell (p := ⟨W6.heap.size, 0, none⟩) (by simp; omega)).trans d0
  have v1 := (EB.cell (p := ⟨W6.heap.size, 1, none⟩) (by simp; omega)).trans d1
  have t0 := (EB.cell (p := ⟨W8.heap.size, 0, none⟩) (by simp; omega)).trans h0
  have t1 := (EB.cell (p := ⟨W8.heap.size, 1, none⟩) (by simp; omega)).trans h1
  obtain ⟨⟨m0, m1, m2, m3⟩, _⟩ := boxed4 k13
  obtain ⟨⟨o0, o1, o2, o3⟩, _⟩ := boxed4 b15
  have CwB := Kd.C_below Cw EB
  have CdB := Kd.C_below Cd EB
  have ChB := Kd.C_below Ch EB
  have FB := F.trans (EB.mono (by omega))
  have hwo := fun W hW => without_any now n ps A c W (Kd.C_below CwB hW) (by omega) qd HQ.out.1
  have hwi := fun W hW => with_any now ⟨p.f0, now, hearG now p, hearS now p⟩ ps A c W (Kd.C_below CwB hW) hc (by omega) qh HQ.out.2.1
  have PB := Lib.hid (And.intro FB (And.intro CdB (And.intro ChB sB)))
  rw [hWB]
  clear F bw Cw Ca b6 Cd b8 Ch b10 P' EB CwB CdB ChB FB hWB x0 x1 a0 a1 d0 d1 h0 h1 hhd hbA EA b13 EB0 b15 k13
  refine QP.regionS (fun W' => Below WB.heap.size WB W') [(0, 0), (1, 0), (2, 0), (3, 0), (4, 0), (5, 0), (6, 0), (7, 0), (8, 0), (9, 0), (10, 0), (11, 0), (12, 0), (13, 0), (14, 0), (15, 0), (16, 2), (17, 2), (18, 0), (19, 0), (20, 0), (21, 0), (22, 0), (23, 0), (24, 0), (25, 0), (26, 0), (27, 2), (28, 2), (29, 0), (30, 0), (31, 0), (32, 0), (33, 0), (34, 0), (35, 0), (36, 0), (37, 0), (38, 0), (39, 0), (40, 0), (41, 0), (42, 0)] [] (by kernel_rfl) (by intro _ d _ _ _ h; cases d <;> exact h) (by kernel_rfl) ((Below.refl _ _).drew) ?_
  simp only [QP.pick, QP.pickK, List.getElem?_cons_zero, List.getElem?_cons_succ]
  refine QP.steps_read (fun K hK => ?_); go_simp; (first | refine ⟨_, by intros; rfl, hK _ _ ?_⟩ | refine hK _ _ ?_); clear hK K
  refine QP.steps_read (fun K hK => ?_); go_simp; (first | refine ⟨_, by intros; rfl, hK _ _ ?_⟩ | refine hK _ _ ?_); clear hK K
  refine QP.steps_read (fun K hK => ?_); go_simp; (first | refine ⟨_, by intros; rfl, hK _ _ ?_⟩ | refine hK _ _ ?_); clear hK K
  refine QP.steps_read (fun K hK => ?_); go_simp; (first | refine ⟨_, by intros; rfl, hK _ _ ?_⟩ | refine hK _ _ ?_); clear hK K
  refine QP.steps_read (fun K hK => ?_)
  go_simp
  refine ⟨.slice A4 ([] : List S35).length c4, ?_, hK _ _ ?_⟩
  · intro W' hW'
    have q0 := (hW'.cell (p := ⟨W4.heap.size, 1, none⟩) (by simp; omega)).trans y1
    go_simp
  clear hK K
  refine QP.steps_read (fun K hK => ?_); go_simp; (first | refine ⟨_, by intros; rfl, hK _ _ ?_⟩ | refine hK _ _ ?_); clear hK K
  refine QP.steps_read (fun K hK => ?_); go_simp; (first | refine ⟨_, by intros; rfl, hK _ _ ?_⟩ | refine hK _ _ ?_); clear hK K
  refine QP.steps_read (fun K hK => ?_); go_simp; (first | refine ⟨_, by intros; rfl, hK _ _ ?_⟩ | refine hK _ _ ?_); clear hK K
  refine QP.steps_read (fun K hK => ?_); go_simp; (first | refine ⟨_, by intros; rfl, hK _ _ ?_⟩ | refine hK _ _ ?_); clear hK K
  refine QP.steps_read (fun K hK => ?_); go_simp; (first | refine ⟨_, by intros; rfl, hK _ _ ?_⟩ | refine hK _ _ ?_); clear hK K
  refine QP.steps_read (fun K hK => ?_); go_simp; (first | refine ⟨_, by intros; rfl, hK _ _ ?_⟩ | refine hK _ _ ?_); clear hK K
  refine QP.steps_read (fun K hK => ?_); go_simp; (first | refine ⟨_, by intros; rfl, hK _ _ ?_⟩ | refine hK _ _ ?_); clear hK K
  refine QP.steps_read (fun K hK => ?_); go_simp; (first | refine ⟨_, by intros; rfl, hK _ _ ?_⟩ | refine hK _ _ ?_); clear hK K
  refine QP.steps_read (fun K hK => ?_)
  go_simp
  refine ⟨.agg #[.int .i64 now, .slice A6 qd.length c6], ?_, hK _ _ ?_⟩
  · intro W' hW'
    have q0 := (hW'.cell (p := ⟨W6.heap.size, 0, none⟩) (by simp; omega)).trans v0
    have q1 := (hW'.cell (p := ⟨W6.heap.size, 1, none⟩) (by simp; omega)).trans v1
    go_simp
  clear hK K
  refine QP.steps_read (fun K hK => ?_)
  go_simp
  refine ⟨.agg #[.int .i64 now, .slice A ps.length c], ?_, hK _ _ ?_⟩
  · intro W' hW'
    have q0 := (hW'.cell (p := ⟨w.heap.size, 0, none⟩) (by simp; omega)).trans z0
    have q1 := (hW'.cell (p := ⟨w.heap.size, 1, none⟩) (by simp; omega)).trans z1
    go_simp
  clear hK K
  refine QP.steps_read (fun K hK => ?_); go_simp; (first | refine ⟨_, by intros; rfl, hK _ _ ?_⟩ | refine hK _ _ ?_); clear hK K
  refine QP.steps_act (fun K hK => ?_)
  go_simp
  refine (hwo WB.drew ((Below.refl _ _).drew)).mono ?_
  rintro e W14 ⟨A', c', rfl, oX, hbX⟩
  have SX : Below WB.heap.size WB W14 := ((Below.refl WB.heap.size WB).drew).trans hbX
  refine hK _ _ SX ?_
  clear hK K
  obtain ⟨FB, CdB, ChB, _⟩ := PB.out
  obtain ⟨hcX, CX⟩ := oX.cc hlq
  have hsm2 := junctionboxref29_Same.calls _ now A6 c6 qd now A' c' qd true W14 (Kd.C_below CdB SX) hc6 CX hcX (same_is now _ (by omega))
  clear FB CdB ChB oX hbX hcX CX
  refine QP.steps_act (fun K hK => ?_)
  go_simp
  refine hsm2.mono ?_
  rintro e W15 ⟨rfl, hbY⟩
  have SY : Below WB.heap.size WB W15 := SX.trans (hbY.mono SX.size)
  refine hK _ _ SY ?_
  clear hK K hsm2
  refine QP.steps_read (fun K hK => ?_); go_simp; (first | refine ⟨_, by intros; rfl, hK _ _ ?_⟩ | refine hK _ _ ?_); clear hK K
  refine QP.steps_read (fun K hK => ?_); go_simp; (first | refine ⟨_, by intros; rfl, hK _ _ ?_⟩ | refine hK _ _ ?_); clear hK K
  refine QP.steps_read (fun K hK => ?_); go_simp; (first | refine ⟨_, by intros; rfl, hK _ _ ?_⟩ | refine hK _ _ ?_); clear hK K
  refine QP.steps_read (fun K hK => ?_); go_simp; (first | refine ⟨_, by intros; rfl, hK _ _ ?_⟩ | refine hK _ _ ?_); clear hK K
  refine QP.steps_read (fun K hK => ?_); go_simp; (first | refine ⟨_, by intros; rfl, hK _ _ ?_⟩ | refine hK _ _ ?_); clear hK K
  refine QP.steps_read (fun K hK => ?_); go_simp; (first | refine ⟨_, by intros; rfl, hK _ _ ?_⟩ | refine hK _ _ ?_); clear hK K
  refine QP.steps_read (fun K hK => ?_)
  go_simp
  refine ⟨.agg #[.int .i64 now, .slice A8 qh.length c8], ?_, hK _ _ ?_⟩
  · intro W' hW'
    have q0 := (hW'.cell (p := ⟨W8.heap.size, 0, none⟩) (by simp; omega)).trans t0
    have q1 := (hW'.cell (p := ⟨W8.heap.size, 1, none⟩) (by simp; omega)).trans t1
    go_simp
  clear hK K
  refine QP.steps_read (fun K hK => ?_)
  go_simp
  refine ⟨.agg #[.int .i64 now, .slice A ps.length c], ?_, hK _ _ ?_⟩
  · intro W' hW'
    have q0 := (hW'.cell (p := ⟨w.heap.size, 0, none⟩) (by simp; omega)).trans z0
    have q1 := (hW'.cell (p := ⟨w.heap.size, 1, none⟩) (by simp; omega)).trans z1
    go_simp
  clear hK K
  refine QP.steps_read (fun K hK => ?_)
  go_simp
  refine ⟨.agg #[.int .i64 p.f0, .int .i64 now, .int .i64 (hearG now p), .int .i64 (hearS now p)], ?_, hK _ _ ?_⟩
  · intro W' hW'
    have q0 := (hW'.cell (p := ⟨WA.heap.size, 0, none⟩) (by simp; omega)).trans o0
    have q1 := (hW'.cell (p := ⟨WA.heap.size, 1, none⟩) (by simp; omega)).trans o1
    have q2 := (hW'.cell (p := ⟨WA.heap.size, 2, none⟩) (by simp; omega)).trans o2
    have q3 := (hW'.cell (p := ⟨WA.heap.size, 3, none⟩) (by simp; omega)).trans o3
    go_simp
  clear hK K
  refine QP.steps_act (fun K hK => ?_)
  go_simp
  refine (hwi W15 SY).mono ?_
  rintro e W16 ⟨A'', c'', rfl, oZ, hbZ⟩
  have SZ : Below WB.heap.size WB W16 := SY.trans (hbZ.mono SY.size)
  refine hK _ _ SZ ?_
  clear hK K
  obtain ⟨FB, CdB, ChB, _⟩ := PB.out
  obtain ⟨hcZ, CZ⟩ := oZ.cc hlh
  have hsm3 := junctionboxref29_Same.calls _ now A8 c8 qh now A'' c'' qh true W16 (Kd.C_below ChB SZ) hc8 CZ hcZ (same_is now _ (by omega))
  clear FB CdB ChB oZ hbZ hcZ CZ
  refine QP.steps_act (fun K hK => ?_)
  go_simp
  refine hsm3.mono ?_
  rintro e W17 ⟨rfl, hbU⟩
  have SU : Below WB.heap.size WB W17 := SZ.trans (hbU.mono SZ.size)
  refine hK _ _ SU ?_
  clear hK K hsm3
  refine QP.steps_read (fun K hK => ?_); go_simp; (first | refine ⟨_, by intros; rfl, hK _ _ ?_⟩ | refine hK _ _ ?_); clear hK K
  refine QP.steps_read (fun K hK => ?_); go_simp; (first | refine ⟨_, by intros; rfl, hK _ _ ?_⟩ | refine hK _ _ ?_); clear hK K
  refine QP.steps_read (fun K hK => ?_); go_simp; (first | refine ⟨_, by intros; rfl, hK _ _ ?_⟩ | refine hK _ _ ?_); clear hK K
  refine QP.steps_read (fun K hK => ?_); go_simp; (first | refine ⟨_, by intros; rfl, hK _ _ ?_⟩ | refine hK _ _ ?_); clear hK K
  refine QP.steps_read (fun K hK => ?_)
  go_simp
  refine ⟨.int .i64 (hearS now p), ?_, hK _ _ ?_⟩
  · intro W' hW'
    have q0 := (hW'.cell (p := ⟨WA.heap.size, 3, none⟩) (by simp; omega)).trans o3
    go_simp
  clear hK K
  refine QP.steps_read (fun K hK => ?_); go_simp; (first | refine ⟨_, by intros; rfl, hK _ _ ?_⟩ | refine hK _ _ ?_); clear hK K
  refine QP.steps_read (fun K hK => ?_); go_simp; (first | refine ⟨_, by intros; rfl, hK _ _ ?_⟩ | refine hK _ _ ?_); clear hK K
  refine QP.steps_read (fun K hK => ?_); go_simp; (first | refine ⟨_, by intros; rfl, hK _ _ ?_⟩ | refine hK _ _ ?_); clear hK K
  refine QP.steps_read (fun K hK => ?_)
  go_simp
  refine ⟨.int .i64 p.f3, ?_, hK _ _ ?_⟩
  · intro W' hW'
    have q0 := (hW'.cell (p := ⟨W12.heap.size, 3, none⟩) (by simp; omega)).trans m3
    go_simp
  clear hK K
  refine QP.steps_read (fun K hK => ?_); go_simp; (first | refine ⟨_, by intros; rfl, hK _ _ ?_⟩ | refine hK _ _ ?_); clear hK K
  refine QP.steps_read (fun K hK => ?_); go_simp; (first | refine ⟨_, by intros; rfl, hK _ _ ?_⟩ | refine hK _ _ ?_); clear hK K
  refine QP.steps_read (fun K hK => ?_); go_simp; (first | refine ⟨_, by intros; rfl, hK _ _ ?_⟩ | refine hK _ _ ?_); clear hK K
  refine QP.steps_read (fun K hK => ?_); go_simp; (first | refine ⟨_, by intros; rfl, hK _ _ ?_⟩ | refine hK _ _ ?_); clear hK K
  refine QP.steps_read (fun K hK => ?_); go_simp; (first | refine ⟨_, by intros; rfl, hK _ _ ?_⟩ | refine hK _ _ ?_); clear hK K
  refine QP.steps_nil ?_
  obtain ⟨FB, _, _, sB⟩ := PB.out
  go_wp2_with fail
  go_ret
  exact ⟨rfl, FB.trans (SU.mono (by omega))⟩

set_option maxRecDepth 100000 in
set_option maxHeartbeats 4000000 in
theorem peers_big (now n : Int) (ps : List S35) (A : Option Addr) (c : Nat) (w : World) (hl : 100 < ps.length) :
    Calls Try.prog 3 #[.agg #[.int .i64 now, .slice A ps.length c], .int .i64 n] w fun e w' => e = .returned (.bool true) ∧ Below w.heap.size w w' := by
  have hli : (100 : Int) < ((ps.length : Nat) : Int) := by omega
  go_enter Try.func3, Try.ntmps3
  go_wp2_with fail
  refine (wakes_any _).mono ?_
  rintro e W1 ⟨rfl, hb1⟩
  obtain ⟨E1, bw1, l1⟩ := after_box hb1
  obtain ⟨x0, x1, _, _⟩ := boxed_cells bw1
  go_wp2_with fail
  go_ret
  exact ⟨rfl, E1⟩

/-- BeatPeers answers true, and leaves what there was as it was. -/
theorem peers_any (now n : Int) (ps : List S35) (A : Option Addr) (c : Nat) (w : World) (hC : Kd.C k35 w A ps.length ps) (hc : ps.length ≤ c) :
    Calls Try.prog 3 #[.agg #[.int .i64 now, .slice A ps.length c], .int .i64 n] w fun e w' => e = .returned (.bool true) ∧ Below w.heap.size w w' := by
  rcases Nat.lt_or_ge 100 ps.length with hl | hl
  · exact peers_big now n ps A c w hl
  · rcases Bool.eq_false_or_eq_true (okW now ps) with h | h
    · have hok := okW_iff.1 h
      rcases Bool.eq_false_or_eq_true (has ps n) with hn | hn
      · obtain ⟨ha, hd, hh⟩ := res_has hok hn
        obtain ⟨hi, he⟩ := has_at hok.rising hn
        have hp := hok.nums _ hi
        have h8 := hok.len
        have hdl : (delP ps n).length ≤ 1000 := by
          unfold delP
          rw [List.length_append, List.length_take, List.length_drop]
          omega
        have hsl : (ps.set (idx n ps) (hearP now (pu ps (idx n ps)))).length ≤ 1000 := by rw [List.length_set]; omega
        have hw := wo_del hok hn
        have hs := with_set hok (y := hearP now (pu ps (idx n ps))) hi rfl
        have ho := of_has hok.rising hn
        have hcc : hearC now ps n = (decide (hearS now (pu ps (idx n ps)) = 1) && decide ((pu ps (idx n ps)).f3 ≠ 1)) := by unfold hearC; rw [hn, Bool.true_and]
        by_cases h1 : hearS now (pu ps (idx n ps)) = 1
        · by_cases h2 : (pu ps (idx n ps)).f3 = 1
          · rw [hcc, decide_eq_true h1, decide_eq_false (by simpa using h2)] at hh
            exact peers_has_b now n ps A c w hC hc hl h _ _ _ ha hd hh hw hs hdl hsl ho hp (by simpa using h1) (by simpa using h2)
          · rw [hcc, decide_eq_true h1, decide_eq_true h2] at hh
            exact peers_has_c now n ps A c w hC hc hl h _ _ _ ha hd hh hw hs hdl hsl ho hp (by simpa using h1) (by simpa using h2)
        · rw [hcc, decide_eq_false h1, Bool.false_and] at hh
          exact peers_has_a now n ps A c w hC hc hl h _ _ _ ha hd hh hw hs hdl hsl ho hp (by simpa using h1)
      · by_cases hr : n < 1 ∨ 8 < n
        · exact peers_out now n ps A c w hC hc hl h hn hr
        · exact peers_add now n ps A c w hC hc hl h hn hr
    · exact peers_bad now n ps A c w hC hc hl h

end Go.Proofs.Ytplkimgoogoadaa
