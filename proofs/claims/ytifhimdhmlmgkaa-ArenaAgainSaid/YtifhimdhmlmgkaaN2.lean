/- ArenaNone: the walk. -/
import Derived.Test.YtifhimdhmlmgkaaN1
import Derived.ProofKit
import Derived.OpenShut
namespace Go.Proofs.Ytifhimdhmlmgkaa
open Go.ChangeShapes Go.WideShapes Go.RowKit

/-- A slice of integers that came in. -/
def IntsAt (w : World) (a : Option Addr) (len : Nat) : Prop :=
  len = 0 ∨ ∃ b off, a = some ⟨b, off, none⟩ ∧ ∀ k, k < len → ∃ z, w.cell? ⟨b, off + k, none⟩ = some (.int .i64 z) ∧ (Lit.int .i64 z).wf = true

theorem spot_none {w : World} {a : Addr} {v : Value} (h : w.cell? a = some v) : a.spot = none := by
  unfold World.cell? at h
  split at h
  · split at h
    · cases h
    · rename_i hs; simpa using hs
  · cases h

theorem open_ints41 {H : Type} {enc : TypeId × Value → H} {w : World} {base : Nat} {spare : Nat → Bool} {held : Bool} {fuel : Nat} {a : Option Addr} {len cap : Nat} {x : DataW H × List MemPlace}
    (h : DataW.trod enc Try.prog w base spare held fuel 41 [.slice a len cap] = some x) : len ≤ maxLen ∧ IntsAt w a len := by
  rcases open_ints Try.underlying41 Try.underlying3 (by kernel_rfl) h with ⟨hcs, _⟩ | ⟨ad, l, c, zs, hcs, _, hl, hm, hz, _, hcell, hwz⟩
  · simp at hcs
    obtain ⟨rfl, rfl, rfl⟩ := hcs
    exact ⟨Nat.zero_le _, .inl rfl⟩
  · simp at hcs
    obtain ⟨rfl, rfl, rfl⟩ := hcs
    refine ⟨Nat.le_trans hl hm, ?_⟩
    have hlz : len ≤ zs.length := by rw [hz]; split <;> omega
    rcases Nat.eq_zero_or_pos len with h0 | hpos
    · exact .inl h0
    · have hspot : ad.spot = none := spot_none (hcell 0 (by omega))
      obtain ⟨b, off, sp⟩ := ad
      simp only at hspot
      subst hspot
      refine .inr ⟨b, off, rfl, fun k hk => ⟨zs.getD k 0, ?_, ?_⟩⟩
      · rw [← hcell k (by omega)]
        unfold Addr.add
        by_cases hk0 : k = 0
        · subst hk0; rfl
        · rw [if_neg hk0]
      · refine hwz _ ?_
        have : k < zs.length := by omega
        simp [List.getD, this]

theorem blocks_none {A B : Nat} {n : Nat} {w : World} (h : Is w A B (newS n)) : Calls Try.prog 16 #[.pointer (some ⟨A, 0, none⟩)] w fun e W' => ∃ a cap, e = .returned (.slice a 0 cap) ∧ Below w.heap.size w W' :=
  (blocks_any h.arb).mono fun _ _ k => by
    obtain ⟨hb, ⟨_, a, cap, he⟩ | ⟨hl, _⟩⟩ := k.out
    · exact ⟨a, cap, he, hb⟩
    · exact absurd rfl hl
theorem spare_none {A B : Nat} {n : Nat} {w : World} (h : Is w A B (newS n)) : Calls Try.prog 17 #[.pointer (some ⟨A, 0, none⟩)] w fun e W' => ∃ a cap, e = .returned (.slice a 0 cap) ∧ Below w.heap.size w W' :=
  (spare_any h.arb).mono fun _ _ k => by
    obtain ⟨hb, ⟨_, a, cap, he⟩ | ⟨hl, _⟩⟩ := k.out
    · exact ⟨a, cap, he, hb⟩
    · exact absurd rfl hl
theorem root_none {A B : Nat} {n : Nat} {w : World} (h : Is w A B (newS n)) (hn : 64 ≤ n) : Calls Try.prog 18 #[.pointer (some ⟨A, 0, none⟩)] w fun e W' => e = .returned (.agg #[.int .u64 0, .int .u64 0, .int .i64 0, .int .i64 0]) ∧ Below w.heap.size w W' := by
  have := root_any h.ar
  rwa [newS_root n hn] at this

set_option maxRecDepth 100000 in
set_option maxHeartbeats 2000000 in
theorem none_walk (a0 : Option Addr) (len0 cap0 : Nat) (a1 a2 : Int) (w : World) (hlen : len0 ≤ maxLen) (h0 : IntsAt w a0 len0) :
    Calls Try.prog 4 #[.slice a0 len0 cap0, .int .i64 a1, .int .i64 a2] w fun e w' => e = .returned (.bool true) ∧ Below w.heap.size w w' := by
  have hwk := wakes_any w
  unfold maxLen at hlen
  go_enter Try.func4, Try.ntmps4
  go_wp2_with fail
  refine hwk.mono ?_
  rintro e w0 ⟨rfl, hb0⟩
  clear hwk
  go_wp2_with fail
  go_loopw [22] (fun i wr => ∃ (k : Nat), i = .int .i64 k ∧ k ≤ len0 ∧ k ≤ 6 ∧ Below w.heap.size w wr) (fun i _ => len0 - (intOf i).toNat)
  case atStart => exact ⟨0, rfl, by omega, by omega, hb0⟩
  case round =>
    obtain ⟨k, rfl, hk1, hk2, hs⟩ := hrel
    by_cases hlt : k < len0
    · obtain ⟨b, off, rfl, hops⟩ : ∃ b off, a0 = some ⟨b, off, none⟩ ∧ ∀ k, k < len0 → ∃ z, w.cell? ⟨b, off + k, none⟩ = some (.int .i64 z) ∧ (Lit.int .i64 z).wf = true := h0.resolve_left (by omega)
      obtain ⟨z, hz, hzw⟩ := hops k hlt
      have hz' := (hs.cell (block_lt_of_cell hz)).trans hz
      clear hops h0 hz
      by_cases h6 : k = 6
      · subst h6
        go_wp2_with fail
        refine (alloc_nil a1 _).mono ?_
        rintro e w1 ⟨rfl, rfl⟩
        go_wp2_with fail
        refine (load_nil a1 a2 _).mono ?_
        rintro e w1 ⟨rfl, rfl⟩
        go_wp2_with fail
        refine (class_nil a1 _).mono ?_
        rintro e w1 ⟨rfl, rfl⟩
        go_wp2_with fail
        refine (free_nil a1 _).mono ?_
        rintro e w1 ⟨rfl, rfl⟩
        go_wp2_with fail
        refine (store_nil a1 a2 1 _).mono ?_
        rintro e w1 ⟨rfl, rfl⟩
        go_wp2_with fail
        refine (pub_nil 1 0 0 0 _).mono ?_
        rintro e w1 ⟨rfl, hb⟩
        have hs1 := hs.trans (hb.mono hs.size)
        clear hb
        go_wp2_with fail
        refine (raise_nil 1 _).mono ?_
        rintro e w2 ⟨rfl, rfl⟩
        go_wp2_with fail
        refine (fence_nil _).mono ?_
        rintro e w2 ⟨rfl, rfl⟩
        go_wp2_with fail
        refine (root_nil _).mono ?_
        rintro e w2 ⟨rfl, hb⟩
        have hs2 := hs1.trans (hb.mono hs1.size)
        clear hb
        go_wp2_with fail
        refine (blocks_nil _).mono ?_
        rintro e w3 ⟨rfl, hb⟩
        have hs3 := hs2.trans (hb.mono hs2.size)
        clear hb
        go_wp2_with fail
        refine (spare_nil _).mono ?_
        rintro e w4 ⟨rfl, hb⟩
        have hs4 := hs3.trans (hb.mono hs3.size)
        clear hb
        go_wp2_with fail
        refine (left_nil _).mono ?_
        rintro e w5 ⟨rfl, rfl⟩
        go_wp2_with fail
        refine (encode_nil _).mono ?_
        rintro e w5 ⟨rfl, rfl⟩
        go_wp2_with fail
        go_ret
        exact ⟨rfl, hs4⟩
      · have h6' : ((k : Int) == 6) = false := by simp; omega
        have hk6 : k < 6 := by omega
        have hrs := hs.size
        clear h6
        by_cases hr : z < 64 ∨ 16384 < z
        · go_wp2_with fail
          refine (new_bad z _ hr).mono ?_
          rintro e w1 ⟨rfl, rfl⟩
          go_wp2_with fail
          all_goals exact ⟨⟨k + 1, by go_num, by omega, by omega, hs⟩, by simp [intOf]; omega⟩
        · obtain ⟨n, rfl⟩ : ∃ n : Nat, z = n := ⟨z.toNat, by omega⟩
          go_wp2_with fail
          refine (new_is n _ (by omega) (by omega)).mono ?_
          rintro e w1 ⟨rfl, hb, hi⟩
          have g0 : Arn w w1 (wr.heap.size + 1) wr.heap.size (newS n) := ⟨hi, hs.trans (hb.mono hs.size), hs.size⟩
          clear hi hb
          have hw16 : IntKind.i64.wrap ((n : Int) - 16) = (n : Int) - 16 := IntWalk.i64_in _ (by omega)
          go_wp2_with fail
          refine (left_arn g0 ((n : Int) - 16) (by simp [newS])).mono ?_
          rintro e w2 ⟨rfl, g1⟩
          clear g0
          go_wp2_with fail
          refine (blocks_none g1.is).mono ?_
          rintro e w3 ⟨aa, ca, rfl, hb⟩
          have g2 := g1.next hb
          clear g1 hb
          go_wp2_with fail
          refine (spare_none g2.is).mono ?_
          rintro e w4 ⟨ab, cb, rfl, hb⟩
          have g3 := g2.next hb
          clear g2 hb
          go_wp2_with fail
          refine (root_none g3.is (by omega)).mono ?_
          rintro e w5 ⟨rfl, hb⟩
          have g4 := g3.next hb
          clear g3 hb
          go_wp2_with fail
          exact ⟨⟨k + 1, by go_num, by omega, by omega, g4.bl⟩, by simp [intOf]; omega⟩
    · go_wp2_with fail
      refine (alloc_nil a1 _).mono ?_
      rintro e w1 ⟨rfl, rfl⟩
      go_wp2_with fail
      refine (load_nil a1 a2 _).mono ?_
      rintro e w1 ⟨rfl, rfl⟩
      go_wp2_with fail
      refine (class_nil a1 _).mono ?_
      rintro e w1 ⟨rfl, rfl⟩
      go_wp2_with fail
      refine (free_nil a1 _).mono ?_
      rintro e w1 ⟨rfl, rfl⟩
      go_wp2_with fail
      refine (store_nil a1 a2 1 _).mono ?_
      rintro e w1 ⟨rfl, rfl⟩
      go_wp2_with fail
      refine (pub_nil 1 0 0 0 _).mono ?_
      rintro e w1 ⟨rfl, hb⟩
      have hs1 := hs.trans (hb.mono hs.size)
      clear hb
      go_wp2_with fail
      refine (raise_nil 1 _).mono ?_
      rintro e w2 ⟨rfl, rfl⟩
      go_wp2_with fail
      refine (fence_nil _).mono ?_
      rintro e w2 ⟨rfl, rfl⟩
      go_wp2_with fail
      refine (root_nil _).mono ?_
      rintro e w2 ⟨rfl, hb⟩
      have hs2 := hs1.trans (hb.mono hs1.size)
      clear hb
      go_wp2_with fail
      refine (blocks_nil _).mono ?_
      rintro e w3 ⟨rfl, hb⟩
      have hs3 := hs2.trans (hb.mono hs2.size)
      clear hb
      go_wp2_with fail
      refine (spare_nil _).mono ?_
      rintro e w4 ⟨rfl, hb⟩
      have hs4 := hs3.trans (hb.mono hs3.size)
      clear hb
      go_wp2_with fail
      refine (left_nil _).mono ?_
      rintro e w5 ⟨rfl, rfl⟩
      go_wp2_with fail
      refine (encode_nil _).mono ?_
      rintro e w5 ⟨rfl, rfl⟩
      go_wp2_with fail
      go_ret
      exact ⟨rfl, hs4⟩

end Go.Proofs.Ytifhimdhmlmgkaa
