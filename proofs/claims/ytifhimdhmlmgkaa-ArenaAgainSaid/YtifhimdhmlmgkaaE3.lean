/- An arena as bytes; whether bytes are the same. -/
import Derived.Test.YtifhimdhmlmgkaaE2
namespace Go.Proofs.Ytifhimdhmlmgkaa
open Go.RowKit

/-- Words as bytes. -/
def bytesW (ws : List Int) : List Int := ws.flatMap be4

theorem bytesW_len (ws : List Int) : (bytesW ws).length = 4 * ws.length := by
  unfold bytesW
  induction ws with
  | nil => rfl
  | cons x ws ih => simp [be4, ih]; omega

theorem bytesW_take (ws : List Int) (k : Nat) (hk : k < ws.length) : bytesW (ws.take (k + 1)) = bytesW (ws.take k) ++ be4 (rd ws k) := by
  unfold bytesW rd
  rw [List.take_add_one, List.flatMap_append]
  simp [hk]

theorem put32_any {v : Value} {xs : List Int} {n0 : Nat} {w : World} (h : Byt w n0 v xs) (x : Int) (hx0 : 0 ≤ x) (hx1 : x < 4294967296) (hl : xs.length ≤ 1099511627000) :
    Calls Try.prog 41 #[v, .int .u32 x] w fun e w' => ∃ v', e = .returned v' ∧ Byt w' w.heap.size v' (xs ++ be4 x) ∧ Below w.heap.size w w' := by
  have hg := goes_any h x hx0 hx1 hl
  go_enter Try.func41, Try.ntmps41
  go_wp2_with fail
  refine hg.mono ?_
  rintro e w1 ⟨v1, rfl, hb, hw⟩
  go_wp2_with fail
  go_ret
  exact ⟨v1, rfl, hb, hw⟩

set_option maxHeartbeats 1000000 in
theorem encode_any {A B : Nat} {ws : List Int} {w : World} (h : Ar w A B ws) :
    Calls Try.prog 24 #[.pointer (some ⟨A, 0, none⟩)] w fun e w' => ∃ v, e = .returned v ∧ Byt w' w.heap.size v (bytesW ws) ∧ Below w.heap.size w w' := by
  have hA := h.ha
  have hhi := h.hi
  go_enter Try.func24, Try.ntmps24
  go_wp2_with fail
  go_loopw [13, 3] (fun i v wr => ∃ (k : Nat), i = .int .i64 k ∧ k ≤ ws.length ∧ Byt wr w.heap.size v (bytesW (ws.take k)) ∧ Below w.heap.size w wr) (fun i _ _ => ws.length - (intOf i).toNat)
  case atStart => exact ⟨0, rfl, by omega, Byt.nil _ _, Below.refl _ _⟩
  case round =>
    obtain ⟨k, rfl, hk, hv, hb⟩ := hrel
    have hs := hb.size
    by_cases hlt : k < ws.length
    · have hl := bytesW_len (ws.take k)
      have hl2 : (ws.take k).length = k := by simp; omega
      have hrng := rd_rng h.rng k
      have hc := (h.next hb).cell hlt
      have hp := put32_any hv (rd ws k) hrng.1 hrng.2 (by omega)
      rw [← bytesW_take ws k hlt] at hp
      go_wp2_with fail
      refine hp.mono ?_
      rintro e w1 ⟨v1, rfl, hv1, hb1⟩
      go_wp2_with fail
      go_roundw
      case rel => exact ⟨k + 1, by go_num, by omega, hv1.mono hs, hb.trans (hb1.mono hs)⟩
      case measure => simp [intOf]; omega
    · have hkl : k = ws.length := by omega
      subst hkl
      rw [List.take_length] at hv
      go_wp2_with fail
      go_ret
      exact ⟨_, rfl, hv, hb⟩

theorem Byt.conv {w : World} {n0 : Nat} {v : Value} {xs : List Int} (h : Byt w n0 v xs) : (convert 54 9 v).run Try.prog w = .ok (.string (strOfNums xs)) w := by
  rcases h.2 with ⟨rfl, rfl⟩ | ⟨g, c, rfl, h1, h2, h3, h4, h5⟩
  · kernel_rfl
  · refine run_convert_bytes_arg w 54 5 Try.underlying54 Try.underlying5 g 0 xs.length c xs rfl (fun i hi => ?_) 9 Try.underlying9
    rw [Nat.zero_add]
    refine h5 i _ ?_
    simp [u8s, hi, List.getD]

theorem equal_any {v v' : Value} {xs : List Int} {n0 n1 : Nat} {w : World} (h : Byt w n0 v xs) (h' : Byt w n1 v' xs) :
    Calls Try.prog 26 #[v, v'] w fun e w' => e = .returned (.bool true) ∧ w' = w := by
  have c1 := h.conv
  have c2 := h'.conv
  go_enter Try.func26, Try.ntmps26
  go_wp2_with fail
  go_ret
  exact ⟨rfl, rfl⟩

end Go.Proofs.Ytifhimdhmlmgkaa
