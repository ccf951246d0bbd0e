/- The walks of the reference of layer 1: Has, With, Less, Or, And, Sub. -/
import Derived.Test.YtdamljjbeaomoaaDoorProg
import Derived.WalkKit
import Derived.WalkSpells
import Derived.WalkLawsBesides
import Derived.Lib.Hide
import Derived.Test.YtdamljjbeaomoaaDoorOwn
import Derived.Test.YtdamljjbeaomoaaDoorSets
namespace Go.Proofs.YtdamljjbeaomoaaDoor
open Go.RowKit Own
set_option maxHeartbeats 400000 in
theorem Has_calls (s : BitVec 16) (t : Nat) (ht : t < 16) (w : World) :
    Calls Tryd.prog 20 #[.int .u16 (nH s), .int .i64 t] w fun e w' => e = .returned (.bool (has s t)) ∧ w = w' := by
  rw [hv_zero s]
  go_enter Tryd.func20, Tryd.ntmps20
  go_wp2
  go_loop [0, 5] (fun x i => ∃ k : Nat, k ≤ t ∧ x = .int .u16 (hv s k) ∧ i = .int .i64 k) (fun _ i => t - (intOf i).toNat)
  case atStart => exact ⟨0, Nat.zero_le _, rfl, rfl⟩
  case round =>
    obtain ⟨k, hk, rfl, rfl⟩ := hrel
    have hl := hv_lo s k
    have hh := hv_hi s k
    by_cases hlt : k < t
    · have E := Lib.hid (hv_next s k)
      go_wp2
      go_round
      case rel => exact ⟨k + 1, by omega, by rw [E.out], by go_num⟩
      case measure => simp [intOf]; omega
    · obtain rfl : k = t := by omega
      go_wp2
      go_ret
      exact ⟨by rw [← hv_bit]; rfl, rfl⟩
set_option maxHeartbeats 400000 in
theorem With_calls (s : BitVec 16) (t : Nat) (ht : t < 16) (w : World) :
    Calls Tryd.prog 22 #[.int .u16 (nH s), .int .i64 t] w fun e w' => e = .returned (.int .u16 (nH (s ||| bit t))) ∧ w = w' := by
  cases hb : has s t
  · have hf := Lib.hid (with_pw s t ht hb)
    go_enter Tryd.func22, Tryd.ntmps22
    go_wp2_with (go_at_call 20; refine (Has_calls _ _ (by omega) _).mono ?_; rintro e w' ⟨rfl, rfl⟩)
    go_loop [5, 6] (fun x i => ∃ k : Nat, k ≤ t ∧ x = .int .u16 (pw k) ∧ i = .int .i64 k) (fun _ i => t - (intOf i).toNat)
    case atStart => exact ⟨0, Nat.zero_le _, rfl, rfl⟩
    case round =>
      obtain ⟨k, hk, rfl, rfl⟩ := hrel
      have hl := pw_lo k
      have hh := pw_hi k (by omega)
      by_cases hlt : k < t
      · have E := Lib.hid (pw_next k (by omega))
        have hh' := pw_hi (k + 1) (by omega)
        go_wp2
        go_round
        case rel => exact ⟨k + 1, by omega, by rw [E.out], by go_num⟩
        case measure => simp [intOf]; omega
      · obtain rfl : k = t := by omega
        go_wp2
        go_ret
        exact ⟨by rw [← hf.out]; rfl, rfl⟩
  · have hf := Lib.hid (with_has s t hb)
    go_enter Tryd.func22, Tryd.ntmps22
    go_wp2_with (go_at_call 20; refine (Has_calls _ _ (by omega) _).mono ?_; rintro e w' ⟨rfl, rfl⟩)
    go_ret
    exact ⟨by rw [hf.out]; rfl, rfl⟩

set_option maxHeartbeats 400000 in
theorem Less_calls (a b : BitVec 16) (w : World) :
    Calls Tryd.prog 25 #[.int .u16 (nH a), .int .u16 (nH b)] w fun e w' => e = .returned (.int .u16 (nH (a &&& ~~~b))) ∧ w = w' := by
  have hz : (0 : Int) = nH (upto (a &&& ~~~b) 0) := rfl
  have HZ := Lib.hid hz
  clear hz
  go_enter Tryd.func25, Tryd.ntmps25
  go_wp2
  go_loop [5, 6] (fun x i => ∃ k : Nat, k ≤ 16 ∧ x = .int .u16 (nH (upto (a &&& ~~~b) k)) ∧ i = .int .i64 k) (fun _ i => 16 - (intOf i).toNat)
  case atStart => exact ⟨0, Nat.zero_le _, by rw [HZ.out], rfl⟩
  case round =>
    obtain ⟨k, hk, rfl, rfl⟩ := hrel
    by_cases hlt : k < 16
    · have hl := has_less a b k hlt
      cases ha : has a k
      · rw [ha, Bool.false_and] at hl
        have E := Lib.hid (upto_no hl)
        clear hl
        go_wp2_with (go_at_call 20; refine (Has_calls _ _ (by omega) _).mono ?_; rintro e w' ⟨rfl, rfl⟩)
        go_round
        case rel => exact ⟨k + 1, by omega, by rw [E.out], by go_num⟩
        case measure => simp [intOf]; omega
      · cases hb : has b k
        · rw [ha, hb, Bool.not_false, Bool.and_self] at hl
          have E := Lib.hid (upto_yes hl)
          clear hl
          go_wp2_with (first | (go_at_call 20; refine (Has_calls _ _ (by omega) _).mono ?_; rintro e w' ⟨rfl, rfl⟩) | (go_at_call 22; refine (With_calls _ _ (by omega) _).mono ?_; rintro e w' ⟨rfl, rfl⟩))
          go_round
          case rel => exact ⟨k + 1, by omega, by rw [E.out], by go_num⟩
          case measure => simp [intOf]; omega
        · rw [ha, hb, Bool.not_true, Bool.and_false] at hl
          have E := Lib.hid (upto_no hl)
          clear hl
          go_wp2_with (go_at_call 20; refine (Has_calls _ _ (by omega) _).mono ?_; rintro e w' ⟨rfl, rfl⟩)
          go_round
          case rel => exact ⟨k + 1, by omega, by rw [E.out], by go_num⟩
          case measure => simp [intOf]; omega
    · obtain rfl : k = 16 := by omega
      go_wp2
      go_ret
      exact ⟨by rw [upto_all]; rfl, rfl⟩

set_option maxHeartbeats 400000 in
theorem And_calls (a b : BitVec 16) (w : World) :
    Calls Tryd.prog 19 #[.int .u16 (nH a), .int .u16 (nH b)] w fun e w' => e = .returned (.int .u16 (nH (a &&& b))) ∧ w = w' := by
  have hz := Lib.hid (and_less a b)
  go_enter Tryd.func19, Tryd.ntmps19
  go_wp2_with (go_at_call 25; refine (Less_calls _ _ _).mono ?_; rintro e w' ⟨rfl, rfl⟩)
  go_ret
  exact ⟨by rw [← hz.out]; rfl, rfl⟩
end Go.Proofs.YtdamljjbeaomoaaDoor
