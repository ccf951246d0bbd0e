/- The walks of the reference of layer 1: Has, With, Less, Or, And, Sub. -/
import Derived.Test.YtdamljjbeaomoaaProg
import Derived.WalkKit
import Derived.WalkSpells
import Derived.WalkLawsBesides
import Derived.Lib.Hide
import Derived.Test.YtdamljjbeaomoaaOwn
import Derived.Test.YtdamljjbeaomoaaSets
namespace Go.Proofs.Ytdamljjbeaomoaa
open Go.RowKit Own
set_option maxHeartbeats 400000 in
theorem Has_calls (s : BitVec 16) (t : Nat) (ht : t < 16) (w : World) :
    Calls Try.prog 33 #[.int .u16 (u16 s), .int .i64 t] w fun e w' => e = .returned (.bool (has s t)) ∧ w = w' := by
  rw [hv_zero s]
  go_enter Try.func33, Try.ntmps33
  go_wp2
  go_loop [0, 5] (fun x i => ∃ k : Nat, k ≤ t ∧ x = .int .u16 (hv s k) ∧ i = .int .i64 k) (fun _ i => t - (intOf i).toNat)
  case atStart => exact ⟨0, Nat.zero_le _, rfl, rfl⟩
  case round =>
    obtain ⟨k, hk, rfl, rfl⟩ := hrel
    have hl := hv_lo s k
    have hh := hv_hi s k
    by_cases hlt : k < t
    · have E := Lib.hid (hv_next s k)
      go_wp2
      go_round
      case rel => exact ⟨k + 1, by omega, by rw [E.out], by go_num⟩
      case measure => simp [intOf]; omega
    · obtain rfl : k = t := by omega
      go_wp2
      go_ret
      exact ⟨by rw [← hv_bit]; rfl, rfl⟩
set_option maxHeartbeats 400000 in
theorem With_calls (s : BitVec 16) (t : Nat) (ht : t < 16) (w : World) :
    Calls Try.prog 34 #[.int .u16 (u16 s), .int .i64 t] w fun e w' => e = .returned (.int .u16 (u16 (s ||| bit t))) ∧ w = w' := by
  cases hb : has s t
  · have hf := Lib.hid (with_pw s t ht hb)
    go_enter Try.func34, Try.ntmps34
    go_wp2_with (go_at_call 33; refine (Has_calls _ _ (by omega) _).mono ?_; rintro e w' ⟨rfl, rfl⟩)
    go_loop [5, 6] (fun x i => ∃ k : Nat, k ≤ t ∧ x = .int .u16 (pw k) ∧ i = .int .i64 k) (fun _ i => t - (intOf i).toNat)
    case atStart => exact ⟨0, Nat.zero_le _, rfl, rfl⟩
    case round =>
      obtain ⟨k, hk, rfl, rfl⟩ := hrel
      have hl := pw_lo k
      have hh := pw_hi k (by omega)
      by_cases hlt : k < t
      · have E := Lib.hid (pw_next k (by omega))
        have hh' := pw_hi (k + 1) (by omega)
        go_wp2
        go_round
        case rel => exact ⟨k + 1, by omega, by rw [E.out], by go_num⟩
        case measure => simp [intOf]; omega
      · obtain rfl : k = t := by omega
        go_wp2
        go_ret
        exact ⟨by rw [← hf.out]; rfl, rfl⟩
  · have hf := Lib.hid (with_has s t hb)
    go_enter Try.func34, Try.ntmps34
    go_wp2_with (go_at_call 33; refine (Has_calls _ _ (by omega) _).mono ?_; rintro e w' ⟨rfl, rfl⟩)
    go_ret
    exact ⟨by rw [hf.out]; rfl, rfl⟩

set_option maxHeartbeats 400000 in
theorem Less_calls (a b : BitVec 16) (w : World) :
    Calls Try.prog 20 #[.int .u16 (u16 a), .int .u16 (u16 b)] w fun e w' => e = .returned (.int .u16 (u16 (a &&& ~~~b))) ∧ w = w' := by
  have hz : (0 : Int) = u16 (upto (a &&& ~~~b) 0) := rfl
  have HZ := Lib.hid hz
  clear hz
  go_enter Try.func20, Try.ntmps20
  go_wp2
  go_loop [5, 6] (fun x i => ∃ k : Nat, k ≤ 16 ∧ x = .int .u16 (u16 (upto (a &&& ~~~b) k)) ∧ i = .int .i64 k) (fun _ i => 16 - (intOf i).toNat)
  case atStart => exact ⟨0, Nat.zero_le _, by rw [HZ.out], rfl⟩
  case round =>
    obtain ⟨k, hk, rfl, rfl⟩ := hrel
    by_cases hlt : k < 16
    · have hl := has_less a b k hlt
      cases ha : has a k
      · rw [ha, Bool.false_and] at hl
        have E := Lib.hid (upto_no hl)
        clear hl
        go_wp2_with (go_at_call 33; refine (Has_calls _ _ (by omega) _).mono ?_; rintro e w' ⟨rfl, rfl⟩)
        go_round
        case rel => exact ⟨k + 1, by omega, by rw [E.out], by go_num⟩
        case measure => simp [intOf]; omega
      · cases hb : has b k
        · rw [ha, hb, Bool.not_false, Bool.and_self] at hl
          have E := Lib.hid (upto_yes hl)
          clear hl
          go_wp2_with (first | (go_at_call 33; refine (Has_calls _ _ (by omega) _).mono ?_; rintro e w' ⟨rfl, rfl⟩) | (go_at_call 34; refine (With_calls _ _ (by omega) _).mono ?_; rintro e w' ⟨rfl, rfl⟩))
          go_round
          case rel => exact ⟨k + 1, by omega, by rw [E.out], by go_num⟩
          case measure => simp [intOf]; omega
        · rw [ha, hb, Bool.not_true, Bool.and_false] at hl
          have E := Lib.hid (upto_no hl)
          clear hl
          go_wp2_with (go_at_call 33; refine (Has_calls _ _ (by omega) _).mono ?_; rintro e w' ⟨rfl, rfl⟩)
          go_round
          case rel => exact ⟨k + 1, by omega, by rw [E.out], by go_num⟩
          case measure => simp [intOf]; omega
    · obtain rfl : k = 16 := by omega
      go_wp2
      go_ret
      exact ⟨by rw [upto_all]; rfl, rfl⟩

set_option maxHeartbeats 400000 in
theorem Or_calls (a b : BitVec 16) (w : World) :
    Calls Try.prog 21 #[.int .u16 (u16 a), .int .u16 (u16 b)] w fun e w' => e = .returned (.int .u16 (u16 (a ||| b))) ∧ w = w' := by
  have hz : u16 a = u16 (a ||| upto b 0) := by rw [show upto b 0 = 0#16 from rfl, BitVec.or_zero]
  rw [hz]
  clear hz
  go_enter Try.func21, Try.ntmps21
  go_wp2
  go_loop [0, 5] (fun x i => ∃ k : Nat, k ≤ 16 ∧ x = .int .u16 (u16 (a ||| upto b k)) ∧ i = .int .i64 k) (fun _ i => 16 - (intOf i).toNat)
  case atStart => exact ⟨0, Nat.zero_le _, rfl, rfl⟩
  case round =>
    obtain ⟨k, hk, rfl, rfl⟩ := hrel
    by_cases hlt : k < 16
    · cases hb : has b k
      · have E := Lib.hid (upto_no hb)
        go_wp2_with (go_at_call 33; refine (Has_calls _ _ (by omega) _).mono ?_; rintro e w' ⟨rfl, rfl⟩)
        go_round
        case rel => exact ⟨k + 1, by omega, by rw [E.out], by go_num⟩
        case measure => simp [intOf]; omega
      · have E := Lib.hid (upto_yes hb)
        go_wp2_with (first | (go_at_call 33; refine (Has_calls _ _ (by omega) _).mono ?_; rintro e w' ⟨rfl, rfl⟩) | (go_at_call 34; refine (With_calls _ _ (by omega) _).mono ?_; rintro e w' ⟨rfl, rfl⟩))
        go_round
        case rel => exact ⟨k + 1, by omega, by rw [E.out, BitVec.or_assoc], by go_num⟩
        case measure => simp [intOf]; omega
    · obtain rfl : k = 16 := by omega
      go_wp2
      go_ret
      exact ⟨by rw [upto_all]; rfl, rfl⟩
set_option maxHeartbeats 400000 in
theorem SubR_calls (a b : BitVec 16) (w : World) :
    Calls Try.prog 18 #[.int .u16 (u16 a), .int .u16 (u16 b)] w fun e w' => e = .returned (.bool (a &&& ~~~b == 0#16)) ∧ w = w' := by
  go_enter Try.func18, Try.ntmps18
  go_wp2
  go_loop [5] (fun i => ∃ k : Nat, k ≤ 16 ∧ (∀ j, j < k → (has a j && !has b j) = false) ∧ i = .int .i64 k) (fun i => 16 - (intOf i).toNat)
  case atStart => exact ⟨0, Nat.zero_le _, fun _ h => absurd h (by omega), rfl⟩
  case round =>
    obtain ⟨k, hk, hno0, rfl⟩ := hrel
    have hno := Lib.hid hno0
    clear hno0
    by_cases hlt : k < 16
    · cases ha : has a k
      · go_wp2_with (go_at_call 33; refine (Has_calls _ _ (by omega) _).mono ?_; rintro e w' ⟨rfl, rfl⟩)
        go_round
        case rel => exact ⟨k + 1, by omega, less_step hno.out (by rw [ha]; rfl), by go_num⟩
        case measure => simp [intOf]; omega
      · cases hb : has b k
        · have hf := Lib.hid (less_some a b k hlt ha hb)
          go_wp2_with (go_at_call 33; refine (Has_calls _ _ (by omega) _).mono ?_; rintro e w' ⟨rfl, rfl⟩)
          go_ret
          exact ⟨by rw [hf.out]; rfl, rfl⟩
        · go_wp2_with (go_at_call 33; refine (Has_calls _ _ (by omega) _).mono ?_; rintro e w' ⟨rfl, rfl⟩)
          go_round
          case rel => exact ⟨k + 1, by omega, less_step hno.out (by rw [hb]; simp), by go_num⟩
          case measure => simp [intOf]; omega
    · obtain rfl : k = 16 := by omega
      have hf := Lib.hid (less_none a b hno.out)
      go_wp2
      go_ret
      exact ⟨by rw [hf.out]; rfl, rfl⟩
end Go.Proofs.Ytdamljjbeaomoaa
