/- The walk of the reference of layer 6: Sum. -/
import Derived.Test.YtmlgkahadgpaiaaCrcQ
import Derived.Test.YtmlgkahadgpaiaaCrcE
namespace Go.Proofs.Ytmlgkahadgpaiaa
set_option linter.unusedSimpArgs false
set_option linter.unusedVariables false
open Go.RowKit Own
attribute [local go_sem] b32_xor b32_half nB_half b32_poly nW_mod nW_tdiv nW_tmod nB_mod nB_tdiv nB_tmod
set_option maxRecDepth 10000 in
set_option maxHeartbeats 400000 in
theorem RSum_calls (A : Option Addr) (c n : Nat) (xs : List UInt8) (hn : n = xs.length) (hl : n ≤ 1000000) (w : World) (hR : Rd w A (bys xs)) :
    Calls Try.prog 65 #[.slice A n c] w fun e w' => e = .returned (.int .u32 (nW (crc xs))) ∧ w = w' := by
  subst hn
  have HR := Lib.hid hR
  clear hR
  have hi : (4294967295 : Int) = nW (reg ini (xs.take 0)) := rfl
  have HI := Lib.hid hi
  clear hi
  go_enter Try.func65, Try.ntmps65
  go_wp2
  go_loop [3, 4] (fun r i => ∃ k : Nat, k ≤ xs.length ∧ r = .int .u32 (nW (reg ini (xs.take k))) ∧ i = .int .i64 k) (fun _ i => xs.length - (intOf i).toNat)
  case atStart => exact ⟨0, Nat.zero_le _, by rw [← HI.out], rfl⟩
  case round =>
    obtain ⟨k, hk, rfl, rfl⟩ := hrel
    by_cases hlt : k < xs.length
    · obtain ⟨a, rfl, hc⟩ := HR.out.byte hlt
      have E := Lib.hid ((reg_take ini xs k hlt).trans (rf_upd _ _).symm)
      go_wp2
      go_loop [3, 5, 6] (fun r c i => ∃ m : Nat, m ≤ 8 ∧ r = .int .u32 (nW (rfR (reg ini (xs.take k)) xs[k] m)) ∧ c = .int .u8 (nB (rfC xs[k] m)) ∧ i = .int .i64 m) (fun _ _ i => 8 - (intOf i).toNat)
      case atStart => exact ⟨0, Nat.zero_le _, rfl, rfl, rfl⟩
      case round =>
        obtain ⟨m, hm, rfl, rfl, rfl⟩ := hrel
        by_cases hlt2 : m < 8
        · cases h1 : odd (rfR (reg ini (xs.take k)) xs[k] m) <;> cases h2 : oddB (rfC xs[k] m)
          all_goals
            have t1 := (oddW_walk (rfR (reg ini (xs.take k)) xs[k] m)).trans h1
            have t2 := (oddB_walk (rfC xs[k] m)).trans h2
            go_wp2
            go_round
            case rel =>
              refine ⟨m + 1, by omega, ?_, ?_, by go_num⟩
              · first | rw [rfR_yes (by rw [h1, h2]; rfl)] | rw [rfR_no (by rw [h1, h2]; rfl), nW_mod]
              · rw [nB_mod]; rfl
            case measure => simp [intOf]; omega
        · obtain rfl : m = 8 := by omega
          go_wp2
          go_round
          case rel => exact ⟨k + 1, by omega, by rw [E.out], by go_num⟩
          case measure => simp [intOf]; omega
    · obtain rfl : k = xs.length := by omega
      rw [List.take_length]
      go_wp2
      go_ret
      exact ⟨by show Ending.returned (.int .u32 ((4294967295 - nW (reg ini xs)) % 4294967296)) = _; rw [nW_sub]; rfl, rfl⟩
end Go.Proofs.Ytmlgkahadgpaiaa
