/- What is used, for a label to flow into another one: the walks of caps.union and caps.Used. -/
import Derived.Test.YtohdldlagkmcnaaDoorR01
namespace Go.Proofs.YtohdldlagkmcnaaDoor
set_option linter.unusedSimpArgs false
set_option linter.unusedVariables false
open Go.RowKit Own
attribute [local go_sem] b16_and b16_or b16_andNot
/-- What the first k of two sets have. -/
def orTwo (x y : BitVec 16) : Nat → BitVec 16
  | 0 => 0#16
  | 1 => x
  | _ => x ||| y
set_option maxHeartbeats 400000 in
theorem union_two (b : Nat) (x y : BitVec 16) (w : World) (h0 : w.cell? ⟨b, 0, none⟩ = some (.int .u16 (nH x))) (h1 : w.cell? ⟨b, 1, none⟩ = some (.int .u16 (nH y))) :
    Calls Tryd.prog 35 #[.slice (some ⟨b, 0, none⟩) 2 2] w fun e w' => e = .returned (.int .u16 (nH (x ||| y))) ∧ w = w' := by
  have HZ := Lib.hid (show (0 : Int) = nH (orTwo x y 0) from rfl)
  have H1 := Lib.hid (show (0#16 ||| x) = orTwo x y 1 from BitVec.zero_or)
  have H2 := Lib.hid (show (orTwo x y 1 ||| y) = orTwo x y 2 from rfl)
  have H3 := Lib.hid (show (orTwo x y 0 ||| x) = orTwo x y 1 from BitVec.zero_or)
  go_enter Tryd.func35, Tryd.ntmps35
  go_wp2
  go_loop [3, 5, 8] (fun o _ i => ∃ k : Nat, k ≤ 2 ∧ o = .int .u16 (nH (orTwo x y k)) ∧ i = .int .i64 k) (fun _ _ i => 2 - (intOf i).toNat)
  case atStart => exact ⟨0, Nat.zero_le _, by rw [HZ.out], rfl⟩
  case round =>
    obtain ⟨k, hk, rfl, rfl⟩ := hrel
    by_cases e0 : k = 0
    · subst e0
      go_wp2
      go_round
      case rel => exact ⟨1, by omega, by rw [H3.out], rfl⟩
      case measure => simp [intOf]
    · by_cases e1 : k = 1
      · subst e1
        go_wp2
        go_round
        case rel => exact ⟨2, by omega, by rw [H2.out], rfl⟩
        case measure => simp [intOf]
      · obtain rfl : k = 2 := by omega
        go_wp2
        go_ret
        exact ⟨rfl, rfl⟩
set_option maxHeartbeats 400000 in
theorem Used_calls (aS aI bS bI : BitVec 16) (w : World) :
    Calls Tryd.prog 17 #[.agg #[.int .u16 (nH aS), .int .u16 (nH aI)], .agg #[.int .u16 (nH bS), .int .u16 (nH bI)]] w fun e w' =>
      e = .returned (.int .u16 (nH ((aS &&& ~~~bS) ||| (bI &&& ~~~aI)))) ∧ Below w.heap.size w w' := by
  go_enter Tryd.func17, Tryd.ntmps17
  go_wp2_with fail
  refine (union_two _ (aS &&& ~~~bS) (bI &&& ~~~aI) _ (by go_simp) (by go_simp)).mono ?_
  rintro e w' ⟨rfl, rfl⟩
  go_wp2_with fail
  go_ret
  exact ⟨rfl, by repeat (first | exact Below.refl _ _ | refine Below.alloc ?_ (by (try simp only [World.size_alloc]); omega) _)⟩
end Go.Proofs.YtohdldlagkmcnaaDoor
