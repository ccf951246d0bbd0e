/- Small functions below the graph: tagset.Has, bits.TrailingZeros16. -/
import Derived.Test.YtdamljjbeaomoaaDoorEachP
import Derived.Test.YtdamljjbeaomoaaDoorR01
import Derived.WalkKit
namespace Go.Proofs.YtdamljjbeaomoaaDoor
set_option linter.unusedSimpArgs false
set_option linter.unusedVariables false
open Go.RowKit Own
/-- De Bruijn's table, as it is laid. -/
def dbT : List Int := [0, 1, 28, 2, 29, 14, 24, 3, 30, 22, 20, 15, 25, 17, 4, 8, 31, 27, 13, 23, 21, 19, 16, 7, 26, 12, 18, 6, 11, 5, 10, 9]
theorem nH_bit (t : Nat) (h : t < 16) : nH (bit t) = ((2 ^ t : Nat) : Int) := by
  unfold nH bit
  rw [BitVec.toNat_twoPow, Nat.mod_eq_of_lt (Nat.pow_lt_pow_right (by decide) h)]
theorem nH_neg (x : BitVec 16) : IntKind.u16.wrap (0 - nH x) = nH (0#16 - x) := by
  rw [IntKind.wrap_u16]
  have := x.isLt
  unfold nH
  rw [BitVec.toNat_sub]
  simp
  omega
set_option maxHeartbeats 1000000 in
theorem TZ_calls (x : BitVec 16) (t : Nat) (ht : Least x t) (w : World) (hT : ∀ i : Nat, i < 32 → w.cell? ⟨0, i, none⟩ = some (.int .u8 (dbT.getD i 0))) :
    Calls Tryd.prog 24 #[.int .u16 (nH x)] w fun e w' => e = .returned (.int .i64 t) ∧ w = w' := by
  have h0 : (nH x == 0) = false := by
    rw [b16_zero, beq_eq_false_iff_ne]
    rintro rfl
    have := ht.is
    simp at this
  have hb : bits .and .u16 (nH x) (IntKind.u16.wrap (-nH x)) = ((2 ^ t : Nat) : Int) := by
    rw [show -nH x = 0 - nH x by omega, nH_neg, b16_and, ht.one, nH_bit t ht.lt]
  have hlt := ht.lt
  clear ht
  obtain rfl | rfl | rfl | rfl | rfl | rfl | rfl | rfl | rfl | rfl | rfl | rfl | rfl | rfl | rfl | rfl : t = 0 ∨ t = 1 ∨ t = 2 ∨ t = 3 ∨ t = 4 ∨ t = 5 ∨ t = 6 ∨ t = 7 ∨ t = 8 ∨ t = 9 ∨ t = 10 ∨ t = 11 ∨ t = 12 ∨ t = 13 ∨ t = 14 ∨ t = 15 := by omega
  all_goals
    simp at hb
    go_enter Tryd.func24, Tryd.ntmps24
    go_wp2
    go_ret
    exact ⟨by show Ending.returned (.int .i64 (wrap64 _)) = _; simp [dbT, wrap64], rfl⟩
theorem has_walk (s : BitVec 16) (t : Nat) : (bits .and .u16 (nH s / 2 ^ t) 1 == 1) = has s t := by
  have h1 : nH s / (2 : Int) ^ t = ((s.toNat / 2 ^ t : Nat) : Int) := by unfold nH; simp
  have hs : s.toNat / 2 ^ t < 65536 := Nat.lt_of_le_of_lt (Nat.div_le_self _ _) s.isLt
  have h2 := u16_and_nat (s.toNat / 2 ^ t) 1 hs (by decide)
  rw [h1, show (1 : Int) = ((1 : Nat) : Int) from rfl, h2, Nat.and_one_is_mod]
  have e : has s t = s.toNat.testBit t := rfl
  rw [e, Nat.testBit_eq_decide_div_mod_eq]
  by_cases h : s.toNat / 2 ^ t % 2 = 1
  · rw [h]; rfl
  · have h0 : s.toNat / 2 ^ t % 2 = 0 := by omega
    rw [h0]; rfl
set_option maxHeartbeats 400000 in
theorem THas_calls (s : BitVec 16) (t : Nat) (ht : t < 16) (w : World) :
    Calls Tryd.prog 17 #[.int .u16 (nH s), .int .i64 t] w fun e w' => e = .returned (.bool (has s t)) ∧ w = w' := by
  go_enter Tryd.func17, Tryd.ntmps17
  go_wp2
  go_ret
  exact ⟨by show Ending.returned (.bool (bits .and .u16 (nH s / 2 ^ t) 1 == 1)) = _; rw [has_walk], rfl⟩
end Go.Proofs.YtdamljjbeaomoaaDoor
