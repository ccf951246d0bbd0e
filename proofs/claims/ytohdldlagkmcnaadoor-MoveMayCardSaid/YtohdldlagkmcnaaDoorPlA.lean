/- Layer 12: a policy as cells; sets made of a test; tagset.Has and the reference's Has at any number; tagset.Of of one. -/
import Derived.Test.YtohdldlagkmcnaaDoorGrA
import Derived.Test.YtohdldlagkmcnaaDoorGrR
import Derived.Test.YtohdldlagkmcnaaDoorCapsB
import Derived.Test.YtohdldlagkmcnaaDoorCapsC
import Derived.Test.YtohdldlagkmcnaaDoorMemIn
namespace Go.Proofs.YtohdldlagkmcnaaDoor.Pl
set_option linter.unusedSimpArgs false
set_option linter.unusedVariables false
open Go.RowKit
open _root_.Go.Proofs.YtohdldlagkmcnaaDoor.Own
attribute [local go_sem] b16_and b16_or b16_andNot
/-- A policy: labels by twos (secrecy, integrity). -/
structure Pol where
  live : BitVec 16
  lab : Nat → BitVec 16
  acts : Nat → BitVec 16
  own : Nat → UInt8
  act : BitVec 16
def polV (P : Pol) (i : Nat) : Value :=
  if i = 0 then .int .u16 (nH P.live) else if i < 33 then .int .u16 (nH (P.lab (i - 1))) else if i < 49 then .int .u16 (nH (P.acts (i - 33))) else if i < 65 then .int .u8 (nB (P.own (i - 49))) else .int .u16 (nH P.act)
def polC (P : Pol) : List Value := (List.range 66).map (polV P)
theorem polC_length (P : Pol) : (polC P).length = 66 := by simp [polC]
theorem polC_get (P : Pol) (i : Nat) (hi : i < 66) : (polC P)[i]? = some (polV P i) := by simp [polC, hi]
theorem polC_live (P : Pol) : (polC P)[0]? = some (.int .u16 (nH P.live)) := polC_get P 0 (by decide)
theorem polC_act (P : Pol) : (polC P)[65]? = some (.int .u16 (nH P.act)) := polC_get P 65 (by decide)
theorem polC_lab (P : Pol) (i : Nat) (hi : i < 32) : (polC P)[1 + i]? = some (.int .u16 (nH (P.lab i))) := by
  rw [polC_get P _ (by omega)]; unfold polV; rw [if_neg (by omega), if_pos (by omega), show 1 + i - 1 = i by omega]
theorem polC_lab2 (P : Pol) (i : Nat) (hi : i < 16) : (polC P)[1 + i * 2]? = some (.int .u16 (nH (P.lab (2 * i)))) ∧ (polC P)[1 + i * 2 + 1]? = some (.int .u16 (nH (P.lab (2 * i + 1)))) := by
  have h1 := polC_lab P (2 * i) (by omega)
  have h2 := polC_lab P (2 * i + 1) (by omega)
  rw [show 1 + 2 * i = 1 + i * 2 by omega] at h1
  rw [show 1 + (2 * i + 1) = 1 + i * 2 + 1 by omega] at h2
  exact ⟨h1, h2⟩
theorem polC_acts (P : Pol) (i : Nat) (hi : i < 16) : (polC P)[33 + i]? = some (.int .u16 (nH (P.acts i))) := by
  rw [polC_get P _ (by omega)]; unfold polV; rw [if_neg (by omega), if_neg (by omega), if_pos (by omega), show 33 + i - 33 = i by omega]
theorem polC_own (P : Pol) (i : Nat) (hi : i < 16) : (polC P)[49 + i]? = some (.int .u8 (nB (P.own i))) := by
  rw [polC_get P _ (by omega)]; unfold polV; rw [if_neg (by omega), if_neg (by omega), if_neg (by omega), if_pos (by omega), show 49 + i - 49 = i by omega]
theorem polC_one {P : Pol} : (Array.mk (polC P)).all (·.oneCell') = true := by
  rw [Array.all_eq_true]
  intro i hi
  simp only [polC, List.getElem_toArray, List.getElem_map]
  unfold polV
  repeat (split; rfl)
  rfl
theorem polC_size {P : Pol} : (Tryd.prog.info? 29).map (·.size) = some (Array.mk (polC P)).size := by
  have h : (Array.mk (polC P)).size = 66 := polC_length P
  have h2 : (Tryd.prog.info? 29).map (·.size) = some 66 := by kernel_rfl
  rw [h2, h]
theorem polC_old {P Q : Pol} : (Array.mk (polC P)).size = (Array.mk (polC Q)).size := (polC_length P).trans (polC_length Q).symm
/-- A set from a test. -/
def mk16 (f : Nat → Bool) : Nat → BitVec 16
  | 0 => 0#16
  | k + 1 => if f k = true then mk16 f k ||| bit k else mk16 f k
theorem mk16_yes {f : Nat → Bool} {k : Nat} (h : f k = true) : mk16 f (k + 1) = mk16 f k ||| bit k := by rw [mk16, if_pos h]
theorem mk16_no {f : Nat → Bool} {k : Nat} (h : f k = false) : mk16 f (k + 1) = mk16 f k := by rw [mk16, if_neg (by rw [h]; decide)]
theorem mk16_has (f : Nat → Bool) : ∀ k, k ≤ 16 → ∀ i, has (mk16 f k) i = (decide (i < k) && f i)
  | 0, _, i => by simp [mk16, has]
  | k + 1, hk, i => by
    have ih := mk16_has f k (by omega) i
    have hb : has (bit k) i = decide (i = k) := bit_has k i (by omega)
    cases h : f k with
    | true =>
      rw [mk16_yes h, has_or, ih, hb]
      by_cases e : i = k
      · subst e; simp [h]
      · have : decide (i < k + 1) = decide (i < k) := by simp; omega
        simp [e, this]
    | false =>
      rw [mk16_no h, ih]
      by_cases e : i = k
      · subst e; simp [h]
      · have : decide (i < k + 1) = decide (i < k) := by simp; omega
        simp [this]
theorem mk16_before (f : Nat → Bool) (k : Nat) (hk : k < 16) : has (mk16 f k) k = false := by rw [mk16_has f k (by omega)]; simp
theorem has_hi (s : BitVec 16) (t : Nat) (h : 16 ≤ t) : has s t = false := by unfold has; exact BitVec.getLsbD_of_ge s t h
theorem nH_shl (m : Nat) (hlt : m < 16) : IntKind.u16.wrap (2 ^ m) = nH (bit m) := by
  rw [IntKind.wrap_u16, nH_bit m hlt]
  have : (2 : Nat) ^ m < 65536 := Nat.pow_lt_pow_right (by decide : 1 < 2) hlt
  have e : ((2 : Int) ^ m) = ((2 ^ m : Nat) : Int) := by simp
  rw [e]
  exact Int.emod_eq_of_lt (Int.natCast_nonneg _) (Int.ofNat_lt.2 this)
set_option maxHeartbeats 400000 in
theorem THasAny_calls (s : BitVec 16) (t : Nat) (w : World) :
    Calls Tryd.prog 37 #[.int .u16 (nH s), .int .i64 t] w fun e w' => e = .returned (.bool (has s t)) ∧ w = w' := by
  by_cases ht : t < 16
  · exact THas_calls s t ht w
  · have d1 : decide ((t : Int) < 16) = false := by rw [decide_eq_false_iff_not]; omega
    have d2 : decide ((t : Int) ≥ 0) = true := by rw [decide_eq_true_eq]; omega
    have d3 : decide (t < 16) = false := by rw [decide_eq_false_iff_not]; omega
    rw [has_hi s t (by omega)]
    clear ht
    go_enter Tryd.func37, Tryd.ntmps37
    go_wp2_with fail
    go_ret
    exact ⟨rfl, rfl⟩
set_option maxHeartbeats 400000 in
theorem RHasAny_calls (s : BitVec 16) (t : Nat) (w : World) :
    Calls Tryd.prog 19 #[.int .u16 (nH s), .int .i64 t] w fun e w' => e = .returned (.bool (has s t)) ∧ w = w' := by
  by_cases ht : t < 16
  · exact Has_calls s t ht w
  · have d1 : decide ((t : Int) > 15) = true := by rw [decide_eq_true_eq]; omega
    have d2 : decide ((t : Int) < 0) = false := by rw [decide_eq_false_iff_not]; omega
    have d3 : decide (15 < t) = true := by rw [decide_eq_true_eq]; omega
    rw [has_hi s t (by omega)]
    clear ht
    go_enter Tryd.func19, Tryd.ntmps19
    go_wp2_with fail
    go_ret
    exact ⟨rfl, rfl⟩
/-- The set of one number. -/
def bitI (r : Int) : BitVec 16 := if 0 ≤ r ∧ r < 16 then bit r.toNat else 0#16
set_option maxHeartbeats 1000000 in
theorem Of_calls (b : Nat) (r : Int) (w : World) (h0 : w.cell? ⟨b, 0, none⟩ = some (.int .i64 r)) :
    Calls Tryd.prog 39 #[.slice (some ⟨b, 0, none⟩) 1 1] w fun e w' => e = .returned (.int .u16 (nH (bitI r))) ∧ w = w' := by
  unfold bitI
  by_cases c1 : 0 ≤ r
  · by_cases c2 : r < 16
    · rw [if_pos ⟨c1, c2⟩]
      obtain ⟨n, rfl⟩ : ∃ n : Nat, r = n := ⟨r.toNat, by omega⟩
      rw [show ((n : Int)).toNat = n by omega]
      have d1 : decide ((n : Int) ≥ 0) = true := by rw [decide_eq_true_eq]; omega
      have d2 : decide ((n : Int) < 16) = true := by rw [decide_eq_true_eq]; omega
      have d3 : decide (n < 16) = true := by rw [decide_eq_true_eq]; omega
      have hs := nH_shl n (by omega)
      have ho : bits .or .u16 0 (nH (bit n)) = nH (bit n) := by have := b16_or 0#16 (bit n); rw [BitVec.zero_or] at this; exact this
      go_enter Tryd.func39, Tryd.ntmps39
      go_wp2_with fail
      go_loop [3, 8] (fun o i => ∃ k : Nat, k ≤ 1 ∧ o = .int .u16 (if k = 0 then 0 else nH (bit n)) ∧ i = .int .i64 k) (fun _ i => 1 - (intOf i).toNat)
      case atStart => exact ⟨0, by decide, rfl, rfl⟩
      case round =>
        obtain ⟨k, hk, rfl, rfl⟩ := hrel
        by_cases e0 : k = 0
        · subst e0
          go_wp2_with fail
          go_round
          case rel => exact ⟨1, by decide, by first | rfl | (rw [if_neg (by decide)]), rfl⟩
          case measure => simp [intOf]
        · obtain rfl : k = 1 := by omega
          go_wp2_with fail
          go_ret
          exact ⟨rfl, rfl⟩
    · rw [if_neg (by omega)]
      have d1 : decide (r ≥ 0) = true := by rw [decide_eq_true_eq]; omega
      have d2 : decide (r < 16) = false := by rw [decide_eq_false_iff_not]; omega
      go_enter Tryd.func39, Tryd.ntmps39
      go_wp2_with fail
      go_loop [3, 8] (fun o i => ∃ k : Nat, k ≤ 1 ∧ o = .int .u16 0 ∧ i = .int .i64 k) (fun _ i => 1 - (intOf i).toNat)
      case atStart => exact ⟨0, by decide, rfl, rfl⟩
      case round =>
        obtain ⟨k, hk, rfl, rfl⟩ := hrel
        by_cases e0 : k = 0
        · subst e0
          go_wp2_with fail
          go_round
          case rel => exact ⟨1, by decide, rfl, rfl⟩
          case measure => simp [intOf]
        · obtain rfl : k = 1 := by omega
          go_wp2_with fail
          go_ret
          exact ⟨rfl, rfl⟩
  · rw [if_neg (by omega)]
    have d1 : decide (r ≥ 0) = false := by rw [decide_eq_false_iff_not]; omega
    go_enter Tryd.func39, Tryd.ntmps39
    go_wp2_with fail
    go_loop [3, 8] (fun o i => ∃ k : Nat, k ≤ 1 ∧ o = .int .u16 0 ∧ i = .int .i64 k) (fun _ i => 1 - (intOf i).toNat)
    case atStart => exact ⟨0, by decide, rfl, rfl⟩
    case round =>
      obtain ⟨k, hk, rfl, rfl⟩ := hrel
      by_cases e0 : k = 0
      · subst e0
        go_wp2_with fail
        go_round
        case rel => exact ⟨1, by decide, rfl, rfl⟩
        case measure => simp [intOf]
      · obtain rfl : k = 1 := by omega
        go_wp2_with fail
        go_ret
        exact ⟨rfl, rfl⟩
end Go.Proofs.YtohdldlagkmcnaaDoor.Pl
