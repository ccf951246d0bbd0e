/- The walk of the law GraphOrder. -/
import Derived.Test.YtdamljjbeaomoaaDoorGrU
import Derived.Test.YtdamljjbeaomoaaDoorInv
import Derived.Test.YtdamljjbeaomoaaDoorGrS
import Derived.Test.YtdamljjbeaomoaaDoorEqArr
import Derived.WalkLawsBesides
namespace Go.Proofs.YtdamljjbeaomoaaDoor
set_option linter.unusedSimpArgs false
set_option linter.unusedVariables false
open Go.RowKit
open _root_.Go.Proofs.YtdamljjbeaomoaaDoor.Own
attribute [local go_sem] b16_and b16_or b16_andNot b16_zero
theorem dn_dn (g : Nat → BitVec 16) (W s : BitVec 16) : dn g W (dn g W s) = dn g W s := by
  refine has_ext' fun i => ?_
  rw [dn_iff, dn_iff]
  constructor
  · rintro ⟨q, h1, h2⟩
    obtain ⟨r, h3, h4⟩ := (dn_iff s q).1 h1
    exact ⟨r, h3, h4.trans h2⟩
  · rintro ⟨q, h1, h2⟩
    exact ⟨i, (dn_iff s i).2 ⟨q, h1, h2⟩, .refl _ h2.wr⟩
theorem dn_within (g : Nat → BitVec 16) (W s : BitVec 16) : (dn g W s &&& ~~~W == 0#16) = true := less_zero _ _ fun j _ h => by
  obtain ⟨q, _, h2⟩ := (dn_iff s j).1 h
  exact h2.wr
theorem dn_some (g : Nat → BitVec 16) (W s : BitVec 16) : ((s &&& W) &&& ~~~dn g W s == 0#16) = true := less_zero _ _ fun j _ h => by
  rw [has_and, Bool.and_eq_true] at h
  exact (dn_iff s j).2 ⟨j, h.1, .refl _ h.2⟩
theorem bit_zero (x : BitVec 16) (k : Nat) (hk : k < 16) : (x &&& bit k == 0#16) = !has x k := by
  cases h : has x k with
  | true =>
    rw [Bool.not_true, beq_eq_false_iff_ne]
    intro e
    have h3 : has (x &&& bit k) k = true := by rw [has_and, h, has_bit k k hk]; simp
    rw [e, has_zero] at h3
    cases h3
  | false =>
    rw [Bool.not_false, beq_iff_eq]
    refine has_ext fun i hi => ?_
    rw [has_zero, has_and, has_bit k i hk]
    by_cases e : i = k
    · subst e; rw [h]; rfl
    · simp [e]
set_option maxHeartbeats 2000000 in
theorem order_walk (f : Nat → BitVec 16) (s W : BitVec 16) (w : World) (hT : Table w) (hw1 : 1 ≤ w.heap.size) :
    Calls Tryd.prog 5 #[.agg ⟨gC f⟩, .int .u16 (nH s), .int .u16 (nH W)] w fun e w' => e = .returned (.bool true) ∧ Below w.heap.size w w' := by
  go_enter Tryd.func5, Tryd.ntmps5
  have H0 := (At.refl w).alloc (gC f) 23
  go_wp2_with fail
  refine region_at (by kernel_rfl) (by kernel_rfl) (by repeat (first | with_reducible exact H0 | apply At.drewN | apply At.drew | apply At.alloc)) (fun J hJ1 hJ2 => ?_)
  have K := fun w1 h1 => (hJ1 w1 h1).rules
  simp only [List.forall_mem_cons, World.size_alloc] at K
  repeat (first | (apply inv_yes; (· go_simp); (· intro w1 h1; have K1 := K w1 h1; go_simp; exact ⟨rfl, h1⟩); (· go_simp; rfl)) | (apply inv_no; (· go_simp); (· go_simp; rfl)) | (apply inv_load_row ?_ 23 _ rfl _ rfl 23 _ (0, 0) _ (fun w1 h1 => (hJ1 w1 h1).row 0 rfl) Tryd.underlying23 rfl gC_size; (· go_simp; rfl); rotate_left; (· go_simp)))
  apply inv_yes
  · go_simp
  · intro w1 h1; have K1 := K w1 h1; go_simp; exact callI hJ1 hJ2 (Down_calls f s W _ (hT.below ((hJ1 _ h1).below.mono hw1)) (Nat.le_trans hw1 (hJ1 _ h1).below.size)) h1
  · go_simp; rfl
  repeat (first | (apply inv_yes; (· go_simp); (· intro w1 h1; have K1 := K w1 h1; go_simp; exact ⟨rfl, h1⟩); (· go_simp; rfl)) | (apply inv_no; (· go_simp); (· go_simp; rfl)) | (apply inv_load_row ?_ 23 _ rfl _ rfl 23 _ (0, 0) _ (fun w1 h1 => (hJ1 w1 h1).row 0 rfl) Tryd.underlying23 rfl gC_size; (· go_simp; rfl); rotate_left; (· go_simp)))
  apply inv_yes
  · go_simp
  · intro w1 h1; have K1 := K w1 h1; go_simp; exact callI hJ1 hJ2 (Up_calls f s W _ (hT.below ((hJ1 _ h1).below.mono hw1)) (Nat.le_trans hw1 (hJ1 _ h1).below.size)) h1
  · go_simp; rfl
  repeat (first | (apply inv_yes; (· go_simp); (· intro w1 h1; have K1 := K w1 h1; go_simp; exact ⟨rfl, h1⟩); (· go_simp; rfl)) | (apply inv_no; (· go_simp); (· go_simp; rfl)) | (apply inv_load_row ?_ 23 _ rfl _ rfl 23 _ (0, 0) _ (fun w1 h1 => (hJ1 w1 h1).row 0 rfl) Tryd.underlying23 rfl gC_size; (· go_simp; rfl); rotate_left; (· go_simp)))
  refine wpInv_nil (fun wx hx => ?_)
  have H1 := hJ1 wx hx
  clear K hJ1 hJ2 hx
  have HD := Lib.hid (dn_dn f W s)
  have HU := Lib.hid (dn_dn (tn f) W s)
  have f1 : (nH (dn f W s &&& ~~~W) != 0) = false := by show (!(nH _ == 0)) = false; rw [b16_zero, dn_within]; rfl
  have f2 : (nH ((s &&& W) &&& ~~~dn f W s) != 0) = false := by show (!(nH _ == 0)) = false; rw [b16_zero, dn_some]; rfl
  clear H0
  go_wp2_with (refine wpList_load_rowG ?_ 23 _ rfl _ rfl 23 _ (0, 0) _ (H1.row 0 rfl) Tryd.underlying23 rfl gC_size ?_; (· go_simp))
  refine callAt (R := fun e => e = .returned (.int .u16 (nH (dn f W (dn f W s))))) (Down_calls f (dn f W s) W _ (hT.below (H1.below.mono hw1)) (Nat.le_trans hw1 H1.below.size)) H1 ?_
  rintro e w2 rfl H2
  rw [HD.out]
  clear H1 HD
  go_wp2_with (refine wpList_load_rowG ?_ 23 _ rfl _ rfl 23 _ (0, 0) _ (H2.row 0 rfl) Tryd.underlying23 rfl gC_size ?_; (· go_simp))
  refine callAt (R := fun e => e = .returned (.int .u16 (nH (up f W (up f W s))))) (Up_calls f (up f W s) W _ (hT.below (H2.below.mono hw1)) (Nat.le_trans hw1 H2.below.size)) H2 ?_
  rintro e w3 rfl H3
  rw [show up f W (up f W s) = up f W s from HU.out]
  clear H2 HU
  go_wp2_with fail
  go_loopw [9, 10] (fun i _ wr => ∃ k : Nat, k ≤ 16 ∧ i = .int .i64 k ∧ At w [(w.heap.size, gC f, 23)] wr) (fun i _ _ => 16 - (intOf i).toNat)
  case atStart => exact ⟨0, Nat.zero_le _, rfl, H3⟩
  case round =>
    clear H3
    obtain ⟨k, hk, rfl, H⟩ := hrel
    by_cases hlt : k < 16
    · have hb := up_bit (g := f) (W := W) s k hlt
      have hc := bit_zero (up f W s) k hlt
      have hwr : IntKind.u16.wrap (2 ^ k) = nH (bit k) := by
        rw [IntKind.wrap_u16, nH_bit k hlt]
        have : (2 : Nat) ^ k < 65536 := Nat.pow_lt_pow_right (by decide : 1 < 2) hlt
        have e : ((2 : Int) ^ k) = ((2 ^ k : Nat) : Int) := by simp
        rw [e]
        exact Int.emod_eq_of_lt (Int.natCast_nonneg _) (Int.ofNat_lt.2 this)
      cases h : has (up f W s) k
      all_goals
        rw [h] at hb hc
        simp only [Bool.not_true, Bool.not_false] at hb hc
        have hb' : (nH (dn f W (bit k) &&& s) != 0) = !(nH (dn f W (bit k) &&& s) == 0) := rfl
        rw [b16_zero, hb] at hb'
        have hc' : (nH (up f W s &&& bit k) != 0) = !(nH (up f W s &&& bit k) == 0) := rfl
        rw [b16_zero, hc] at hc'
        simp only [Bool.not_true, Bool.not_false] at hb' hc'
        clear hb hc h
        go_wp2_with (refine wpList_load_rowG ?_ 23 _ rfl _ rfl 23 _ (0, 0) _ (H.row 0 rfl) Tryd.underlying23 rfl gC_size ?_; (· go_simp))
        refine callAt (R := fun e => e = .returned (.int .u16 (nH (dn f W (bit k))))) (Down_calls f (bit k) W _ (hT.below (H.below.mono hw1)) (Nat.le_trans hw1 H.below.size)) H ?_
        clear H
        rintro e w4 rfl H
        go_wp2_with fail
        go_roundw
        case rel => exact ⟨k + 1, by omega, by go_num, H⟩
        case measure => simp [intOf]; omega
    · obtain rfl : k = 16 := by omega
      go_wp2_with fail
      refine callAt (R := fun e => e = .returned (.bool true)) (alive11 _ (hT.below (H.below.mono hw1)) (Nat.le_trans hw1 H.below.size)) H ?_
      rintro e w4 rfl H4
      go_wp2_with fail
      go_ret
      exact ⟨rfl, H4.below⟩
end Go.Proofs.YtdamljjbeaomoaaDoor
