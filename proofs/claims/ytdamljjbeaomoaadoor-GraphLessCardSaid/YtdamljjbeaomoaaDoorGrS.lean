/- The walks of the reference of layer 11: Up, Turn, Cut. -/
import Derived.Test.YtdamljjbeaomoaaDoorGrR
import Derived.Test.YtdamljjbeaomoaaDoorMemIn
namespace Go.Proofs.YtdamljjbeaomoaaDoor
set_option linter.unusedSimpArgs false
set_option linter.unusedVariables false
open Go.RowKit
open _root_.Go.Proofs.YtdamljjbeaomoaaDoor.Own
attribute [local go_sem] b16_zero
theorem With0_calls (t : Nat) (ht : t < 16) (w : World) : Calls Tryd.prog 22 #[.int .u16 0, .int .i64 t] w fun e w' => e = .returned (.int .u16 (nH (bit t))) ∧ w = w' := by
  have h := With_calls 0#16 t ht w
  rw [BitVec.zero_or] at h
  exact h
set_option maxHeartbeats 2000000 in
theorem RUp_calls (f : Nat → BitVec 16) (to W : BitVec 16) (w : World) :
    Calls Tryd.prog 10 #[.agg ⟨gC f⟩, .int .u16 (nH to), .int .u16 (nH W)] w fun e w' => e = .returned (.int .u16 (nH (up f W to))) ∧ Below w.heap.size w w' := by
  go_enter Tryd.func10, Tryd.ntmps10
  go_wp2
  have H0 := (At.refl w).alloc (gC f) 23
  go_loopw [7, 8] (fun o i wr => ∃ k : Nat, k ≤ 16 ∧ o = .int .u16 (nH (upto (up f W to) k)) ∧ i = .int .i64 k ∧ At w [(w.heap.size, gC f, 23)] wr) (fun _ i _ => 16 - (intOf i).toNat)
  case atStart => exact ⟨0, Nat.zero_le _, rfl, rfl, H0⟩
  case round =>
    clear H0
    obtain ⟨k, hk, rfl, rfl, H0⟩ := hrel
    by_cases hlt : k < 16
    · have hb := up_bit (g := f) (W := W) to k hlt
      cases h : has (up f W to) k
      all_goals
        rw [h] at hb
        simp only [Bool.not_true, Bool.not_false] at hb
        have hb' : (nH (dn f W (bit k) &&& to) != 0) = !(nH (dn f W (bit k) &&& to) == 0) := rfl
        rw [b16_zero, hb] at hb'
        simp only [Bool.not_true, Bool.not_false] at hb'
        have HB := Lib.hid hb'
        clear hb hb'
        go_wp2_with fail
        refine region_at (by kernel_rfl) (by kernel_rfl) (by repeat (first | with_reducible exact H0 | apply At.drewN | apply At.drew | apply At.alloc)) (fun J hJ1 hJ2 => ?_)
        have K := fun w1 h1 => (hJ1 w1 h1).rules
        simp only [List.forall_mem_cons, World.size_alloc] at K
        (apply inv_load_row ?_ 23 _ rfl _ rfl 23 _ (0, 0) _ (fun w1 h1 => (hJ1 w1 h1).row 0 rfl) Tryd.underlying23 rfl gC_size; (· go_simp; rfl); rotate_left; (· go_simp))
        repeat (first | (apply inv_yes; (· go_simp); (· intro w1 h1; have K1 := K w1 h1; go_simp; exact ⟨rfl, h1⟩); (· go_simp; rfl)) | (apply inv_no; (· go_simp); (· go_simp; rfl)))
        apply inv_yes
        · go_simp
        · intro w1 h1; have K1 := K w1 h1; go_simp; exact callI_same (With0_calls k hlt _) h1
        · go_simp; rfl
        repeat (first | (apply inv_yes; (· go_simp); (· intro w1 h1; have K1 := K w1 h1; go_simp; exact ⟨rfl, h1⟩); (· go_simp; rfl)) | (apply inv_no; (· go_simp); (· go_simp; rfl)))
        apply inv_yes
        · go_simp
        · intro w1 h1; have K1 := K w1 h1; go_simp; exact callI hJ1 hJ2 (RDown_calls f (bit k) W _) h1
        · go_simp; rfl
        repeat (first | (apply inv_yes; (· go_simp); (· intro w1 h1; have K1 := K w1 h1; go_simp; exact ⟨rfl, h1⟩); (· go_simp; rfl)) | (apply inv_no; (· go_simp); (· go_simp; rfl)))
        apply inv_yes
        · go_simp
        · intro w1 h1; have K1 := K w1 h1; go_simp; exact callI_same (And_calls _ _ _) h1
        · go_simp; rfl
        repeat (first | (apply inv_yes; (· go_simp); (· intro w1 h1; have K1 := K w1 h1; go_simp; exact ⟨rfl, h1⟩); (· go_simp; rfl)) | (apply inv_no; (· go_simp); (· go_simp; rfl)))
        refine wpInv_nil (fun w1 h1 => ?_)
        have H1 := hJ1 w1 h1
        clear K hJ1 hJ2 h1 H0
        have hb := HB.out
        have E := Lib.hid (h)
        clear h HB
        go_wp2_with (go_at_call 22; refine (With_calls _ _ (by omega) _).mono ?_; rintro e w' ⟨rfl, rfl⟩)
        go_roundw
        case rel => exact ⟨k + 1, by omega, by first | rw [upto_yes E.out] | rw [upto_no E.out], by go_num, H1⟩
        case measure => simp [intOf]; omega
    · obtain rfl : k = 16 := by omega
      go_wp2
      go_ret
      exact ⟨by rw [upto_all]; rfl, H0.below⟩
set_option maxHeartbeats 2000000 in
theorem RTurn_calls (f : Nat → BitVec 16) (w : World) :
    Calls Tryd.prog 13 #[.agg ⟨gC f⟩] w fun e w' => e = .returned (.agg ⟨gC (tn f)⟩) ∧ Below w.heap.size w w' := by
  go_enter Tryd.func13, Tryd.ntmps13
  have H0 := At.refl w
  go_wp2_with (refine wpList_alloc_arr rfl 23 rfl (gC fun _ => 0#16) gC_zero ?_)
  have H1 := ((H0.alloc (gC f) 23).alloc (gC fun _ => 0#16) 23).alloc (gC fun _ => 0#16) 23
  simp only [World.size_alloc] at H1
  clear H0
  go_loopw [4, 5] (fun i _ wr => ∃ m : Nat, m ≤ 16 ∧ i = .int .i64 m ∧ At w [(w.heap.size + 1 + 1, gC (stT f m 0), 23), (w.heap.size + 1, gC fun _ => 0#16, 23), (w.heap.size, gC f, 23)] wr) (fun i _ _ => 16 - (intOf i).toNat)
  case atStart => exact ⟨0, Nat.zero_le _, rfl, by rw [gC_congr (f := stT f 0 0) (g := fun _ => 0#16) (fun i _ => rfl)]; exact H1⟩
  case round =>
    clear H1
    obtain ⟨m, hm, rfl, H⟩ := hrel
    by_cases hlt : m < 16
    · have hd1 : decide ((m : Int) < 16) = true := by simp; omega
      go_wp2
      obtain ⟨wo, rfl⟩ : ∃ wo : World, wo = wr := ⟨_, rfl⟩
      go_loopw [5] (fun b wr => ∃ k : Nat, k ≤ 16 ∧ b = .int .i64 k ∧ At w [(w.heap.size + 1 + 1, gC (stT f m k), 23), (w.heap.size + 1, gC fun _ => 0#16, 23), (w.heap.size, gC f, 23)] wr) (fun b _ => 16 - (intOf b).toNat)
      case atStart => exact ⟨0, Nat.zero_le _, rfl, H⟩
      case round =>
        clear H
        obtain ⟨k, hk, rfl, H⟩ := hrel
        by_cases hlt2 : k < 16
        · have K := H.rules
          simp only [List.forall_mem_cons] at K
          have hc := gC_at f m hlt
          have hc2 := gC_at (stT f m k) k hlt2
          rw [stT_at] at hc2
          cases h : has (f m) k
          · have E := Lib.hid (tnk_no h)
            go_wp2_with (go_at_call 20; refine (Has_calls _ _ (by omega) _).mono ?_; rintro e w' ⟨rfl, rfl⟩)
            go_roundw
            case rel => exact ⟨k + 1, by omega, by go_num, by rw [← gC_congr (stT_same f m k E.out)]; exact H⟩
            case measure => simp [intOf]; omega
          · have E := Lib.hid (tnk_yes h)
            go_wp2_with (first | (go_at_call 20; refine (Has_calls _ _ (by omega) _).mono ?_; rintro e w' ⟨rfl, rfl⟩) | (go_at_call 22; refine (With_calls _ _ (by omega) _).mono ?_; rintro e w' ⟨rfl, rfl⟩))
            go_roundw
            case rel =>
              have h2 := H.set 0 rfl k (.int .u16 (nH (tnk f k m ||| bit m)))
              rw [gC_setk _ _ _ (stT_set f m k _ E.out.symm)] at h2
              exact ⟨k + 1, by omega, by go_num, h2⟩
            case measure => simp [intOf]; omega
        · obtain rfl : k = 16 := by omega
          go_wp2
          go_roundw
          case rel => exact ⟨m + 1, by omega, by go_num, by rw [← gC_congr (stT_next f m)]; exact H⟩
          case measure => simp [intOf]; omega
    · obtain rfl : m = 16 := by omega
      go_wp2_with (first | (refine wpList_store_row rfl 23 _ _ rfl _ _ rfl rfl 23 _ (H.row 1 rfl) gC_size gC_old gC_one ?_) | refine wpList_load_row rfl 23 _ rfl _ rfl 23 _ (0, 0) _ (H.row 0 rfl) Tryd.underlying23 rfl gC_size ?_)
      have H2 := H.setRow 1 rfl ⟨gC (stT f 16 0)⟩
      have e1 : gC (stT f 16 0) = gC (tn f) := gC_congr fun i _ => rfl
      rw [e1] at H2 ⊢
      exact bodyPost_ret (v := .agg ⟨gC (tn f)⟩) (results_cell_row rfl _ _ (w.heap.size + 1) 23 _ (0, 0) _ rfl (H2.row 1 rfl) Tryd.underlying23 rfl gC_size) rfl ⟨rfl, H2.below⟩
/-- The reference's Cut, under way. -/
def stC (f : Nat → BitVec 16) (W : BitVec 16) (m k i : Nat) : BitVec 16 := if i < m then ct f W i else if i = m then upto (ct f W m) k else 0#16
theorem stC_set (f : Nat → BitVec 16) (W : BitVec 16) (m k : Nat) (x : BitVec 16) (h : x = upto (ct f W m) (k + 1)) : ∀ i, i < 16 → updF (stC f W m k) m x i = stC f W m (k + 1) i := by
  intro i _
  unfold updF stC
  by_cases e : i = m
  · subst e; simp [h]
  · simp [e]
theorem stC_same (f : Nat → BitVec 16) (W : BitVec 16) (m k : Nat) (h : upto (ct f W m) (k + 1) = upto (ct f W m) k) : ∀ i, i < 16 → stC f W m k i = stC f W m (k + 1) i := by
  intro i _
  unfold stC
  rw [h]
theorem stC_next (f : Nat → BitVec 16) (W : BitVec 16) (m : Nat) : ∀ i, i < 16 → stC f W m 16 i = stC f W (m + 1) 0 i := by
  intro i hi
  unfold stC
  rw [upto_all]
  by_cases e : i = m
  · subst e; simp
  · by_cases e2 : i < m
    · rw [if_pos e2, if_pos (by omega)]
    · rw [if_neg e2, if_neg e, if_neg (by omega)]
      by_cases e3 : i = m + 1
      · subst e3; simp [upto]
      · rw [if_neg e3]
theorem stC_at (f : Nat → BitVec 16) (W : BitVec 16) (m k : Nat) : stC f W m k m = upto (ct f W m) k := by unfold stC; rw [if_neg (by omega), if_pos rfl]
set_option maxHeartbeats 2000000 in
theorem RCut_calls (f : Nat → BitVec 16) (W : BitVec 16) (w : World) :
    Calls Tryd.prog 15 #[.agg ⟨gC f⟩, .int .u16 (nH W)] w fun e w' => e = .returned (.agg ⟨gC (ct f W)⟩) ∧ Below w.heap.size w w' := by
  go_enter Tryd.func15, Tryd.ntmps15
  have H0 := At.refl w
  go_wp2_with (refine wpList_alloc_arr rfl 23 rfl (gC fun _ => 0#16) gC_zero ?_)
  have H1 := ((H0.alloc (gC f) 23).alloc (gC fun _ => 0#16) 23).alloc (gC fun _ => 0#16) 23
  simp only [World.size_alloc] at H1
  clear H0
  go_loopw [6, 7] (fun i _ wr => ∃ m : Nat, m ≤ 16 ∧ i = .int .i64 m ∧ At w [(w.heap.size + 1 + 1, gC (stC f W m 0), 23), (w.heap.size + 1, gC fun _ => 0#16, 23), (w.heap.size, gC f, 23)] wr) (fun i _ _ => 16 - (intOf i).toNat)
  case atStart => exact ⟨0, Nat.zero_le _, rfl, by rw [gC_congr (f := stC f W 0 0) (g := fun _ => 0#16) (fun i _ => by unfold stC; simp [upto])]; exact H1⟩
  case round =>
    clear H1
    obtain ⟨m, hm, rfl, H⟩ := hrel
    by_cases hlt : m < 16
    · have hd1 : decide ((m : Int) < 16) = true := by simp; omega
      go_wp2
      obtain ⟨wo, rfl⟩ : ∃ wo : World, wo = wr := ⟨_, rfl⟩
      go_loopw [7] (fun b wr => ∃ k : Nat, k ≤ 16 ∧ b = .int .i64 k ∧ At w [(w.heap.size + 1 + 1, gC (stC f W m k), 23), (w.heap.size + 1, gC fun _ => 0#16, 23), (w.heap.size, gC f, 23)] wr) (fun b _ => 16 - (intOf b).toNat)
      case atStart => exact ⟨0, Nat.zero_le _, rfl, H⟩
      case round =>
        clear H
        obtain ⟨k, hk, rfl, H⟩ := hrel
        by_cases hlt2 : k < 16
        · have hc2 := gC_at (stC f W m k) m hlt
          rw [stC_at] at hc2
          have ha := ct_has f W m k
          cases h : has (ct f W m) k
          · rw [h] at ha
            have E := Lib.hid (upto_no h)
            have HR := Lib.hid (show ∀ w : World, Calls Tryd.prog 21 #[.agg ⟨gC f⟩, .int .i64 m, .int .i64 k, .int .u16 (nH W)] w fun e w' => e = .returned (.bool false) ∧ Below w.heap.size w w' from fun w => ha ▸ RAt_calls f W m k (by omega) (by omega) w)
            clear ha h
            go_wp2_with (first | (go_at_call 21; refine callAt (R := fun e => e = .returned (.bool false)) (HR.out _) H ?_; clear H; rintro e w' rfl H) | refine wpList_load_row rfl 23 _ rfl _ rfl 23 _ (0, 0) _ (H.row 2 rfl) Tryd.underlying23 rfl gC_size ?_)
            go_roundw
            case rel => exact ⟨k + 1, by omega, by go_num, by rw [← gC_congr (stC_same f W m k E.out)]; exact H⟩
            case measure => simp [intOf]; omega
          · rw [h] at ha
            have E := Lib.hid (upto_yes h)
            have HR := Lib.hid (show ∀ w : World, Calls Tryd.prog 21 #[.agg ⟨gC f⟩, .int .i64 m, .int .i64 k, .int .u16 (nH W)] w fun e w' => e = .returned (.bool true) ∧ Below w.heap.size w w' from fun w => ha ▸ RAt_calls f W m k (by omega) (by omega) w)
            clear ha h
            go_wp2_with (first | (go_at_call 21; refine callAt (R := fun e => e = .returned (.bool true)) (HR.out _) H ?_; clear H; rintro e w' rfl H; have K := H.rules; simp only [List.forall_mem_cons] at K) | (go_at_call 22; refine (With_calls _ _ (by omega) _).mono ?_; rintro e w' ⟨rfl, rfl⟩) | refine wpList_load_row rfl 23 _ rfl _ rfl 23 _ (0, 0) _ (H.row 2 rfl) Tryd.underlying23 rfl gC_size ?_)
            go_roundw
            case rel =>
              have h2 := H.set 0 rfl m (.int .u16 (nH (upto (ct f W m) k ||| bit k)))
              rw [gC_setk _ _ _ (stC_set f W m k _ E.out.symm)] at h2
              exact ⟨k + 1, by omega, by go_num, h2⟩
            case measure => simp [intOf]; omega
        · obtain rfl : k = 16 := by omega
          go_wp2
          go_roundw
          case rel => exact ⟨m + 1, by omega, by go_num, by rw [← gC_congr (stC_next f W m)]; exact H⟩
          case measure => simp [intOf]; omega
    · obtain rfl : m = 16 := by omega
      go_wp2_with (first | (refine wpList_store_row rfl 23 _ _ rfl _ _ rfl rfl 23 _ (H.row 1 rfl) gC_size gC_old gC_one ?_) | refine wpList_load_row rfl 23 _ rfl _ rfl 23 _ (0, 0) _ (H.row 0 rfl) Tryd.underlying23 rfl gC_size ?_)
      have H2 := H.setRow 1 rfl ⟨gC (stC f W 16 0)⟩
      have e1 : gC (stC f W 16 0) = gC (ct f W) := gC_congr fun i hi => by unfold stC; rw [if_pos hi]
      rw [e1] at H2 ⊢
      exact bodyPost_ret (v := .agg ⟨gC (ct f W)⟩) (results_cell_row rfl _ _ (w.heap.size + 1) 23 _ (0, 0) _ rfl (H2.row 1 rfl) Tryd.underlying23 rfl gC_size) rfl ⟨rfl, H2.below⟩
end Go.Proofs.YtdamljjbeaomoaaDoor
