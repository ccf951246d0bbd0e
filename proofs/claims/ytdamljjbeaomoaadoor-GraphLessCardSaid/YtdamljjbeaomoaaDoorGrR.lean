/- The walks of the reference of layer 11: at, Down. -/
import Derived.Test.YtdamljjbeaomoaaDoorGrV
import Derived.Test.YtdamljjbeaomoaaDoorR01
import Derived.Test.YtdamljjbeaomoaaDoorMem3
import Derived.WalkKit
import Derived.WalkSpells
import Derived.WalkLawsBesides
import Derived.Lib.Hide
namespace Go.Proofs.YtdamljjbeaomoaaDoor
set_option linter.unusedSimpArgs false
set_option linter.unusedVariables false
open Go.RowKit
open _root_.Go.Proofs.YtdamljjbeaomoaaDoor.Own
set_option maxHeartbeats 400000 in
theorem RAt_calls (f : Nat → BitVec 16) (W : BitVec 16) (a b : Nat) (ha : a < 16) (hb : b < 16) (w : World) :
    Calls Tryd.prog 21 #[.agg ⟨gC f⟩, .int .i64 a, .int .i64 b, .int .u16 (nH W)] w fun e w' => e = .returned (.bool (has W a && has W b && has (f a) b)) ∧ Below w.heap.size w w' := by
  have hc := gC_at f a ha
  cases h1 : has W a
  · go_enter Tryd.func21, Tryd.ntmps21
    go_wp2_with (go_at_call 20; refine (Has_calls _ _ (by omega) _).mono ?_; rintro e w' ⟨rfl, rfl⟩)
    go_ret
    exact ⟨rfl, (Below.refl _ _).alloc (Nat.le_refl _) _⟩
  · cases h2 : has W b
    all_goals
      go_enter Tryd.func21, Tryd.ntmps21
      go_wp2_with (go_at_call 20; refine (Has_calls _ _ (by omega) _).mono ?_; rintro e w' ⟨rfl, rfl⟩)
      go_ret
      exact ⟨by first | rfl | simp, (Below.refl _ _).alloc (Nat.le_refl _) _⟩
set_option maxHeartbeats 2000000 in
theorem RDown_calls (f : Nat → BitVec 16) (fr W : BitVec 16) (w : World) :
    Calls Tryd.prog 8 #[.agg ⟨gC f⟩, .int .u16 (nH fr), .int .u16 (nH W)] w fun e w' => e = .returned (.int .u16 (nH (dn f W fr))) ∧ Below w.heap.size w w' := by
  go_enter Tryd.func8, Tryd.ntmps8
  go_wp2_with (go_at_call 19; refine (And_calls _ _ _).mono ?_; rintro e w' ⟨rfl, rfl⟩)
  have H0 := (At.refl w).alloc (gC f) 23
  go_loopw [7, 8, 9, 10] (fun o i _ _ wr => ∃ k : Nat, k ≤ 16 ∧ o = .int .u16 (nH (rr f W (fr &&& W) k)) ∧ i = .int .i64 k ∧ At w [(w.heap.size, gC f, 23)] wr) (fun _ i _ _ _ => 16 - (intOf i).toNat)
  case atStart => exact ⟨0, Nat.zero_le _, rfl, rfl, H0⟩
  case round =>
    clear H0
    obtain ⟨k, hk, rfl, rfl, H⟩ := hrel
    by_cases hlt : k < 16
    · have hd1 : decide ((k : Int) < 16) = true := by simp; omega
      go_wp2
      obtain ⟨wo, rfl⟩ : ∃ wo : World, wo = wr := ⟨_, rfl⟩
      generalize hs : rr f W (fr &&& W) k = s at *
      have HS := Lib.hid hs
      clear hs
      go_loopw [7, 9, 10] (fun o a _ wr => ∃ m : Nat, m ≤ 16 ∧ o = .int .u16 (nH (ra f W s m)) ∧ a = .int .i64 m ∧ At w [(w.heap.size, gC f, 23)] wr) (fun _ a _ _ => 16 - (intOf a).toNat)
      case atStart => exact ⟨0, Nat.zero_le _, rfl, rfl, H⟩
      case round =>
        clear H
        obtain ⟨m, hm, rfl, rfl, H⟩ := hrel
        by_cases hlt2 : m < 16
        · have hd2 : decide ((m : Int) < 16) = true := by simp; omega
          go_wp2
          obtain ⟨wp, rfl⟩ : ∃ wp : World, wp = wr := ⟨_, rfl⟩
          generalize hs2 : ra f W s m = s2 at *
          have HS2 := Lib.hid hs2
          clear hs2
          go_loopw [7, 10] (fun o b wr => ∃ n : Nat, n ≤ 16 ∧ o = .int .u16 (nH (rb f W m s2 n)) ∧ b = .int .i64 n ∧ At w [(w.heap.size, gC f, 23)] wr) (fun _ b _ => 16 - (intOf b).toNat)
          case atStart => exact ⟨0, Nat.zero_le _, rfl, rfl, H⟩
          case round =>
            clear H
            obtain ⟨n, hn, rfl, rfl, H⟩ := hrel
            by_cases hlt3 : n < 16
            · cases h : has (rb f W m s2 n) m
              · have E := Lib.hid (rb_no (g := f) (W := W) (a := m) (b := n) (s := s2) (by rw [h]; rfl))
                go_wp2_with (go_at_call 20; refine (Has_calls _ _ (by omega) _).mono ?_; rintro e w' ⟨rfl, rfl⟩)
                go_roundw
                case rel => exact ⟨n + 1, by omega, by rw [E.out], by go_num, H⟩
                case measure => simp [intOf]; omega
              · cases h2 : (has W m && has W n && has (f m) n)
                · have E := Lib.hid (rb_no (g := f) (W := W) (a := m) (b := n) (s := s2) (by rw [h, h2]; rfl))
                  have HR := Lib.hid (show ∀ w : World, Calls Tryd.prog 21 #[.agg ⟨gC f⟩, .int .i64 m, .int .i64 n, .int .u16 (nH W)] w fun e w' => e = .returned (.bool false) ∧ Below w.heap.size w w' from fun w => h2 ▸ RAt_calls f W m n (by omega) (by omega) w)
                  clear h2
                  go_wp2_with (first | (go_at_call 20; refine (Has_calls _ _ (by omega) _).mono ?_; rintro e w' ⟨rfl, rfl⟩) | (go_at_call 21; refine callAt (R := fun e => e = .returned (.bool false)) (HR.out _) H ?_; clear H; rintro e w' rfl H) | (refine wpList_load_rowG ?_ 23 _ rfl _ rfl 23 _ (0, 0) _ (H.row 0 rfl) Tryd.underlying23 rfl gC_size ?_; (· go_simp)))
                  go_roundw
                  case rel => exact ⟨n + 1, by omega, by rw [E.out], by go_num, H⟩
                  case measure => simp [intOf]; omega
                · have E := Lib.hid (rb_yes (g := f) (W := W) (a := m) (b := n) (s := s2) (by rw [h, h2]; rfl))
                  have HR := Lib.hid (show ∀ w : World, Calls Tryd.prog 21 #[.agg ⟨gC f⟩, .int .i64 m, .int .i64 n, .int .u16 (nH W)] w fun e w' => e = .returned (.bool true) ∧ Below w.heap.size w w' from fun w => h2 ▸ RAt_calls f W m n (by omega) (by omega) w)
                  clear h2
                  go_wp2_with (first | (go_at_call 20; refine (Has_calls _ _ (by omega) _).mono ?_; rintro e w' ⟨rfl, rfl⟩) | (go_at_call 22; refine (With_calls _ _ (by omega) _).mono ?_; rintro e w' ⟨rfl, rfl⟩) | (go_at_call 21; refine callAt (R := fun e => e = .returned (.bool true)) (HR.out _) H ?_; clear H; rintro e w' rfl H) | (refine wpList_load_rowG ?_ 23 _ rfl _ rfl 23 _ (0, 0) _ (H.row 0 rfl) Tryd.underlying23 rfl gC_size ?_; (· go_simp)))
                  go_roundw
                  case rel => exact ⟨n + 1, by omega, by rw [E.out], by go_num, H⟩
                  case measure => simp [intOf]; omega
            · obtain rfl : n = 16 := by omega
              go_wp2
              go_roundw
              case rel => exact ⟨m + 1, by omega, by rw [← HS2.out]; rfl, by go_num, H⟩
              case measure => simp [intOf]; omega
        · obtain rfl : m = 16 := by omega
          go_wp2
          go_roundw
          case rel => exact ⟨k + 1, by omega, by rw [← HS.out]; rfl, by go_num, H⟩
          case measure => simp [intOf]; omega
    · obtain rfl : k = 16 := by omega
      go_wp2
      go_ret
      exact ⟨rfl, H.below⟩
end Go.Proofs.YtdamljjbeaomoaaDoor
