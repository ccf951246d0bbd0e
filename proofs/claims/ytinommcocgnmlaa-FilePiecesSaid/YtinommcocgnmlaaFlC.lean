/- Chapter 24: the walk of FilePieces. -/
import Derived.Test.YtinommcocgnmlaaFlB
namespace Go.Proofs.Ytinommcocgnmlaa.PFileTells
open Go.RowKit Go.Proofs.YtinommcocgnmlaaW.PrintWords Go.Proofs.YtinommcocgnmlaaW.PrintLast Go.Proofs.YtinommcocgnmlaaW.PrintMore
open _root_.Go.Proofs.Ytinommcocgnmlaa.Own
set_option linter.unusedVariables false
set_option linter.unusedSimpArgs false
theorem put_behind (s x : ByteArray) : putB s x true = if ((s.size + x.size : Nat) : Int) > 64 then (⟨#[]⟩, 12) else (s ++ x, 0) := by
  unfold putB keepB cutB
  rw [if_pos rfl, ByteArray.size_append]
theorem first_size (s : ByteArray) : (firstB s).size = min s.size 32 := by
  unfold firstB
  rw [ByteArray.size_extract]
  omega
set_option maxRecDepth 100000 in
set_option maxHeartbeats 4000000 in
theorem pieces_walk (A : Option Addr) (c : Nat) (l : List ByteArray) (hc : l.length ≤ c) (w : World) (hr : Rd w A (pw_strs l)) : Calls Try.prog 8 #[.slice A l.length c] w fun e w' => e = .returned (.bool true) ∧ Below w.heap.size w w' := by
  have HR := Lib.hid hr
  clear hr
  have H0 := At.refl w
  by_cases h80 : l.length ≤ 80
  · have hd : decide ((l.length : Int) > 80) = false := by simp; omega
    go_enter Try.func8, Try.ntmps8
    go_wp2_with fail
    go_loopw [3, 4, 5] (fun v3 v4 v5 wr => ∃ (i : Nat) (s : ByteArray), i ≤ l.length ∧ v5 = .int .i64 i ∧ v3 = .string s ∧ v4 = .string s ∧ s.size ≤ 64 ∧ Below w.heap.size w wr) (fun _ _ v5 _ => l.length - (intOf v5).toNat)
    case atStart => exact ⟨0, ⟨#[]⟩, Nat.zero_le _, rfl, rfl, rfl, by decide, Below.refl _ _⟩
    case round =>
      obtain ⟨i, s, hi, rfl, rfl, rfl, hs, hbw⟩ := hrel
      have H3 : At w [] wr := ⟨hbw, by simp, by simp⟩
      by_cases hlt : i < l.length
      · obtain ⟨ad, hA, hx0⟩ := HR.out i (by simp [pw_strs]; exact hlt)
        subst hA
        replace hx0 : w.cell? (ad.add i) = some (.string l[i]) := by simp [pw_strs] at hx0; exact hx0
        have hxw := Lib.hid hx0
        replace hx0 := (hbw.cell (World.block_lt_of_cell? w _ hx0)).trans hx0
        clear hbw
        generalize l[i] = x at *
        by_cases hx : (x.size : Int) > 200
        · have m1 := decide_eq_true hx
          clear hx
          go_wp2_with fail
          refine callAt (alive24 _) H3 ?_
          rintro e w1 rfl H1
          go_wp2_with fail
          go_ret
          exact ⟨rfl, H1.below⟩
        · have m1 := decide_eq_false hx
          have hle : ((s.size : Int) + x.size) ≤ 128 + 200 := by omega
          clear hx
          by_cases hf : ((s.size + x.size : Nat) : Int) > 64
          · have HP := Lib.hid (fun w => Put_is (a := ⟨#[]⟩) (b := 12) w ((put_behind s x).trans (if_pos hf)) (by omega))
            have m2 : decide ((s.size : Int) + x.size ≤ 64) = false := by rw [decide_eq_false_iff_not]; omega
            have C1 := Lib.hid (fun w => Fine_is s w (b := true) (by rw [decide_eq_true_eq]; omega))
            have C2 := Lib.hid (fun w => First_is w (rfl : firstB s = firstB s))
            have hfs := first_size s
            generalize firstB s = f at *
            clear hf
            go_wp2_with fail
            refine callAt (HP.out _) H3 ?_
            rintro e w1 rfl H1
            clear H3 hx0
            have hx1 := (H1.below.cell (World.block_lt_of_cell? w _ hxw.out)).trans hxw.out
            go_wp2_with fail
            refine callAt (C1.out _) H1 ?_
            rintro e w2 rfl H2
            go_wp2_with fail
            refine callAt (C2.out _) H2 ?_
            rintro e w3 rfl H3
            have hb3 := H3.below
            clear H1 H2 H3
            go_wp2_with fail
            go_roundw
            case rel => exact ⟨i + 1, s, by omega, by simp, rfl, rfl, by omega, hb3⟩
            case measure => simp [intOf]; omega
          · have HP := Lib.hid (fun w => Put_is (a := s ++ x) (b := 0) w ((put_behind s x).trans (if_neg hf)) (by omega))
            have m2 : decide ((s.size : Int) + x.size ≤ 64) = true := by rw [decide_eq_true_eq]; omega
            have C1 := Lib.hid (fun w => Fine_is (s ++ x) w (b := true) (by rw [ByteArray.size_append, decide_eq_true_eq]; omega))
            have C2 := Lib.hid (fun w => First_is w (rfl : firstB (s ++ x) = firstB (s ++ x)))
            have hfs := first_size (s ++ x)
            generalize firstB (s ++ x) = f at *
            clear hf
            go_wp2_with fail
            refine callAt (HP.out _) H3 ?_
            rintro e w1 rfl H1
            clear H3 hx0
            have hx1 := (H1.below.cell (World.block_lt_of_cell? w _ hxw.out)).trans hxw.out
            have hz : s.size + x.size ≤ 9223372036854775807 := by omega
            have hsx : (s ++ x).size ≤ 64 := by rw [ByteArray.size_append]; have := of_decide_eq_true m2; omega
            go_wp2_with fail
            go_region_with fail
            all_goals
              go_wp2_with fail
              refine callAt (C1.out _) (by repeat (first | with_reducible exact H1 | apply At.drew | apply At.drewN)) ?_
              rintro e w2 rfl H2
              go_wp2_with fail
              refine callAt (C2.out _) H2 ?_
              rintro e w3 rfl H3
              have hb3 := H3.below
              clear H1 H2 H3
              go_wp2_with fail
              go_roundw
              case rel => exact ⟨i + 1, s ++ x, by omega, by simp, rfl, rfl, hsx, hb3⟩
              case measure => simp [intOf]; omega
      · obtain rfl : i = l.length := by omega
        clear hbw
        go_wp2_with fail
        refine callAt (Put_is (a := ⟨#[]⟩) (b := 0) _ rfl (by rw [nil_size]; omega)) H3 ?_
        rintro e w4 rfl H4
        go_wp2_with fail
        refine callAt (alive24 _) H4 ?_
        rintro e w5 rfl H5
        go_wp2_with fail
        go_ret
        exact ⟨rfl, H5.below⟩
  · have hd : decide ((l.length : Int) > 80) = true := by simp; omega
    go_enter Try.func8, Try.ntmps8
    go_wp2_with fail
    refine callAt (alive24 _) H0 ?_
    rintro e w3 rfl H3
    go_wp2_with fail
    go_ret
    exact ⟨rfl, H3.below⟩
end Go.Proofs.Ytinommcocgnmlaa.PFileTells
