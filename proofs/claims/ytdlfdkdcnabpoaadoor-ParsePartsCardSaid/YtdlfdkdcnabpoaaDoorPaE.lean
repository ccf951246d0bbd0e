/- Layer 17: ParseParts. -/
import Derived.Test.YtdlfdkdcnabpoaaDoorPaL
import Derived.Test.YtdlfdkdcnabpoaaDoorPaH
namespace Go.Proofs.YtdlfdkdcnabpoaaDoor.Pa
set_option linter.unusedSimpArgs false
set_option linter.unusedVariables false
open Go.RowKit
open _root_.Go.Proofs.YtdlfdkdcnabpoaaDoor.Own
open Go.Proofs.YtdlfdkdcnabpoaaDoor.Lx
theorem Rd.front {w : World} {A : Option Addr} {xs ys : List Value} (h : Rd w A (xs ++ ys)) : Rd w A xs := fun i hi => by
  obtain ⟨a, ha, hc⟩ := h i (by rw [List.length_append]; omega)
  exact ⟨a, ha, by rw [hc, List.getElem_append_left hi]⟩
theorem ndC_drop : ∀ (l : List Nd) (b : Nat), (ndC l).drop (b * 2) = ndC (l.drop b)
  | l, 0 => by simp
  | [], b + 1 => by simp [ndC]
  | x :: l, b + 1 => by
    rw [show (b + 1) * 2 = b * 2 + 2 by omega, show ndC (x :: l) = .int .i64 x.k :: .int .i64 x.n :: ndC l from rfl, List.drop_succ_cons, List.drop_succ_cons, ndC_drop l b]
    rfl
theorem rd_sub {w : World} {A : Option Addr} {l : List Nd} (h : Rd w A (ndC l)) (b k : Nat) : Rd w (Option.map (fun x => x.add (b * 2)) A) (ndC ((l.drop b).take k)) := by
  have := h.drop (b * 2)
  rw [ndC_drop, ← List.take_append_drop k (l.drop b), ndC_append] at this
  exact Rd.front this
set_option maxRecDepth 10000 in
set_option maxHeartbeats 8000000 in
theorem parts_walk (A : Option Addr) (c : Nat) (l : List Nd) (w : World) (hE : Lx.Env w) (hR : Rd w A (ndC l)) (n : Nat) (hn : n = l.length) (hc : n ≤ c) :
    Calls Tryd.prog 9 #[.slice A n c] w fun e w' => e = .returned (.bool true) ∧ Below w.heap.size w w' := by
  by_cases h60 : 60 < n
  · have i1 : ((60 : Int) < (n : Int)) = True := by simp; omega
    have d1 : decide (60 < n) = true := decide_eq_true h60
    have HA := Lib.hid (alive17 w hE)
    clear hE hR hn hc h60
    go_enter Tryd.func9, Tryd.ntmps9
    go_wp2_with fail
    refine HA.out.mono ?_
    rintro e w1 ⟨rfl, hb⟩
    go_wp2_with fail
    go_returns
    exact ⟨rfl, hb⟩
  · have i1 : ((60 : Int) < (n : Int)) = False := by simp; omega
    have d1 : decide (60 < n) = false := decide_eq_false h60
    have HRt := Lib.hid (Right_calls hR n hn hc (by omega))
    have HE := Lib.hid hE
    have HR := Lib.hid hR
    have HN := Lib.hid hn
    have HC := Lib.hid hc
    obtain ⟨br, hbr⟩ : ∃ br, rightB l = br := ⟨_, rfl⟩
    rw [hbr] at HRt
    have HBR := Lib.hid hbr
    clear hE hR hn hbr
    cases br with
    | false =>
      clear h60 hc
      go_enter Tryd.func9, Tryd.ntmps9
      go_wp2_with fail
      refine HRt.out.mono ?_
      rintro e w1 ⟨rfl, hb⟩
      have HA := Lib.hid (alive17 w1 (HE.out.below hb))
      have HB := Lib.hid hb
      clear hb
      go_wp2_with fail
      refine HA.out.mono ?_
      rintro e w2 ⟨rfl, hb2⟩
      go_wp2_with fail
      go_returns
      exact ⟨rfl, HB.out.trans (hb2.mono HB.out.size)⟩
    | true =>
      have h24 := ((rightB_iff l).1 HBR.out).2.2
      rw [← HN.out] at h24
      have HWh := Lib.hid (whole_begin HBR.out)
      go_enter Tryd.func9, Tryd.ntmps9
      go_wp2_with fail
      refine HRt.out.mono ?_
      rintro e w1 ⟨rfl, hb⟩
      have HB1 := Lib.hid hb
      have HR1 := Lib.hid (HR.out.below hb)
      clear hb HRt
      go_wp2_with fail
      go_loopw [3] (fun v3 wr => ∃ i : Nat, v3 = .int .i64 i ∧ i ≤ n ∧ Hid (Below w1.heap.size w1 wr)) (fun v3 _ => n - (RowKit.intOf v3).toNat)
      case atStart => exact ⟨0, rfl, Nat.zero_le _, Lib.hid (Below.refl _ _)⟩
      case round =>
        obtain ⟨i, rfl, hi, HB⟩ := hrel
        have HRr := Lib.hid (HR1.out.below HB.out)
        by_cases hlt : i < n
        · have d3 : decide (i < n) = true := decide_eq_true hlt
          have d4 : ((i : Int) < (n : Int)) = True := by simp; omega
          have hil : i < l.length := by rw [← HN.out]; exact hlt
          have hF := ((rightB_iff l).1 HBR.out).1
          have hbi := (begin_is hF i hil).1
          have HBe := Lib.hid (Begin_calls HRr.out n HN.out HC.out (by omega) i (by omega))
          have HSub := Lib.hid (sub_right HBR.out i hil)
          have HAh := Lib.hid (args_ahead HBR.out i hil)
          obtain ⟨b, hb⟩ : ∃ b, bP l i 1 = b := ⟨_, rfl⟩
          rw [hb] at HBe HSub HAh hbi
          have HBb := Lib.hid hb
          have j1 : ((b : Int) < 0) = False := eq_false (by omega)
          have j2 : ((i : Int) < (b : Int)) = False := eq_false (by omega)
          have k1 : decide (i < b) = false := decide_eq_false (by omega)
          have e3 : wrap64 ((i : Int) + 1) = (i : Int) + 1 := by unfold wrap64; omega
          have j3 : ((b : Int) ≤ (i : Int) + 1) = True := eq_true (by omega)
          have j4 : ((i : Int) + 1 ≤ (c : Int)) = True := eq_true (by omega)
          have HLT := Lib.hid hlt
          clear hF hb hil
          go_wp2_with fail
          refine HBe.out.mono ?_
          rintro e w2 ⟨rfl, rfl⟩
          go_wp2_with fail
          have HRs := Lib.hid (Right_calls (rd_sub HRr.out b (i + 1 - b)) (i + 1 - b) (by rw [List.length_take, List.length_drop]; have := HN.out; omega) (show i + 1 - b ≤ c - b by omega) (by omega))
          rw [HSub.out] at HRs
          refine HRs.out.mono ?_
          rintro e w3 ⟨rfl, hb3⟩
          have HB3 := Lib.hid (HB.out.trans (hb3.mono HB.out.size))
          have HR3 := Lib.hid (HRr.out.below hb3)
          obtain ⟨ad, x, rfl, hx, hal, X⟩ := nd_at HR3.out (by rw [← HN.out]; exact HLT.out)
          obtain ⟨y0, y1⟩ := X w3 (Below.refl _ _)
          have hal' : (ad.add (i * 2)).block < w3.heap.size := by rw [block_add]; exact hal
          have haa : argAt l i = argsI x.k := by unfold argAt; rw [hx]
          have HAr := Lib.hid (fun w => Args_calls x.k w)
          have hnn := arg_nonneg ((rightB_iff l).1 HBR.out).1 i (by rw [← HN.out]; exact HLT.out)
          have htw := arg_two l i
          have HA2 := HAh
          rw [haa] at hnn htw HAh
          clear HBe HRs hb3 X hx hal HA2
          obtain ⟨a, ha⟩ : ∃ a, argsI x.k = a := ⟨_, rfl⟩
          rw [ha] at HAr hnn htw HAh
          clear haa ha
          have e5 : wrap64 ((i : Int) - 1) = (i : Int) - 1 := by unfold wrap64; omega
          by_cases a0 : a = 0
          · subst a0
            clear hnn htw HAh
            go_wp2_with fail
            refine (HAr.out _).mono ?_
            rintro e w4 ⟨rfl, rfl⟩
            go_wp2_with fail
            go_roundw
            case rel => exact ⟨i + 1, by go_num, by omega, HB3⟩
            case measure => simp only [RowKit.intOf]; omega
          obtain ⟨i1', c1, c2, c3, c4⟩ := HAh.out (by omega)
          have hBm := Begin_calls HR3.out n HN.out HC.out (by omega) (i - 1) (by omega)
          rw [show ((i - 1 : Nat) : Int) = (i : Int) - 1 by omega] at hBm
          obtain ⟨q, hq⟩ : ∃ q, bP l (i - 1) 1 = q := ⟨_, rfl⟩
          rw [hq] at hBm c1 c2 c3 c4
          have HBm := Lib.hid hBm
          clear hBm
          have j5 : ((q : Int) < (b : Int)) = False := eq_false (by omega)
          have k5 : decide (q < b) = false := decide_eq_false (by omega)
          have HM := Lib.hid (And.intro c3 c4)
          clear c3 c4 HAh hq
          by_cases a1 : a = 1
          · subst a1
            have hqb := HM.out.1 rfl
            subst hqb
            clear hnn htw i1' c1 c2
            go_wp2_with fail
            refine (HAr.out _).mono ?_
            rintro e w4 ⟨rfl, rfl⟩
            go_wp2_with fail
            refine HBm.out.mono ?_
            rintro e w5 ⟨rfl, rfl⟩
            go_wp2_with fail
            refine (HAr.out _).mono ?_
            rintro e w4 ⟨rfl, rfl⟩
            go_wp2_with fail
            refine (HAr.out _).mono ?_
            rintro e w4 ⟨rfl, rfl⟩
            go_wp2_with fail
            go_roundw
            case rel => exact ⟨i + 1, by go_num, by omega, HB3⟩
            case measure => simp only [RowKit.intOf]; omega
          · have a2 : a = 2 := by omega
            subst a2
            obtain ⟨m1, m2, m3⟩ := HM.out.2 rfl
            have e8 : wrap64 ((q : Int) - 1) = (q : Int) - 1 := by unfold wrap64; omega
            have hBv := Begin_calls HR3.out n HN.out HC.out (by omega) (q - 1) (by omega)
            rw [show ((q - 1 : Nat) : Int) = (q : Int) - 1 by omega, m3] at hBv
            have HBv := Lib.hid hBv
            clear hBv
            have j6 : ((q : Int) == (b : Int)) = false := by rw [beq_eq_false_iff_ne]; omega
            have k6 : (q == b) = false := beq_eq_false_iff_ne.2 m1
            have l6 : (q = b) = False := eq_false m1
            clear hnn htw i1' c1 c2 m1 m2 m3 a1 a0
            go_wp2_with fail
            refine (HAr.out _).mono ?_
            rintro e w4 ⟨rfl, rfl⟩
            go_wp2_with fail
            refine HBm.out.mono ?_
            rintro e w5 ⟨rfl, rfl⟩
            go_wp2_with fail
            refine (HAr.out _).mono ?_
            rintro e w4 ⟨rfl, rfl⟩
            go_wp2_with fail
            refine (HAr.out _).mono ?_
            rintro e w4 ⟨rfl, rfl⟩
            go_wp2_with fail
            refine HBv.out.mono ?_
            rintro e w6 ⟨rfl, rfl⟩
            go_wp2_with fail
            go_roundw
            case rel => exact ⟨i + 1, by go_num, by omega, HB3⟩
            case measure => simp only [RowKit.intOf]; omega
        · have d3 : decide (i < n) = false := decide_eq_false hlt
          have d4 : ((i : Int) < (n : Int)) = False := by simp; omega
          have hw := HWh.out
          rw [← HN.out] at hw
          have hBm := Begin_calls HRr.out n HN.out HC.out (by omega) (n - 1) (by omega)
          rw [show ((n - 1 : Nat) : Int) = (n : Int) - 1 by omega, hw.2] at hBm
          have HBm := Lib.hid hBm
          have e8 : wrap64 ((n : Int) - 1) = (n : Int) - 1 := by unfold wrap64; omega
          clear hBm
          have HB3 := Lib.hid (HB1.out.trans (HB.out.mono HB1.out.size))
          have HA := Lib.hid (alive17 wr (HE.out.below HB3.out))
          clear hw
          go_wp2_with fail
          refine HBm.out.mono ?_
          rintro e w2 ⟨rfl, rfl⟩
          go_wp2_with fail
          refine HA.out.mono ?_
          rintro e w3 ⟨rfl, hb3⟩
          go_wp2_with fail
          go_returns
          exact ⟨rfl, HB3.out.trans (hb3.mono HB3.out.size)⟩
end Go.Proofs.YtdlfdkdcnabpoaaDoor.Pa
