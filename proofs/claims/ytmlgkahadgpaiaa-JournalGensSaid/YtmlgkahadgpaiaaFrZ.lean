/- Chapter 08: frame.Read, where the form is right. -/
import Derived.Test.YtmlgkahadgpaiaaFrY
namespace Go.Proofs.Ytmlgkahadgpaiaa.Fr
open Go.RowKit _root_.Go.Proofs.Ytmlgkahadgpaiaa.Own
set_option linter.unusedVariables false
set_option linter.unusedSimpArgs false
def padZ (X : List UInt8) : Prop := ∀ i, 8 + lenF X + i < 120 → X[8 + lenF X + i]? = some 0
set_option maxRecDepth 10000 in
set_option maxHeartbeats 4000000 in
theorem ReadPad_calls (kind : UInt8) (a : Addr) (c : Nat) (blk : List UInt8) (hb : blk.length = 128) (hc : 128 ≤ c) (w : World) (hR : Rd w (some a) (bys blk)) (hf : formB kind blk) (hk : ckB blk = true) (hm : genF (blk.take 120) ≤ 2147483647 ∧ lenF (blk.take 120) ≤ 112 ∧ ¬ padZ (blk.take 120)) :
    Calls Try.prog 59 #[.int .u8 (nB kind), .slice (some a) 128 c] w fun e w' => e = .returned (.tuple #[.int .i64 0, .int .i64 0, .slice none 0 0, .int .i64 3]) ∧ Below w.heap.size w w' := by
  have HK := Lib.hid hk
  have HM := Lib.hid hm
  clear hk hm
  obtain ⟨b0, e0, e1, e2, e3, p0, p1, p2, p3, p4, q0, q1, q2, q3, q4⟩ := form_cells hb hR
  unfold formB at hf
  rw [p0, p1, p2, p3, p4] at hf
  simp only [Option.some.injEq] at hf
  obtain ⟨rfl, rfl, rfl, rfl, rfl⟩ := hf
  rw [show nB 0 = 0 from rfl] at q1 q2 q3
  rw [show nB 69 = 69 from rfl] at q4
  have h2 : bits .or .u8 (bits .or .u8 0 0) 0 = 0 := by decide
  have h22 : bits .or .u8 0 0 = 0 := by decide
  have HRT := Lib.hid (hR.at_take 124)
  have hlt124 : (blk.take 124).length = 124 := by rw [List.length_take]; omega
  clear p0 p1 p2 p3 p4 hR
  have K := fun (W : World) (h : Below w.heap.size w W) => And.intro (form_below h q0) (And.intro (form_below h q1) (And.intro (form_below h q2) (And.intro (form_below h q3) (form_below h q4))))
  obtain ⟨J, hJ⟩ : ∃ J : World → Prop, ∀ W, J W ↔ Below w.heap.size w W := ⟨_, fun _ => Iff.rfl⟩
  have K := fun W h => K W ((hJ W).1 h)
  have HJ := Lib.hid hJ
  have hj := (HJ.out w.drew).2 ((Below.refl _ _).drew)
  clear hJ q0 q1 q2 q3 q4
  have hc2 : ¬ c = 124 := by omega
  have hc3 : 124 ≤ c := by omega
  go_enter Try.func59, Try.ntmps59
  go_wp2
  refine region_inv J (by kernel_rfl) (by kernel_rfl) hj ?_
  repeat (first | (apply inv_yes; (· go_simp); (· intro w1 h1; obtain ⟨z0, z1, z2, z3, z4⟩ := K w1 h1; go_simp; exact ⟨rfl, h1⟩); (· go_simp; rfl)) | (apply inv_no; (· go_simp); (· go_simp; rfl)))
  refine wpInv_nil (fun w5 h5 => ?_)
  have H5 := Lib.hid ((HJ.out _).1 h5)
  clear K h5 hj HJ h2 h22
  go_wp2_with fail
  refine (Open_good_m a 124 124 (blk.take 124) 120 rfl hlt124.symm (by decide) (Nat.le_refl _) w5 (HRT.out.below H5.out) HK.out).mono ?_
  rintro e w6 ⟨v6, rfl, hv6, hb6⟩
  have H6 := Lib.hid (H5.out.trans (hb6.mono H5.out.size))
  have hX120 : (blk.take 124).take 120 = blk.take 120 := by rw [List.take_take]; rfl
  rw [hX120] at hv6
  obtain ⟨X, hX⟩ : ∃ X, blk.take 120 = X := ⟨_, rfl⟩
  rw [hX] at hv6 HM
  have hXl : X.length = 120 := by rw [← hX, List.length_take]; omega
  obtain ⟨gr, cap, rfl, hcap, hcapm, hgb, hgl, hrX⟩ := Has.row hv6 119 hXl
  have hgw : w.heap.size ≤ gr := Nat.le_trans H5.out.size hgb
  have HRX := Lib.hid hrX
  have HXl := Lib.hid hXl
  have HX := Lib.hid hX
  clear hX120 hv6 hb6 hrX hX hXl hgb
  have hcap1 : ¬ cap = 1 := by omega
  have hcap2 : 1 ≤ cap := by omega
  go_wp2_with fail
  refine (New_calls gr 1 119 (cap - 1) (X.drop 1) (by rw [List.length_drop, HXl.out]) (by omega) w6 (by have := HRX.out.at_drop 1; rwa [Nat.zero_add] at this) hgl).mono ?_
  rintro e w7 ⟨rfl, hd7, hb7⟩
  have H7 := Lib.hid (H6.out.trans (hb7.mono H6.out.size))
  have HD7 := Lib.hid hd7
  have HRX7 := Lib.hid (HRX.out.below hb7)
  obtain ⟨rg, hrg⟩ : ∃ rg, w6.heap.size = rg := ⟨_, rfl⟩
  have hrw : w.heap.size ≤ rg := by rw [← hrg]; exact H6.out.size
  have hgrg : gr ≠ rg := by omega
  rw [hrg] at HD7 ⊢
  clear hd7 hb7 HRX hrg hgl
  go_wp2_with fail
  refine (RNum_calls HD7.out 4 (by decide) (by decide) (by decide) (by omega) 2147483647 (by have := HM.out; unfold genF at this; omega)).mono ?_
  rintro e w8 ⟨rfl, ho8, hd8⟩
  have H8 := Lib.hid (H7.out.trans (ho8.less (by intro k hk; simp at hk; omega) H7.out.size))
  have HD8 := Lib.hid hd8
  have HRX8 := Lib.hid (rd_only HRX7.out ho8 (by intro b hb'; cases hb'; exact hgrg))
  clear ho8 hd8 H7 HD7 HRX7
  rw [show val ((X.drop 1).take 4) = genF X from rfl]
  go_wp2_with fail
  refine (RNum_calls HD8.out 2 (by decide) (by decide) (by decide) (by omega) 65535 (by have := val_lt (((X.drop 1).drop 4).take 2); have h2 : (((X.drop 1).drop 4).take 2).length ≤ 2 := by rw [List.length_take]; omega
                                                                                        have h3 := Nat.pow_le_pow_right (show 0 < 256 by decide) h2; omega)).mono ?_
  rintro e w9 ⟨rfl, ho9, hd9⟩
  have H9 := Lib.hid (H8.out.trans (ho9.less (by intro k hk; simp at hk; omega) H8.out.size))
  have HD9 := Lib.hid hd9
  have HRX9 := Lib.hid (rd_only HRX8.out ho9 (by intro b hb'; cases hb'; exact hgrg))
  clear ho9 hd9 H8 HD8 HRX8
  rw [show val (((X.drop 1).drop 4).take 2) = seqF X from rfl]
  go_wp2_with fail
  refine (RNum_calls HD9.out 1 (by decide) (by decide) (by decide) (by omega) 112 HM.out.2.1).mono ?_
  rintro e wa ⟨rfl, hoa, hda⟩
  have Ha := Lib.hid (H9.out.trans (hoa.less (by intro k hk; simp at hk; omega) H9.out.size))
  have HDa := Lib.hid hda
  have HRXa := Lib.hid (rd_only HRX9.out hoa (by intro b hb'; cases hb'; exact hgrg))
  clear hoa hda H9 HD9 HRX9
  rw [show val ((((X.drop 1).drop 4).drop 2).take 1) = lenF X from rfl]
  have hl112 : lenF X ≤ 112 := HM.out.2.1
  obtain ⟨G, hG⟩ : ∃ G, genF X = G := ⟨_, rfl⟩
  obtain ⟨S, hS⟩ : ∃ S, seqF X = S := ⟨_, rfl⟩
  obtain ⟨N, hN⟩ : ∃ N, lenF X = N := ⟨_, rfl⟩
  have HQ := Lib.hid HM.out.2.2
  unfold padZ at HQ
  rw [hN] at HQ hl112 ⊢
  clear HM
  rw [hG]
  rw [hS]
  have HG := Lib.hid hG
  have HS := Lib.hid hS
  have HN := Lib.hid hN
  clear hG hS hN
  go_wp2_with fail
  refine (Err_calls HDa.out).mono ?_
  rintro e w9 ⟨rfl, rfl⟩
  have f1 : IntKind.i64.wrap (8 + (N : Int)) = 8 + (N : Int) := by rw [IntKind.wrap_i64]; omega
  have f2 : (8 + (N : Int)).toNat = 8 + N := by omega
  have f3 : 0 ≤ 8 + (N : Int) ∧ 8 + (N : Int) ≤ 120 := by omega
  have f4 : 0 ≤ 8 + (N : Int) := by omega
  have f5 : 8 + (N : Int) ≤ 120 := by omega
  have HB9 := Lib.hid HRXa.out
  by_cases hcn : cap = 8 + N
  · exact absurd (fun i hi => by omega) HQ.out
  · have hP : ∀ j, 8 + N + j < 120 → ∃ b, X[8 + N + j]? = some b ∧ wa.cell? ⟨gr, 8 + N + j, none⟩ = some (.int .u8 (nB b)) := by
      intro j hj
      obtain ⟨a', ha, hc⟩ := HRXa.out.byte (k := 8 + N + j) (by rw [HXl.out]; exact hj)
      cases ha
      refine ⟨X[8 + N + j]'(by rw [HXl.out]; exact hj), List.getElem?_eq_getElem _, ?_⟩
      rw [show (⟨gr, 0, none⟩ : Addr).add (8 + N + j) = ⟨gr, 8 + N + j, none⟩ from by unfold Addr.add; split <;> simp_all] at hc
      exact hc
    have HP := Lib.hid hP
    clear hP
    go_wp2_with fail
    go_loopw [73] (fun v73 wr => ∃ j : Nat, 8 + N + j ≤ 120 ∧ v73 = .int .i64 j ∧ wa = wr ∧ Hid (∀ i, i < j → X[8 + N + i]? = some 0)) (fun v73 _ => 120 - (intOf v73).toNat)
    case atStart => exact ⟨0, by omega, rfl, rfl, Lib.hid (fun i hi => absurd hi (by omega))⟩
    case round =>
      obtain ⟨j, hj, rfl, rfl, HZ⟩ := hrel
      by_cases hlt : 8 + N + j < 120
      · have hd : decide ((j : Int) < ((120 - (8 + N) : Nat) : Int)) = true := by rw [decide_eq_true_eq]; omega
        have hd2 : decide (j < 120 - (8 + N)) = true := by rw [decide_eq_true_eq]; omega
        have hj2 : j < 120 - (8 + N) := by omega
        have hj3 : (j : Int) < ((120 - (8 + N) : Nat) : Int) := by omega
        obtain ⟨b, hb1, hb2⟩ := HP.out j hlt
        have HB1 := Lib.hid hb1
        clear hb1
        by_cases hz : b = 0
        · subst hz
          rw [show nB 0 = 0 from rfl] at hb2
          have f9 : IntKind.i64.wrap ((j : Int) + 1) = ((j + 1 : Nat) : Int) := by rw [IntKind.wrap_i64]; omega
          go_wp2_with fail
          go_roundw
          case rel =>
            refine ⟨j + 1, by omega, by simp, trivial, Lib.hid (fun i hi => ?_)⟩
            by_cases e : i = j
            · rw [e]; exact HB1.out
            · exact HZ.out i (by omega)
          case measure => simp [intOf]; omega
        · have hz2 : (nB b == 0) = false := by rw [show (0 : Int) = nB 0 from rfl, nB_beq]; simpa using hz
          have hz3 := beq_eq_false_iff_ne.1 hz2
          go_wp2_with fail
          (try simp only [Exit.inBlock, Exit.then])
          refine bodyPost_ret (results_tmp4 rfl _ _ _) rfl ?_
          exact ⟨rfl, Ha.out⟩
      · have hd : decide ((j : Int) < ((120 - (8 + N) : Nat) : Int)) = false := by rw [decide_eq_false_iff_not]; omega
        have hd2 : decide (j < 120 - (8 + N)) = false := by rw [decide_eq_false_iff_not]; omega
        have hj2 : ¬ j < 120 - (8 + N) := by omega
        exact absurd (fun i hi => HZ.out i (by omega)) HQ.out
set_option maxRecDepth 10000 in
set_option maxHeartbeats 4000000 in
theorem ReadOk_calls (kind : UInt8) (a : Addr) (c : Nat) (blk : List UInt8) (hb : blk.length = 128) (hc : 128 ≤ c) (w : World) (hR : Rd w (some a) (bys blk)) (hf : formB kind blk) (hk : ckB blk = true) (hm : genF (blk.take 120) ≤ 2147483647 ∧ lenF (blk.take 120) ≤ 112 ∧ padZ (blk.take 120)) :
    Calls Try.prog 59 #[.int .u8 (nB kind), .slice (some a) 128 c] w fun e w' => (∃ (A : Option Addr) (c2 : Nat), e = .returned (.tuple #[.int .i64 (genF (blk.take 120) : Nat), .int .i64 (seqF (blk.take 120) : Nat), .slice A (lenF (blk.take 120)) c2, .int .i64 0]) ∧ lenF (blk.take 120) ≤ c2 ∧ (A = none → c2 = 0) ∧ Rd w' A (bys (((blk.take 120).drop 8).take (lenF (blk.take 120)))) ∧ (∀ b, A = some b → w.heap.size ≤ b.block) ∧ (0 < lenF (blk.take 120) → ∃ x, A = some ⟨x, 8, none⟩ ∧ x < w'.heap.size)) ∧ Below w.heap.size w w' := by
  have HK := Lib.hid hk
  have HM := Lib.hid hm
  clear hk hm
  obtain ⟨b0, e0, e1, e2, e3, p0, p1, p2, p3, p4, q0, q1, q2, q3, q4⟩ := form_cells hb hR
  unfold formB at hf
  rw [p0, p1, p2, p3, p4] at hf
  simp only [Option.some.injEq] at hf
  obtain ⟨rfl, rfl, rfl, rfl, rfl⟩ := hf
  rw [show nB 0 = 0 from rfl] at q1 q2 q3
  rw [show nB 69 = 69 from rfl] at q4
  have h2 : bits .or .u8 (bits .or .u8 0 0) 0 = 0 := by decide
  have h22 : bits .or .u8 0 0 = 0 := by decide
  have HRT := Lib.hid (hR.at_take 124)
  have hlt124 : (blk.take 124).length = 124 := by rw [List.length_take]; omega
  clear p0 p1 p2 p3 p4 hR
  have K := fun (W : World) (h : Below w.heap.size w W) => And.intro (form_below h q0) (And.intro (form_below h q1) (And.intro (form_below h q2) (And.intro (form_below h q3) (form_below h q4))))
  obtain ⟨J, hJ⟩ : ∃ J : World → Prop, ∀ W, J W ↔ Below w.heap.size w W := ⟨_, fun _ => Iff.rfl⟩
  have K := fun W h => K W ((hJ W).1 h)
  have HJ := Lib.hid hJ
  have hj := (HJ.out w.drew).2 ((Below.refl _ _).drew)
  clear hJ q0 q1 q2 q3 q4
  have hc2 : ¬ c = 124 := by omega
  have hc3 : 124 ≤ c := by omega
  go_enter Try.func59, Try.ntmps59
  go_wp2
  refine region_inv J (by kernel_rfl) (by kernel_rfl) hj ?_
  repeat (first | (apply inv_yes; (· go_simp); (· intro w1 h1; obtain ⟨z0, z1, z2, z3, z4⟩ := K w1 h1; go_simp; exact ⟨rfl, h1⟩); (· go_simp; rfl)) | (apply inv_no; (· go_simp); (· go_simp; rfl)))
  refine wpInv_nil (fun w5 h5 => ?_)
  have H5 := Lib.hid ((HJ.out _).1 h5)
  clear K h5 hj HJ h2 h22
  go_wp2_with fail
  refine (Open_good_m a 124 124 (blk.take 124) 120 rfl hlt124.symm (by decide) (Nat.le_refl _) w5 (HRT.out.below H5.out) HK.out).mono ?_
  rintro e w6 ⟨v6, rfl, hv6, hb6⟩
  have H6 := Lib.hid (H5.out.trans (hb6.mono H5.out.size))
  have hX120 : (blk.take 124).take 120 = blk.take 120 := by rw [List.take_take]; rfl
  rw [hX120] at hv6
  obtain ⟨X, hX⟩ : ∃ X, blk.take 120 = X := ⟨_, rfl⟩
  rw [hX] at hv6 HM
  have hXl : X.length = 120 := by rw [← hX, List.length_take]; omega
  obtain ⟨gr, cap, rfl, hcap, hcapm, hgb, hgl, hrX⟩ := Has.row hv6 119 hXl
  have hgw : w.heap.size ≤ gr := Nat.le_trans H5.out.size hgb
  have HRX := Lib.hid hrX
  have HXl := Lib.hid hXl
  have HX := Lib.hid hX
  clear hX120 hv6 hb6 hrX hX hXl hgb
  have hcap1 : ¬ cap = 1 := by omega
  have hcap2 : 1 ≤ cap := by omega
  go_wp2_with fail
  refine (New_calls gr 1 119 (cap - 1) (X.drop 1) (by rw [List.length_drop, HXl.out]) (by omega) w6 (by have := HRX.out.at_drop 1; rwa [Nat.zero_add] at this) hgl).mono ?_
  rintro e w7 ⟨rfl, hd7, hb7⟩
  have H7 := Lib.hid (H6.out.trans (hb7.mono H6.out.size))
  have HD7 := Lib.hid hd7
  have HRX7 := Lib.hid (HRX.out.below hb7)
  obtain ⟨rg, hrg⟩ : ∃ rg, w6.heap.size = rg := ⟨_, rfl⟩
  have hrw : w.heap.size ≤ rg := by rw [← hrg]; exact H6.out.size
  have hgrg : gr ≠ rg := by omega
  rw [hrg] at HD7 ⊢
  clear hd7 hb7 HRX hrg hgl
  go_wp2_with fail
  refine (RNum_calls HD7.out 4 (by decide) (by decide) (by decide) (by omega) 2147483647 (by have := HM.out; unfold genF at this; omega)).mono ?_
  rintro e w8 ⟨rfl, ho8, hd8⟩
  have H8 := Lib.hid (H7.out.trans (ho8.less (by intro k hk; simp at hk; omega) H7.out.size))
  have HD8 := Lib.hid hd8
  have HRX8 := Lib.hid (rd_only HRX7.out ho8 (by intro b hb'; cases hb'; exact hgrg))
  clear ho8 hd8 H7 HD7 HRX7
  rw [show val ((X.drop 1).take 4) = genF X from rfl]
  go_wp2_with fail
  refine (RNum_calls HD8.out 2 (by decide) (by decide) (by decide) (by omega) 65535 (by have := val_lt (((X.drop 1).drop 4).take 2); have h2 : (((X.drop 1).drop 4).take 2).length ≤ 2 := by rw [List.length_take]; omega
                                                                                        have h3 := Nat.pow_le_pow_right (show 0 < 256 by decide) h2; omega)).mono ?_
  rintro e w9 ⟨rfl, ho9, hd9⟩
  have H9 := Lib.hid (H8.out.trans (ho9.less (by intro k hk; simp at hk; omega) H8.out.size))
  have HD9 := Lib.hid hd9
  have HRX9 := Lib.hid (rd_only HRX8.out ho9 (by intro b hb'; cases hb'; exact hgrg))
  clear ho9 hd9 H8 HD8 HRX8
  rw [show val (((X.drop 1).drop 4).take 2) = seqF X from rfl]
  go_wp2_with fail
  refine (RNum_calls HD9.out 1 (by decide) (by decide) (by decide) (by omega) 112 HM.out.2.1).mono ?_
  rintro e wa ⟨rfl, hoa, hda⟩
  have Ha := Lib.hid (H9.out.trans (hoa.less (by intro k hk; simp at hk; omega) H9.out.size))
  have HDa := Lib.hid hda
  have HRXa := Lib.hid (rd_only HRX9.out hoa (by intro b hb'; cases hb'; exact hgrg))
  clear hoa hda H9 HD9 HRX9
  rw [show val ((((X.drop 1).drop 4).drop 2).take 1) = lenF X from rfl]
  have hl112 : lenF X ≤ 112 := HM.out.2.1
  obtain ⟨G, hG⟩ : ∃ G, genF X = G := ⟨_, rfl⟩
  obtain ⟨S, hS⟩ : ∃ S, seqF X = S := ⟨_, rfl⟩
  obtain ⟨N, hN⟩ : ∃ N, lenF X = N := ⟨_, rfl⟩
  have HQ := Lib.hid HM.out.2.2
  unfold padZ at HQ
  rw [hN] at HQ hl112 ⊢
  clear HM
  rw [hG]
  rw [hS]
  have HG := Lib.hid hG
  have HS := Lib.hid hS
  have HN := Lib.hid hN
  clear hG hS hN
  go_wp2_with fail
  refine (Err_calls HDa.out).mono ?_
  rintro e w9 ⟨rfl, rfl⟩
  have f1 : IntKind.i64.wrap (8 + (N : Int)) = 8 + (N : Int) := by rw [IntKind.wrap_i64]; omega
  have f2 : (8 + (N : Int)).toNat = 8 + N := by omega
  have f3 : 0 ≤ 8 + (N : Int) ∧ 8 + (N : Int) ≤ 120 := by omega
  have f4 : 0 ≤ 8 + (N : Int) := by omega
  have f5 : 8 + (N : Int) ≤ 120 := by omega
  have HB9 := Lib.hid HRXa.out
  by_cases hcn : cap = 8 + N
  · have g0 : cap - (8 + N) = 0 := by omega
    have g5 : 120 - (8 + N) = 0 := by omega
    go_wp2_with fail
    go_loopw [73] (fun v73 wr => v73 = .int .i64 0 ∧ wa = wr) (fun _ _ => 0)
    case atStart => exact ⟨rfl, rfl⟩
    case round =>
      obtain ⟨rfl, rfl⟩ := hrel
      obtain ⟨J2, hJ2⟩ : ∃ J : World → Prop, ∀ W, J W ↔ Below wa.heap.size wa W := ⟨_, fun _ => Iff.rfl⟩
      have HJ2 := Lib.hid hJ2
      have hjJ := (HJ2.out wa.drew).2 ((Below.refl _ _).drew)
      clear hJ2
      have g1 : ¬ cap = 8 := by omega
      have g4 : 8 + (N : Int) ≤ (cap : Int) := by omega
      have g5 : (8 : Int) ≤ 8 + (N : Int) := by omega
      have g6 : (8 : Int) ≤ max (8 + (N : Int)) 0 := by omega
      have g7 : 0 ≤ 8 + (N : Int) ∧ 8 + (N : Int) ≤ (cap : Int) := by omega
      by_cases hN0 : N = 0
      · exfalso; omega
      · have g2 : ¬ 8 + N = 8 := by omega
        have g3 : 8 + N - 8 = N := by omega
        go_wp2
        refine region_inv J2 (by kernel_rfl) (by kernel_rfl) hjJ ?_
        repeat (first | (apply inv_yes; (· go_simp); (· intro w1 h1; go_simp; exact ⟨rfl, h1⟩); (· go_simp; rfl)) | (apply inv_no; (· go_simp); (· go_simp; rfl)))
        refine wpInv_nil (fun wz hz => ?_)
        have HZ9 := (HJ2.out _).1 hz
        go_wp2_with fail
        (try simp only [Exit.inBlock, Exit.then])
        refine bodyPost_ret (results_tmp4 rfl _ _ _) rfl ?_
        rw [HX.out, HG.out, HS.out, HN.out]
        have hr8 := (HB9.out.below HZ9).at_drop 8
        rw [Nat.zero_add] at hr8
        have hlt9 : gr < wz.heap.size := by
          obtain ⟨a', ha, hcell⟩ := (HB9.out.below HZ9).byte (k := 0) (by rw [HXl.out]; decide)
          cases ha
          have := World.block_lt_of_cell? _ _ hcell
          rwa [block_add] at this
        exact ⟨⟨_, _, rfl, Nat.le_refl _, fun h => (nomatch h), hr8.at_take N, (fun b hb' => by cases hb'; exact hgw), fun _ => ⟨gr, rfl, hlt9⟩⟩, Ha.out.trans (HZ9.mono Ha.out.size)⟩
  · have hP : ∀ j, 8 + N + j < 120 → ∃ b, X[8 + N + j]? = some b ∧ wa.cell? ⟨gr, 8 + N + j, none⟩ = some (.int .u8 (nB b)) := by
      intro j hj
      obtain ⟨a', ha, hc⟩ := HRXa.out.byte (k := 8 + N + j) (by rw [HXl.out]; exact hj)
      cases ha
      refine ⟨X[8 + N + j]'(by rw [HXl.out]; exact hj), List.getElem?_eq_getElem _, ?_⟩
      rw [show (⟨gr, 0, none⟩ : Addr).add (8 + N + j) = ⟨gr, 8 + N + j, none⟩ from by unfold Addr.add; split <;> simp_all] at hc
      exact hc
    have HP := Lib.hid hP
    clear hP
    go_wp2_with fail
    go_loopw [73] (fun v73 wr => ∃ j : Nat, 8 + N + j ≤ 120 ∧ v73 = .int .i64 j ∧ wa = wr ∧ Hid (∀ i, i < j → X[8 + N + i]? = some 0)) (fun v73 _ => 120 - (intOf v73).toNat)
    case atStart => exact ⟨0, by omega, rfl, rfl, Lib.hid (fun i hi => absurd hi (by omega))⟩
    case round =>
      obtain ⟨j, hj, rfl, rfl, HZ⟩ := hrel
      by_cases hlt : 8 + N + j < 120
      · have hd : decide ((j : Int) < ((120 - (8 + N) : Nat) : Int)) = true := by rw [decide_eq_true_eq]; omega
        have hd2 : decide (j < 120 - (8 + N)) = true := by rw [decide_eq_true_eq]; omega
        have hj2 : j < 120 - (8 + N) := by omega
        have hj3 : (j : Int) < ((120 - (8 + N) : Nat) : Int) := by omega
        obtain ⟨b, hb1, hb2⟩ := HP.out j hlt
        have HB1 := Lib.hid hb1
        clear hb1
        by_cases hz : b = 0
        · subst hz
          rw [show nB 0 = 0 from rfl] at hb2
          have f9 : IntKind.i64.wrap ((j : Int) + 1) = ((j + 1 : Nat) : Int) := by rw [IntKind.wrap_i64]; omega
          go_wp2_with fail
          go_roundw
          case rel =>
            refine ⟨j + 1, by omega, by simp, trivial, Lib.hid (fun i hi => ?_)⟩
            by_cases e : i = j
            · rw [e]; exact HB1.out
            · exact HZ.out i (by omega)
          case measure => simp [intOf]; omega
        · exact absurd (Option.some.inj (HB1.out.symm.trans (HQ.out j hlt))) hz
      · have hd : decide ((j : Int) < ((120 - (8 + N) : Nat) : Int)) = false := by rw [decide_eq_false_iff_not]; omega
        have hd2 : decide (j < 120 - (8 + N)) = false := by rw [decide_eq_false_iff_not]; omega
        have hj2 : ¬ j < 120 - (8 + N) := by omega
        obtain ⟨J2, hJ2⟩ : ∃ J : World → Prop, ∀ W, J W ↔ Below wa.heap.size wa W := ⟨_, fun _ => Iff.rfl⟩
        have HJ2 := Lib.hid hJ2
        have hjJ := (HJ2.out wa.drew).2 ((Below.refl _ _).drew)
        clear hJ2
        have g1 : ¬ cap = 8 := by omega
        have g4 : 8 + (N : Int) ≤ (cap : Int) := by omega
        have g5 : (8 : Int) ≤ 8 + (N : Int) := by omega
        have g6 : (8 : Int) ≤ max (8 + (N : Int)) 0 := by omega
        have g7 : 0 ≤ 8 + (N : Int) ∧ 8 + (N : Int) ≤ (cap : Int) := by omega
        by_cases hN0 : N = 0
        · subst hN0
          have g8 : IntKind.i64.wrap 8 = 8 := by decide
          have g9 : (8 : Int) ≤ (cap : Int) := by omega
          have g10 : 8 ≤ cap := by omega
          go_wp2
          refine region_inv J2 (by kernel_rfl) (by kernel_rfl) hjJ ?_
          repeat (first | (apply inv_yes; (· go_simp); (· intro w1 h1; go_simp; exact ⟨rfl, h1⟩); (· go_simp; rfl)) | (apply inv_no; (· go_simp); (· go_simp; rfl)))
          refine wpInv_nil (fun wz hz => ?_)
          have HZ9 := (HJ2.out _).1 hz
          go_wp2_with fail
          (try simp only [Exit.inBlock, Exit.then])
          refine bodyPost_ret (results_tmp4 rfl _ _ _) rfl ?_
          rw [HX.out, HG.out, HS.out, HN.out]
          exact ⟨⟨_, _, rfl, Nat.le_refl _, fun h => (nomatch h), by rw [List.take_zero]; exact Rd.nil _ _, (fun b hb' => by cases hb'; exact hgw), fun h => absurd h (by decide)⟩, Ha.out.trans (HZ9.mono Ha.out.size)⟩
        · have g2 : ¬ 8 + N = 8 := by omega
          have g3 : 8 + N - 8 = N := by omega
          go_wp2
          refine region_inv J2 (by kernel_rfl) (by kernel_rfl) hjJ ?_
          repeat (first | (apply inv_yes; (· go_simp); (· intro w1 h1; go_simp; exact ⟨rfl, h1⟩); (· go_simp; rfl)) | (apply inv_no; (· go_simp); (· go_simp; rfl)))
          refine wpInv_nil (fun wz hz => ?_)
          have HZ9 := (HJ2.out _).1 hz
          go_wp2_with fail
          (try simp only [Exit.inBlock, Exit.then])
          refine bodyPost_ret (results_tmp4 rfl _ _ _) rfl ?_
          rw [HX.out, HG.out, HS.out, HN.out]
          have hr8 := (HB9.out.below HZ9).at_drop 8
          rw [Nat.zero_add] at hr8
          have hlt9 : gr < wz.heap.size := by
            obtain ⟨a', ha, hcell⟩ := (HB9.out.below HZ9).byte (k := 0) (by rw [HXl.out]; decide)
            cases ha
            have := World.block_lt_of_cell? _ _ hcell
            rwa [block_add] at this
          exact ⟨⟨_, _, rfl, Nat.le_refl _, fun h => (nomatch h), hr8.at_take N, (fun b hb' => by cases hb'; exact hgw), fun _ => ⟨gr, rfl, hlt9⟩⟩, Ha.out.trans (HZ9.mono Ha.out.size)⟩
end Go.Proofs.Ytmlgkahadgpaiaa.Fr
