/- Chapter 08: frame.Read, where the form is right. -/
import Derived.Test.YtmlgkahadgpaiaaFrX
namespace Go.Proofs.Ytmlgkahadgpaiaa.Fr
open Go.RowKit _root_.Go.Proofs.Ytmlgkahadgpaiaa.Own
set_option linter.unusedVariables false
set_option linter.unusedSimpArgs false
theorem rd_only {g : Nat} {w w' : World} {A : Option Addr} {xs : List Value} (h : Rd w A xs) (ho : Only [g] w w') (hg : ∀ a, A = some a → a.block ≠ g) : Rd w' A xs := by
  intro i hi
  obtain ⟨a, ha, hc⟩ := h i hi
  refine ⟨a, ha, (World.cell?_of_block (w := w) (ho.keep _ (World.block_lt_of_cell? w _ hc) ?_)).trans hc⟩
  rw [block_add]; simp; exact hg a ha
def ckB (blk : List UInt8) : Bool := lowB (crc ((blk.take 124).take 120)) == (blk.take 124).drop 120
def genF (X : List UInt8) : Nat := val ((X.drop 1).take 4)
def seqF (X : List UInt8) : Nat := val (((X.drop 1).drop 4).take 2)
def lenF (X : List UInt8) : Nat := val ((((X.drop 1).drop 4).drop 2).take 1)
set_option maxRecDepth 10000 in
set_option maxHeartbeats 4000000 in
theorem ReadSum_calls (kind : UInt8) (a : Addr) (c : Nat) (blk : List UInt8) (hb : blk.length = 128) (hc : 128 ≤ c) (w : World) (hR : Rd w (some a) (bys blk)) (hf : formB kind blk) (hk : ckB blk = false) :
    Calls Try.prog 59 #[.int .u8 (nB kind), .slice (some a) 128 c] w fun e w' => e = .returned (.tuple #[.int .i64 0, .int .i64 0, .slice none 0 0, .int .i64 18]) ∧ Below w.heap.size w w' := by
  have HK := Lib.hid hk
  clear hk
  obtain ⟨b0, e0, e1, e2, e3, p0, p1, p2, p3, p4, q0, q1, q2, q3, q4⟩ := form_cells hb hR
  unfold formB at hf
  rw [p0, p1, p2, p3, p4] at hf
  simp only [Option.some.injEq] at hf
  obtain ⟨rfl, rfl, rfl, rfl, rfl⟩ := hf
  rw [show nB 0 = 0 from rfl] at q1 q2 q3
  rw [show nB 69 = 69 from rfl] at q4
  have h2 : bits .or .u8 (bits .or .u8 0 0) 0 = 0 := by decide
  have h22 : bits .or .u8 0 0 = 0 := by decide
  have HRT := Lib.hid (hR.at_take 124)
  have hlt124 : (blk.take 124).length = 124 := by rw [List.length_take]; omega
  clear p0 p1 p2 p3 p4 hR
  have K := fun (W : World) (h : Below w.heap.size w W) => And.intro (form_below h q0) (And.intro (form_below h q1) (And.intro (form_below h q2) (And.intro (form_below h q3) (form_below h q4))))
  obtain ⟨J, hJ⟩ : ∃ J : World → Prop, ∀ W, J W ↔ Below w.heap.size w W := ⟨_, fun _ => Iff.rfl⟩
  have K := fun W h => K W ((hJ W).1 h)
  have HJ := Lib.hid hJ
  have hj := (HJ.out w.drew).2 ((Below.refl _ _).drew)
  clear hJ q0 q1 q2 q3 q4
  have hc2 : ¬ c = 124 := by omega
  have hc3 : 124 ≤ c := by omega
  go_enter Try.func59, Try.ntmps59
  go_wp2
  refine region_inv J (by kernel_rfl) (by kernel_rfl) hj ?_
  repeat (first | (apply inv_yes; (· go_simp); (· intro w1 h1; obtain ⟨z0, z1, z2, z3, z4⟩ := K w1 h1; go_simp; exact ⟨rfl, h1⟩); (· go_simp; rfl)) | (apply inv_no; (· go_simp); (· go_simp; rfl)))
  refine wpInv_nil (fun w5 h5 => ?_)
  have H5 := Lib.hid ((HJ.out _).1 h5)
  clear K h5 hj HJ h2 h22
  go_wp2_with fail
  refine (Open_bad_m a 124 124 (blk.take 124) 120 rfl hlt124.symm (by decide) (Nat.le_refl _) w5 (HRT.out.below H5.out) HK.out).mono ?_
  rintro e w6 ⟨rfl, hb6⟩
  have H6 := Lib.hid (H5.out.trans (hb6.mono H5.out.size))
  clear hb6
  go_wp2_with fail
  (try simp only [Exit.inBlock, Exit.then])
  refine bodyPost_ret (results_tmp4 rfl _ _ _) rfl ?_
  exact ⟨rfl, H6.out⟩
set_option maxRecDepth 10000 in
set_option maxHeartbeats 4000000 in
theorem ReadGen_calls (kind : UInt8) (a : Addr) (c : Nat) (blk : List UInt8) (hb : blk.length = 128) (hc : 128 ≤ c) (w : World) (hR : Rd w (some a) (bys blk)) (hf : formB kind blk) (hk : ckB blk = true) (hm : genF (blk.take 120) > 2147483647) :
    Calls Try.prog 59 #[.int .u8 (nB kind), .slice (some a) 128 c] w fun e w' => e = .returned (.tuple #[.int .i64 0, .int .i64 0, .slice none 0 0, .int .i64 3]) ∧ Below w.heap.size w w' := by
  have HK := Lib.hid hk
  have HM := Lib.hid hm
  clear hk hm
  obtain ⟨b0, e0, e1, e2, e3, p0, p1, p2, p3, p4, q0, q1, q2, q3, q4⟩ := form_cells hb hR
  unfold formB at hf
  rw [p0, p1, p2, p3, p4] at hf
  simp only [Option.some.injEq] at hf
  obtain ⟨rfl, rfl, rfl, rfl, rfl⟩ := hf
  rw [show nB 0 = 0 from rfl] at q1 q2 q3
  rw [show nB 69 = 69 from rfl] at q4
  have h2 : bits .or .u8 (bits .or .u8 0 0) 0 = 0 := by decide
  have h22 : bits .or .u8 0 0 = 0 := by decide
  have HRT := Lib.hid (hR.at_take 124)
  have hlt124 : (blk.take 124).length = 124 := by rw [List.length_take]; omega
  clear p0 p1 p2 p3 p4 hR
  have K := fun (W : World) (h : Below w.heap.size w W) => And.intro (form_below h q0) (And.intro (form_below h q1) (And.intro (form_below h q2) (And.intro (form_below h q3) (form_below h q4))))
  obtain ⟨J, hJ⟩ : ∃ J : World → Prop, ∀ W, J W ↔ Below w.heap.size w W := ⟨_, fun _ => Iff.rfl⟩
  have K := fun W h => K W ((hJ W).1 h)
  have HJ := Lib.hid hJ
  have hj := (HJ.out w.drew).2 ((Below.refl _ _).drew)
  clear hJ q0 q1 q2 q3 q4
  have hc2 : ¬ c = 124 := by omega
  have hc3 : 124 ≤ c := by omega
  go_enter Try.func59, Try.ntmps59
  go_wp2
  refine region_inv J (by kernel_rfl) (by kernel_rfl) hj ?_
  repeat (first | (apply inv_yes; (· go_simp); (· intro w1 h1; obtain ⟨z0, z1, z2, z3, z4⟩ := K w1 h1; go_simp; exact ⟨rfl, h1⟩); (· go_simp; rfl)) | (apply inv_no; (· go_simp); (· go_simp; rfl)))
  refine wpInv_nil (fun w5 h5 => ?_)
  have H5 := Lib.hid ((HJ.out _).1 h5)
  clear K h5 hj HJ h2 h22
  go_wp2_with fail
  refine (Open_good_m a 124 124 (blk.take 124) 120 rfl hlt124.symm (by decide) (Nat.le_refl _) w5 (HRT.out.below H5.out) HK.out).mono ?_
  rintro e w6 ⟨v6, rfl, hv6, hb6⟩
  have H6 := Lib.hid (H5.out.trans (hb6.mono H5.out.size))
  have hX120 : (blk.take 124).take 120 = blk.take 120 := by rw [List.take_take]; rfl
  rw [hX120] at hv6
  obtain ⟨X, hX⟩ : ∃ X, blk.take 120 = X := ⟨_, rfl⟩
  rw [hX] at hv6 HM
  have hXl : X.length = 120 := by rw [← hX, List.length_take]; omega
  obtain ⟨gr, cap, rfl, hcap, hcapm, hgb, hgl, hrX⟩ := Has.row hv6 119 hXl
  have hgw : w.heap.size ≤ gr := Nat.le_trans H5.out.size hgb
  have HRX := Lib.hid hrX
  have HXl := Lib.hid hXl
  have HX := Lib.hid hX
  clear hX120 hv6 hb6 hrX hX hXl hgb
  have hcap1 : ¬ cap = 1 := by omega
  have hcap2 : 1 ≤ cap := by omega
  go_wp2_with fail
  refine (New_calls gr 1 119 (cap - 1) (X.drop 1) (by rw [List.length_drop, HXl.out]) (by omega) w6 (by have := HRX.out.at_drop 1; rwa [Nat.zero_add] at this) hgl).mono ?_
  rintro e w7 ⟨rfl, hd7, hb7⟩
  have H7 := Lib.hid (H6.out.trans (hb7.mono H6.out.size))
  have HD7 := Lib.hid hd7
  have HRX7 := Lib.hid (HRX.out.below hb7)
  obtain ⟨rg, hrg⟩ : ∃ rg, w6.heap.size = rg := ⟨_, rfl⟩
  have hrw : w.heap.size ≤ rg := by rw [← hrg]; exact H6.out.size
  have hgrg : gr ≠ rg := by omega
  rw [hrg] at HD7 ⊢
  clear hd7 hb7 HRX hrg hgl
  go_wp2_with fail
  refine (RNumBig_calls HD7.out 4 (by decide) (by decide) (by decide) (by omega) 2147483647 HM.out).mono ?_
  rintro e w8 ⟨rfl, ho8, hd8⟩
  have H8 := Lib.hid (H7.out.trans (ho8.less (by intro k hk; simp at hk; omega) H7.out.size))
  have HD8 := Lib.hid hd8
  clear ho8 hd8
  go_wp2_with fail
  refine (RNumErr_calls HD8.out (by decide) 2 65535).mono ?_
  rintro e w9 ⟨rfl, rfl⟩
  go_wp2_with fail
  refine (RNumErr_calls HD8.out (by decide) 1 112).mono ?_
  rintro e w9 ⟨rfl, rfl⟩
  go_wp2_with fail
  refine (Err_calls HD8.out).mono ?_
  rintro e w9 ⟨rfl, rfl⟩
  go_wp2_with fail
  (try simp only [Exit.inBlock, Exit.then])
  refine bodyPost_ret (results_tmp4 rfl _ _ _) rfl ?_
  exact ⟨rfl, H8.out⟩
set_option maxRecDepth 10000 in
set_option maxHeartbeats 4000000 in
theorem ReadLen_calls (kind : UInt8) (a : Addr) (c : Nat) (blk : List UInt8) (hb : blk.length = 128) (hc : 128 ≤ c) (w : World) (hR : Rd w (some a) (bys blk)) (hf : formB kind blk) (hk : ckB blk = true) (hm : genF (blk.take 120) ≤ 2147483647 ∧ lenF (blk.take 120) > 112) :
    Calls Try.prog 59 #[.int .u8 (nB kind), .slice (some a) 128 c] w fun e w' => e = .returned (.tuple #[.int .i64 0, .int .i64 0, .slice none 0 0, .int .i64 3]) ∧ Below w.heap.size w w' := by
  have HK := Lib.hid hk
  have HM := Lib.hid hm
  clear hk hm
  obtain ⟨b0, e0, e1, e2, e3, p0, p1, p2, p3, p4, q0, q1, q2, q3, q4⟩ := form_cells hb hR
  unfold formB at hf
  rw [p0, p1, p2, p3, p4] at hf
  simp only [Option.some.injEq] at hf
  obtain ⟨rfl, rfl, rfl, rfl, rfl⟩ := hf
  rw [show nB 0 = 0 from rfl] at q1 q2 q3
  rw [show nB 69 = 69 from rfl] at q4
  have h2 : bits .or .u8 (bits .or .u8 0 0) 0 = 0 := by decide
  have h22 : bits .or .u8 0 0 = 0 := by decide
  have HRT := Lib.hid (hR.at_take 124)
  have hlt124 : (blk.take 124).length = 124 := by rw [List.length_take]; omega
  clear p0 p1 p2 p3 p4 hR
  have K := fun (W : World) (h : Below w.heap.size w W) => And.intro (form_below h q0) (And.intro (form_below h q1) (And.intro (form_below h q2) (And.intro (form_below h q3) (form_below h q4))))
  obtain ⟨J, hJ⟩ : ∃ J : World → Prop, ∀ W, J W ↔ Below w.heap.size w W := ⟨_, fun _ => Iff.rfl⟩
  have K := fun W h => K W ((hJ W).1 h)
  have HJ := Lib.hid hJ
  have hj := (HJ.out w.drew).2 ((Below.refl _ _).drew)
  clear hJ q0 q1 q2 q3 q4
  have hc2 : ¬ c = 124 := by omega
  have hc3 : 124 ≤ c := by omega
  go_enter Try.func59, Try.ntmps59
  go_wp2
  refine region_inv J (by kernel_rfl) (by kernel_rfl) hj ?_
  repeat (first | (apply inv_yes; (· go_simp); (· intro w1 h1; obtain ⟨z0, z1, z2, z3, z4⟩ := K w1 h1; go_simp; exact ⟨rfl, h1⟩); (· go_simp; rfl)) | (apply inv_no; (· go_simp); (· go_simp; rfl)))
  refine wpInv_nil (fun w5 h5 => ?_)
  have H5 := Lib.hid ((HJ.out _).1 h5)
  clear K h5 hj HJ h2 h22
  go_wp2_with fail
  refine (Open_good_m a 124 124 (blk.take 124) 120 rfl hlt124.symm (by decide) (Nat.le_refl _) w5 (HRT.out.below H5.out) HK.out).mono ?_
  rintro e w6 ⟨v6, rfl, hv6, hb6⟩
  have H6 := Lib.hid (H5.out.trans (hb6.mono H5.out.size))
  have hX120 : (blk.take 124).take 120 = blk.take 120 := by rw [List.take_take]; rfl
  rw [hX120] at hv6
  obtain ⟨X, hX⟩ : ∃ X, blk.take 120 = X := ⟨_, rfl⟩
  rw [hX] at hv6 HM
  have hXl : X.length = 120 := by rw [← hX, List.length_take]; omega
  obtain ⟨gr, cap, rfl, hcap, hcapm, hgb, hgl, hrX⟩ := Has.row hv6 119 hXl
  have hgw : w.heap.size ≤ gr := Nat.le_trans H5.out.size hgb
  have HRX := Lib.hid hrX
  have HXl := Lib.hid hXl
  have HX := Lib.hid hX
  clear hX120 hv6 hb6 hrX hX hXl hgb
  have hcap1 : ¬ cap = 1 := by omega
  have hcap2 : 1 ≤ cap := by omega
  go_wp2_with fail
  refine (New_calls gr 1 119 (cap - 1) (X.drop 1) (by rw [List.length_drop, HXl.out]) (by omega) w6 (by have := HRX.out.at_drop 1; rwa [Nat.zero_add] at this) hgl).mono ?_
  rintro e w7 ⟨rfl, hd7, hb7⟩
  have H7 := Lib.hid (H6.out.trans (hb7.mono H6.out.size))
  have HD7 := Lib.hid hd7
  have HRX7 := Lib.hid (HRX.out.below hb7)
  obtain ⟨rg, hrg⟩ : ∃ rg, w6.heap.size = rg := ⟨_, rfl⟩
  have hrw : w.heap.size ≤ rg := by rw [← hrg]; exact H6.out.size
  have hgrg : gr ≠ rg := by omega
  rw [hrg] at HD7 ⊢
  clear hd7 hb7 HRX hrg hgl
  go_wp2_with fail
  refine (RNum_calls HD7.out 4 (by decide) (by decide) (by decide) (by omega) 2147483647 (by have := HM.out; unfold genF at this; omega)).mono ?_
  rintro e w8 ⟨rfl, ho8, hd8⟩
  have H8 := Lib.hid (H7.out.trans (ho8.less (by intro k hk; simp at hk; omega) H7.out.size))
  have HD8 := Lib.hid hd8
  have HRX8 := Lib.hid (rd_only HRX7.out ho8 (by intro b hb'; cases hb'; exact hgrg))
  clear ho8 hd8 H7 HD7 HRX7
  rw [show val ((X.drop 1).take 4) = genF X from rfl]
  go_wp2_with fail
  refine (RNum_calls HD8.out 2 (by decide) (by decide) (by decide) (by omega) 65535 (by have := val_lt (((X.drop 1).drop 4).take 2); have h2 : (((X.drop 1).drop 4).take 2).length ≤ 2 := by rw [List.length_take]; omega
                                                                                        have h3 := Nat.pow_le_pow_right (show 0 < 256 by decide) h2; omega)).mono ?_
  rintro e w9 ⟨rfl, ho9, hd9⟩
  have H9 := Lib.hid (H8.out.trans (ho9.less (by intro k hk; simp at hk; omega) H8.out.size))
  have HD9 := Lib.hid hd9
  have HRX9 := Lib.hid (rd_only HRX8.out ho9 (by intro b hb'; cases hb'; exact hgrg))
  clear ho9 hd9 H8 HD8 HRX8
  rw [show val (((X.drop 1).drop 4).take 2) = seqF X from rfl]
  go_wp2_with fail
  refine (RNumBig_calls HD9.out 1 (by decide) (by decide) (by decide) (by omega) 112 HM.out.2).mono ?_
  rintro e wa ⟨rfl, hoa, hda⟩
  have Ha := Lib.hid (H9.out.trans (hoa.less (by intro k hk; simp at hk; omega) H9.out.size))
  have HDa := Lib.hid hda
  clear hoa hda
  go_wp2_with fail
  refine (Err_calls HDa.out).mono ?_
  rintro e w9 ⟨rfl, rfl⟩
  go_wp2_with fail
  (try simp only [Exit.inBlock, Exit.then])
  refine bodyPost_ret (results_tmp4 rfl _ _ _) rfl ?_
  exact ⟨rfl, Ha.out⟩
end Go.Proofs.Ytmlgkahadgpaiaa.Fr
