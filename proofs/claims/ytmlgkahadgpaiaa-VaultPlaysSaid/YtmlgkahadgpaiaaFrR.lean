/- Chapter 08: the reference's Write. -/
import Derived.Test.YtmlgkahadgpaiaaFrW
import Derived.Deep.DeepCutAuto
namespace Go.Proofs.Ytmlgkahadgpaiaa.Fr
open Go.RowKit _root_.Go.Proofs.Ytmlgkahadgpaiaa.Own
set_option linter.unusedVariables false
set_option linter.unusedSimpArgs false
theorem RWriteBad_calls (kind : UInt8) (gen seq : Int) (A : Option Addr) (n c : Nat) (E : Int)
    (hE : ((gen < 0 ∨ gen > 2147483647 ∨ seq < 0 ∨ seq > 65535) ∧ E = 8) ∨ (¬ (gen < 0 ∨ gen > 2147483647 ∨ seq < 0 ∨ seq > 65535) ∧ n > 112 ∧ E = 5)) (w : World) :
    Calls Try.prog 66 #[.int .u8 (nB kind), .int .i64 gen, .int .i64 seq, .slice A n c] w fun e w' => e = .returned (.tuple #[.slice none 0 0, .int .i64 E]) ∧ Below w.heap.size w w' := by
  by_cases c1 : gen < 0
  · have m1 := decide_eq_true c1
    obtain rfl : E = 8 := by omega
    clear hE
    go_enter Try.func66, Try.ntmps66
    go_wp2_with fail
    go_ret2
    exact ⟨rfl, Below.refl _ _⟩
  have m1 := decide_eq_false c1
  by_cases c2 : gen > 2147483647
  · have m2 := decide_eq_true c2
    obtain rfl : E = 8 := by omega
    clear hE
    go_enter Try.func66, Try.ntmps66
    go_wp2_with fail
    go_ret2
    exact ⟨rfl, Below.refl _ _⟩
  have m2 := decide_eq_false c2
  by_cases c3 : seq < 0
  · have m3 := decide_eq_true c3
    obtain rfl : E = 8 := by omega
    clear hE
    go_enter Try.func66, Try.ntmps66
    go_wp2_with fail
    go_ret2
    exact ⟨rfl, Below.refl _ _⟩
  have m3 := decide_eq_false c3
  by_cases c4 : seq > 65535
  · have m4 := decide_eq_true c4
    obtain rfl : E = 8 := by omega
    clear hE
    go_enter Try.func66, Try.ntmps66
    go_wp2_with fail
    go_ret2
    exact ⟨rfl, Below.refl _ _⟩
  have m4 := decide_eq_false c4
  have m5 : decide ((n : Int) > 112) = true := by rw [decide_eq_true_eq]; omega
  obtain rfl : E = 5 := by omega
  clear hE
  go_enter Try.func66, Try.ntmps66
  go_wp2_with fail
  go_ret2
  exact ⟨rfl, Below.refl _ _⟩
theorem hdr_cells (kind : UInt8) (gen seq n : Nat) (hg : gen ≤ 2147483647) (hs : seq ≤ 65535) (hn : n ≤ 112) :
    (#[Value.int IntKind.u8 (nB kind), Value.int IntKind.u8 ((gen : Int) / 16777216), Value.int IntKind.u8 ((gen : Int) / 65536 % 256), Value.int IntKind.u8 ((gen : Int) / 256 % 256), Value.int IntKind.u8 ((gen : Int) % 256), Value.int IntKind.u8 ((seq : Int) / 256), Value.int IntKind.u8 ((seq : Int) % 256), Value.int IntKind.u8 (n : Int)] : Array Value) = ⟨bys (hdr kind gen seq n)⟩ := by
  have hk := kind.toNat_lt
  have e0 : nB (UInt8.ofNat (kind.toNat / 256 ^ 0)) = nB kind := by unfold nB; rw [UInt8.toNat_ofNat']; omega
  have e1 : nB (UInt8.ofNat (gen / 256 ^ 3)) = (gen : Int) / 16777216 := by unfold nB; rw [UInt8.toNat_ofNat']; omega
  have e2 : nB (UInt8.ofNat (gen / 256 ^ 2)) = (gen : Int) / 65536 % 256 := by unfold nB; rw [UInt8.toNat_ofNat']; omega
  have e3 : nB (UInt8.ofNat (gen / 256 ^ 1)) = (gen : Int) / 256 % 256 := by unfold nB; rw [UInt8.toNat_ofNat']; omega
  have e4 : nB (UInt8.ofNat (gen / 256 ^ 0)) = (gen : Int) % 256 := by unfold nB; rw [UInt8.toNat_ofNat']; omega
  have e5 : nB (UInt8.ofNat (seq / 256 ^ 1)) = (seq : Int) / 256 := by unfold nB; rw [UInt8.toNat_ofNat']; omega
  have e6 : nB (UInt8.ofNat (seq / 256 ^ 0)) = (seq : Int) % 256 := by unfold nB; rw [UInt8.toNat_ofNat']; omega
  have e7 : nB (UInt8.ofNat (n / 256 ^ 0)) = (n : Int) := by unfold nB; rw [UInt8.toNat_ofNat']; omega
  rw [← e0, ← e1, ← e2, ← e3, ← e4, ← e5, ← e6, ← e7]
  rfl
set_option maxRecDepth 10000 in
set_option maxHeartbeats 4000000 in
theorem RWriteOk_calls (kind : UInt8) (gen seq : Nat) (hg : gen ≤ 2147483647) (hs : seq ≤ 65535) (A : Option Addr) (n c : Nat) (b : List UInt8) (hn : n = b.length) (hb : n ≤ 112) (hA : A = none → c = 0) (w : World) (hR : Rd w A (bys b)) :
    Calls Try.prog 66 #[.int .u8 (nB kind), .int .i64 gen, .int .i64 seq, .slice A n c] w fun e w' => ∃ v, e = .returned (.tuple #[v, .int .i64 0]) ∧ Has w.heap.size 5 v (bys (blockF kind gen seq b)) w' ∧ Below w.heap.size w w' := by
  have m1 : decide ((gen : Int) < 0) = false := by rw [decide_eq_false_iff_not]; omega
  have m2 : decide ((gen : Int) > 2147483647) = false := by rw [decide_eq_false_iff_not]; omega
  have m3 : decide ((seq : Int) < 0) = false := by rw [decide_eq_false_iff_not]; omega
  have m4 : decide ((seq : Int) > 65535) = false := by rw [decide_eq_false_iff_not]; omega
  have m5 : decide ((n : Int) > 112) = false := by rw [decide_eq_false_iff_not]; omega
  have HR := Lib.hid hR
  have HN := Lib.hid hn
  clear hR hn
  go_enter Try.func66, Try.ntmps66
  go_upto_region 6 with fail
  have hh := hdr_cells kind gen seq n hg hs (by omega)
  rw [hh]
  have HU := Lib.hid (Has.lit (base := w.heap.size) 5 w (bys (hdr kind gen seq n)) (Nat.le_refl _) (by rw [bys_length, hdr_length]; decide))
  rw [bys_length, hdr_length] at HU
  have B5 := Lib.hid ((Below.refl w.heap.size w).alloc (Nat.le_refl _) (.cells ⟨bys (hdr kind gen seq n)⟩ 5 (0, 0)))
  have HRb := Lib.hid (HR.out.below B5.out)
  have hln : (bys (hdr kind gen seq n)).length + (bys b).length ≤ 200 := by rw [bys_length, bys_length, hdr_length, ← HN.out]; omega
  have HLn := Lib.hid hln
  clear hln hh
  obtain ⟨H, hH⟩ : ∃ H, bys (hdr kind gen seq n) = H := ⟨_, rfl⟩
  rw [hH] at HU B5 HRb HLn ⊢
  have HH := Lib.hid hH
  clear hH
  go_wp2_with (at_builtin; refine wpList_app rfl _ _ 23 rfl w.heap.size 5 (.int .u8 0) 1 Try.underlying23 infoB rfl _ H rfl HU.out A n c (bys b) rfl (by rw [bys_length]; exact HN.out) hA HRb.out (bys_one _) (Nat.le_trans HLn.out (by decide)) (by have := HLn.out; omega) B5.out.size ?_)
  intro v6 w6 hv6 hg6
  have B6 := Lib.hid (B5.out.grown hg6 B5.out.size (fun k e => (HU.out.blk k e).1))
  have hv6' : Has w.heap.size 5 v6 (bys (hdr kind gen seq n ++ b)) w6 := by rw [bys_append, HH.out]; exact hv6
  have HV6 := Lib.hid hv6'
  clear hv6 hv6' hg6 HLn HRb HU B5 HH
  go_wp2_with fail
  go_loopw [10] (fun v13 wr => ∃ j : Nat, n + j ≤ 112 ∧ Hid (Has w.heap.size 5 v13 (bys (hdr kind gen seq n ++ b ++ List.replicate j 0)) wr) ∧ Hid (Below w.heap.size w wr)) (fun v13 _ => 120 - (match v13 with | .slice _ m _ => m | _ => 0))
  case atStart => exact ⟨0, by omega, by rw [List.replicate_zero, List.append_nil]; exact HV6, B6⟩
  case round =>
    clear HV6 B6
    obtain ⟨j, hj, HV, HB⟩ := hrel
    obtain ⟨X, hX⟩ : ∃ X, hdr kind gen seq n ++ b ++ List.replicate j 0 = X := ⟨_, rfl⟩
    rw [hX] at HV
    have hXl : X.length = 8 + n + j := by rw [← hX, List.length_append, List.length_append, hdr_length, List.length_replicate, ← HN.out]
    have HX := Lib.hid hX
    clear hX
    obtain ⟨A7, c7, rfl, hc7, hA7, hR7⟩ := HV.out.form
    rw [bys_length, hXl] at HV ⊢
    have HR7 := Lib.hid hR7
    have HL7 := Lib.hid hXl
    clear hR7 hXl hc7
    by_cases hlt : n + j < 112
    · have hd : decide (((8 + n + j : Nat) : Int) < 120) = true := by rw [decide_eq_true_eq]; omega
      go_wp2_with (at_builtin; refine wpList_app rfl _ _ 23 rfl w.heap.size 5 (.int .u8 0) 1 Try.underlying23 infoB rfl _ (bys X) rfl ?hOwn _ _ _ [.int .u8 0] rfl rfl ?hNil ?hRd ?h1 ?hCap ?hCap2 ?hBase ?_)
      case hOwn => exact HV.out.below ((Below.refl _ _).alloc (Nat.le_refl _) _)
      case hNil => exact fun h => nomatch h
      case hRd => exact Rd.mark _ _ _
      case h1 => simp [Value.oneCell']
      case hCap => rw [bys_length, HL7.out]; simp [maxLen]; omega
      case hCap2 => rw [bys_length, HL7.out]; simp; omega
      case hBase => have := HB.out.size; simp; omega
      intro v8 w8 hv8 hg8
      have hB8 := (HB.out.alloc HB.out.size (.cells #[Value.int IntKind.u8 0] 5)).grown hg8 (by have := HB.out.size; simp; omega) (fun k e => (HV.out.blk k e).1)
      have HB8 := Lib.hid hB8
      have hv9 : Has w.heap.size 5 v8 (bys (hdr kind gen seq n ++ b ++ List.replicate (j + 1) 0)) w8 := by
        rw [List.replicate_succ', ← List.append_assoc, HX.out, bys_append]
        exact hv8
      have HV8 := Lib.hid hv9
      obtain ⟨A9, c9, rfl, -, -, -⟩ := hv9.form
      have hl9 : (bys (hdr kind gen seq n ++ b ++ List.replicate (j + 1) 0)).length = 8 + n + (j + 1) := by rw [bys_length, List.length_append, List.length_append, hdr_length, List.length_replicate, ← HN.out]
      rw [hl9] at HV8 ⊢
      clear hv8 hg8 hB8 hv9 hl9 HV HB HR7 HL7 HX
      go_wp2_with fail
      go_roundw
      case rel => exact ⟨j + 1, by omega, HV8, HB8⟩
      case measure => simp; omega
    · have hd : decide (((8 + n + j : Nat) : Int) < 120) = false := by rw [decide_eq_false_iff_not]; omega
      have hX0 : X = bodyF kind gen seq b := by
        rw [← HX.out]
        unfold bodyF
        rw [← HN.out, show 112 - n = j by omega]
      have HX0 := Lib.hid hX0
      clear hX0
      go_wp2_with fail
      refine (RSeal_calls A7 c7 (8 + n + j) X HL7.out.symm (by omega) hA7 wr HR7.out).mono ?_
      rintro e w8 ⟨v8, rfl, hv8, hb8⟩
      have HB8 := Lib.hid (HB.out.trans (hb8.mono HB.out.size))
      have hv8 := Has.base hv8 HB.out.size
      obtain ⟨Y, hY⟩ : ∃ Y, X ++ lowB (crc X) = Y := ⟨_, rfl⟩
      rw [hY] at hv8
      have HV8 := Lib.hid hv8
      have hl8 : Y.length ≤ 200 := by rw [← hY, List.length_append, HL7.out]; simp [lowB]; omega
      have HY := Lib.hid hY
      have HL8 := Lib.hid hl8
      clear hv8 hb8 hl8 HV HB HR7 hY
      obtain ⟨Z8, hZ8⟩ : ∃ Z, Y = Z := ⟨_, rfl⟩
      rw [hZ8] at HV8
      have hz8 : Z8.length ≤ 210 := by rw [← hZ8]; have := HL8.out; simp; omega
      have HZ8 := Lib.hid hZ8
      have HLz8 := Lib.hid hz8
      clear hZ8 hz8
      go_wp2_with (at_builtin; refine wpList_app rfl _ _ 23 rfl w.heap.size 5 (.int .u8 0) 1 Try.underlying23 infoB rfl _ (bys Z8) rfl ?hOwn _ _ _ (bys [0]) rfl rfl ?hNil ?hRd (bys_one _) ?hCap ?hCap2 ?hBase ?_)
      case hOwn => exact HV8.out.below ((Below.refl _ _).alloc (Nat.le_refl _) _)
      case hNil => exact fun h => nomatch h
      case hRd => exact Rd.mark _ _ _
      case hCap => have := HLz8.out; rw [bys_length, bys_length]; simp [maxLen]; omega
      case hCap2 => have := HLz8.out; rw [bys_length, bys_length]; simp; omega
      case hBase => have := HB8.out.size; simp; omega
      intro v9 w9 hv9 hg9
      have hB9 := (HB8.out.alloc HB8.out.size (.cells #[Value.int IntKind.u8 0] 5)).grown hg9 (by have := HB8.out.size; simp; omega) (fun k e => (HV8.out.blk k e).1)
      have HB9 := Lib.hid hB9
      have hw9 : Has w.heap.size 5 v9 (bys (Y ++ [0])) w9 := by
        rw [HZ8.out, bys_append]
        exact hv9
      have HV9 := Lib.hid hw9
      clear hv9 hg9 hB9 hw9 HV8 HB8 HLz8 HZ8
      obtain ⟨Z9, hZ9⟩ : ∃ Z, Y ++ [0] = Z := ⟨_, rfl⟩
      rw [hZ9] at HV9
      have hz9 : Z9.length ≤ 210 := by rw [← hZ9]; have := HL8.out; simp; omega
      have HZ9 := Lib.hid hZ9
      have HLz9 := Lib.hid hz9
      clear hZ9 hz9
      go_wp2_with (at_builtin; refine wpList_app rfl _ _ 23 rfl w.heap.size 5 (.int .u8 0) 1 Try.underlying23 infoB rfl _ (bys Z9) rfl ?hOwn _ _ _ (bys [0]) rfl rfl ?hNil ?hRd (bys_one _) ?hCap ?hCap2 ?hBase ?_)
      case hOwn => exact HV9.out.below ((Below.refl _ _).alloc (Nat.le_refl _) _)
      case hNil => exact fun h => nomatch h
      case hRd => exact Rd.mark _ _ _
      case hCap => have := HLz9.out; rw [bys_length, bys_length]; simp [maxLen]; omega
      case hCap2 => have := HLz9.out; rw [bys_length, bys_length]; simp; omega
      case hBase => have := HB9.out.size; simp; omega
      intro v10 w10 hv10 hg10
      have hB10 := (HB9.out.alloc HB9.out.size (.cells #[Value.int IntKind.u8 0] 5)).grown hg10 (by have := HB9.out.size; simp; omega) (fun k e => (HV9.out.blk k e).1)
      have HB10 := Lib.hid hB10
      have hw10 : Has w.heap.size 5 v10 (bys (Y ++ [0] ++ [0])) w10 := by
        rw [HZ9.out, bys_append]
        exact hv10
      have HV10 := Lib.hid hw10
      clear hv10 hg10 hB10 hw10 HV9 HB9 HLz9 HZ9
      obtain ⟨Z10, hZ10⟩ : ∃ Z, Y ++ [0] ++ [0] = Z := ⟨_, rfl⟩
      rw [hZ10] at HV10
      have hz10 : Z10.length ≤ 210 := by rw [← hZ10]; have := HL8.out; simp; omega
      have HZ10 := Lib.hid hZ10
      have HLz10 := Lib.hid hz10
      clear hZ10 hz10
      go_wp2_with (at_builtin; refine wpList_app rfl _ _ 23 rfl w.heap.size 5 (.int .u8 0) 1 Try.underlying23 infoB rfl _ (bys Z10) rfl ?hOwn _ _ _ (bys [0]) rfl rfl ?hNil ?hRd (bys_one _) ?hCap ?hCap2 ?hBase ?_)
      case hOwn => exact HV10.out.below ((Below.refl _ _).alloc (Nat.le_refl _) _)
      case hNil => exact fun h => nomatch h
      case hRd => exact Rd.mark _ _ _
      case hCap => have := HLz10.out; rw [bys_length, bys_length]; simp [maxLen]; omega
      case hCap2 => have := HLz10.out; rw [bys_length, bys_length]; simp; omega
      case hBase => have := HB10.out.size; simp; omega
      intro v11 w11 hv11 hg11
      have hB11 := (HB10.out.alloc HB10.out.size (.cells #[Value.int IntKind.u8 0] 5)).grown hg11 (by have := HB10.out.size; simp; omega) (fun k e => (HV10.out.blk k e).1)
      have HB11 := Lib.hid hB11
      have hw11 : Has w.heap.size 5 v11 (bys (Y ++ [0] ++ [0] ++ [0])) w11 := by
        rw [HZ10.out, bys_append]
        exact hv11
      have HV11 := Lib.hid hw11
      clear hv11 hg11 hB11 hw11 HV10 HB10 HLz10 HZ10
      obtain ⟨Z11, hZ11⟩ : ∃ Z, Y ++ [0] ++ [0] ++ [0] = Z := ⟨_, rfl⟩
      rw [hZ11] at HV11
      have hz11 : Z11.length ≤ 210 := by rw [← hZ11]; have := HL8.out; simp; omega
      have HZ11 := Lib.hid hZ11
      have HLz11 := Lib.hid hz11
      clear hZ11 hz11
      go_wp2_with (at_builtin; refine wpList_app rfl _ _ 23 rfl w.heap.size 5 (.int .u8 0) 1 Try.underlying23 infoB rfl _ (bys Z11) rfl ?hOwn _ _ _ (bys [69]) rfl rfl ?hNil ?hRd (bys_one _) ?hCap ?hCap2 ?hBase ?_)
      case hOwn => exact HV11.out.below ((Below.refl _ _).alloc (Nat.le_refl _) _)
      case hNil => exact fun h => nomatch h
      case hRd => exact Rd.mark _ _ _
      case hCap => have := HLz11.out; rw [bys_length, bys_length]; simp [maxLen]; omega
      case hCap2 => have := HLz11.out; rw [bys_length, bys_length]; simp; omega
      case hBase => have := HB11.out.size; simp; omega
      intro v12 w12 hv12 hg12
      have hB12 := (HB11.out.alloc HB11.out.size (.cells #[Value.int IntKind.u8 69] 5)).grown hg12 (by have := HB11.out.size; simp; omega) (fun k e => (HV11.out.blk k e).1)
      have HB12 := Lib.hid hB12
      have hw12 : Has w.heap.size 5 v12 (bys (Y ++ [0] ++ [0] ++ [0] ++ [69])) w12 := by
        rw [HZ11.out, bys_append]
        exact hv12
      have HV12 := Lib.hid hw12
      clear hv12 hg12 hB12 hw12 HV11 HB11 HLz11 HZ11
      go_wp2_with fail
      go_ret2
      refine ⟨v12, rfl, ?_, HB12.out⟩
      have h12 := HV12.out
      unfold blockF sealF
      rw [← HX0.out, HY.out, show Y ++ [0, 0, 0, 69] = Y ++ [0] ++ [0] ++ [0] ++ [69] by simp]
      exact h12
end Go.Proofs.Ytmlgkahadgpaiaa.Fr
