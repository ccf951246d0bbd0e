/- Chapter 08: the reference's Read, where the sum is right. -/
import Derived.Test.YtmlgkahadgpaiaaFrQ
namespace Go.Proofs.Ytmlgkahadgpaiaa.Fr
open Go.RowKit _root_.Go.Proofs.Ytmlgkahadgpaiaa.Own
set_option linter.unusedVariables false
set_option linter.unusedSimpArgs false
theorem seq_bytes (X : List UInt8) (b5 b6 : UInt8) (h5 : X[5]? = some b5) (h6 : X[6]? = some b6) : seqF X = b5.toNat * 256 + b6.toNat := by
  have : ((X.drop 1).drop 4).take 2 = [b5, b6] := by
    apply List.ext_getElem?
    intro i
    rw [List.getElem?_take, List.getElem?_drop, List.getElem?_drop]
    match i with
    | 0 => simpa using h5
    | 1 => simpa using h6
    | i + 2 => rw [if_neg (by omega)]; rfl
  unfold seqF
  rw [this]
  simp [val]
theorem wr1 (V : Nat) (h : V < 16777216) : IntKind.i64.wrap (256 * (V : Int)) = 256 * (V : Int) := by rw [IntKind.wrap_i64]; omega
theorem wr2 (V : Nat) (h : V < 16777216) (b : UInt8) : IntKind.i64.wrap (256 * (V : Int) + nB b) = ((V * 256 + b.toNat : Nat) : Int) := by have := b.toNat_lt; unfold nB; rw [IntKind.wrap_i64]; omega
theorem wr3 (b : UInt8) : wrap64 (nB b) = nB b := by have := b.toNat_lt; unfold wrap64 nB; omega
theorem wr4 (b : UInt8) : IntKind.i64.wrap (nB b) = nB b := by have := b.toNat_lt; unfold nB; rw [IntKind.wrap_i64]; omega
theorem wr5 (b : UInt8) : IntKind.i64.wrap (256 * nB b) = 256 * nB b := by have := b.toNat_lt; unfold nB; rw [IntKind.wrap_i64]; omega
theorem wr6 (b c : UInt8) : IntKind.i64.wrap (256 * nB b + nB c) = ((b.toNat * 256 + c.toNat : Nat) : Int) := by have := b.toNat_lt; have := c.toNat_lt; unfold nB; rw [IntKind.wrap_i64]; omega
theorem wr7 (j : Nat) (h : j < 4) : IntKind.i64.wrap (((j + 1 : Nat) : Int) + 1) = ((j + 1 + 1 : Nat) : Int) := by rw [IntKind.wrap_i64]; omega
theorem wr8 (N : Nat) (h : N ≤ 112) : IntKind.i64.wrap (8 + (N : Int)) = 8 + (N : Int) := by rw [IntKind.wrap_i64]; omega
theorem val_small (xs : List UInt8) (h : xs.length ≤ 3) : val xs < 16777216 := Nat.lt_of_lt_of_le (val_lt _) (Nat.pow_le_pow_right (by decide) h)
theorem val_mid (xs : List UInt8) (h : xs.length ≤ 4) : val xs < 4294967296 := Nat.lt_of_lt_of_le (val_lt _) (Nat.pow_le_pow_right (by decide) h)
theorem two_small (b c : UInt8) : b.toNat * 256 + c.toNat ≤ 65535 := by have := b.toNat_lt; have := c.toNat_lt; omega
theorem gt_gen {G : Nat} (h : G > 2147483647) : ((G : Int) < 0 ∨ (G : Int) > 2147483647) := by omega
theorem gt_cast {N : Nat} (h : N > 112) : (N : Int) > 112 := by omega
theorem le_cast {N : Nat} (h : N ≤ 112) : ¬ (N : Int) > 112 := by omega
theorem len_bytes (X : List UInt8) (b7 : UInt8) (h7 : X[7]? = some b7) : lenF X = b7.toNat := by
  have : (((X.drop 1).drop 4).drop 2).take 1 = [b7] := by
    apply List.ext_getElem?
    intro i
    rw [List.getElem?_take, List.getElem?_drop, List.getElem?_drop, List.getElem?_drop]
    match i with
    | 0 => simpa using h7
    | i + 1 => rw [if_neg (by omega)]; rfl
  unfold lenF
  rw [this]
  simp [val]
set_option maxRecDepth 10000 in
set_option maxHeartbeats 4000000 in
theorem RReadLen_calls (kind : UInt8) (a : Addr) (c : Nat) (blk : List UInt8) (hb : blk.length = 128) (hc : 128 ≤ c) (w : World) (hR : Rd w (some a) (bys blk)) (hf : formB kind blk) (hk : ckB blk = true) (hm : lenF (blk.take 120) > 112) :
    Calls Try.prog 67 #[.int .u8 (nB kind), .slice (some a) 128 c] w fun e w' => e = .returned (.tuple #[.int .i64 0, .int .i64 0, .slice none 0 0, .int .i64 3]) ∧ Below w.heap.size w w' := by
  have HK := Lib.hid ((ck_eq blk hb).trans hk)
  have HM := Lib.hid hm
  clear hk hm
  have HF := Lib.hid hf
  obtain ⟨b0, e0, e1, e2, e3, p0, p1, p2, p3, p4, q0, q1, q2, q3, q4⟩ := form_cells2 hb hR
  unfold formB at hf
  rw [p0, p1, p2, p3, p4] at hf
  simp only [Option.some.injEq] at hf
  obtain ⟨rfl, rfl, rfl, rfl, rfl⟩ := hf
  rw [show nB 0 = 0 from rfl] at q1 q2 q3
  rw [show nB 69 = 69 from rfl] at q4
  have HR := Lib.hid hR
  have hl120 : (blk.take 120).length = 120 := by rw [List.length_take]; omega
  have hl124 : (blk.take 124).length = 124 := by rw [List.length_take]; omega
  have HL := Lib.hid (And.intro hl120 hl124)
  clear p0 p1 p2 p3 p4 hR hl120 hl124
  have hc2 : 120 ≤ c := by omega
  have hc3 : 124 ≤ c := by omega
  have hc4 : ¬ c = 0 := by omega
  have hc5 : (120 : Int) ≤ (c : Int) := by omega
  have hc6 : (124 : Int) ≤ (c : Int) := by omega
  go_enter Try.func67, Try.ntmps67
  go_wp2
  have K := fun (W : World) (hb' : Below w.heap.size w W) => run_string_of (w := W) Try.underlying23 Try.underlying5 Try.underlying9 (some a) 124 c (blk.take 124) HL.out.2.symm (fun h => nomatch h) ((HR.out.at_take 124).below hb')
  obtain ⟨J, hJ⟩ : ∃ J : World → Prop, ∀ W, J W ↔ Below w.heap.size w W := ⟨_, fun _ => Iff.rfl⟩
  have K := fun W h => K W ((hJ W).1 h)
  have HJ := Lib.hid hJ
  have hj := (HJ.out w.drew).2 ((Below.refl _ _).drew)
  clear hJ q0 q1 q2 q3 q4
  refine Turn.region_seq [0, 1, 4, 5, 6, 2, 3, 7] (fun i => i == 2 || i == 3) J (by kernel_rfl) (by kernel_rfl) hj ?_
  repeat (first | (apply Turn.seq_yes; (· simp only [List.getElem?_toArray, List.getElem?_cons_succ, List.getElem?_cons_zero]; rfl); (· rfl); (· go_simp); (· intro w1 h1; have K1 := K w1 h1; go_simp; exact ⟨rfl, h1⟩); (· go_simp; rfl)) | (apply Turn.seq_no; (· simp only [List.getElem?_toArray, List.getElem?_cons_succ, List.getElem?_cons_zero]; rfl); (· go_simp); (· go_simp; rfl)))
  apply Turn.seq_call
  · simp only [List.getElem?_toArray, List.getElem?_cons_succ, List.getElem?_cons_zero]; rfl
  · rfl
  · go_simp
  · intro v; go_simp; rfl
  go_simp
  refine (RSeal_calls (some a) c 120 (blk.take 120) HL.out.1.symm (by decide) (fun h => nomatch h) _ ((HR.out.at_take 120).below ((HJ.out _).1 hj))).mono ?_
  rintro e w3 ⟨v3, rfl, hv3, hb3⟩
  have hj3 := (HJ.out _).2 (((HJ.out _).1 hj).trans (hb3.mono ((HJ.out _).1 hj).size))
  have hll : (blk.take 120 ++ lowB (crc (blk.take 120))).length = 124 := by rw [List.length_append, HL.out.1]; rfl
  obtain ⟨g3, c3, rfl, hc3', -, -, -, hr3⟩ := Has.row hv3 123 hll
  have kx := run_string_of (w := w3) Try.underlying23 Try.underlying5 Try.underlying9 (some ⟨g3, 0, none⟩) 124 c3 (blk.take 120 ++ lowB (crc (blk.take 120))) hll.symm (fun h => nomatch h) hr3
  clear hv3 hb3 hr3 hll hj
  refine ⟨_, rfl, hj3, ?_⟩
  repeat (first | (apply Turn.seq_yes; (· simp only [List.getElem?_toArray, List.getElem?_cons_succ, List.getElem?_cons_zero]; rfl); (· rfl); (· go_simp); (· intro w1 h1; have K1 := K w1 h1; go_simp; exact ⟨rfl, h1⟩); (· go_simp; rfl)) | (apply Turn.seq_no; (· simp only [List.getElem?_toArray, List.getElem?_cons_succ, List.getElem?_cons_zero]; rfl); (· go_simp); (· go_simp; rfl)))
  apply Turn.seq_call
  · simp only [List.getElem?_toArray, List.getElem?_cons_succ, List.getElem?_cons_zero]; rfl
  · rfl
  · go_simp
  · intro v; go_simp; rfl
  go_simp
  refine ⟨hj3, ?_⟩
  clear kx
  have heq : (blk.take 120 ++ lowB (crc (blk.take 120)) == blk.take 124) = true := HK.out
  have heq2 := beq_iff_eq.1 heq
  repeat (first | (apply Turn.seq_yes; (· simp only [List.getElem?_toArray, List.getElem?_cons_succ, List.getElem?_cons_zero]; rfl); (· rfl); (· go_simp); (· intro w1 h1; have K1 := K w1 h1; go_simp; exact ⟨rfl, h1⟩); (· go_simp; rfl)) | (apply Turn.seq_no; (· simp only [List.getElem?_toArray, List.getElem?_cons_succ, List.getElem?_cons_zero]; rfl); (· go_simp); (· go_simp; rfl)))
  apply Turn.seq_nil
  have H3 := Lib.hid ((HJ.out _).1 hj3)
  clear K HJ hj3 heq heq2
  go_wp2_with fail
  have HB3 := Lib.hid (HR.out.below H3.out)
  have hcells : ∀ i, 0 < i → i < 120 → ∃ b, (blk.take 120)[i]? = some b ∧ w3.cell? ⟨a.block, a.off + i, none⟩ = some (.int .u8 (nB b)) := by
    intro i h0 hi
    obtain ⟨a', ha, hcell⟩ := HB3.out.byte (k := i) (by omega)
    cases ha
    rw [add_pos _ _ h0] at hcell
    exact ⟨blk[i]'(by omega), by rw [List.getElem?_take, if_pos hi]; exact List.getElem?_eq_getElem _, hcell⟩
  have HC := Lib.hid hcells
  clear hcells
  obtain ⟨X, hX⟩ : ∃ X, blk.take 120 = X := ⟨_, rfl⟩
  rw [hX] at HC HL HM
  have HX := Lib.hid hX
  clear hX
  go_loopw [8, 9] (fun v8 v9 wr => ∃ j : Nat, j ≤ 4 ∧ v9 = .int .i64 ((j + 1 : Nat) : Int) ∧ v8 = .int .i64 ((val ((X.drop 1).take j) : Nat) : Int) ∧ w3 = wr) (fun _ v9 _ => 5 - (intOf v9).toNat)
  case atStart => exact ⟨0, by decide, rfl, rfl, rfl⟩
  case round =>
    obtain ⟨j, hj, rfl, rfl, rfl⟩ := hrel
    by_cases hlt : j < 4
    · have hd : decide (((j + 1 : Nat) : Int) < 5) = true := by rw [decide_eq_true_eq]; omega
      obtain ⟨b, hb1, hb2⟩ := HC.out (j + 1) (by omega) (by omega)
      obtain ⟨V, hV⟩ : ∃ V, val ((X.drop 1).take j) = V := ⟨_, rfl⟩
      have HVb := Lib.hid (show V < 16777216 by rw [← hV]; exact val_small _ (by rw [List.length_take]; omega))
      have hnext : val ((X.drop 1).take (j + 1)) = V * 256 + b.toNat := by
        rw [List.take_add_one, List.getElem?_drop, Nat.add_comm 1 j, hb1, ← hV]
        exact val_snoc _ _
      have HNx := Lib.hid hnext
      clear hb1 hnext
      rw [hV]
      clear hV
      have f1 := wr1 V HVb.out
      have f2 := wr2 V HVb.out b
      have f3 := wr3 b
      have f33 := wr4 b
      have f4 := wr7 j hlt
      have hj1 : ((j + 1 : Nat) : Int) < 128 := by omega
      have hj2 : j + 1 < 128 := by omega
      have hj3 : 0 ≤ ((j + 1 : Nat) : Int) := by omega
      have hadd : a.add (j + 1) = ⟨a.block, a.off + (j + 1), none⟩ := add_pos a (j + 1) (by omega)
      go_wp2_with fail
      go_roundw
      case rel => exact ⟨j + 1, by omega, by simp, by rw [HNx.out]; first | rfl | simp, trivial⟩
      case measure => simp [intOf]; omega
    · have hd : decide (((j + 1 : Nat) : Int) < 5) = false := by rw [decide_eq_false_iff_not]; omega
      obtain rfl : j = 4 := by omega
      rw [show val ((X.drop 1).take 4) = genF X from rfl]
      obtain ⟨G, hG⟩ : ∃ G, genF X = G := ⟨_, rfl⟩
      have hGb : G < 4294967296 := by rw [← hG]; exact val_mid _ (by rw [List.length_take]; omega)
      try rw [hG] at HM
      rw [hG]
      have HG := Lib.hid hG
      have HGb := Lib.hid hGb
      clear hG hGb
      obtain ⟨b5, p5, q5⟩ := HC.out 5 (by decide) (by decide)
      obtain ⟨b6, p6, q6⟩ := HC.out 6 (by decide) (by decide)
      obtain ⟨b7, p7, q7⟩ := HC.out 7 (by decide) (by decide)
      have hS := seq_bytes X b5 b6 p5 p6
      have hN := len_bytes X b7 p7
      have HS := Lib.hid hS
      have HN := Lib.hid hN
      try rw [hN] at HM
      have HSb := Lib.hid (two_small b5 b6)
      clear hS hN p5 p6 p7
      have K := fun (W : World) (h : Below w3.heap.size w3 W) => And.intro (form_below h q5) (form_below h q6)
      obtain ⟨J2, hJ2⟩ : ∃ J : World → Prop, ∀ W, J W ↔ Below w3.heap.size w3 W := ⟨_, fun _ => Iff.rfl⟩
      have K := fun W h => K W ((hJ2 W).1 h)
      have HJ2 := Lib.hid hJ2
      have hjJ := (HJ2.out w3.drew).2 ((Below.refl _ _).drew)
      clear hJ2 q5 q6
      have f5 := wr3 b5
      have f6 := wr3 b6
      have f7 := wr3 b7
      have f55 := wr4 b5
      have f66 := wr4 b6
      have f77 := wr4 b7
      have f8 := wr5 b5
      have f9 := wr6 b5 b6
      go_wp2
      refine region_inv J2 (by kernel_rfl) (by kernel_rfl) hjJ ?_
      repeat (first | (apply inv_yes; (· go_simp); (· intro w1 h1; obtain ⟨z0, z1⟩ := K w1 h1; go_simp; exact ⟨rfl, h1⟩); (· go_simp; rfl)) | (apply inv_no; (· go_simp); (· go_simp; rfl)))
      refine wpInv_nil (fun w4 h4 => ?_)
      have hb34 := (HJ2.out _).1 h4
      have H4 := Lib.hid (H3.out.trans (hb34.mono H3.out.size))
      have q7 := form_below hb34 q7
      have HB4 := Lib.hid (HB3.out.below hb34)
      clear K HJ2 h4 hjJ hb34
      have f10 : nB b7 = ((b7.toNat : Nat) : Int) := rfl
      rw [f10] at q7 f7
      obtain ⟨N, hN⟩ : ∃ N, b7.toNat = N := ⟨_, rfl⟩
      obtain ⟨S, hS⟩ : ∃ S, b5.toNat * 256 + b6.toNat = S := ⟨_, rfl⟩
      rw [f10] at f77
      rw [hN] at q7 f7 f77 HN
      try rw [hN] at HM
      have hSi : (b5.toNat : Int) * 256 + (b6.toNat : Int) = (S : Int) := by rw [← hS]; simp
      rw [hS] at HS HSb
      first | rw [hS] | (push_cast; rw [hSi]) | skip
      try rw [hSi]
      clear hN hS hSi f10 f5 f6 f55 f66 f8 f9
      have m1 : decide ((N : Int) > 112) = true := decide_eq_true (gt_cast HM.out)
      go_wp2_with fail
      (try simp only [Exit.inBlock, Exit.then])
      refine bodyPost_ret (results_tmp4 rfl _ _ _) rfl ?_
      exact ⟨rfl, H4.out⟩
set_option maxRecDepth 10000 in
set_option maxHeartbeats 4000000 in
theorem RReadGen_calls (kind : UInt8) (a : Addr) (c : Nat) (blk : List UInt8) (hb : blk.length = 128) (hc : 128 ≤ c) (w : World) (hR : Rd w (some a) (bys blk)) (hf : formB kind blk) (hk : ckB blk = true) (hm : lenF (blk.take 120) ≤ 112 ∧ genF (blk.take 120) > 2147483647) :
    Calls Try.prog 67 #[.int .u8 (nB kind), .slice (some a) 128 c] w fun e w' => e = .returned (.tuple #[.int .i64 0, .int .i64 0, .slice none 0 0, .int .i64 3]) ∧ Below w.heap.size w w' := by
  have HK := Lib.hid ((ck_eq blk hb).trans hk)
  have HM := Lib.hid hm
  clear hk hm
  have HF := Lib.hid hf
  obtain ⟨b0, e0, e1, e2, e3, p0, p1, p2, p3, p4, q0, q1, q2, q3, q4⟩ := form_cells2 hb hR
  unfold formB at hf
  rw [p0, p1, p2, p3, p4] at hf
  simp only [Option.some.injEq] at hf
  obtain ⟨rfl, rfl, rfl, rfl, rfl⟩ := hf
  rw [show nB 0 = 0 from rfl] at q1 q2 q3
  rw [show nB 69 = 69 from rfl] at q4
  have HR := Lib.hid hR
  have hl120 : (blk.take 120).length = 120 := by rw [List.length_take]; omega
  have hl124 : (blk.take 124).length = 124 := by rw [List.length_take]; omega
  have HL := Lib.hid (And.intro hl120 hl124)
  clear p0 p1 p2 p3 p4 hR hl120 hl124
  have hc2 : 120 ≤ c := by omega
  have hc3 : 124 ≤ c := by omega
  have hc4 : ¬ c = 0 := by omega
  have hc5 : (120 : Int) ≤ (c : Int) := by omega
  have hc6 : (124 : Int) ≤ (c : Int) := by omega
  go_enter Try.func67, Try.ntmps67
  go_wp2
  have K := fun (W : World) (hb' : Below w.heap.size w W) => run_string_of (w := W) Try.underlying23 Try.underlying5 Try.underlying9 (some a) 124 c (blk.take 124) HL.out.2.symm (fun h => nomatch h) ((HR.out.at_take 124).below hb')
  obtain ⟨J, hJ⟩ : ∃ J : World → Prop, ∀ W, J W ↔ Below w.heap.size w W := ⟨_, fun _ => Iff.rfl⟩
  have K := fun W h => K W ((hJ W).1 h)
  have HJ := Lib.hid hJ
  have hj := (HJ.out w.drew).2 ((Below.refl _ _).drew)
  clear hJ q0 q1 q2 q3 q4
  refine Turn.region_seq [0, 1, 4, 5, 6, 2, 3, 7] (fun i => i == 2 || i == 3) J (by kernel_rfl) (by kernel_rfl) hj ?_
  repeat (first | (apply Turn.seq_yes; (· simp only [List.getElem?_toArray, List.getElem?_cons_succ, List.getElem?_cons_zero]; rfl); (· rfl); (· go_simp); (· intro w1 h1; have K1 := K w1 h1; go_simp; exact ⟨rfl, h1⟩); (· go_simp; rfl)) | (apply Turn.seq_no; (· simp only [List.getElem?_toArray, List.getElem?_cons_succ, List.getElem?_cons_zero]; rfl); (· go_simp); (· go_simp; rfl)))
  apply Turn.seq_call
  · simp only [List.getElem?_toArray, List.getElem?_cons_succ, List.getElem?_cons_zero]; rfl
  · rfl
  · go_simp
  · intro v; go_simp; rfl
  go_simp
  refine (RSeal_calls (some a) c 120 (blk.take 120) HL.out.1.symm (by decide) (fun h => nomatch h) _ ((HR.out.at_take 120).below ((HJ.out _).1 hj))).mono ?_
  rintro e w3 ⟨v3, rfl, hv3, hb3⟩
  have hj3 := (HJ.out _).2 (((HJ.out _).1 hj).trans (hb3.mono ((HJ.out _).1 hj).size))
  have hll : (blk.take 120 ++ lowB (crc (blk.take 120))).length = 124 := by rw [List.length_append, HL.out.1]; rfl
  obtain ⟨g3, c3, rfl, hc3', -, -, -, hr3⟩ := Has.row hv3 123 hll
  have kx := run_string_of (w := w3) Try.underlying23 Try.underlying5 Try.underlying9 (some ⟨g3, 0, none⟩) 124 c3 (blk.take 120 ++ lowB (crc (blk.take 120))) hll.symm (fun h => nomatch h) hr3
  clear hv3 hb3 hr3 hll hj
  refine ⟨_, rfl, hj3, ?_⟩
  repeat (first | (apply Turn.seq_yes; (· simp only [List.getElem?_toArray, List.getElem?_cons_succ, List.getElem?_cons_zero]; rfl); (· rfl); (· go_simp); (· intro w1 h1; have K1 := K w1 h1; go_simp; exact ⟨rfl, h1⟩); (· go_simp; rfl)) | (apply Turn.seq_no; (· simp only [List.getElem?_toArray, List.getElem?_cons_succ, List.getElem?_cons_zero]; rfl); (· go_simp); (· go_simp; rfl)))
  apply Turn.seq_call
  · simp only [List.getElem?_toArray, List.getElem?_cons_succ, List.getElem?_cons_zero]; rfl
  · rfl
  · go_simp
  · intro v; go_simp; rfl
  go_simp
  refine ⟨hj3, ?_⟩
  clear kx
  have heq : (blk.take 120 ++ lowB (crc (blk.take 120)) == blk.take 124) = true := HK.out
  have heq2 := beq_iff_eq.1 heq
  repeat (first | (apply Turn.seq_yes; (· simp only [List.getElem?_toArray, List.getElem?_cons_succ, List.getElem?_cons_zero]; rfl); (· rfl); (· go_simp); (· intro w1 h1; have K1 := K w1 h1; go_simp; exact ⟨rfl, h1⟩); (· go_simp; rfl)) | (apply Turn.seq_no; (· simp only [List.getElem?_toArray, List.getElem?_cons_succ, List.getElem?_cons_zero]; rfl); (· go_simp); (· go_simp; rfl)))
  apply Turn.seq_nil
  have H3 := Lib.hid ((HJ.out _).1 hj3)
  clear K HJ hj3 heq heq2
  go_wp2_with fail
  have HB3 := Lib.hid (HR.out.below H3.out)
  have hcells : ∀ i, 0 < i → i < 120 → ∃ b, (blk.take 120)[i]? = some b ∧ w3.cell? ⟨a.block, a.off + i, none⟩ = some (.int .u8 (nB b)) := by
    intro i h0 hi
    obtain ⟨a', ha, hcell⟩ := HB3.out.byte (k := i) (by omega)
    cases ha
    rw [add_pos _ _ h0] at hcell
    exact ⟨blk[i]'(by omega), by rw [List.getElem?_take, if_pos hi]; exact List.getElem?_eq_getElem _, hcell⟩
  have HC := Lib.hid hcells
  clear hcells
  obtain ⟨X, hX⟩ : ∃ X, blk.take 120 = X := ⟨_, rfl⟩
  rw [hX] at HC HL HM
  have HX := Lib.hid hX
  clear hX
  go_loopw [8, 9] (fun v8 v9 wr => ∃ j : Nat, j ≤ 4 ∧ v9 = .int .i64 ((j + 1 : Nat) : Int) ∧ v8 = .int .i64 ((val ((X.drop 1).take j) : Nat) : Int) ∧ w3 = wr) (fun _ v9 _ => 5 - (intOf v9).toNat)
  case atStart => exact ⟨0, by decide, rfl, rfl, rfl⟩
  case round =>
    obtain ⟨j, hj, rfl, rfl, rfl⟩ := hrel
    by_cases hlt : j < 4
    · have hd : decide (((j + 1 : Nat) : Int) < 5) = true := by rw [decide_eq_true_eq]; omega
      obtain ⟨b, hb1, hb2⟩ := HC.out (j + 1) (by omega) (by omega)
      obtain ⟨V, hV⟩ : ∃ V, val ((X.drop 1).take j) = V := ⟨_, rfl⟩
      have HVb := Lib.hid (show V < 16777216 by rw [← hV]; exact val_small _ (by rw [List.length_take]; omega))
      have hnext : val ((X.drop 1).take (j + 1)) = V * 256 + b.toNat := by
        rw [List.take_add_one, List.getElem?_drop, Nat.add_comm 1 j, hb1, ← hV]
        exact val_snoc _ _
      have HNx := Lib.hid hnext
      clear hb1 hnext
      rw [hV]
      clear hV
      have f1 := wr1 V HVb.out
      have f2 := wr2 V HVb.out b
      have f3 := wr3 b
      have f33 := wr4 b
      have f4 := wr7 j hlt
      have hj1 : ((j + 1 : Nat) : Int) < 128 := by omega
      have hj2 : j + 1 < 128 := by omega
      have hj3 : 0 ≤ ((j + 1 : Nat) : Int) := by omega
      have hadd : a.add (j + 1) = ⟨a.block, a.off + (j + 1), none⟩ := add_pos a (j + 1) (by omega)
      go_wp2_with fail
      go_roundw
      case rel => exact ⟨j + 1, by omega, by simp, by rw [HNx.out]; first | rfl | simp, trivial⟩
      case measure => simp [intOf]; omega
    · have hd : decide (((j + 1 : Nat) : Int) < 5) = false := by rw [decide_eq_false_iff_not]; omega
      obtain rfl : j = 4 := by omega
      rw [show val ((X.drop 1).take 4) = genF X from rfl]
      obtain ⟨G, hG⟩ : ∃ G, genF X = G := ⟨_, rfl⟩
      have hGb : G < 4294967296 := by rw [← hG]; exact val_mid _ (by rw [List.length_take]; omega)
      try rw [hG] at HM
      rw [hG]
      have HG := Lib.hid hG
      have HGb := Lib.hid hGb
      clear hG hGb
      obtain ⟨b5, p5, q5⟩ := HC.out 5 (by decide) (by decide)
      obtain ⟨b6, p6, q6⟩ := HC.out 6 (by decide) (by decide)
      obtain ⟨b7, p7, q7⟩ := HC.out 7 (by decide) (by decide)
      have hS := seq_bytes X b5 b6 p5 p6
      have hN := len_bytes X b7 p7
      have HS := Lib.hid hS
      have HN := Lib.hid hN
      try rw [hN] at HM
      have HSb := Lib.hid (two_small b5 b6)
      clear hS hN p5 p6 p7
      have K := fun (W : World) (h : Below w3.heap.size w3 W) => And.intro (form_below h q5) (form_below h q6)
      obtain ⟨J2, hJ2⟩ : ∃ J : World → Prop, ∀ W, J W ↔ Below w3.heap.size w3 W := ⟨_, fun _ => Iff.rfl⟩
      have K := fun W h => K W ((hJ2 W).1 h)
      have HJ2 := Lib.hid hJ2
      have hjJ := (HJ2.out w3.drew).2 ((Below.refl _ _).drew)
      clear hJ2 q5 q6
      have f5 := wr3 b5
      have f6 := wr3 b6
      have f7 := wr3 b7
      have f55 := wr4 b5
      have f66 := wr4 b6
      have f77 := wr4 b7
      have f8 := wr5 b5
      have f9 := wr6 b5 b6
      go_wp2
      refine region_inv J2 (by kernel_rfl) (by kernel_rfl) hjJ ?_
      repeat (first | (apply inv_yes; (· go_simp); (· intro w1 h1; obtain ⟨z0, z1⟩ := K w1 h1; go_simp; exact ⟨rfl, h1⟩); (· go_simp; rfl)) | (apply inv_no; (· go_simp); (· go_simp; rfl)))
      refine wpInv_nil (fun w4 h4 => ?_)
      have hb34 := (HJ2.out _).1 h4
      have H4 := Lib.hid (H3.out.trans (hb34.mono H3.out.size))
      have q7 := form_below hb34 q7
      have HB4 := Lib.hid (HB3.out.below hb34)
      clear K HJ2 h4 hjJ hb34
      have f10 : nB b7 = ((b7.toNat : Nat) : Int) := rfl
      rw [f10] at q7 f7
      obtain ⟨N, hN⟩ : ∃ N, b7.toNat = N := ⟨_, rfl⟩
      obtain ⟨S, hS⟩ : ∃ S, b5.toNat * 256 + b6.toNat = S := ⟨_, rfl⟩
      rw [f10] at f77
      rw [hN] at q7 f7 f77 HN
      try rw [hN] at HM
      have hSi : (b5.toNat : Int) * 256 + (b6.toNat : Int) = (S : Int) := by rw [← hS]; simp
      rw [hS] at HS HSb
      first | rw [hS] | (push_cast; rw [hSi]) | skip
      try rw [hSi]
      clear hN hS hSi f10 f5 f6 f55 f66 f8 f9
      have hl112 : N ≤ 112 := HM.out.1
      have m1 : decide ((N : Int) > 112) = false := decide_eq_false (le_cast hl112)
      have f1 := wr8 N hl112
      have f2 : (8 + (N : Int)).toNat = 8 + N := by clear HM; omega
      have f3 : 0 ≤ 8 + (N : Int) ∧ 8 + (N : Int) ≤ (c : Int) := by omega
      have f4 : 8 + (N : Int) ≤ (c : Int) := f3.2
      have f4b : 0 ≤ 8 + (N : Int) := f3.1
      have f5 : (8 : Int) ≤ 8 + (N : Int) := by omega
      have f6 : (8 : Int) ≤ max (8 + (N : Int)) 0 := by omega
      have hc8 : ¬ c = 8 := by omega
      have f8 : 8 + N - 8 = N := by omega
      obtain ⟨B, hBq⟩ : ∃ B, ((blk.take 120).drop 8).take N = B := ⟨_, rfl⟩
      have hBl : B.length = N := by rw [← hBq, List.length_take, List.length_drop, List.length_take]; omega
      have hBR : Rd w4 (some ⟨a.block, a.off + 8, none⟩) (bys B) := by
        have h1 := (HB4.out.at_take 120).drop 8
        rw [show (bys (blk.take 120)).drop 8 = bys ((blk.take 120).drop 8) from by simp [bys, List.map_drop]] at h1
        simp only [Option.map_some, add_pos a 8 (by decide)] at h1
        have h2 := h1.at_take N
        rwa [hBq] at h2
      have HBl := Lib.hid hBl
      have HBR := Lib.hid hBR
      have HBq := Lib.hid hBq
      clear hBl hBR hBq
      go_wp2_with (at_builtin; refine wpList_app rfl _ _ 23 rfl w.heap.size 5 (.int .u8 0) 1 Try.underlying23 infoB rfl _ [] rfl ?hOwn _ _ _ (bys B) rfl ?hLen ?hNil ?hRd (bys_one _) ?hCap ?hCap2 ?hBase ?_)
      case hOwn => exact Has.lit _ w4 [] H4.out.size (by simp [maxLen])
      case hLen => rw [bys_length, HBl.out]
      case hNil => exact fun z => nomatch z
      case hRd => exact HBR.out.alloc _
      case hCap => rw [bys_length, HBl.out]; simp [maxLen]; omega
      case hCap2 => rw [bys_length, HBl.out]; simp; omega
      case hBase => have := H4.out.size; simp; omega
      intro v6 w6 hv6 hg6
      have H6 := Lib.hid ((H4.out.alloc H4.out.size (.cells #[] 5)).grown hg6 (by have := H4.out.size; simp; omega) (fun k e => by cases e; exact H4.out.size))
      obtain ⟨A6, c6, rfl, hc6', hA6, hR6⟩ := hv6.form
      rw [bys_length, HBl.out] at hc6' ⊢
      have HR6 := Lib.hid hR6
      clear hv6 hg6 hR6 f1 f2 f3 f4 f4b f5 f6 f8 m1 f7 f77 q7
      go_wp2_with fail
      have hgg := gt_gen HM.out.2
      refine (RWriteBad_calls b0 (G : Int) (S : Int) A6 N c6 8 (.inl ⟨by rcases hgg with h | h; exact .inl h; exact .inr (.inl h), rfl⟩) w6).mono ?_
      rintro e w7 ⟨rfl, hb7⟩
      have H7 := Lib.hid (H6.out.trans (hb7.mono H6.out.size))
      clear hb7 hgg
      go_wp2_with fail
      (try simp only [Exit.inBlock, Exit.then])
      refine bodyPost_ret (results_tmp4 rfl _ _ _) rfl ?_
      exact ⟨rfl, H7.out⟩
set_option maxRecDepth 10000 in
set_option maxHeartbeats 4000000 in
theorem RReadPad_calls (kind : UInt8) (a : Addr) (c : Nat) (blk : List UInt8) (hb : blk.length = 128) (hc : 128 ≤ c) (w : World) (hR : Rd w (some a) (bys blk)) (hf : formB kind blk) (hk : ckB blk = true) (hm : lenF (blk.take 120) ≤ 112 ∧ genF (blk.take 120) ≤ 2147483647 ∧ ¬ padZ (blk.take 120)) :
    Calls Try.prog 67 #[.int .u8 (nB kind), .slice (some a) 128 c] w fun e w' => e = .returned (.tuple #[.int .i64 0, .int .i64 0, .slice none 0 0, .int .i64 3]) ∧ Below w.heap.size w w' := by
  have HK := Lib.hid ((ck_eq blk hb).trans hk)
  have HM := Lib.hid hm
  clear hk hm
  have HF := Lib.hid hf
  obtain ⟨b0, e0, e1, e2, e3, p0, p1, p2, p3, p4, q0, q1, q2, q3, q4⟩ := form_cells2 hb hR
  unfold formB at hf
  rw [p0, p1, p2, p3, p4] at hf
  simp only [Option.some.injEq] at hf
  obtain ⟨rfl, rfl, rfl, rfl, rfl⟩ := hf
  rw [show nB 0 = 0 from rfl] at q1 q2 q3
  rw [show nB 69 = 69 from rfl] at q4
  have HR := Lib.hid hR
  have hl120 : (blk.take 120).length = 120 := by rw [List.length_take]; omega
  have hl124 : (blk.take 124).length = 124 := by rw [List.length_take]; omega
  have HL := Lib.hid (And.intro hl120 hl124)
  clear p0 p1 p2 p3 p4 hR hl120 hl124
  have hc2 : 120 ≤ c := by omega
  have hc3 : 124 ≤ c := by omega
  have hc4 : ¬ c = 0 := by omega
  have hc5 : (120 : Int) ≤ (c : Int) := by omega
  have hc6 : (124 : Int) ≤ (c : Int) := by omega
  go_enter Try.func67, Try.ntmps67
  go_wp2
  have K := fun (W : World) (hb' : Below w.heap.size w W) => run_string_of (w := W) Try.underlying23 Try.underlying5 Try.underlying9 (some a) 124 c (blk.take 124) HL.out.2.symm (fun h => nomatch h) ((HR.out.at_take 124).below hb')
  obtain ⟨J, hJ⟩ : ∃ J : World → Prop, ∀ W, J W ↔ Below w.heap.size w W := ⟨_, fun _ => Iff.rfl⟩
  have K := fun W h => K W ((hJ W).1 h)
  have HJ := Lib.hid hJ
  have hj := (HJ.out w.drew).2 ((Below.refl _ _).drew)
  clear hJ q0 q1 q2 q3 q4
  refine Turn.region_seq [0, 1, 4, 5, 6, 2, 3, 7] (fun i => i == 2 || i == 3) J (by kernel_rfl) (by kernel_rfl) hj ?_
  repeat (first | (apply Turn.seq_yes; (· simp only [List.getElem?_toArray, List.getElem?_cons_succ, List.getElem?_cons_zero]; rfl); (· rfl); (· go_simp); (· intro w1 h1; have K1 := K w1 h1; go_simp; exact ⟨rfl, h1⟩); (· go_simp; rfl)) | (apply Turn.seq_no; (· simp only [List.getElem?_toArray, List.getElem?_cons_succ, List.getElem?_cons_zero]; rfl); (· go_simp); (· go_simp; rfl)))
  apply Turn.seq_call
  · simp only [List.getElem?_toArray, List.getElem?_cons_succ, List.getElem?_cons_zero]; rfl
  · rfl
  · go_simp
  · intro v; go_simp; rfl
  go_simp
  refine (RSeal_calls (some a) c 120 (blk.take 120) HL.out.1.symm (by decide) (fun h => nomatch h) _ ((HR.out.at_take 120).below ((HJ.out _).1 hj))).mono ?_
  rintro e w3 ⟨v3, rfl, hv3, hb3⟩
  have hj3 := (HJ.out _).2 (((HJ.out _).1 hj).trans (hb3.mono ((HJ.out _).1 hj).size))
  have hll : (blk.take 120 ++ lowB (crc (blk.take 120))).length = 124 := by rw [List.length_append, HL.out.1]; rfl
  obtain ⟨g3, c3, rfl, hc3', -, -, -, hr3⟩ := Has.row hv3 123 hll
  have kx := run_string_of (w := w3) Try.underlying23 Try.underlying5 Try.underlying9 (some ⟨g3, 0, none⟩) 124 c3 (blk.take 120 ++ lowB (crc (blk.take 120))) hll.symm (fun h => nomatch h) hr3
  clear hv3 hb3 hr3 hll hj
  refine ⟨_, rfl, hj3, ?_⟩
  repeat (first | (apply Turn.seq_yes; (· simp only [List.getElem?_toArray, List.getElem?_cons_succ, List.getElem?_cons_zero]; rfl); (· rfl); (· go_simp); (· intro w1 h1; have K1 := K w1 h1; go_simp; exact ⟨rfl, h1⟩); (· go_simp; rfl)) | (apply Turn.seq_no; (· simp only [List.getElem?_toArray, List.getElem?_cons_succ, List.getElem?_cons_zero]; rfl); (· go_simp); (· go_simp; rfl)))
  apply Turn.seq_call
  · simp only [List.getElem?_toArray, List.getElem?_cons_succ, List.getElem?_cons_zero]; rfl
  · rfl
  · go_simp
  · intro v; go_simp; rfl
  go_simp
  refine ⟨hj3, ?_⟩
  clear kx
  have heq : (blk.take 120 ++ lowB (crc (blk.take 120)) == blk.take 124) = true := HK.out
  have heq2 := beq_iff_eq.1 heq
  repeat (first | (apply Turn.seq_yes; (· simp only [List.getElem?_toArray, List.getElem?_cons_succ, List.getElem?_cons_zero]; rfl); (· rfl); (· go_simp); (· intro w1 h1; have K1 := K w1 h1; go_simp; exact ⟨rfl, h1⟩); (· go_simp; rfl)) | (apply Turn.seq_no; (· simp only [List.getElem?_toArray, List.getElem?_cons_succ, List.getElem?_cons_zero]; rfl); (· go_simp); (· go_simp; rfl)))
  apply Turn.seq_nil
  have H3 := Lib.hid ((HJ.out _).1 hj3)
  clear K HJ hj3 heq heq2
  go_wp2_with fail
  have HB3 := Lib.hid (HR.out.below H3.out)
  have hcells : ∀ i, 0 < i → i < 120 → ∃ b, (blk.take 120)[i]? = some b ∧ w3.cell? ⟨a.block, a.off + i, none⟩ = some (.int .u8 (nB b)) := by
    intro i h0 hi
    obtain ⟨a', ha, hcell⟩ := HB3.out.byte (k := i) (by omega)
    cases ha
    rw [add_pos _ _ h0] at hcell
    exact ⟨blk[i]'(by omega), by rw [List.getElem?_take, if_pos hi]; exact List.getElem?_eq_getElem _, hcell⟩
  have HC := Lib.hid hcells
  clear hcells
  obtain ⟨X, hX⟩ : ∃ X, blk.take 120 = X := ⟨_, rfl⟩
  rw [hX] at HC HL HM
  have HX := Lib.hid hX
  clear hX
  go_loopw [8, 9] (fun v8 v9 wr => ∃ j : Nat, j ≤ 4 ∧ v9 = .int .i64 ((j + 1 : Nat) : Int) ∧ v8 = .int .i64 ((val ((X.drop 1).take j) : Nat) : Int) ∧ w3 = wr) (fun _ v9 _ => 5 - (intOf v9).toNat)
  case atStart => exact ⟨0, by decide, rfl, rfl, rfl⟩
  case round =>
    obtain ⟨j, hj, rfl, rfl, rfl⟩ := hrel
    by_cases hlt : j < 4
    · have hd : decide (((j + 1 : Nat) : Int) < 5) = true := by rw [decide_eq_true_eq]; omega
      obtain ⟨b, hb1, hb2⟩ := HC.out (j + 1) (by omega) (by omega)
      obtain ⟨V, hV⟩ : ∃ V, val ((X.drop 1).take j) = V := ⟨_, rfl⟩
      have HVb := Lib.hid (show V < 16777216 by rw [← hV]; exact val_small _ (by rw [List.length_take]; omega))
      have hnext : val ((X.drop 1).take (j + 1)) = V * 256 + b.toNat := by
        rw [List.take_add_one, List.getElem?_drop, Nat.add_comm 1 j, hb1, ← hV]
        exact val_snoc _ _
      have HNx := Lib.hid hnext
      clear hb1 hnext
      rw [hV]
      clear hV
      have f1 := wr1 V HVb.out
      have f2 := wr2 V HVb.out b
      have f3 := wr3 b
      have f33 := wr4 b
      have f4 := wr7 j hlt
      have hj1 : ((j + 1 : Nat) : Int) < 128 := by omega
      have hj2 : j + 1 < 128 := by omega
      have hj3 : 0 ≤ ((j + 1 : Nat) : Int) := by omega
      have hadd : a.add (j + 1) = ⟨a.block, a.off + (j + 1), none⟩ := add_pos a (j + 1) (by omega)
      go_wp2_with fail
      go_roundw
      case rel => exact ⟨j + 1, by omega, by simp, by rw [HNx.out]; first | rfl | simp, trivial⟩
      case measure => simp [intOf]; omega
    · have hd : decide (((j + 1 : Nat) : Int) < 5) = false := by rw [decide_eq_false_iff_not]; omega
      obtain rfl : j = 4 := by omega
      rw [show val ((X.drop 1).take 4) = genF X from rfl]
      obtain ⟨G, hG⟩ : ∃ G, genF X = G := ⟨_, rfl⟩
      have hGb : G < 4294967296 := by rw [← hG]; exact val_mid _ (by rw [List.length_take]; omega)
      try rw [hG] at HM
      rw [hG]
      have HG := Lib.hid hG
      have HGb := Lib.hid hGb
      clear hG hGb
      obtain ⟨b5, p5, q5⟩ := HC.out 5 (by decide) (by decide)
      obtain ⟨b6, p6, q6⟩ := HC.out 6 (by decide) (by decide)
      obtain ⟨b7, p7, q7⟩ := HC.out 7 (by decide) (by decide)
      have hS := seq_bytes X b5 b6 p5 p6
      have hN := len_bytes X b7 p7
      have HS := Lib.hid hS
      have HN := Lib.hid hN
      try rw [hN] at HM
      have HSb := Lib.hid (two_small b5 b6)
      clear hS hN p5 p6 p7
      have K := fun (W : World) (h : Below w3.heap.size w3 W) => And.intro (form_below h q5) (form_below h q6)
      obtain ⟨J2, hJ2⟩ : ∃ J : World → Prop, ∀ W, J W ↔ Below w3.heap.size w3 W := ⟨_, fun _ => Iff.rfl⟩
      have K := fun W h => K W ((hJ2 W).1 h)
      have HJ2 := Lib.hid hJ2
      have hjJ := (HJ2.out w3.drew).2 ((Below.refl _ _).drew)
      clear hJ2 q5 q6
      have f5 := wr3 b5
      have f6 := wr3 b6
      have f7 := wr3 b7
      have f55 := wr4 b5
      have f66 := wr4 b6
      have f77 := wr4 b7
      have f8 := wr5 b5
      have f9 := wr6 b5 b6
      go_wp2
      refine region_inv J2 (by kernel_rfl) (by kernel_rfl) hjJ ?_
      repeat (first | (apply inv_yes; (· go_simp); (· intro w1 h1; obtain ⟨z0, z1⟩ := K w1 h1; go_simp; exact ⟨rfl, h1⟩); (· go_simp; rfl)) | (apply inv_no; (· go_simp); (· go_simp; rfl)))
      refine wpInv_nil (fun w4 h4 => ?_)
      have hb34 := (HJ2.out _).1 h4
      have H4 := Lib.hid (H3.out.trans (hb34.mono H3.out.size))
      have q7 := form_below hb34 q7
      have HB4 := Lib.hid (HB3.out.below hb34)
      clear K HJ2 h4 hjJ hb34
      have f10 : nB b7 = ((b7.toNat : Nat) : Int) := rfl
      rw [f10] at q7 f7
      obtain ⟨N, hN⟩ : ∃ N, b7.toNat = N := ⟨_, rfl⟩
      obtain ⟨S, hS⟩ : ∃ S, b5.toNat * 256 + b6.toNat = S := ⟨_, rfl⟩
      rw [f10] at f77
      rw [hN] at q7 f7 f77 HN
      try rw [hN] at HM
      have hSi : (b5.toNat : Int) * 256 + (b6.toNat : Int) = (S : Int) := by rw [← hS]; simp
      rw [hS] at HS HSb
      first | rw [hS] | (push_cast; rw [hSi]) | skip
      try rw [hSi]
      clear hN hS hSi f10 f5 f6 f55 f66 f8 f9
      have hl112 : N ≤ 112 := HM.out.1
      have m1 : decide ((N : Int) > 112) = false := decide_eq_false (le_cast hl112)
      have f1 := wr8 N hl112
      have f2 : (8 + (N : Int)).toNat = 8 + N := by clear HM; omega
      have f3 : 0 ≤ 8 + (N : Int) ∧ 8 + (N : Int) ≤ (c : Int) := by omega
      have f4 : 8 + (N : Int) ≤ (c : Int) := f3.2
      have f4b : 0 ≤ 8 + (N : Int) := f3.1
      have f5 : (8 : Int) ≤ 8 + (N : Int) := by omega
      have f6 : (8 : Int) ≤ max (8 + (N : Int)) 0 := by omega
      have hc8 : ¬ c = 8 := by omega
      have f8 : 8 + N - 8 = N := by omega
      obtain ⟨B, hBq⟩ : ∃ B, ((blk.take 120).drop 8).take N = B := ⟨_, rfl⟩
      have hBl : B.length = N := by rw [← hBq, List.length_take, List.length_drop, List.length_take]; omega
      have hBR : Rd w4 (some ⟨a.block, a.off + 8, none⟩) (bys B) := by
        have h1 := (HB4.out.at_take 120).drop 8
        rw [show (bys (blk.take 120)).drop 8 = bys ((blk.take 120).drop 8) from by simp [bys, List.map_drop]] at h1
        simp only [Option.map_some, add_pos a 8 (by decide)] at h1
        have h2 := h1.at_take N
        rwa [hBq] at h2
      have HBl := Lib.hid hBl
      have HBR := Lib.hid hBR
      have HBq := Lib.hid hBq
      clear hBl hBR hBq
      go_wp2_with (at_builtin; refine wpList_app rfl _ _ 23 rfl w.heap.size 5 (.int .u8 0) 1 Try.underlying23 infoB rfl _ [] rfl ?hOwn _ _ _ (bys B) rfl ?hLen ?hNil ?hRd (bys_one _) ?hCap ?hCap2 ?hBase ?_)
      case hOwn => exact Has.lit _ w4 [] H4.out.size (by simp [maxLen])
      case hLen => rw [bys_length, HBl.out]
      case hNil => exact fun z => nomatch z
      case hRd => exact HBR.out.alloc _
      case hCap => rw [bys_length, HBl.out]; simp [maxLen]; omega
      case hCap2 => rw [bys_length, HBl.out]; simp; omega
      case hBase => have := H4.out.size; simp; omega
      intro v6 w6 hv6 hg6
      have H6 := Lib.hid ((H4.out.alloc H4.out.size (.cells #[] 5)).grown hg6 (by have := H4.out.size; simp; omega) (fun k e => by cases e; exact H4.out.size))
      obtain ⟨A6, c6, rfl, hc6', hA6, hR6⟩ := hv6.form
      rw [bys_length, HBl.out] at hc6' ⊢
      have HR6 := Lib.hid hR6
      clear hv6 hg6 hR6 f1 f2 f3 f4 f4b f5 f6 f8 m1 f7 f77 q7
      go_wp2_with fail
      refine (RWriteOk_calls b0 G S HM.out.2.1 HSb.out A6 N c6 B HBl.out.symm hl112 hA6 w6 HR6.out).mono ?_
      rintro e w7 ⟨v7, rfl, hv7, hb7⟩
      have H7 := Lib.hid (H6.out.trans (hb7.mono H6.out.size))
      have HR7 := Lib.hid (HR6.out.below hb7)
      have hbL : (blockF b0 G S B).length = 128 := by unfold blockF sealF; rw [List.length_append, List.length_append, bodyF_length _ _ _ _ (by rw [HBl.out]; exact hl112)]; rfl
      obtain ⟨g7, c7, rfl, hc7, -, -, -, hr7⟩ := Has.row hv7 127 hbL
      have kx := run_string_of (w := w7) Try.underlying23 Try.underlying5 Try.underlying9 (some ⟨g7, 0, none⟩) 128 c7 (blockF b0 G S B) hbL.symm (fun h => nomatch h) hr7
      have ky := run_string_of (w := w7) Try.underlying23 Try.underlying5 Try.underlying9 (some a) 128 c blk hb.symm (fun h => nomatch h) (HR.out.below H7.out)
      clear hv7 hb7 hbL hr7
      have HW := write_of b0 blk hb HF.out (by rw [← ck_eq blk hb]; exact HK.out) (by rw [HX.out, HN.out]; exact hl112)
      rw [HX.out, HG.out, HS.out, HN.out] at HW
      rw [HX.out] at HBq
      rw [HBq.out] at HW
      have hne : (blockF b0 G S B == blk) = false := beq_eq_false_iff_ne.2 (fun e => HM.out.2.2 (HW.2 e))
      have hne2 : ¬ blockF b0 G S B = blk := fun e => HM.out.2.2 (HW.2 e)
      clear HW
      go_wp2_with fail
      (try simp only [Exit.inBlock, Exit.then])
      refine bodyPost_ret (results_tmp4 rfl _ _ _) rfl ?_
      exact ⟨rfl, H7.out⟩
set_option maxRecDepth 10000 in
set_option maxHeartbeats 4000000 in
theorem RReadOk_calls (kind : UInt8) (a : Addr) (c : Nat) (blk : List UInt8) (hb : blk.length = 128) (hc : 128 ≤ c) (w : World) (hR : Rd w (some a) (bys blk)) (hf : formB kind blk) (hk : ckB blk = true) (hm : lenF (blk.take 120) ≤ 112 ∧ genF (blk.take 120) ≤ 2147483647 ∧ padZ (blk.take 120)) :
    Calls Try.prog 67 #[.int .u8 (nB kind), .slice (some a) 128 c] w fun e w' => (∃ (A : Option Addr) (c2 : Nat), e = .returned (.tuple #[.int .i64 (genF (blk.take 120) : Nat), .int .i64 (seqF (blk.take 120) : Nat), .slice A (lenF (blk.take 120)) c2, .int .i64 0]) ∧ lenF (blk.take 120) ≤ c2 ∧ (A = none → c2 = 0) ∧ Rd w' A (bys (((blk.take 120).drop 8).take (lenF (blk.take 120))))) ∧ Below w.heap.size w w' := by
  have HK := Lib.hid ((ck_eq blk hb).trans hk)
  have HM := Lib.hid hm
  clear hk hm
  have HF := Lib.hid hf
  obtain ⟨b0, e0, e1, e2, e3, p0, p1, p2, p3, p4, q0, q1, q2, q3, q4⟩ := form_cells2 hb hR
  unfold formB at hf
  rw [p0, p1, p2, p3, p4] at hf
  simp only [Option.some.injEq] at hf
  obtain ⟨rfl, rfl, rfl, rfl, rfl⟩ := hf
  rw [show nB 0 = 0 from rfl] at q1 q2 q3
  rw [show nB 69 = 69 from rfl] at q4
  have HR := Lib.hid hR
  have hl120 : (blk.take 120).length = 120 := by rw [List.length_take]; omega
  have hl124 : (blk.take 124).length = 124 := by rw [List.length_take]; omega
  have HL := Lib.hid (And.intro hl120 hl124)
  clear p0 p1 p2 p3 p4 hR hl120 hl124
  have hc2 : 120 ≤ c := by omega
  have hc3 : 124 ≤ c := by omega
  have hc4 : ¬ c = 0 := by omega
  have hc5 : (120 : Int) ≤ (c : Int) := by omega
  have hc6 : (124 : Int) ≤ (c : Int) := by omega
  go_enter Try.func67, Try.ntmps67
  go_wp2
  have K := fun (W : World) (hb' : Below w.heap.size w W) => run_string_of (w := W) Try.underlying23 Try.underlying5 Try.underlying9 (some a) 124 c (blk.take 124) HL.out.2.symm (fun h => nomatch h) ((HR.out.at_take 124).below hb')
  obtain ⟨J, hJ⟩ : ∃ J : World → Prop, ∀ W, J W ↔ Below w.heap.size w W := ⟨_, fun _ => Iff.rfl⟩
  have K := fun W h => K W ((hJ W).1 h)
  have HJ := Lib.hid hJ
  have hj := (HJ.out w.drew).2 ((Below.refl _ _).drew)
  clear hJ q0 q1 q2 q3 q4
  refine Turn.region_seq [0, 1, 4, 5, 6, 2, 3, 7] (fun i => i == 2 || i == 3) J (by kernel_rfl) (by kernel_rfl) hj ?_
  repeat (first | (apply Turn.seq_yes; (· simp only [List.getElem?_toArray, List.getElem?_cons_succ, List.getElem?_cons_zero]; rfl); (· rfl); (· go_simp); (· intro w1 h1; have K1 := K w1 h1; go_simp; exact ⟨rfl, h1⟩); (· go_simp; rfl)) | (apply Turn.seq_no; (· simp only [List.getElem?_toArray, List.getElem?_cons_succ, List.getElem?_cons_zero]; rfl); (· go_simp); (· go_simp; rfl)))
  apply Turn.seq_call
  · simp only [List.getElem?_toArray, List.getElem?_cons_succ, List.getElem?_cons_zero]; rfl
  · rfl
  · go_simp
  · intro v; go_simp; rfl
  go_simp
  refine (RSeal_calls (some a) c 120 (blk.take 120) HL.out.1.symm (by decide) (fun h => nomatch h) _ ((HR.out.at_take 120).below ((HJ.out _).1 hj))).mono ?_
  rintro e w3 ⟨v3, rfl, hv3, hb3⟩
  have hj3 := (HJ.out _).2 (((HJ.out _).1 hj).trans (hb3.mono ((HJ.out _).1 hj).size))
  have hll : (blk.take 120 ++ lowB (crc (blk.take 120))).length = 124 := by rw [List.length_append, HL.out.1]; rfl
  obtain ⟨g3, c3, rfl, hc3', -, -, -, hr3⟩ := Has.row hv3 123 hll
  have kx := run_string_of (w := w3) Try.underlying23 Try.underlying5 Try.underlying9 (some ⟨g3, 0, none⟩) 124 c3 (blk.take 120 ++ lowB (crc (blk.take 120))) hll.symm (fun h => nomatch h) hr3
  clear hv3 hb3 hr3 hll hj
  refine ⟨_, rfl, hj3, ?_⟩
  repeat (first | (apply Turn.seq_yes; (· simp only [List.getElem?_toArray, List.getElem?_cons_succ, List.getElem?_cons_zero]; rfl); (· rfl); (· go_simp); (· intro w1 h1; have K1 := K w1 h1; go_simp; exact ⟨rfl, h1⟩); (· go_simp; rfl)) | (apply Turn.seq_no; (· simp only [List.getElem?_toArray, List.getElem?_cons_succ, List.getElem?_cons_zero]; rfl); (· go_simp); (· go_simp; rfl)))
  apply Turn.seq_call
  · simp only [List.getElem?_toArray, List.getElem?_cons_succ, List.getElem?_cons_zero]; rfl
  · rfl
  · go_simp
  · intro v; go_simp; rfl
  go_simp
  refine ⟨hj3, ?_⟩
  clear kx
  have heq : (blk.take 120 ++ lowB (crc (blk.take 120)) == blk.take 124) = true := HK.out
  have heq2 := beq_iff_eq.1 heq
  repeat (first | (apply Turn.seq_yes; (· simp only [List.getElem?_toArray, List.getElem?_cons_succ, List.getElem?_cons_zero]; rfl); (· rfl); (· go_simp); (· intro w1 h1; have K1 := K w1 h1; go_simp; exact ⟨rfl, h1⟩); (· go_simp; rfl)) | (apply Turn.seq_no; (· simp only [List.getElem?_toArray, List.getElem?_cons_succ, List.getElem?_cons_zero]; rfl); (· go_simp); (· go_simp; rfl)))
  apply Turn.seq_nil
  have H3 := Lib.hid ((HJ.out _).1 hj3)
  clear K HJ hj3 heq heq2
  go_wp2_with fail
  have HB3 := Lib.hid (HR.out.below H3.out)
  have hcells : ∀ i, 0 < i → i < 120 → ∃ b, (blk.take 120)[i]? = some b ∧ w3.cell? ⟨a.block, a.off + i, none⟩ = some (.int .u8 (nB b)) := by
    intro i h0 hi
    obtain ⟨a', ha, hcell⟩ := HB3.out.byte (k := i) (by omega)
    cases ha
    rw [add_pos _ _ h0] at hcell
    exact ⟨blk[i]'(by omega), by rw [List.getElem?_take, if_pos hi]; exact List.getElem?_eq_getElem _, hcell⟩
  have HC := Lib.hid hcells
  clear hcells
  obtain ⟨X, hX⟩ : ∃ X, blk.take 120 = X := ⟨_, rfl⟩
  rw [hX] at HC HL HM
  have HX := Lib.hid hX
  clear hX
  go_loopw [8, 9] (fun v8 v9 wr => ∃ j : Nat, j ≤ 4 ∧ v9 = .int .i64 ((j + 1 : Nat) : Int) ∧ v8 = .int .i64 ((val ((X.drop 1).take j) : Nat) : Int) ∧ w3 = wr) (fun _ v9 _ => 5 - (intOf v9).toNat)
  case atStart => exact ⟨0, by decide, rfl, rfl, rfl⟩
  case round =>
    obtain ⟨j, hj, rfl, rfl, rfl⟩ := hrel
    by_cases hlt : j < 4
    · have hd : decide (((j + 1 : Nat) : Int) < 5) = true := by rw [decide_eq_true_eq]; omega
      obtain ⟨b, hb1, hb2⟩ := HC.out (j + 1) (by omega) (by omega)
      obtain ⟨V, hV⟩ : ∃ V, val ((X.drop 1).take j) = V := ⟨_, rfl⟩
      have HVb := Lib.hid (show V < 16777216 by rw [← hV]; exact val_small _ (by rw [List.length_take]; omega))
      have hnext : val ((X.drop 1).take (j + 1)) = V * 256 + b.toNat := by
        rw [List.take_add_one, List.getElem?_drop, Nat.add_comm 1 j, hb1, ← hV]
        exact val_snoc _ _
      have HNx := Lib.hid hnext
      clear hb1 hnext
      rw [hV]
      clear hV
      have f1 := wr1 V HVb.out
      have f2 := wr2 V HVb.out b
      have f3 := wr3 b
      have f33 := wr4 b
      have f4 := wr7 j hlt
      have hj1 : ((j + 1 : Nat) : Int) < 128 := by omega
      have hj2 : j + 1 < 128 := by omega
      have hj3 : 0 ≤ ((j + 1 : Nat) : Int) := by omega
      have hadd : a.add (j + 1) = ⟨a.block, a.off + (j + 1), none⟩ := add_pos a (j + 1) (by omega)
      go_wp2_with fail
      go_roundw
      case rel => exact ⟨j + 1, by omega, by simp, by rw [HNx.out]; first | rfl | simp, trivial⟩
      case measure => simp [intOf]; omega
    · have hd : decide (((j + 1 : Nat) : Int) < 5) = false := by rw [decide_eq_false_iff_not]; omega
      obtain rfl : j = 4 := by omega
      rw [show val ((X.drop 1).take 4) = genF X from rfl]
      obtain ⟨G, hG⟩ : ∃ G, genF X = G := ⟨_, rfl⟩
      have hGb : G < 4294967296 := by rw [← hG]; exact val_mid _ (by rw [List.length_take]; omega)
      try rw [hG] at HM
      rw [hG]
      have HG := Lib.hid hG
      have HGb := Lib.hid hGb
      clear hG hGb
      obtain ⟨b5, p5, q5⟩ := HC.out 5 (by decide) (by decide)
      obtain ⟨b6, p6, q6⟩ := HC.out 6 (by decide) (by decide)
      obtain ⟨b7, p7, q7⟩ := HC.out 7 (by decide) (by decide)
      have hS := seq_bytes X b5 b6 p5 p6
      have hN := len_bytes X b7 p7
      have HS := Lib.hid hS
      have HN := Lib.hid hN
      try rw [hN] at HM
      have HSb := Lib.hid (two_small b5 b6)
      clear hS hN p5 p6 p7
      have K := fun (W : World) (h : Below w3.heap.size w3 W) => And.intro (form_below h q5) (form_below h q6)
      obtain ⟨J2, hJ2⟩ : ∃ J : World → Prop, ∀ W, J W ↔ Below w3.heap.size w3 W := ⟨_, fun _ => Iff.rfl⟩
      have K := fun W h => K W ((hJ2 W).1 h)
      have HJ2 := Lib.hid hJ2
      have hjJ := (HJ2.out w3.drew).2 ((Below.refl _ _).drew)
      clear hJ2 q5 q6
      have f5 := wr3 b5
      have f6 := wr3 b6
      have f7 := wr3 b7
      have f55 := wr4 b5
      have f66 := wr4 b6
      have f77 := wr4 b7
      have f8 := wr5 b5
      have f9 := wr6 b5 b6
      go_wp2
      refine region_inv J2 (by kernel_rfl) (by kernel_rfl) hjJ ?_
      repeat (first | (apply inv_yes; (· go_simp); (· intro w1 h1; obtain ⟨z0, z1⟩ := K w1 h1; go_simp; exact ⟨rfl, h1⟩); (· go_simp; rfl)) | (apply inv_no; (· go_simp); (· go_simp; rfl)))
      refine wpInv_nil (fun w4 h4 => ?_)
      have hb34 := (HJ2.out _).1 h4
      have H4 := Lib.hid (H3.out.trans (hb34.mono H3.out.size))
      have q7 := form_below hb34 q7
      have HB4 := Lib.hid (HB3.out.below hb34)
      clear K HJ2 h4 hjJ hb34
      have f10 : nB b7 = ((b7.toNat : Nat) : Int) := rfl
      rw [f10] at q7 f7
      obtain ⟨N, hN⟩ : ∃ N, b7.toNat = N := ⟨_, rfl⟩
      obtain ⟨S, hS⟩ : ∃ S, b5.toNat * 256 + b6.toNat = S := ⟨_, rfl⟩
      rw [f10] at f77
      rw [hN] at q7 f7 f77 HN
      try rw [hN] at HM
      have hSi : (b5.toNat : Int) * 256 + (b6.toNat : Int) = (S : Int) := by rw [← hS]; simp
      rw [hS] at HS HSb
      first | rw [hS] | (push_cast; rw [hSi]) | skip
      try rw [hSi]
      clear hN hS hSi f10 f5 f6 f55 f66 f8 f9
      have hl112 : N ≤ 112 := HM.out.1
      have m1 : decide ((N : Int) > 112) = false := decide_eq_false (le_cast hl112)
      have f1 := wr8 N hl112
      have f2 : (8 + (N : Int)).toNat = 8 + N := by clear HM; omega
      have f3 : 0 ≤ 8 + (N : Int) ∧ 8 + (N : Int) ≤ (c : Int) := by omega
      have f4 : 8 + (N : Int) ≤ (c : Int) := f3.2
      have f4b : 0 ≤ 8 + (N : Int) := f3.1
      have f5 : (8 : Int) ≤ 8 + (N : Int) := by omega
      have f6 : (8 : Int) ≤ max (8 + (N : Int)) 0 := by omega
      have hc8 : ¬ c = 8 := by omega
      have f8 : 8 + N - 8 = N := by omega
      obtain ⟨B, hBq⟩ : ∃ B, ((blk.take 120).drop 8).take N = B := ⟨_, rfl⟩
      have hBl : B.length = N := by rw [← hBq, List.length_take, List.length_drop, List.length_take]; omega
      have hBR : Rd w4 (some ⟨a.block, a.off + 8, none⟩) (bys B) := by
        have h1 := (HB4.out.at_take 120).drop 8
        rw [show (bys (blk.take 120)).drop 8 = bys ((blk.take 120).drop 8) from by simp [bys, List.map_drop]] at h1
        simp only [Option.map_some, add_pos a 8 (by decide)] at h1
        have h2 := h1.at_take N
        rwa [hBq] at h2
      have HBl := Lib.hid hBl
      have HBR := Lib.hid hBR
      have HBq := Lib.hid hBq
      clear hBl hBR hBq
      go_wp2_with (at_builtin; refine wpList_app rfl _ _ 23 rfl w.heap.size 5 (.int .u8 0) 1 Try.underlying23 infoB rfl _ [] rfl ?hOwn _ _ _ (bys B) rfl ?hLen ?hNil ?hRd (bys_one _) ?hCap ?hCap2 ?hBase ?_)
      case hOwn => exact Has.lit _ w4 [] H4.out.size (by simp [maxLen])
      case hLen => rw [bys_length, HBl.out]
      case hNil => exact fun z => nomatch z
      case hRd => exact HBR.out.alloc _
      case hCap => rw [bys_length, HBl.out]; simp [maxLen]; omega
      case hCap2 => rw [bys_length, HBl.out]; simp; omega
      case hBase => have := H4.out.size; simp; omega
      intro v6 w6 hv6 hg6
      have H6 := Lib.hid ((H4.out.alloc H4.out.size (.cells #[] 5)).grown hg6 (by have := H4.out.size; simp; omega) (fun k e => by cases e; exact H4.out.size))
      obtain ⟨A6, c6, rfl, hc6', hA6, hR6⟩ := hv6.form
      rw [bys_length, HBl.out] at hc6' ⊢
      have HR6 := Lib.hid hR6
      clear hv6 hg6 hR6 f1 f2 f3 f4 f4b f5 f6 f8 m1 f7 f77 q7
      go_wp2_with fail
      refine (RWriteOk_calls b0 G S HM.out.2.1 HSb.out A6 N c6 B HBl.out.symm hl112 hA6 w6 HR6.out).mono ?_
      rintro e w7 ⟨v7, rfl, hv7, hb7⟩
      have H7 := Lib.hid (H6.out.trans (hb7.mono H6.out.size))
      have HR7 := Lib.hid (HR6.out.below hb7)
      have hbL : (blockF b0 G S B).length = 128 := by unfold blockF sealF; rw [List.length_append, List.length_append, bodyF_length _ _ _ _ (by rw [HBl.out]; exact hl112)]; rfl
      obtain ⟨g7, c7, rfl, hc7, -, -, -, hr7⟩ := Has.row hv7 127 hbL
      have kx := run_string_of (w := w7) Try.underlying23 Try.underlying5 Try.underlying9 (some ⟨g7, 0, none⟩) 128 c7 (blockF b0 G S B) hbL.symm (fun h => nomatch h) hr7
      have ky := run_string_of (w := w7) Try.underlying23 Try.underlying5 Try.underlying9 (some a) 128 c blk hb.symm (fun h => nomatch h) (HR.out.below H7.out)
      clear hv7 hb7 hbL hr7
      have HW := write_of b0 blk hb HF.out (by rw [← ck_eq blk hb]; exact HK.out) (by rw [HX.out, HN.out]; exact hl112)
      rw [HX.out, HG.out, HS.out, HN.out] at HW
      rw [HX.out] at HBq
      rw [HBq.out] at HW
      have hne : (blockF b0 G S B == blk) = true := beq_iff_eq.2 (HW.1 HM.out.2.2)
      have hne2 : blockF b0 G S B = blk := HW.1 HM.out.2.2
      clear HW
      go_wp2_with fail
      (try simp only [Exit.inBlock, Exit.then])
      refine bodyPost_ret (results_tmp4 rfl _ _ _) rfl ?_
      rw [HX.out, HG.out, HS.out, HN.out, HBq.out]
      exact ⟨⟨A6, c6, rfl, hc6', hA6, HR7.out⟩, H7.out⟩
end Go.Proofs.Ytmlgkahadgpaiaa.Fr
