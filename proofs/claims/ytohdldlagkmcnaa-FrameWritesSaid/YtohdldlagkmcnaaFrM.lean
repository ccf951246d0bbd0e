/- Chapter 08: the walk of FrameReads. -/
import Derived.Test.YtohdldlagkmcnaaFrU
import Derived.Test.YtohdldlagkmcnaaFrA
namespace Go.Proofs.Ytohdldlagkmcnaa.Fr
open Go.RowKit _root_.Go.Proofs.Ytohdldlagkmcnaa.Own
set_option linter.unusedVariables false
set_option linter.unusedSimpArgs false
theorem seqF_le (X : List UInt8) : seqF X ≤ 65535 := by
  have h1 := val_lt (((X.drop 1).drop 4).take 2)
  have h2 : (((X.drop 1).drop 4).take 2).length ≤ 2 := by rw [List.length_take]; omega
  have h3 := Nat.pow_le_pow_right (show 0 < 256 by decide) h2
  unfold seqF
  omega
/-- Both read alike what is no frame. -/
theorem read_pair (kind : UInt8) (blk : List UInt8) (hb : blk.length = 128) :
    (∃ E : Int, ¬ E = 0 ∧ ∀ (a : Addr) (c : Nat) (w : World), 128 ≤ c → Rd w (some a) (bys blk) →
      (Calls Try.prog 9 #[.int .u8 (nB kind), .slice (some a) 128 c] w fun e w' => e = .returned (.tuple #[.int .i64 0, .int .i64 0, .slice none 0 0, .int .i64 E]) ∧ Below w.heap.size w w') ∧
      (Calls Try.prog 11 #[.int .u8 (nB kind), .slice (some a) 128 c] w fun e w' => e = .returned (.tuple #[.int .i64 0, .int .i64 0, .slice none 0 0, .int .i64 E]) ∧ Below w.heap.size w w')) ∨
    (formB kind blk ∧ ckB blk = true ∧ genF (blk.take 120) ≤ 2147483647 ∧ lenF (blk.take 120) ≤ 112 ∧ padZ (blk.take 120)) := by
  by_cases h1 : formB kind blk
  · cases h2 : ckB blk with
    | false => exact .inl ⟨18, by decide, fun a c w hc hR => ⟨ReadSum_calls kind a c blk hb hc w hR h1 h2, RReadSum_calls kind a c blk hb hc w hR h1 h2⟩⟩
    | true =>
      by_cases h3 : lenF (blk.take 120) ≤ 112
      · by_cases h4 : genF (blk.take 120) ≤ 2147483647
        · by_cases h5 : padZ (blk.take 120)
          · exact .inr ⟨h1, rfl, h4, h3, h5⟩
          · exact .inl ⟨3, by decide, fun a c w hc hR => ⟨ReadPad_calls kind a c blk hb hc w hR h1 h2 ⟨h4, h3, h5⟩, RReadPad_calls kind a c blk hb hc w hR h1 h2 ⟨h3, h4, h5⟩⟩⟩
        · exact .inl ⟨3, by decide, fun a c w hc hR => ⟨ReadGen_calls kind a c blk hb hc w hR h1 h2 (by omega), RReadGen_calls kind a c blk hb hc w hR h1 h2 ⟨h3, by omega⟩⟩⟩
      · by_cases h4 : genF (blk.take 120) ≤ 2147483647
        · exact .inl ⟨3, by decide, fun a c w hc hR => ⟨ReadLen_calls kind a c blk hb hc w hR h1 h2 ⟨h4, by omega⟩, RReadLen_calls kind a c blk hb hc w hR h1 h2 (by omega)⟩⟩
        · exact .inl ⟨3, by decide, fun a c w hc hR => ⟨ReadGen_calls kind a c blk hb hc w hR h1 h2 (by omega), RReadLen_calls kind a c blk hb hc w hR h1 h2 (by omega)⟩⟩
  · exact .inl ⟨3, by decide, fun a c w hc hR => ⟨ReadForm_calls kind a c blk hb hc w hR h1, RReadForm_calls kind a c blk hb hc w hR h1⟩⟩
theorem reads_long (kind : UInt8) (A : Option Addr) (n c : Nat) (h : n > 300) (z : Bool) (w : World) : Calls Try.prog 4 #[.int .u8 (nB kind), .slice A n c, .bool z] w fun e w' => e = .returned (.bool true) ∧ Below w.heap.size w w' := by
  have m1 : decide ((n : Int) > 300) = true := by rw [decide_eq_true_eq]; omega
  go_enter Try.func4, Try.ntmps4
  go_wp2_with fail
  refine (alive08 w).mono ?_
  rintro e w1 ⟨rfl, hb⟩
  go_wp2_with fail
  go_ret
  exact ⟨rfl, hb⟩
set_option maxRecDepth 10000 in
set_option maxHeartbeats 4000000 in
theorem reads_arg (kind : UInt8) (A : Option Addr) (n c : Nat) (h : n ≤ 300) (hn : n ≠ 128) (z : Bool) (hz : z = false ∨ n < 120) (w : World) :
    Calls Try.prog 4 #[.int .u8 (nB kind), .slice A n c, .bool z] w fun e w' => e = .returned (.bool true) ∧ Below w.heap.size w w' := by
  have m1 : decide ((n : Int) > 300) = false := by rw [decide_eq_false_iff_not]; omega
  have hz2 : z = false ∨ (z = true ∧ decide ((n : Int) ≥ 120) = false) := by
    rcases hz with h | h
    · exact .inl h
    · cases z
      · exact .inl rfl
      · exact .inr ⟨rfl, by rw [decide_eq_false_iff_not]; omega⟩
  rcases hz2 with rfl | ⟨rfl, m2⟩
  all_goals
    go_enter Try.func4, Try.ntmps4
    go_wp2_with fail
    refine (ReadArg_calls kind A n c hn w).mono ?_
    rintro e wb ⟨rfl, hbb⟩
    have HB := Lib.hid hbb
    clear hbb
    go_wp2_with fail
    refine (RReadArg_calls kind A n c hn wb).mono ?_
    rintro e wc ⟨rfl, hbc⟩
    have HCc := Lib.hid (HB.out.trans (hbc.mono HB.out.size))
    have kn := run_string_of (w := wc) Try.underlying22 Try.underlying5 Try.underlying9 none 0 0 [] rfl (fun _ => rfl) (Rd.nil _ _)
    clear hbc
    go_wp2_with fail
    refine (alive08 _).mono ?_
    rintro e wz ⟨rfl, hbz⟩
    have Hz := HCc.out.trans (hbz.mono HCc.out.size)
    go_wp2_with fail
    go_ret
    exact ⟨rfl, Hz⟩
set_option maxRecDepth 10000 in
set_option maxHeartbeats 4000000 in
theorem reads_plain (kind : UInt8) (aa : Addr) (c : Nat) (blk : List UInt8) (hbl : blk.length = 128) (hca : 128 ≤ c) (z : Bool) (hz : z = false) (w : World) (hR : Rd w (some aa) (bys blk)) :
    Calls Try.prog 4 #[.int .u8 (nB kind), .slice (some aa) 128 c, .bool z] w fun e w' => e = .returned (.bool true) ∧ Below w.heap.size w w' := by
  subst hz
  have HP := Lib.hid (read_pair kind blk hbl)
  have HBL := Lib.hid hbl
  have HRa := Lib.hid hR
  have HA := Lib.hid (Below.refl w.heap.size w)
  clear hbl hR
  go_enter Try.func4, Try.ntmps4
  rcases HP.out with ⟨E, hE, hcall⟩ | ⟨k1, k2, k3, k4, k5⟩
  · have hE2 : (E == 0) = false := beq_eq_false_iff_ne.2 hE
    have HC := Lib.hid hcall
    clear hcall
    go_wp2_with fail
    refine (HC.out aa c w hca HRa.out).1.mono ?_
    rintro e wb ⟨rfl, hbb⟩
    have HB := Lib.hid (HA.out.trans (hbb.mono HA.out.size))
    have HRb := Lib.hid (HRa.out.below hbb)
    clear hbb
    go_wp2_with fail
    refine (HC.out aa c wb hca HRb.out).2.mono ?_
    rintro e wc ⟨rfl, hbc⟩
    have HCc := Lib.hid (HB.out.trans (hbc.mono HB.out.size))
    have kn := run_string_of (w := wc) Try.underlying22 Try.underlying5 Try.underlying9 none 0 0 [] rfl (fun _ => rfl) (Rd.nil _ _)
    clear hbc
    go_wp2_with fail
    refine (alive08 _).mono ?_
    rintro e wz ⟨rfl, hbz⟩
    have Hz := HCc.out.trans (hbz.mono HCc.out.size)
    go_wp2_with fail
    go_ret
    exact ⟨rfl, Hz⟩
  · have hw := (write_of kind blk HBL.out k1 k2 k4).1 k5
    have HW := Lib.hid hw
    have HK := Lib.hid (And.intro k1 (And.intro k2 (And.intro k3 (And.intro k4 k5))))
    clear hw k1 k2 k5
    go_wp2_with fail
    have hok := ReadOk_calls kind aa c blk HBL.out hca w HRa.out HK.out.1 HK.out.2.1 ⟨k3, k4, HK.out.2.2.2.2⟩
    obtain ⟨G, hG⟩ : ∃ G, genF (blk.take 120) = G := ⟨_, rfl⟩
    obtain ⟨S, hS⟩ : ∃ S, seqF (blk.take 120) = S := ⟨_, rfl⟩
    obtain ⟨N, hN⟩ : ∃ N, lenF (blk.take 120) = N := ⟨_, rfl⟩
    obtain ⟨p, hp⟩ : ∃ p, ((blk.take 120).drop 8).take N = p := ⟨_, rfl⟩
    have hSle := seqF_le (blk.take 120)
    have hpl : N = p.length := by rw [← hp, List.length_take, List.length_drop, List.length_take, HBL.out]; omega
    rw [hG, hS, hN, hp] at hok
    rw [hG, hS, hN, hp] at HW
    have HG := Lib.hid (And.intro hG (And.intro hS (And.intro hN hp)))
    rw [hN] at k4
    rw [hG] at k3
    rw [hS] at hSle
    have HPL := Lib.hid hpl
    have HK3 := Lib.hid k3
    have HSle := Lib.hid hSle
    clear hG hS hN hp hpl k3 hSle
    refine hok.mono ?_
    rintro e wb ⟨⟨A1, c1, rfl, hc1, hA1, hr1, -⟩, hbb⟩
    have HB := Lib.hid (HA.out.trans (hbb.mono HA.out.size))
    have HRb := Lib.hid (HRa.out.below hbb)
    have HP1 := Lib.hid hr1
    clear hbb hr1 hok
    go_wp2_with fail
    have hok2 := RReadOk_calls kind aa c blk HBL.out hca wb HRb.out HK.out.1 HK.out.2.1 ⟨HK.out.2.2.2.1, HK.out.2.2.1, HK.out.2.2.2.2⟩
    rw [HG.out.1, HG.out.2.1, HG.out.2.2.1, HG.out.2.2.2] at hok2
    refine hok2.mono ?_
    rintro e wc ⟨⟨A2, c2, rfl, hc2, hA2, hr2⟩, hbc⟩
    have HCc := Lib.hid (HB.out.trans (hbc.mono HB.out.size))
    have HRc := Lib.hid (HRb.out.below hbc)
    have HP1c := Lib.hid (HP1.out.below hbc)
    have kx := run_string_of (w := wc) Try.underlying22 Try.underlying5 Try.underlying9 A1 N c1 p HPL.out hA1 HP1c.out
    have ky := run_string_of (w := wc) Try.underlying22 Try.underlying5 Try.underlying9 A2 N c2 p HPL.out hA2 hr2
    clear hbc hr2 hok2 HP1 HRb
    go_wp2_with fail
    refine (WriteOk_calls kind G S HK3.out HSle.out A1 N c1 p HPL.out k4 hA1 wc HP1c.out).mono ?_
    rintro e wd ⟨vd, rfl, hvd, hbd⟩
    have HD := Lib.hid (HCc.out.trans (hbd.mono HCc.out.size))
    rw [HW.out] at hvd
    obtain ⟨gd, cd, rfl, hcd, -, -, -, hrd⟩ := Has.row hvd 127 HBL.out
    have kz := run_string_of (w := wd) Try.underlying22 Try.underlying5 Try.underlying9 (some ⟨gd, 0, none⟩) 128 cd blk HBL.out.symm (fun h => nomatch h) hrd
    have kw := run_string_of (w := wd) Try.underlying22 Try.underlying5 Try.underlying9 (some aa) 128 c blk HBL.out.symm (fun h => nomatch h) (HRc.out.below hbd)
    clear hvd hbd hrd kx ky
    go_wp2_with fail
    refine (alive08 _).mono ?_
    rintro e wz ⟨rfl, hbz⟩
    have Hz := HD.out.trans (hbz.mono HD.out.size)
    go_wp2_with fail
    go_ret
    exact ⟨rfl, Hz⟩
set_option maxRecDepth 10000 in
set_option maxHeartbeats 4000000 in
theorem reads_sealed (kind : UInt8) (a : Addr) (n c : Nat) (b : List UInt8) (hn : b.length = n) (h : n ≤ 300) (h120 : 120 ≤ n) (hc : n ≤ c) (w : World) (hR : Rd w (some a) (bys b)) :
    Calls Try.prog 4 #[.int .u8 (nB kind), .slice (some a) n c, .bool true] w fun e w' => e = .returned (.bool true) ∧ Below w.heap.size w w' := by
  have m1 : decide ((n : Int) > 300) = false := by rw [decide_eq_false_iff_not]; omega
  have m2 : decide ((n : Int) ≥ 120) = true := by rw [decide_eq_true_eq]; omega
  have hl120 : (b.take 120).length = 120 := by rw [List.length_take]; omega
  have HR := Lib.hid (hR.at_take 120)
  obtain ⟨X, hX⟩ : ∃ X, b.take 120 = X := ⟨_, rfl⟩
  rw [hX] at hl120 HR
  have hbl : (sealF X).length = 128 := by unfold sealF; rw [List.length_append, List.length_append, hl120]; rfl
  obtain ⟨blk, hblk⟩ : ∃ blk, sealF X = blk := ⟨_, rfl⟩
  rw [hblk] at hbl
  have HBK := Lib.hid hblk
  have HP := Lib.hid (read_pair kind blk hbl)
  have HBL := Lib.hid hbl
  have HXl := Lib.hid hl120
  clear hbl hR hblk hX hl120
  have g1 : (120 : Int) ≤ (c : Int) := by omega
  go_enter Try.func4, Try.ntmps4
  go_wp2_with fail
  refine (RSeal_calls (some a) c 120 X HXl.out.symm (by decide) (fun h => nomatch h) w HR.out).mono ?_
  rintro e w1 ⟨v1, rfl, hv1, hb1⟩
  have H1 := Lib.hid hb1
  have HV1 := Lib.hid hv1
  have hl8 : (bys (X ++ lowB (crc X))).length ≤ 200 := by rw [bys_length, List.length_append, HXl.out]; simp [lowB]
  have HL8 := Lib.hid hl8
  clear hv1 hb1 hl8
  go_wp2_with (at_builtin; refine wpList_app rfl _ _ 22 rfl w.heap.size 5 (.int .u8 0) 1 Try.underlying22 infoB rfl _ (bys (X ++ lowB (crc X))) rfl ?hOwn _ _ _ (bys [0, 0, 0, 69]) rfl rfl ?hNil ?hRd (bys_one _) ?hCap ?hCap2 ?hBase ?_)
  case hOwn => exact HV1.out.below ((Below.refl _ _).alloc (Nat.le_refl _) _)
  case hNil => exact fun h => nomatch h
  case hRd => exact Rd.mark _ _ _
  case hCap => have := HL8.out; rw [bys_length [0, 0, 0, 69]]; simp [maxLen]; omega
  case hCap2 => have := HL8.out; rw [bys_length [0, 0, 0, 69]]; simp; omega
  case hBase => have := H1.out.size; simp; omega
  intro v2 wa hv2 hg2
  have hA2 := (H1.out.alloc H1.out.size (.cells #[Value.int IntKind.u8 0, Value.int IntKind.u8 0, Value.int IntKind.u8 0, Value.int IntKind.u8 69] 5)).grown hg2 (by have := H1.out.size; simp; omega) (fun k e => (HV1.out.blk k e).1)
  have HA := Lib.hid hA2
  have hv3 : Has w.heap.size 5 v2 (bys blk) wa := by
    rw [← HBK.out]
    unfold sealF
    rw [bys_append]
    exact hv2
  obtain ⟨ga, ca, rfl, hca, -, -, -, hra⟩ := Has.row hv3 127 HBL.out
  obtain ⟨aa, haa⟩ : ∃ aa : Addr, (⟨ga, 0, none⟩ : Addr) = aa := ⟨_, rfl⟩
  rw [haa] at hra ⊢
  have HRa := Lib.hid hra
  clear hv2 hg2 hA2 hv3 hra haa HL8 HV1 H1 HR
  rcases HP.out with ⟨E, hE, hcall⟩ | ⟨k1, k2, k3, k4, k5⟩
  · have hE2 : (E == 0) = false := beq_eq_false_iff_ne.2 hE
    have HC := Lib.hid hcall
    clear hcall
    go_wp2_with fail
    refine (HC.out aa ca wa hca HRa.out).1.mono ?_
    rintro e wb ⟨rfl, hbb⟩
    have HB := Lib.hid (HA.out.trans (hbb.mono HA.out.size))
    have HRb := Lib.hid (HRa.out.below hbb)
    clear hbb
    go_wp2_with fail
    refine (HC.out aa ca wb hca HRb.out).2.mono ?_
    rintro e wc ⟨rfl, hbc⟩
    have HCc := Lib.hid (HB.out.trans (hbc.mono HB.out.size))
    have kn := run_string_of (w := wc) Try.underlying22 Try.underlying5 Try.underlying9 none 0 0 [] rfl (fun _ => rfl) (Rd.nil _ _)
    clear hbc
    go_wp2_with fail
    refine (alive08 _).mono ?_
    rintro e wz ⟨rfl, hbz⟩
    have Hz := HCc.out.trans (hbz.mono HCc.out.size)
    go_wp2_with fail
    go_ret
    exact ⟨rfl, Hz⟩
  · have hw := (write_of kind blk HBL.out k1 k2 k4).1 k5
    have HW := Lib.hid hw
    have HK := Lib.hid (And.intro k1 (And.intro k2 (And.intro k3 (And.intro k4 k5))))
    clear hw k1 k2 k5
    go_wp2_with fail
    have hok := ReadOk_calls kind aa ca blk HBL.out hca wa HRa.out HK.out.1 HK.out.2.1 ⟨k3, k4, HK.out.2.2.2.2⟩
    obtain ⟨G, hG⟩ : ∃ G, genF (blk.take 120) = G := ⟨_, rfl⟩
    obtain ⟨S, hS⟩ : ∃ S, seqF (blk.take 120) = S := ⟨_, rfl⟩
    obtain ⟨N, hN⟩ : ∃ N, lenF (blk.take 120) = N := ⟨_, rfl⟩
    obtain ⟨p, hp⟩ : ∃ p, ((blk.take 120).drop 8).take N = p := ⟨_, rfl⟩
    have hSle := seqF_le (blk.take 120)
    have hpl : N = p.length := by rw [← hp, List.length_take, List.length_drop, List.length_take, HBL.out]; omega
    rw [hG, hS, hN, hp] at hok
    rw [hG, hS, hN, hp] at HW
    have HG := Lib.hid (And.intro hG (And.intro hS (And.intro hN hp)))
    rw [hN] at k4
    rw [hG] at k3
    rw [hS] at hSle
    have HPL := Lib.hid hpl
    have HK3 := Lib.hid k3
    have HSle := Lib.hid hSle
    clear hG hS hN hp hpl k3 hSle
    refine hok.mono ?_
    rintro e wb ⟨⟨A1, c1, rfl, hc1, hA1, hr1, -⟩, hbb⟩
    have HB := Lib.hid (HA.out.trans (hbb.mono HA.out.size))
    have HRb := Lib.hid (HRa.out.below hbb)
    have HP1 := Lib.hid hr1
    clear hbb hr1 hok
    go_wp2_with fail
    have hok2 := RReadOk_calls kind aa ca blk HBL.out hca wb HRb.out HK.out.1 HK.out.2.1 ⟨HK.out.2.2.2.1, HK.out.2.2.1, HK.out.2.2.2.2⟩
    rw [HG.out.1, HG.out.2.1, HG.out.2.2.1, HG.out.2.2.2] at hok2
    refine hok2.mono ?_
    rintro e wc ⟨⟨A2, c2, rfl, hc2, hA2, hr2⟩, hbc⟩
    have HCc := Lib.hid (HB.out.trans (hbc.mono HB.out.size))
    have HRc := Lib.hid (HRb.out.below hbc)
    have HP1c := Lib.hid (HP1.out.below hbc)
    have kx := run_string_of (w := wc) Try.underlying22 Try.underlying5 Try.underlying9 A1 N c1 p HPL.out hA1 HP1c.out
    have ky := run_string_of (w := wc) Try.underlying22 Try.underlying5 Try.underlying9 A2 N c2 p HPL.out hA2 hr2
    clear hbc hr2 hok2 HP1 HRb
    go_wp2_with fail
    refine (WriteOk_calls kind G S HK3.out HSle.out A1 N c1 p HPL.out k4 hA1 wc HP1c.out).mono ?_
    rintro e wd ⟨vd, rfl, hvd, hbd⟩
    have HD := Lib.hid (HCc.out.trans (hbd.mono HCc.out.size))
    rw [HW.out] at hvd
    obtain ⟨gd, cd, rfl, hcd, -, -, -, hrd⟩ := Has.row hvd 127 HBL.out
    have kz := run_string_of (w := wd) Try.underlying22 Try.underlying5 Try.underlying9 (some ⟨gd, 0, none⟩) 128 cd blk HBL.out.symm (fun h => nomatch h) hrd
    have kw := run_string_of (w := wd) Try.underlying22 Try.underlying5 Try.underlying9 (some aa) 128 ca blk HBL.out.symm (fun h => nomatch h) (HRc.out.below hbd)
    clear hvd hbd hrd kx ky
    go_wp2_with fail
    refine (alive08 _).mono ?_
    rintro e wz ⟨rfl, hbz⟩
    have Hz := HD.out.trans (hbz.mono HD.out.size)
    go_wp2_with fail
    go_ret
    exact ⟨rfl, Hz⟩
/-- FrameReads, whatever comes in. -/
theorem reads_all (kind : UInt8) (A : Option Addr) (c : Nat) (b : List UInt8) (hc : b.length ≤ c) (z : Bool) (w : World) (hR : Rd w A (bys b)) :
    Calls Try.prog 4 #[.int .u8 (nB kind), .slice A b.length c, .bool z] w fun e w' => e = .returned (.bool true) ∧ Below w.heap.size w w' := by
  by_cases h1 : b.length > 300
  · exact reads_long kind A b.length c h1 z w
  · have some_of : 0 < b.length → ∃ a, A = some a := fun h => by obtain ⟨a, ha, _⟩ := hR 0 (by rw [bys_length]; exact h); exact ⟨a, ha⟩
    by_cases h2 : z = true ∧ 120 ≤ b.length
    · obtain ⟨rfl, h3⟩ := h2
      obtain ⟨a, rfl⟩ := some_of (by omega)
      exact reads_sealed kind a b.length c b rfl (by omega) h3 hc w hR
    · by_cases h3 : b.length = 128
      · obtain ⟨a, rfl⟩ := some_of (by omega)
        have hz : z = false := by cases z; rfl; exact absurd ⟨rfl, by omega⟩ h2
        have := reads_plain kind a c b h3 (by omega) z hz w hR
        rw [h3]; exact this
      · refine reads_arg kind A b.length c (by omega) h3 z ?_ w
        cases z
        · exact .inl rfl
        · refine .inr ?_
          have : ¬ 120 ≤ b.length := fun h => h2 ⟨rfl, h⟩
          omega
end Go.Proofs.Ytohdldlagkmcnaa.Fr
