/- Chapter 08: the walk of FrameWrites. -/
import Derived.Test.YtohdldlagkmcnaaFrM
namespace Go.Proofs.Ytohdldlagkmcnaa.Fr
open Go.RowKit _root_.Go.Proofs.Ytohdldlagkmcnaa.Own
set_option linter.unusedVariables false
set_option linter.unusedSimpArgs false
theorem writes_long (kind : UInt8) (gen seq : Int) (A : Option Addr) (n c : Nat) (h : n > 200) (w : World) : Calls Try.prog 3 #[.int .u8 (nB kind), .int .i64 gen, .int .i64 seq, .slice A n c] w fun e w' => e = .returned (.bool true) ∧ Below w.heap.size w w' := by
  have m1 : decide ((n : Int) > 200) = true := by rw [decide_eq_true_eq]; omega
  go_enter Try.func3, Try.ntmps3
  go_wp2_with fail
  refine (alive08 w).mono ?_
  rintro e w1 ⟨rfl, hb⟩
  go_wp2_with fail
  go_ret
  exact ⟨rfl, hb⟩
set_option maxRecDepth 10000 in
set_option maxHeartbeats 4000000 in
theorem writes_bad (kind : UInt8) (gen seq : Int) (A : Option Addr) (n c : Nat) (h : n ≤ 200) (E : Int) (hE0 : ¬ E = 0)
    (hE : ((gen < 0 ∨ gen > 2147483647 ∨ seq < 0 ∨ seq > 65535) ∧ E = 8) ∨ (¬ (gen < 0 ∨ gen > 2147483647 ∨ seq < 0 ∨ seq > 65535) ∧ n > 112 ∧ E = 5)) (w : World) : Calls Try.prog 3 #[.int .u8 (nB kind), .int .i64 gen, .int .i64 seq, .slice A n c] w fun e w' => e = .returned (.bool true) ∧ Below w.heap.size w w' := by
  have m1 : decide ((n : Int) > 200) = false := by rw [decide_eq_false_iff_not]; omega
  have HE := Lib.hid hE
  clear hE
  have hE2 : (E == 0) = false := beq_eq_false_iff_ne.2 hE0
  go_enter Try.func3, Try.ntmps3
  go_wp2_with fail
  refine (WriteBad_calls kind gen seq A n c E HE.out w).mono ?_
  rintro e wb ⟨rfl, hbb⟩
  have HB := Lib.hid hbb
  clear hbb
  go_wp2_with fail
  refine (RWriteBad_calls kind gen seq A n c E HE.out wb).mono ?_
  rintro e wc ⟨rfl, hbc⟩
  have HCc := Lib.hid (HB.out.trans (hbc.mono HB.out.size))
  have kn := run_string_of (w := wc) Try.underlying22 Try.underlying5 Try.underlying9 none 0 0 [] rfl (fun _ => rfl) (Rd.nil _ _)
  clear hbc
  go_wp2_with fail
  refine (alive08 _).mono ?_
  rintro e wz ⟨rfl, hbz⟩
  have Hz := HCc.out.trans (hbz.mono HCc.out.size)
  go_wp2_with fail
  go_ret
  exact ⟨rfl, Hz⟩
set_option maxRecDepth 10000 in
set_option maxHeartbeats 4000000 in
theorem writes_ok (kind : UInt8) (gen seq : Nat) (hg : gen ≤ 2147483647) (hs : seq ≤ 65535) (A : Option Addr) (n c : Nat) (b : List UInt8) (hn : n = b.length) (hb : n ≤ 112) (hA : A = none → c = 0) (w : World) (hR : Rd w A (bys b)) : Calls Try.prog 3 #[.int .u8 (nB kind), .int .i64 gen, .int .i64 seq, .slice A n c] w fun e w' => e = .returned (.bool true) ∧ Below w.heap.size w w' := by
  have m1 : decide ((n : Int) > 200) = false := by rw [decide_eq_false_iff_not]; omega
  have HR := Lib.hid hR
  have HN := Lib.hid hn
  have hro := read_of kind gen seq b hg hs (by omega)
  rw [← hn] at hro
  obtain ⟨BK, hBK⟩ : ∃ BK, blockF kind gen seq b = BK := ⟨_, rfl⟩
  rw [hBK] at hro
  have HBK := Lib.hid hBK
  have HRO := Lib.hid hro
  have Hg := Lib.hid hg
  have Hs := Lib.hid hs
  clear hR hn hro hBK hg hs
  go_enter Try.func3, Try.ntmps3
  go_wp2_with fail
  refine (WriteOk_calls kind gen seq Hg.out Hs.out A n c b HN.out hb hA w HR.out).mono ?_
  rintro e wb ⟨v1, rfl, hv1, hbb⟩
  rw [HBK.out] at hv1
  have HB := Lib.hid hbb
  have HRb := Lib.hid (HR.out.below hbb)
  obtain ⟨g1, c1, rfl, hc1, -, -, -, hr1⟩ := Has.row hv1 127 HRO.out.1
  have HX := Lib.hid hr1
  clear hbb hv1 hr1
  go_wp2_with fail
  refine (RWriteOk_calls kind gen seq Hg.out Hs.out A n c b HN.out hb hA wb HRb.out).mono ?_
  rintro e wc ⟨v2, rfl, hv2, hbc⟩
  rw [HBK.out] at hv2
  have HCc := Lib.hid (HB.out.trans (hbc.mono HB.out.size))
  have HXc := Lib.hid (HX.out.below hbc)
  have HRc := Lib.hid (HRb.out.below hbc)
  obtain ⟨g2, c2, rfl, hc2, -, -, -, hr2⟩ := Has.row hv2 127 HRO.out.1
  have kx := run_string_of (w := wc) Try.underlying22 Try.underlying5 Try.underlying9 (some ⟨g1, 0, none⟩) 128 c1 BK HRO.out.1.symm (fun h => nomatch h) HXc.out
  have ky := run_string_of (w := wc) Try.underlying22 Try.underlying5 Try.underlying9 (some ⟨g2, 0, none⟩) 128 c2 BK HRO.out.1.symm (fun h => nomatch h) hr2
  clear hbc hv2 hr2 HX HRb
  obtain ⟨aa, haa⟩ : ∃ aa : Addr, (⟨g1, 0, none⟩ : Addr) = aa := ⟨_, rfl⟩
  rw [haa] at HXc kx ⊢
  clear haa
  go_wp2_with fail
  have hok := ReadOk_calls kind aa c1 BK HRO.out.1 hc1 wc HXc.out HRO.out.2.1 HRO.out.2.2.1 ⟨by rw [HRO.out.2.2.2.1]; exact Hg.out, by rw [HRO.out.2.2.2.2.2.1]; exact hb, HRO.out.2.2.2.2.2.2.2⟩
  rw [HRO.out.2.2.2.1, HRO.out.2.2.2.2.1, HRO.out.2.2.2.2.2.1, HRO.out.2.2.2.2.2.2.1] at hok
  refine hok.mono ?_
  rintro e wd ⟨⟨A3, c3, rfl, hc3, hA3, hr3, -⟩, hbd⟩
  have HD := Lib.hid (HCc.out.trans (hbd.mono HCc.out.size))
  have kz := run_string_of (w := wd) Try.underlying22 Try.underlying5 Try.underlying9 A3 n c3 b HN.out hA3 hr3
  have kw := run_string_of (w := wd) Try.underlying22 Try.underlying5 Try.underlying9 A n c b HN.out hA (HRc.out.below hbd)
  clear hbd hr3 hok kx ky
  go_wp2_with fail
  refine (alive08 _).mono ?_
  rintro e wz ⟨rfl, hbz⟩
  have Hz := HD.out.trans (hbz.mono HD.out.size)
  go_wp2_with fail
  go_ret
  exact ⟨rfl, Hz⟩
/-- FrameWrites, whatever comes in. -/
theorem writes_all (kind : UInt8) (gen seq : Int) (A : Option Addr) (c : Nat) (b : List UInt8) (hc : b.length ≤ c) (hA : A = none → c = 0) (w : World) (hR : Rd w A (bys b)) :
    Calls Try.prog 3 #[.int .u8 (nB kind), .int .i64 gen, .int .i64 seq, .slice A b.length c] w fun e w' => e = .returned (.bool true) ∧ Below w.heap.size w w' := by
  by_cases h1 : b.length > 200
  · exact writes_long kind gen seq A b.length c h1 w
  · by_cases h2 : gen < 0 ∨ gen > 2147483647 ∨ seq < 0 ∨ seq > 65535
    · exact writes_bad kind gen seq A b.length c (by omega) 8 (by decide) (.inl ⟨h2, rfl⟩) w
    · by_cases h3 : b.length > 112
      · exact writes_bad kind gen seq A b.length c (by omega) 5 (by decide) (.inr ⟨h2, h3, rfl⟩) w
      · obtain ⟨G, rfl⟩ : ∃ G : Nat, gen = G := ⟨gen.toNat, by omega⟩
        obtain ⟨S, rfl⟩ : ∃ S : Nat, seq = S := ⟨seq.toNat, by omega⟩
        exact writes_ok kind G S (by omega) (by omega) A b.length c b rfl (by omega) hA w hR
end Go.Proofs.Ytohdldlagkmcnaa.Fr
