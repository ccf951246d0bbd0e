/- The walk of the law CrcTurned. -/
import Derived.Test.YtdamljjbeaomoaaAlive6
import Derived.Test.YtdamljjbeaomoaaTurnR
import Derived.Test.YtdamljjbeaomoaaCrcSealsX
namespace Go.Proofs.Ytdamljjbeaomoaa
set_option linter.unusedSimpArgs false
set_option linter.unusedVariables false
open Go.RowKit Own
theorem sealed_take (xs : List UInt8) : (xs ++ lowB (crc xs)).take xs.length = xs := by simp
theorem sealed_ok (xs : List UInt8) : (lowB (crc ((xs ++ lowB (crc xs)).take xs.length)) == (xs ++ lowB (crc xs)).drop xs.length) = true := by simp
theorem turned_long (A : Option Addr) (c : Nat) (xs : List UInt8) (hl : 600 < xs.length) (hm : xs.length ≤ maxLen) (p : Int) (m : BitVec 32) (w : World) :
    Calls Try.prog 9 #[.slice A xs.length c, .int .i64 p, .int .u32 (nW m)] w fun e w' => e = .returned (.bool true) ∧ Below w.heap.size w w' := by
  unfold maxLen at hm
  go_enter Try.func9, Try.ntmps9
  go_wp2_with fail
  refine (alive6 _).mono ?_
  rintro e w1 ⟨rfl, hb1⟩
  go_wp2
  go_ret
  exact ⟨rfl, hb1⟩
set_option maxRecDepth 10000 in
set_option maxHeartbeats 2000000 in
theorem turned_short (A : Option Addr) (c : Nat) (xs : List UInt8) (hA : A = none → c = 0) (hl : xs.length ≤ 600) (p : Int) (m : BitVec 32) (w : World) (hR : Rd w A (bys xs)) :
    Calls Try.prog 9 #[.slice A xs.length c, .int .i64 p, .int .u32 (nW m)] w fun e w' => e = .returned (.bool true) ∧ Below w.heap.size w w' := by
  have HR := Lib.hid hR
  have HA := Lib.hid hA
  clear hR hA
  go_enter Try.func9, Try.ntmps9
  go_wp2_with fail
  refine (Seal_calls A c xs (by omega) HA.out _ HR.out).mono ?_
  rintro e w1 ⟨v1, rfl, hv1, hb1⟩
  obtain ⟨a1, c1, rfl, hc1, hR1⟩ := hv1.some_ (xs.length + 3) (by simp [lowB])
  have HB1 := Lib.hid hb1
  have HR1 := Lib.hid hR1
  clear hv1 hb1 hR1
  go_wp2_with fail
  refine (Open_good_n a1 c1 (xs.length + 3 + 1) (xs ++ lowB (crc xs)) xs.length rfl (by simp [lowB]) (by omega) hc1 _ HR1.out (sealed_ok xs)).mono ?_
  rintro e w2 ⟨v2, rfl, hv2, hb2⟩
  obtain ⟨A2, c2, rfl, hc2, hA2, hR2⟩ := hv2.form
  rw [sealed_take] at hR2 hc2 ⊢
  rw [bys_length] at hc2 ⊢
  have HB2 := Lib.hid (below_then' HB1.out hb2)
  have HR12 := Lib.hid (HR1.out.below hb2)
  have ks2 := run_string_of (w := w2) Try.underlying37 Try.underlying5 Try.underlying9 A2 xs.length c2 xs rfl hA2 hR2
  have ks0 := run_string_of (w := w2) Try.underlying37 Try.underlying5 Try.underlying9 A xs.length c xs rfl HA.out (HR.out.below HB2.out)
  clear hb2 hv2 hA2 hR2 HR1 HB1
  by_cases h1 : p < -40
  · go_wp2_with fail
    refine (alive6 _).mono ?_
    rintro e w3 ⟨rfl, hb3⟩
    go_wp2
    go_ret
    exact ⟨rfl, below_then' HB2.out hb3⟩
  by_cases h2 : 10000 < p
  · go_wp2_with fail
    refine (alive6 _).mono ?_
    rintro e w3 ⟨rfl, hb3⟩
    go_wp2
    go_ret
    exact ⟨rfl, below_then' HB2.out hb3⟩
  go_wp2_with fail
  refine (RTurn_calls a1 c1 (xs.length + 3 + 1) (xs ++ lowB (crc xs)) (by simp [lowB]) (by omega) (by omega) p (by omega) (by omega) m _ HR12.out).mono ?_
  rintro e w3 ⟨v3, ys, rfl, hyl, hys, hv3, hb3⟩
  obtain ⟨a3, c3, rfl, hc3, hR3⟩ := hv3.some_ (xs.length + 3) hyl
  have HB3 := Lib.hid (below_then' HB2.out hb3)
  have HR13 := Lib.hid (HR12.out.below hb3)
  have HR3 := Lib.hid hR3
  have HYS := Lib.hid hys
  have HYL := Lib.hid hyl
  clear hb3 hv3 hR3 HB2 HR12 ks0 ks2 hys hyl
  cases hv : (lowB (crc (ys.take xs.length)) == ys.drop xs.length) with
  | true =>
    have HV := Lib.hid hv
    clear hv
    have he : xs ++ lowB (crc xs) = ys := turned _ ys xs.length (by simp [lowB]) (by rw [HYL.out]; simp [lowB]) (by simp) (by
      have := beq_iff_eq.1 HV.out
      exact this) p HYS.out
    have hc : (ys == xs ++ lowB (crc xs)) = true := by rw [he]; simp
    have HC := Lib.hid hc
    clear he hc
    go_wp2_with fail
    refine (Open_good_n a3 c3 (xs.length + 3 + 1) ys xs.length rfl (by rw [HYL.out]) (by omega) hc3 _ HR3.out HV.out).mono ?_
    rintro e w4 ⟨v4, rfl, hv4, hb4⟩
    have HB4 := Lib.hid (below_then' HB3.out hb4)
    have ks3 := run_string_of (w := w4) Try.underlying37 Try.underlying5 Try.underlying9 (some a3) (xs.length + 3 + 1) c3 ys HYL.out.symm (fun h => nomatch h) (HR3.out.below hb4)
    have ks1 := run_string_of (w := w4) Try.underlying37 Try.underlying5 Try.underlying9 (some a1) (xs.length + 3 + 1) c1 (xs ++ lowB (crc xs)) (by simp [lowB]) (fun h => nomatch h) (HR13.out.below hb4)
    have hcx := HC.out
    clear hv4 hb4
    go_wp2_with fail
    refine (alive6 _).mono ?_
    rintro e w5 ⟨rfl, hb5⟩
    go_wp2
    go_ret
    exact ⟨rfl, below_then' HB4.out hb5⟩
  | false =>
    have HV := Lib.hid hv
    clear hv
    have hc : (ys == xs ++ lowB (crc xs)) = false := by
      rw [beq_eq_false_iff_ne]
      rintro rfl
      exact absurd (sealed_ok xs) (by rw [HV.out]; decide)
    have HC := Lib.hid hc
    clear hc
    go_wp2_with fail
    refine (Open_bad_n a3 c3 (xs.length + 3 + 1) ys xs.length rfl (by rw [HYL.out]) (by omega) hc3 _ HR3.out HV.out).mono ?_
    rintro e w4 ⟨rfl, hb4⟩
    have HB4 := Lib.hid (below_then' HB3.out hb4)
    have ks3 := run_string_of (w := w4) Try.underlying37 Try.underlying5 Try.underlying9 (some a3) (xs.length + 3 + 1) c3 ys HYL.out.symm (fun h => nomatch h) (HR3.out.below hb4)
    have ks1 := run_string_of (w := w4) Try.underlying37 Try.underlying5 Try.underlying9 (some a1) (xs.length + 3 + 1) c1 (xs ++ lowB (crc xs)) (by simp [lowB]) (fun h => nomatch h) (HR13.out.below hb4)
    have hcx := HC.out
    clear hb4
    go_wp2_with fail
    refine (alive6 _).mono ?_
    rintro e w5 ⟨rfl, hb5⟩
    go_wp2
    go_ret
    exact ⟨rfl, below_then' HB4.out hb5⟩
theorem turned_walk (A : Option Addr) (c : Nat) (xs : List UInt8) (_ : xs.length ≤ c) (hm : xs.length ≤ maxLen) (hA : A = none → c = 0) (p : Int) (m : BitVec 32) (w : World) (hR : Rd w A (bys xs)) :
    Calls Try.prog 9 #[.slice A xs.length c, .int .i64 p, .int .u32 (nW m)] w fun e w' => e = .returned (.bool true) ∧ Below w.heap.size w w' := by
  by_cases h1 : 600 < xs.length
  · exact turned_long A c xs h1 hm p m w
  · exact turned_short A c xs hA (by omega) p m w hR
end Go.Proofs.Ytdamljjbeaomoaa
