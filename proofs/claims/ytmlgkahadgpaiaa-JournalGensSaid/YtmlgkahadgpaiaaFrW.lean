/- Chapter 08: frame.Write. -/
import Derived.Test.YtmlgkahadgpaiaaWr
import Derived.Test.YtmlgkahadgpaiaaCrcH
namespace Go.Proofs.Ytmlgkahadgpaiaa.Fr
open Go.RowKit _root_.Go.Proofs.Ytmlgkahadgpaiaa.Own
set_option linter.unusedVariables false
set_option linter.unusedSimpArgs false
theorem Has.base {b b' : Nat} {e : TypeId} {v : Value} {xs : List Value} {w : World} (h : Has b e v xs w) (hb : b' ≤ b) : Has b' e v xs w := by
  obtain ⟨h1, h2⟩ := h
  refine ⟨h1, ?_⟩
  rcases h2 with h2 | ⟨g, cap, cur, q1, q2, q3⟩
  · exact .inl h2
  · exact .inr ⟨g, cap, cur, q1, Nat.le_trans hb q2, q3⟩
theorem Seal_m (A : Option Addr) (c n : Nat) (xs : List UInt8) (hn : n = xs.length) (hl : n ≤ 10000) (hA : A = none → c = 0) (w : World) (hR : Rd w A (bys xs)) :
    Calls Try.prog 63 #[.slice A n c] w fun e w' => ∃ v, e = .returned v ∧ Has w.heap.size 5 v (bys (xs ++ lowB (crc xs))) w' ∧ Below w.heap.size w w' := by
  subst hn; exact Seal_calls A c xs hl hA w hR
def hdr (kind : UInt8) (gen seq len : Nat) : List UInt8 := be kind.toNat 1 ++ be gen 4 ++ be seq 2 ++ be len 1
theorem hdr_length (kind : UInt8) (gen seq len : Nat) : (hdr kind gen seq len).length = 8 := by simp [hdr, be_length]
def bodyF (kind : UInt8) (gen seq : Nat) (b : List UInt8) : List UInt8 := hdr kind gen seq b.length ++ b ++ List.replicate (112 - b.length) 0
theorem bodyF_length (kind : UInt8) (gen seq : Nat) (b : List UInt8) (hb : b.length ≤ 112) : (bodyF kind gen seq b).length = 120 := by
  unfold bodyF; rw [List.length_append, List.length_append, hdr_length, List.length_replicate]; omega
def sealF (body : List UInt8) : List UInt8 := body ++ lowB (crc body) ++ [0, 0, 0, 69]
def blockF (kind : UInt8) (gen seq : Nat) (b : List UInt8) : List UInt8 := sealF (bodyF kind gen seq b)
theorem Done_calls {base g : Nat} {v : Value} {xs : List UInt8} {w : World} (h : WrIs base g v xs w) (hl : xs.length ≤ 1000000) :
    Calls Try.prog 57 #[.pointer (some ⟨g, 0, none⟩)] w fun e w' => ∃ u, e = .returned (.tuple #[u, .int .i64 0]) ∧ Has w.heap.size 5 u (bys xs) w' ∧ Below w.heap.size w w' := by
  obtain ⟨y0, y1, y2, y3⟩ := h.cells
  obtain ⟨A, c, rfl, hc, hA, hR⟩ := h.has.form
  have HC := Lib.hid (Clone_calls A c xs hl hA w hR)
  rw [bys_length] at y1
  clear h hR
  go_enter Try.func57, Try.ntmps57
  go_wp2_with fail
  refine HC.out.mono ?_
  rintro e w1 ⟨u, rfl, hu, hb⟩
  have HU := Lib.hid hu
  have HB := Lib.hid hb
  clear hu hb
  go_wp2_with fail
  go_ret2
  exact ⟨u, rfl, HU.out, HB.out⟩
theorem WriteBad_calls (kind : UInt8) (gen seq : Int) (A : Option Addr) (n c : Nat) (E : Int)
    (hE : ((gen < 0 ∨ gen > 2147483647 ∨ seq < 0 ∨ seq > 65535) ∧ E = 8) ∨ (¬ (gen < 0 ∨ gen > 2147483647 ∨ seq < 0 ∨ seq > 65535) ∧ n > 112 ∧ E = 5)) (w : World) :
    Calls Try.prog 46 #[.int .u8 (nB kind), .int .i64 gen, .int .i64 seq, .slice A n c] w fun e w' => e = .returned (.tuple #[.slice none 0 0, .int .i64 E]) ∧ Below w.heap.size w w' := by
  by_cases c1 : gen < 0
  · have m1 := decide_eq_true c1
    obtain rfl : E = 8 := by omega
    clear hE
    go_enter Try.func46, Try.ntmps46
    go_wp2_with fail
    go_ret2
    exact ⟨rfl, Below.refl _ _⟩
  have m1 := decide_eq_false c1
  by_cases c2 : gen > 2147483647
  · have m2 := decide_eq_true c2
    obtain rfl : E = 8 := by omega
    clear hE
    go_enter Try.func46, Try.ntmps46
    go_wp2_with fail
    go_ret2
    exact ⟨rfl, Below.refl _ _⟩
  have m2 := decide_eq_false c2
  by_cases c3 : seq < 0
  · have m3 := decide_eq_true c3
    obtain rfl : E = 8 := by omega
    clear hE
    go_enter Try.func46, Try.ntmps46
    go_wp2_with fail
    go_ret2
    exact ⟨rfl, Below.refl _ _⟩
  have m3 := decide_eq_false c3
  by_cases c4 : seq > 65535
  · have m4 := decide_eq_true c4
    obtain rfl : E = 8 := by omega
    clear hE
    go_enter Try.func46, Try.ntmps46
    go_wp2_with fail
    go_ret2
    exact ⟨rfl, Below.refl _ _⟩
  have m4 := decide_eq_false c4
  have m5 : decide ((n : Int) > 112) = true := by rw [decide_eq_true_eq]; omega
  obtain rfl : E = 5 := by omega
  clear hE
  go_enter Try.func46, Try.ntmps46
  go_wp2_with fail
  go_ret2
  exact ⟨rfl, Below.refl _ _⟩
set_option maxRecDepth 10000 in
set_option maxHeartbeats 4000000 in
theorem WriteOk_calls (kind : UInt8) (gen seq : Nat) (hg : gen ≤ 2147483647) (hs : seq ≤ 65535) (A : Option Addr) (n c : Nat) (b : List UInt8) (hn : n = b.length) (hb : n ≤ 112) (hA : A = none → c = 0) (w : World) (hR : Rd w A (bys b)) :
    Calls Try.prog 46 #[.int .u8 (nB kind), .int .i64 gen, .int .i64 seq, .slice A n c] w fun e w' => ∃ v, e = .returned (.tuple #[v, .int .i64 0]) ∧ Has w.heap.size 5 v (bys (blockF kind gen seq b)) w' ∧ Below w.heap.size w w' := by
  have m1 : decide ((gen : Int) < 0) = false := by rw [decide_eq_false_iff_not]; omega
  have m2 : decide ((gen : Int) > 2147483647) = false := by rw [decide_eq_false_iff_not]; omega
  have m3 : decide ((seq : Int) < 0) = false := by rw [decide_eq_false_iff_not]; omega
  have m4 : decide ((seq : Int) > 65535) = false := by rw [decide_eq_false_iff_not]; omega
  have m5 : decide ((n : Int) > 112) = false := by rw [decide_eq_false_iff_not]; omega
  have HR := Lib.hid hR
  have HN := Lib.hid hn
  clear hR hn
  have hkb : wrap64 (nB kind) = ((kind.toNat : Nat) : Int) := by have := kind.toNat_lt; unfold wrap64 nB; omega
  go_enter Try.func46, Try.ntmps46
  go_wp2_with fail
  have W0 : WrIs w.heap.size w.heap.size (.slice none 0 0) [] (w.alloc (.cells ⟨[.int .i64 0, .slice none 0 0]⟩ 96 (0, 0))) := ⟨heap_alloc_new w _, Has.nil _ _ _, Nat.le_refl _⟩
  have B0 := (Below.refl w.heap.size w).alloc (Nat.le_refl _) (.cells ⟨[.int .i64 0, .slice none 0 0]⟩ 96 (0, 0))
  refine (Num_calls W0 kind.toNat 1 (.inl rfl) (by have := kind.toNat_lt; omega) (by simp) B0.size).mono ?_
  rintro e w1 ⟨rfl, v1, W1, b1⟩
  have B1 := B0.trans b1
  clear W0 B0 b1
  go_wp2_with fail
  refine (Num_calls W1 gen 4 (by simp) (by omega) (by simp [be_length]) B1.size).mono ?_
  rintro e w2 ⟨rfl, v2, W2, b2⟩
  have B2 := B1.trans b2
  clear W1 B1 b2
  go_wp2_with fail
  refine (Num_calls W2 seq 2 (by simp) (by omega) (by simp [be_length]) B2.size).mono ?_
  rintro e w3 ⟨rfl, v3, W3, b3⟩
  have B3 := B2.trans b3
  clear W2 B2 b3
  go_wp2_with fail
  refine (Num_calls W3 n 1 (by simp) (by omega) (by simp [be_length]) B3.size).mono ?_
  rintro e w4 ⟨rfl, v4, W4, b4⟩
  have B4 := B3.trans b4
  clear W3 B3 b4
  go_wp2_with fail
  refine (Done_calls W4 (by simp [be_length])).mono ?_
  rintro e w5 ⟨u, rfl, hu, b5⟩
  have B5 := Lib.hid (B4.trans (b5.mono B4.size))
  have hu5 := Has.base hu B4.size
  rw [show [] ++ be kind.toNat 1 ++ be gen 4 ++ be seq 2 ++ be n 1 = hdr kind gen seq n from rfl] at hu5
  have HU := Lib.hid hu5
  have HRb := Lib.hid (HR.out.below B5.out)
  clear W4 B4 b5 hu hu5
  have hln : (bys (hdr kind gen seq n)).length + (bys b).length ≤ 200 := by rw [bys_length, bys_length, hdr_length, ← HN.out]; omega
  have HLn := Lib.hid hln
  clear hln
  go_wp2_with (at_builtin; refine wpList_app rfl _ _ 23 rfl w.heap.size 5 (.int .u8 0) 1 Try.underlying23 infoB rfl u (bys (hdr kind gen seq n)) rfl HU.out A n c (bys b) rfl (by rw [bys_length]; exact HN.out) hA HRb.out (bys_one _) (Nat.le_trans HLn.out (by decide)) (by have := HLn.out; omega) B5.out.size ?_)
  intro v6 w6 hv6 hg6
  have B6 := Lib.hid (B5.out.grown hg6 B5.out.size (fun k e => (HU.out.blk k e).1))
  rw [← bys_append] at hv6
  have HV6 := Lib.hid hv6
  clear hv6 hg6 HLn HRb HU B5
  go_wp2_with fail
  go_loopw [13] (fun v13 wr => ∃ j : Nat, n + j ≤ 112 ∧ Hid (Has w.heap.size 5 v13 (bys (hdr kind gen seq n ++ b ++ List.replicate j 0)) wr) ∧ Hid (Below w.heap.size w wr)) (fun v13 _ => 120 - (match v13 with | .slice _ m _ => m | _ => 0))
  case atStart => exact ⟨0, by omega, by rw [List.replicate_zero, List.append_nil]; exact HV6, B6⟩
  case round =>
    clear HV6 B6
    obtain ⟨j, hj, HV, HB⟩ := hrel
    obtain ⟨X, hX⟩ : ∃ X, hdr kind gen seq n ++ b ++ List.replicate j 0 = X := ⟨_, rfl⟩
    rw [hX] at HV
    have hXl : X.length = 8 + n + j := by rw [← hX, List.length_append, List.length_append, hdr_length, List.length_replicate, ← HN.out]
    have HX := Lib.hid hX
    clear hX
    obtain ⟨A7, c7, rfl, hc7, hA7, hR7⟩ := HV.out.form
    rw [bys_length, hXl] at HV ⊢
    have HR7 := Lib.hid hR7
    have HL7 := Lib.hid hXl
    clear hR7 hXl hc7
    by_cases hlt : n + j < 112
    · have hd : decide (((8 + n + j : Nat) : Int) < 120) = true := by rw [decide_eq_true_eq]; omega
      go_wp2_with (at_builtin; refine wpList_app rfl _ _ 23 rfl w.heap.size 5 (.int .u8 0) 1 Try.underlying23 infoB rfl _ (bys X) rfl ?hOwn _ _ _ [.int .u8 0] rfl rfl ?hNil ?hRd ?h1 ?hCap ?hCap2 ?hBase ?_)
      case hOwn => exact HV.out.below ((Below.refl _ _).alloc (Nat.le_refl _) _)
      case hNil => exact fun h => nomatch h
      case hRd => exact Rd.mark _ _ _
      case h1 => simp [Value.oneCell']
      case hCap => rw [bys_length, HL7.out]; simp [maxLen]; omega
      case hCap2 => rw [bys_length, HL7.out]; simp; omega
      case hBase => have := HB.out.size; simp; omega
      intro v8 w8 hv8 hg8
      have hB8 := (HB.out.alloc HB.out.size (.cells #[Value.int IntKind.u8 0] 5)).grown hg8 (by have := HB.out.size; simp; omega) (fun k e => (HV.out.blk k e).1)
      have HB8 := Lib.hid hB8
      have hv9 : Has w.heap.size 5 v8 (bys (hdr kind gen seq n ++ b ++ List.replicate (j + 1) 0)) w8 := by
        rw [List.replicate_succ', ← List.append_assoc, HX.out, bys_append]
        exact hv8
      have HV8 := Lib.hid hv9
      obtain ⟨A9, c9, rfl, -, -, -⟩ := hv9.form
      have hl9 : (bys (hdr kind gen seq n ++ b ++ List.replicate (j + 1) 0)).length = 8 + n + (j + 1) := by rw [bys_length, List.length_append, List.length_append, hdr_length, List.length_replicate, ← HN.out]
      rw [hl9] at HV8 ⊢
      clear hv8 hg8 hB8 hv9 hl9 HV HB HR7 HL7 HX
      go_wp2_with fail
      go_roundw
      case rel => exact ⟨j + 1, by omega, HV8, HB8⟩
      case measure => simp; omega
    · have hd : decide (((8 + n + j : Nat) : Int) < 120) = false := by rw [decide_eq_false_iff_not]; omega
      have hX0 : X = bodyF kind gen seq b := by
        rw [← HX.out]
        unfold bodyF
        rw [← HN.out, show 112 - n = j by omega]
      have HX0 := Lib.hid hX0
      clear hX0
      go_wp2_with fail
      refine (Seal_m A7 c7 (8 + n + j) X HL7.out.symm (by omega) hA7 wr HR7.out).mono ?_
      rintro e w8 ⟨v8, rfl, hv8, hb8⟩
      have HB8 := Lib.hid (HB.out.trans (hb8.mono HB.out.size))
      have HV8 := Lib.hid (Has.base hv8 HB.out.size)
      have hl8 : (bys (X ++ lowB (crc X))).length ≤ 200 := by rw [bys_length, List.length_append, HL7.out]; simp [lowB]; omega
      have HL8 := Lib.hid hl8
      clear hv8 hb8 hl8 HV HB HR7
      go_wp2_with (at_builtin; refine wpList_app rfl _ _ 23 rfl w.heap.size 5 (.int .u8 0) 1 Try.underlying23 infoB rfl _ (bys (X ++ lowB (crc X))) rfl ?hOwn _ _ _ (bys [0, 0, 0, 69]) rfl rfl ?hNil ?hRd (bys_one _) ?hCap ?hCap2 ?hBase ?_)
      case hOwn => exact HV8.out.below ((Below.refl _ _).alloc (Nat.le_refl _) _)
      case hNil => exact fun h => nomatch h
      case hRd => exact Rd.mark _ _ _
      case hCap => have := HL8.out; rw [bys_length [0, 0, 0, 69]]; simp [maxLen]; omega
      case hCap2 => have := HL8.out; rw [bys_length [0, 0, 0, 69]]; simp; omega
      case hBase => have := HB8.out.size; simp; omega
      intro v9 w9 hv9 hg9
      have hB9 := (HB8.out.alloc HB8.out.size (.cells #[Value.int IntKind.u8 0, Value.int IntKind.u8 0, Value.int IntKind.u8 0, Value.int IntKind.u8 69] 5)).grown hg9 (by have := HB8.out.size; simp; omega) (fun k e => (HV8.out.blk k e).1)
      have HB9 := Lib.hid hB9
      have hv10 : Has w.heap.size 5 v9 (bys (blockF kind gen seq b)) w9 := by
        unfold blockF sealF
        rw [← HX0.out, bys_append]
        exact hv9
      have HV9 := Lib.hid hv10
      clear hv9 hg9 hB9 hv10
      go_wp2_with fail
      go_ret2
      exact ⟨v9, rfl, HV9.out, HB9.out⟩
end Go.Proofs.Ytmlgkahadgpaiaa.Fr
