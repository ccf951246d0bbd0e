/- Chapter 09: the reference's Same. -/
import Derived.Test.YtmlgkahadgpaiaaJoD
namespace Go.Proofs.Ytmlgkahadgpaiaa.Jo
open Go.RowKit _root_.Go.Proofs.Ytmlgkahadgpaiaa.Own
open Go.Proofs.Ytmlgkahadgpaiaa.Fr
set_option linter.unusedVariables false
set_option linter.unusedSimpArgs false
/-- A row of rows, as it lies. -/
def Rows (w : World) (A : Option Addr) (ps : List (List UInt8)) : Prop :=
  ∀ i (h : i < ps.length), ∃ a B c, A = some a ∧ w.cell? (a.add i) = some (.slice B ps[i].length c) ∧ (B = none → c = 0) ∧ Rd w B (bys ps[i])
theorem Rows.below {w w' : World} {A : Option Addr} {ps : List (List UInt8)} (h : Rows w A ps) (hb : Below w.heap.size w w') : Rows w' A ps := by
  intro i hi
  obtain ⟨a, B, c, ha, hc, hn, hr⟩ := h i hi
  refine ⟨a, B, c, ha, ?_, hn, hr.below hb⟩
  exact (hb.cell (World.block_lt_of_cell? w _ hc)).trans hc
set_option maxRecDepth 10000 in
set_option maxHeartbeats 8000000 in
theorem Same_calls {w : World} (A B : Option Addr) (ca cb : Nat) (ps qs : List (List UInt8)) (hA : Rows w A ps) (hB : Rows w B qs) (hm : ps.length ≤ 65536) :
    Calls Try.prog 23 #[.slice A ps.length ca, .slice B qs.length cb] w fun e w' => e = .returned (.bool (decide (ps = qs))) ∧ Below w.heap.size w w' := by
  have HA := Lib.hid hA
  have HB := Lib.hid hB
  clear hA hB
  by_cases hL : ps.length = qs.length
  · have hl : ((ps.length : Int) != (qs.length : Int)) = false := by rw [hL]; simp
    have HL := Lib.hid hL
    clear hL
    have HT0 := Lib.hid (show ps.take 0 = qs.take 0 from rfl)
    have HW0 := Lib.hid (Below.refl w.heap.size w)
    go_enter Try.func23, Try.ntmps23
    go_wp2_with fail
    go_loopw [5] (fun v5 wr => ∃ i : Nat, i ≤ ps.length ∧ v5 = .int .i64 i ∧ Hid (ps.take i = qs.take i) ∧ Hid (Below w.heap.size w wr)) (fun v5 _ => ps.length - (intOf v5).toNat)
    case atStart => exact ⟨0, Nat.zero_le _, rfl, HT0, HW0⟩
    case round =>
      clear HT0 HW0
      obtain ⟨i, hi, rfl, HT, HW⟩ := hrel
      by_cases hlt : i < ps.length
      · have hlq : i < qs.length := by have := HL.out; omega
        have hd : decide ((i : Int) < (ps.length : Int)) = true := by rw [decide_eq_true_eq]; omega
        have hd2 : decide (i < ps.length) = true := by rw [decide_eq_true_eq]; exact hlt
        have hdq : decide (i < qs.length) = true := by rw [decide_eq_true_eq]; exact hlq
        have f1 : (0 : Int) ≤ (i : Int) ∧ (i : Int) < (ps.length : Int) ∧ (i : Int) < (qs.length : Int) := by omega
        obtain ⟨f2, f3, f4⟩ := f1
        have f5 : IntKind.i64.wrap ((i : Int) + 1) = ((i + 1 : Nat) : Int) := by rw [IntKind.wrap_i64]; omega
        obtain ⟨a, A', c, rfl, hac, han, har⟩ := HA.out.below HW.out i hlt
        obtain ⟨b, B', c', rfl, hbc, hbn, hbr⟩ := HB.out.below HW.out i hlq
        obtain ⟨x, hx⟩ : ∃ x, ps[i] = x := ⟨_, rfl⟩
        obtain ⟨y, hy⟩ : ∃ y, qs[i] = y := ⟨_, rfl⟩
        rw [hx] at hac har
        rw [hy] at hbc hbr
        obtain ⟨J, hJ⟩ : ∃ J : World → Prop, ∀ W, J W ↔ Below wr.heap.size wr W := ⟨_, fun _ => Iff.rfl⟩
        have K := fun W hb => And.intro (run_string_of (w := W) Try.underlying23 Try.underlying5 Try.underlying9 A' x.length c x rfl han (har.below ((hJ W).1 hb))) (And.intro (run_string_of (w := W) Try.underlying23 Try.underlying5 Try.underlying9 B' y.length c' y rfl hbn (hbr.below ((hJ W).1 hb))) (And.intro ((((hJ W).1 hb).cell (World.block_lt_of_cell? wr _ hac)).trans hac) ((((hJ W).1 hb).cell (World.block_lt_of_cell? wr _ hbc)).trans hbc)))
        have HJ := Lib.hid hJ
        have hj1 := (HJ.out wr.drew).2 (Below.refl _ _).drew
        have HX := Lib.hid hx
        have HY := Lib.hid hy
        clear hJ hac hbc har hbr han hbn hx hy
        by_cases hE : x = y
        · have he : (x != y) = false := by rw [hE]; simp
          have he2 : (x == y) = true := by rw [hE]; simp
          have HE := Lib.hid hE
          clear hE
          go_wp2_with fail
          refine region_inv J (by kernel_rfl) (by kernel_rfl) hj1 ?_
          repeat (first | (apply inv_yes; (· go_simp); (· intro w1 h1; obtain ⟨z0, z1, z2, z3⟩ := K w1 h1; go_simp; exact ⟨rfl, h1⟩); (· go_simp; rfl)) | (apply inv_no; (· go_simp); (· go_simp; rfl)))
          refine wpInv_nil (fun wa ha => ?_)
          have HBa := Lib.hid (HW.out.trans (((HJ.out _).1 ha).mono HW.out.size))
          have HTa := Lib.hid (show ps.take (i + 1) = qs.take (i + 1) by
            rw [List.take_add_one, List.take_add_one, HT.out, List.getElem?_eq_getElem hlt, List.getElem?_eq_getElem hlq, HX.out, HY.out, HE.out])
          clear K HJ ha hj1
          go_wp2_with fail
          go_roundw
          case rel => exact ⟨i + 1, by omega, by simp, HTa, HBa⟩
          case measure => simp [intOf]; omega
        · have he : (x != y) = true := by rw [bne_iff_ne]; exact hE
          have he2 : (x == y) = false := by rw [beq_eq_false_iff_ne]; exact hE
          have HE := Lib.hid hE
          clear hE
          go_wp2_with fail
          refine region_inv J (by kernel_rfl) (by kernel_rfl) hj1 ?_
          repeat (first | (apply inv_yes; (· go_simp); (· intro w1 h1; obtain ⟨z0, z1, z2, z3⟩ := K w1 h1; go_simp; exact ⟨rfl, h1⟩); (· go_simp; rfl)) | (apply inv_no; (· go_simp); (· go_simp; rfl)))
          refine wpInv_nil (fun wa ha => ?_)
          have HBa := Lib.hid (HW.out.trans (((HJ.out _).1 ha).mono HW.out.size))
          clear K HJ ha hj1
          go_wp2_with fail
          go_ret
          refine ⟨?_, HBa.out⟩
          rw [show decide (ps = qs) = false from decide_eq_false (fun h => HE.out (by rw [← HX.out, ← HY.out]; simp [h]))]
          rfl
      · have hd : decide ((i : Int) < (ps.length : Int)) = false := by rw [decide_eq_false_iff_not]; omega
        have hd2 : decide (i < ps.length) = false := by rw [decide_eq_false_iff_not]; exact hlt
        obtain rfl : i = ps.length := by omega
        go_wp2_with fail
        go_ret
        refine ⟨?_, HW.out⟩
        rw [show decide (ps = qs) = true from decide_eq_true (by have h := HT.out; rw [List.take_length, HL.out, List.take_length] at h; exact h)]
        rfl
  · have hl : ((ps.length : Int) != (qs.length : Int)) = true := by rw [bne_iff_ne]; omega
    have HL := Lib.hid hL
    clear hL
    go_enter Try.func23, Try.ntmps23
    go_wp2_with fail
    go_ret
    refine ⟨?_, Below.refl _ _⟩
    rw [show decide (ps = qs) = false from decide_eq_false (fun h => HL.out (by rw [h]))]
    rfl
end Go.Proofs.Ytmlgkahadgpaiaa.Jo
