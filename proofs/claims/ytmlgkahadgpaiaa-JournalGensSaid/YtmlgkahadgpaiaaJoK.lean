/- Chapter 09: alive. -/
import Derived.Test.YtmlgkahadgpaiaaJoI
namespace Go.Proofs.Ytmlgkahadgpaiaa.Jo
open Go.RowKit _root_.Go.Proofs.Ytmlgkahadgpaiaa.Own
open Go.Proofs.Ytmlgkahadgpaiaa.Fr
open Go.Proofs.Ytmlgkahadgpaiaa.Dk (D Is D0 torn putRow rowB wst DOk rowB_length)
set_option linter.unusedVariables false
set_option linter.unusedSimpArgs false
theorem rows_lit1 (w : World) (xs : List UInt8) (l c : Nat) (hl : l = xs.length) (t1 t2 : TypeId) (fr fr2 : Nat × Nat) : Rows ((w.alloc (.cells ⟨bys xs⟩ t1 fr)).alloc (.cells ⟨[.slice (some ⟨w.heap.size, 0, none⟩) l c]⟩ t2 fr2)) (some ⟨w.heap.size + 1, 0, none⟩) [xs] := by
  intro i hi
  obtain rfl : i = 0 := by simp at hi; exact hi
  subst hl
  refine ⟨_, some ⟨w.heap.size, 0, none⟩, c, rfl, ?_, (fun h => nomatch h), (Rd.put _ rfl (bys xs) t1 fr).alloc _⟩
  have h2 := heap_alloc_new (w.alloc (.cells ⟨bys xs⟩ t1 fr)) (.cells ⟨[.slice (some ⟨w.heap.size, 0, none⟩) xs.length c]⟩ t2 fr2)
  rw [World.size_alloc] at h2
  exact cell_of_row _ _ 0 _ _ _ h2
set_option maxRecDepth 10000 in
set_option maxHeartbeats 8000000 in
theorem alive09 (w : World) : Calls Try.prog 18 #[] w fun e w' => e = .returned (.bool true) ∧ Below w.heap.size w w' := by
  have kc := conv_lit (P := Try.prog) 23 5 Try.underlying23 Try.underlying5
  go_enter Try.func18, Try.ntmps18
  go_wp2_with fail
  refine (Dk.New_calls 9 (by decide) (by decide) w).mono ?_
  rintro e w1 ⟨g, r, rfl, hg, hr, hI, hb⟩
  have HI := Lib.hid hI
  have HB := Lib.hid hb
  clear hI hb
  go_wp2_with fail
  refine (New_calls HI.out 1 2 (by decide) (by decide) (by decide) (by decide)).mono ?_
  rintro e w2 ⟨x, rfl, hv, hvg, hb2⟩
  have L2 := Lib.hid (JL.start HI.out HB.out hg hr (Nat.le_trans HB.out.size hvg) hv hb2)
  clear hv hb2 HI HB hvg
  go_wp2_with fail
  refine (NewFar_calls L2.out.js.is 6 2 (by decide) (by decide) (by decide) (by decide) (by decide)).mono ?_
  rintro e w3 ⟨rfl, hb3⟩
  have L3 := Lib.hid (L2.out.call hb3)
  clear hb3
  have C0 := Lib.hid (Va.calm0 9)
  have D00 := Lib.hid (show (D0 9).off = false from rfl)
  go_wp2_with fail
  have h5 := Add_calls (L3.out.js.call ((Below.refl w3.heap.size w3).alloc (Nat.le_refl _) (.cells #[.int .u8 120] 5 (1, 2)))) (by decide) (by decide) (by decide) (by decide) C0.out.dok (by decide) (by decide) (some ⟨w3.heap.size, 0, none⟩) 1 1 [120] rfl (by decide) (fun h => nomatch h) (Rd.put _ rfl (bys [120]) _ _)
  obtain ⟨s1, s2, s3⟩ := calm_add C0.out 1 0 0 [120]
  obtain ⟨t1, t2, t3, t4, -⟩ := add_law (d := D0 9) (n := 9) (by simp [D0]) C0.out.dok.kp (f := 1) (G := 0) (N := 0) (by decide) [120] (by decide) (by decide) (by decide)
  have P1 := Lib.hid (t4 s1).2
  have T1 := Lib.hid (And.intro t1 t2)
  rw [s1, s2] at h5
  generalize (addD (D0 9) 1 0 0 [120]).2.1 = d1 at *
  have H5 := Lib.hid h5
  have C1 := Lib.hid s3
  clear h5 s1 s2 s3 t1 t2 t3 t4 C0 D00
  refine H5.out.mono ?_
  rintro e w5 ⟨rfl, p5⟩
  have L5 := Lib.hid (L3.out.set p5)
  clear p5 H5 L3 L2
  go_wp2_with fail
  have h6 := Dk.Arm_calls L5.out.js.is 1 0
  rw [show Dk.armE 1 0 = 0 from rfl] at h6
  refine h6.mono ?_
  rintro e w6 ⟨rfl, o6, i6⟩
  have L6 := Lib.hid (L5.out.set (L5.out.js.turn (o6.mono (by simp)) i6))
  have a6 : (Dk.armD d1 1 0).all = d1.all ∧ (Dk.armD d1 1 0).off = d1.off ∧ (Dk.armD d1 1 0).armed = true ∧ (Dk.armD d1 1 0).left = 1 ∧ (Dk.armD d1 1 0).keep = 0 ∧ (Dk.armD d1 1 0).writes = d1.writes := by
    rw [show Dk.armD d1 1 0 = { d1 with armed := true, left := 1, keep := 0 } from if_neg (by decide)]
    exact ⟨rfl, rfl, rfl, rfl, rfl, rfl⟩
  have A6 := Lib.hid a6
  clear a6 h6 o6 i6 L5
  generalize Dk.armD d1 1 0 = e1 at *
  go_wp2_with fail
  have k6 : DOk e1 2 := ⟨by rw [A6.out.2.2.2.2.2]; exact C1.out.dok.wr, by rw [A6.out.2.2.2.1]; simp, by rw [A6.out.2.2.2.2.1]; simp⟩
  have h7 := Add_calls (L6.out.js.call ((Below.refl w6.heap.size w6).alloc (Nat.le_refl _) (.cells #[.int .u8 121] 5 (1, 2)))) (by decide) (by decide) (by decide) (by decide) k6 (by decide) (by decide) (some ⟨w6.heap.size, 0, none⟩) 1 1 [121] rfl (by decide) (fun h => nomatch h) (Rd.put _ rfl (bys [121]) _ _)
  have hl6 : e1.all.length = 9 * 128 := by rw [A6.out.1]; exact T1.out.1
  obtain ⟨s1, s2, s3, s4⟩ := add_cut (d := e1) (n := 9) hl6 (by rw [A6.out.2.1]; exact C1.out.off) A6.out.2.2.1 A6.out.2.2.2.1 k6.kp (by rw [A6.out.2.2.2.2.1]; decide) (f := 1) (G := 0) (N := 1) (by decide) [121] (by decide) (by decide) (by decide)
  have s5 := add_other (d := e1) (n := 9) hl6 k6.kp (f := 1) (G := 0) (N := 1) (by decide) [121] (by decide) (by decide) (by decide) 0 0 (by decide) (by decide)
  rw [show placeD e1.all 1 0 0 = some [120] from by rw [A6.out.1]; exact P1.out] at s5
  obtain ⟨t1, t2, -⟩ := add_law (d := e1) (n := 9) hl6 k6.kp (f := 1) (G := 0) (N := 1) (by decide) [121] (by decide) (by decide) (by decide)
  have Q2 := Lib.hid (dok_add k6 1 0 1 [121])
  have P2 := Lib.hid (And.intro s5 (And.intro s4 (And.intro t1 (t2.trans A6.out.2.2.2.2.1))))
  rw [s1, s2] at h7
  generalize (addD e1 1 0 1 [121]).2.1 = d2 at *
  have H7 := Lib.hid h7
  clear h7 s1 s2 s3 s4 s5 t1 t2 k6 hl6 A6 P1 T1 C1
  refine H7.out.mono ?_
  rintro e w7 ⟨rfl, p7⟩
  have L7 := Lib.hid (L6.out.set p7)
  clear p7 H7 L6
  go_wp2_with fail
  refine (Dk.Power_calls L7.out.js.is).mono ?_
  rintro e w8 ⟨rfl, o8, i8⟩
  have L8 := Lib.hid (L7.out.set (L7.out.js.turn (o8.mono (by simp)) i8))
  have C3 := Lib.hid (calm_power Q2.out)
  have P3 := Lib.hid (show placeD ({ d2 with off := false, armed := false } : D).all 1 0 0 = some [120] ∧ placeD ({ d2 with off := false, armed := false } : D).all 1 0 1 = none ∧ ({ d2 with off := false, armed := false } : D).all.length = 9 * 128 from ⟨P2.out.1, P2.out.2.1, P2.out.2.2.1⟩)
  generalize ({ d2 with off := false, armed := false } : D) = d3 at *
  clear o8 i8 L7 P2 Q2
  go_wp2_with fail
  have h9 := Open_calls L8.out.js C3.out.off (by decide) (by decide) (by decide) 0 (by decide)
  refine h9.mono ?_
  rintro e w9 ⟨v9, ps9, rfl, op9, en9, js9⟩
  have e9 := opened_eq op9 en9 [[120]] (by decide) (fun q hq => by
    obtain rfl : q = 0 := by simp at hq; exact hq
    exact P3.out.1) (fun _ => P3.out.2.1)
  have n9 : ps9.length = 1 := by have := congrArg List.length e9; simpa using this
  obtain ⟨A9, c9, ev9, st9⟩ := opened_stay op9
  rw [n9] at js9
  rw [e9] at ev9 st9
  subst ev9
  have hbs : ∀ k ∈ [g, r, x], k < w8.heap.size := by
    have h1 := blk_lt L8.out.js.is.own
    have h2 := blk_lt L8.out.js.is.row
    have h3 := blk_lt L8.out.js.jis
    simp; omega
  have R9 := Lib.hid (fun w' ho => st9 [g, r, x] w' ho hbs)
  have L9 := Lib.hid (L8.out.set js9)
  clear h9 op9 en9 js9 e9 n9 st9 hbs L8
  go_wp2_with fail
  have h10 := Clean_calls L9.out.js.self (by decide) (by decide) (by decide) (by decide) C3.out.dok (by decide)
  obtain ⟨s1, s2⟩ := calm_clean C3.out 1 1
  rw [s1] at h10
  generalize (clN d3 1 1 2).2 = d4 at *
  have H10 := Lib.hid h10
  have C4 := Lib.hid s2
  clear h10 s1 s2 C3 P3
  refine H10.out.mono ?_
  rintro e w10 ⟨rfl, p10⟩
  have L10 := Lib.hid (L9.out.set (L9.out.js.back p10))
  have O10 := Lib.hid p10.only
  clear p10 H10 L9
  go_wp2_with fail
  have h11 := Add_calls (L10.out.js.self.call ((Below.refl w10.heap.size w10).alloc (Nat.le_refl _) (.cells #[.int .u8 122] 5 (1, 2)))) (by decide) (by decide) (by decide) (by decide) C4.out.dok (by decide) (by decide) (some ⟨w10.heap.size, 0, none⟩) 1 1 [122] rfl (by decide) (fun h => nomatch h) (Rd.put _ rfl (bys [122]) _ _)
  obtain ⟨s1, s2, s3⟩ := calm_add C4.out 1 0 1 [122]
  rw [s1, s2] at h11
  generalize (addD d4 1 0 1 [122]).2.1 = d5 at *
  have H11 := Lib.hid h11
  clear h11 s1 s2 s3 C4
  refine H11.out.mono ?_
  rintro e w11 ⟨rfl, p11⟩
  have L11 := Lib.hid (L10.out.set (L10.out.js.back p11))
  have R11 := Lib.hid (R9.out _ (O10.out.trans p11.only))
  clear p11 H11 L10 O10 R9
  go_wp2_with fail
  have hb11 : Below w11.heap.size w11 ((w11.alloc (.cells ⟨bys [120]⟩ 5 (1, 2))).alloc (.cells ⟨[.slice (some ⟨w11.heap.size, 0, none⟩) 1 1]⟩ 23)) := ((Below.refl w11.heap.size w11).alloc (Nat.le_refl _) _).alloc (by simp) _
  have h12 := Same_calls A9 (some ⟨w11.heap.size + 1, 0, none⟩) c9 1 [[120]] [[120]] (R11.out.below hb11) (rows_lit1 w11 [120] 1 1 rfl _ _ _ _) (by decide)
  rw [decide_eq_true (rfl : ([[120]] : List (List UInt8)) = [[120]])] at h12
  have H12 := Lib.hid h12
  have L11b := Lib.hid (L11.out.call hb11)
  clear h12 hb11 R11 L11
  refine H12.out.mono ?_
  rintro e w12 ⟨rfl, b12⟩
  have L12 := Lib.hid (L11b.out.call b12)
  clear b12 H12 L11b
  have J12 := Lib.hid (show JIs x g 1 2 0 2 w12 from L12.out.js.jis)
  go_wp2_with fail
  refine (AddFull_calls J12.out _).mono ?_
  rintro e w13 ⟨rfl, b13⟩
  have J13 := Lib.hid (J12.out.below b13)
  have B13 := Lib.hid (L12.out.call b13).below
  clear b13 J12 L12
  go_wp2_with fail
  refine (Len_calls J13.out).mono ?_
  rintro e w14 ⟨rfl, rfl⟩
  go_wp2_with fail
  refine (Room_calls J13.out).mono ?_
  rintro e w14 ⟨rfl, rfl⟩
  go_wp2_with fail
  refine (Gen_calls J13.out).mono ?_
  rintro e w14 ⟨rfl, rfl⟩
  go_wp2_with fail
  refine (NobodyAdd_calls (.inl rfl) _).mono ?_
  rintro e w14 ⟨rfl, rfl⟩
  go_wp2_with fail
  refine (NobodyLen_calls (.inl rfl)).mono ?_
  rintro e w14 ⟨rfl, rfl⟩
  go_wp2_with fail
  go_ret
  exact ⟨rfl, B13.out⟩
end Go.Proofs.Ytmlgkahadgpaiaa.Jo
