/- Chapter 30: MoveFlows (printed by gen/mvlaw.py). -/
import Derived.Test.YtohdldlagkmcnaaDoorMvI
namespace Go.Proofs.YtohdldlagkmcnaaDoor.Mv
set_option linter.unusedSimpArgs false
set_option linter.unusedVariables false
open Go.RowKit
open _root_.Go.Proofs.YtohdldlagkmcnaaDoor.Own
open Go.Proofs.YtohdldlagkmcnaaDoor.Pl
attribute [local go_sem] b16_and b16_or b16_andNot
theorem or_zero (x y : BitVec 16) : (x ||| y == 0#16) = ((x == 0#16) && (y == 0#16)) := by
  have h := or_less x y 0#16
  rw [show ~~~0#16 = BitVec.allOnes 16 from rfl, BitVec.and_allOnes, BitVec.and_allOnes, BitVec.and_allOnes] at h
  exact h
theorem nH_zero (U : BitVec 16) : (nH U == 0) = (U == 0#16) := by
  rw [Bool.eq_iff_iff]
  simp only [beq_iff_eq]
  constructor
  · intro h
    apply BitVec.eq_of_toNat_eq
    simp only [nH] at h
    simp only [BitVec.toNat_zero]
    exact Int.ofNat_eq_zero.1 h
  · rintro rfl; rfl
theorem or_part (x y : BitVec 16) : (x &&& ~~~(x ||| y) == 0#16) = true ∧ (y &&& ~~~(x ||| y) == 0#16) = true := by
  have h := or_less x y (x ||| y)
  rw [BitVec.and_not_self] at h
  simpa using h.symm
theorem flows_plain (Q : Pol) (r : Int) (oS oI : BitVec 16) (oT : Int) (oF : Bool) (xS xI : BitVec 16) (xT : Int) (xF : Bool) (way : Int) :
    ((mayF Q r oS oI oT oF xS xI xT xF way).2 = 0 ∧ oF = false ∧ xF = false ∧ oT = xT ∧ ((mayF Q r oS oI oT oF xS xI xT xF way).1 &&& ~~~capsF Q r oS oI == 0#16) = true ∧ (evL Q r oS oI oT oF xS xI xT xF way).length ≠ 0 ∧
      ∀ f ∈ evL Q r oS oI oT oF xS xI xT xF way, (uB f.a f.b f.c f.d &&& ~~~capsF Q r oS oI == 0#16) = true ∧ (uB f.a f.b f.c f.d &&& ~~~(mayF Q r oS oI oT oF xS xI xT xF way).1 == 0#16) = true) ∨
    ((mayF Q r oS oI oT oF xS xI xT xF way).2 ≠ 0 ∧ (mayF Q r oS oI oT oF xS xI xT xF way).1 = 0#16 ∧ (evL Q r oS oI oT oF xS xI xT xF way).length = 0) := by
  unfold evL mayF
  by_cases h0 : way < 1 ∨ way > 3
  · simp [if_pos h0]
  · simp only [if_neg h0]
    by_cases h1 : oF = true ∨ xF = true
    · simp [if_pos h1]
    · simp only [if_neg h1]
      by_cases h2 : oT ≠ xT
      · simp [if_pos h2]
      · simp only [if_neg h2]
        obtain ⟨rfl, rfl⟩ : oF = false ∧ xF = false := by simpa using h1
        have h2 : oT = xT := by simpa using h2
        cases h3 : (usedW way oS oI xS xI &&& ~~~capsF Q r oS oI == 0#16) with
        | false => simp
        | true =>
          have hw : way = 1 ∨ way = 2 ∨ way = 3 := by omega
          refine .inl ⟨rfl, rfl, rfl, h2, h3, ?_, ?_⟩
          · simp only [if_true]
            rw [flowsL_length hw]
            unfold flowsN
            split <;> decide
          · simp only [if_true]
            generalize capsF Q r oS oI = C at *
            rcases hw with rfl | rfl | rfl
            · intro f hf
              obtain rfl : f = ⟨1, oS, oI, xS, xI⟩ := by simpa [flowsL] using hf
              refine ⟨h3, ?_⟩
              change (uB oS oI xS xI &&& ~~~(uB oS oI xS xI) == 0#16) = true
              rw [BitVec.and_not_self]
              rfl
            · intro f hf
              obtain rfl : f = ⟨2, xS, xI, oS, oI⟩ := by simpa [flowsL] using hf
              refine ⟨h3, ?_⟩
              change (uB xS xI oS oI &&& ~~~(uB xS xI oS oI) == 0#16) = true
              rw [BitVec.and_not_self]
              rfl
            · have e3 : usedW 3 oS oI xS xI = uB xS xI oS oI ||| uB oS oI xS xI := rfl
              rw [e3] at h3 ⊢
              have h4 := or_less (uB xS xI oS oI) (uB oS oI xS xI) C
              rw [h3] at h4
              have h4 := Bool.and_eq_true_iff.1 h4.symm
              have h5 := or_part (uB xS xI oS oI) (uB oS oI xS xI)
              intro f hf
              have hf2 : f = ⟨2, xS, xI, oS, oI⟩ ∨ f = ⟨1, oS, oI, xS, xI⟩ := by simpa [flowsL] using hf
              rcases hf2 with rfl | rfl
              · exact ⟨h4.1, h5.1⟩
              · exact ⟨h4.2, h5.2⟩
set_option maxRecDepth 10000 in
set_option maxHeartbeats 16000000 in
theorem flows_walk (P : Pol) (r : Int) (oS oI : BitVec 16) (oT : Int) (oF : Bool) (xS xI : BitVec 16) (xT : Int) (xF : Bool) (way : Int) (w : World) (hT : Table w) (hw1 : 1 ≤ w.heap.size) :
    Calls Tryd.prog 5 #[.agg ⟨askC P r oS oI oT oF xS xI xT xF⟩, .int .i64 way] w fun e w' => e = .returned (.bool true) ∧ Below w.heap.size w w' := by
  have hA := (At.refl w).alloc (askC P r oS oI oT oF xS xI xT xF) 33
  have HT := Lib.hid (And.intro hT hw1)
  have HA := Lib.hid hA
  have HAL := Lib.hid (fun (W : World) (hT : Table W) (hw1 : 1 ≤ W.heap.size) => alive30 W hT hw1)
  clear hA hT hw1
  go_enter Tryd.func5, Tryd.ntmps5
  go_wp2_with (refine wpList_load_part rfl 29 _ rfl w.heap.size 0 rfl 33 (askC P r oS oI oT oF xS xI xT xF) (polC P) 66 (0, 0) _ (HA.out.row 0 rfl) Tryd.underlying29 rfl pol_size' (polC_length P) (fun i hi => ask_pol i hi) ?_)
  refine (Mend_calls P _).mono ?_
  rintro e w1 ⟨Q, rfl, hb1⟩
  have A1 := (HA.out.call hb1).alloc (polC PZ) 29
  have hA2 := A1.setRow 0 rfl ⟨polC Q⟩
  simp only [List.set_cons_zero, List.set_cons_succ] at hA2
  clear hb1 HA
  go_upto_region 2 with (first | refine wpList_alloc_arr rfl 29 rfl (polC PZ) polC_zero ?_ | refine wpList_store_row rfl 29 _ _ rfl _ _ rfl rfl 29 _ (A1.row 0 rfl) polC_size polC_old polC_one ?_)
  generalize World.setRow _ _ _ = w2 at hA2 ⊢
  have HA2 := Lib.hid hA2
  clear A1 hA2
  go_simp
  go_cut [6, 7] (fun o x wx => ∃ g1 g2 : Nat, o = .pointer (some ⟨g1, 0, none⟩) ∧ x = .pointer (some ⟨g2, 0, none⟩) ∧ Hid (At w (LL w P r oS oI oT oF xS xI xT xF Q w1.heap.size g1 g2) wx))
  case first =>
    obtain ⟨y0, y1, y2, y3, y4, y5, y6, y7, y8⟩ := ask_cells HA2.out (k := 1) rfl
    have hy := (HA2.out.rules _ (List.mem_cons_of_mem _ (List.mem_cons_self ..))).2.2.1
    have hB1 := ((HA2.out.alloc (sideC oS oI oT oF) 35).alloc (sideC xS xI xT xF) 35)
    have hB2 := (at_swap ((HA2.out.alloc (sideC xS xI xT xF) 35).alloc (sideC oS oI oT oF) 35))
    simp only [World.size_alloc] at hB1 hB2
    have HB1 := Lib.hid hB1
    have HB2 := Lib.hid hB2
    clear hB1 hB2
    go_region
    all_goals (go_wp2_with fail; go_meet; first | exact ⟨_, _, rfl, rfl, Lib.hid HB1.out.drew⟩ | exact ⟨_, _, rfl, rfl, Lib.hid HB2.out.drew⟩)
  case rest =>
    obtain ⟨w3, rfl⟩ : ∃ x : World, x = wc := ⟨_, rfl⟩
    obtain ⟨g1, g2, rfl, rfl, HA3⟩ := hcut
    obtain ⟨y0, y1, y2, y3, y4, y5, y6, y7, y8⟩ := ask_cells HA3.out (k := 3) rfl
    obtain ⟨s0, s1, s2, s3⟩ := s4_cells HA3.out (k := 1) rfl
    obtain ⟨t0, t1, t2, t3⟩ := s4_cells HA3.out (k := 0) rfl
    clear HA2
    have HM := Lib.hid (fun V (hb : Below w.heap.size w V) => May_calls Q r oS oI oT oF xS xI xT xF way V (HT.out.1.below (hb.mono HT.out.2)) (Nat.le_trans HT.out.2 hb.size))
    have HE := Lib.hid (fun V (hb : Below w.heap.size w V) => Event_is Q r oS oI oT oF xS xI xT xF way V (HT.out.1.below (hb.mono HT.out.2)) (Nat.le_trans HT.out.2 hb.size))
    have HC := Lib.hid (fun V (hb : Below w.heap.size w V) => Caps_calls Q r oS oI V (HT.out.1.below (hb.mono HT.out.2)) (Nat.le_trans HT.out.2 hb.size))
    have HAL2 := Lib.hid (fun V (hb : Below w.heap.size w V) => HAL.out V (HT.out.1.below (hb.mono HT.out.2)) (Nat.le_trans HT.out.2 hb.size))
    have hL2 := evL_two Q r oS oI oT oF xS xI xT xF way
    have hPL := flows_plain Q r oS oI oT oF xS xI xT xF way
    generalize capsF Q r oS oI = C at HC hPL
    generalize evL Q r oS oI oT oF xS xI xT xF way = ls at HE hL2 hPL
    generalize mayF Q r oS oI oT oF xS xI xT xF way = p1 at HM hPL
    obtain ⟨n, hn⟩ : ∃ n, ls.length = n := ⟨_, rfl⟩
    rw [hn] at HE hL2 hPL
    obtain ⟨u1, e1⟩ := p1
    simp only [mayV] at HM
    simp only at hPL
    have HL2 := Lib.hid hL2
    have HN := Lib.hid hn
    have HPL := Lib.hid hPL
    clear HT HAL hL2 hPL hn
    go_wp2_with (refine wpList_load_row rfl 29 _ rfl _ rfl 29 _ (0, 0) _ (HA3.out.row 2 rfl) Tryd.underlying29 rfl polC_size ?_)
    refine (HE.out _ HA3.out.below).mono ?_
    rintro e w4 ⟨A1, ge, ce, rfl, hev, hb⟩
    have HA4 := Lib.hid (HA3.out.call hb)
    have HV4 := Lib.hid hev
    clear hb HA3 hev HE
    clear y0 y1 y2 y3 y4 y5 y6 y7 y8 s0 s1 s2 s3 t0 t1 t2 t3
    obtain ⟨y0, y1, y2, y3, y4, y5, y6, y7, y8⟩ := ask_cells HA4.out (k := 3) rfl
    obtain ⟨s0, s1, s2, s3⟩ := s4_cells HA4.out (k := 1) rfl
    obtain ⟨t0, t1, t2, t3⟩ := s4_cells HA4.out (k := 0) rfl
    go_wp2_with (refine wpList_load_row rfl 29 _ rfl _ rfl 29 _ (0, 0) _ (HA4.out.row 2 rfl) Tryd.underlying29 rfl polC_size ?_)
    refine (HM.out _ HA4.out.below).mono ?_
    rintro e w5 ⟨rfl, hb⟩
    have HA5 := Lib.hid (HA4.out.call hb)
    have HV5 := Lib.hid (fun h => And.intro (HV4.out h).1 ((HV4.out h).2.below hb))
    clear hb HA4 HV4 HM
    clear y0 y1 y2 y3 y4 y5 y6 y7 y8 s0 s1 s2 s3 t0 t1 t2 t3
    rcases HPL.out with ⟨rfl, rfl, rfl, rfl, huC, hn0, hfs⟩ | ⟨he, rfl, rfl⟩
    · have HFS := Lib.hid hfs
      have HN0 := Lib.hid hn0
      have d1 : (nH (u1 &&& ~~~C) != 0) = false := by rw [bne, nH_zero, huC]; rfl
      have d2 : ((n : Int) == 0) = false := by rw [beq_eq_false_iff_ne]; omega
      have d3 : (oT != oT) = false := by simp
      clear HPL hfs hn0 huC
      obtain ⟨y0, y1, y2, y3, y4, y5, y6, y7, y8⟩ := ask_cells HA5.out (k := 3) rfl
      obtain ⟨s0, s1, s2, s3⟩ := s4_cells HA5.out (k := 1) rfl
      obtain ⟨t0, t1, t2, t3⟩ := s4_cells HA5.out (k := 0) rfl
      go_wp2_with (refine wpList_load_row rfl 29 _ rfl _ rfl 29 _ (0, 0) _ (HA5.out.row 2 rfl) Tryd.underlying29 rfl polC_size ?_)
      refine (HC.out _ HA5.out.below).mono ?_
      rintro e w6 ⟨rfl, hb⟩
      have HA6 := Lib.hid (HA5.out.call hb)
      have HV6 := Lib.hid (fun h => And.intro (HV5.out h).1 ((HV5.out h).2.below hb))
      clear hb HA5 HV5 HC
      clear y0 y1 y2 y3 y4 y5 y6 y7 y8 s0 s1 s2 s3 t0 t1 t2 t3
      obtain ⟨y0, y1, y2, y3, y4, y5, y6, y7, y8⟩ := ask_cells HA6.out (k := 3) rfl
      obtain ⟨s0, s1, s2, s3⟩ := s4_cells HA6.out (k := 1) rfl
      obtain ⟨t0, t1, t2, t3⟩ := s4_cells HA6.out (k := 0) rfl
      go_wp2_with fail
      clear y0 y1 y2 y3 y4 y5 y6 y7 y8 s0 s1 s2 s3 t0 t1 t2 t3
      clear d1 d2
      obtain ⟨rfl, hE0⟩ := HV6.out HN0.out
      have HE0 := Lib.hid hE0
      clear HV6 hE0
      go_loopw [12] (fun i wr => ∃ k : Nat, k ≤ n ∧ i = .int .i64 k ∧ Hid (Below w6.heap.size w6 wr)) (fun i _ => n - (intOf i).toNat)
      case atStart => exact ⟨0, Nat.zero_le _, rfl, Lib.hid (Below.refl _ _)⟩
      case round =>
        obtain ⟨k, hk, rfl, HB⟩ := hrel
        by_cases hlt : k < n
        · have hkl : k < ls.length := by rw [HN.out]; exact hlt
          have d1 : decide ((k : Int) < (n : Int)) = true := by rw [decide_eq_true_eq]; omega
          have d2 : decide (k < n) = true := decide_eq_true hlt
          have f1 : IntKind.i64.wrap ((k : Int) + 1) = ((k + 1 : Nat) : Int) := by have := HL2.out; rw [IntKind.wrap_i64]; omega
          obtain ⟨x0, x1, x2, x3, x4, x5, x6, x7, x8, x9⟩ := HE0.out.below HB.out k hkl
          have hfs := HFS.out ls[k] (List.getElem_mem _)
          generalize ls[k] = f at *
          obtain ⟨fk, fa, fb, fc, fd⟩ := f
          simp only at x0 x1 x2 x3 x4 x9 hfs
          have hU := Used_calls fa fb fc fd
          have hF := CFlows_calls fa fb fc fd C
          have hL := LFlows_calls fa fb fc fd
          rw [← or_zero] at hL
          change ∀ w, Calls _ _ _ _ fun e w' => e = .returned (.int .u16 (nH (uB fa fb fc fd))) ∧ _ at hU
          change ∀ w, Calls _ _ _ _ fun e w' => e = .returned (.bool (uB fa fb fc fd &&& ~~~C == 0#16)) ∧ _ at hF
          change ∀ w, Calls _ _ _ _ fun e w' => e = .returned (.bool (uB fa fb fc fd == 0#16)) ∧ _ at hL
          rw [hfs.1] at hF
          generalize uB fa fb fc fd = U at *
          have g1 : (nH (U &&& ~~~u1) != 0) = false := by rw [bne, nH_zero, hfs.2]; rfl
          have g2 := nH_zero U
          generalize (U == 0#16) = bz at *
          have g3 : (bz != bz) = false := by simp
          have g4 : (nH U != nH U) = false := by simp
          have g5 : (r != r) = false := by simp
          have HU := Lib.hid hU
          have HF := Lib.hid hF
          have HLF := Lib.hid hL
          clear hU hF hL hfs
          obtain ⟨wa, hwa⟩ : ∃ wa, wa = wr.alloc (.cells #[.int .i64 fk, .int .u16 (nH fa), .int .u16 (nH fb), .int .u16 (nH fc), .int .u16 (nH fd), .int .i64 oT, .int .i64 r, .int .u16 (nH oS), .int .u16 (nH oI), .int .u16 (nH U)] 50) := ⟨_, rfl⟩
          have hrow : wa.heap[wr.heap.size]? = some (.cells #[.int .i64 fk, .int .u16 (nH fa), .int .u16 (nH fb), .int .u16 (nH fc), .int .u16 (nH fd), .int .i64 oT, .int .i64 r, .int .u16 (nH oS), .int .u16 (nH oI), .int .u16 (nH U)] 50 (0, 0)) := by rw [hwa]; exact heap_alloc_new wr _
          have cw := fun i => cell_of_row wa wr.heap.size i _ _ (0, 0) hrow
          have z0 : wa.cell? ⟨wr.heap.size, 0, none⟩ = some (.int .i64 fk) := cw 0
          have z1 : wa.cell? ⟨wr.heap.size, 1, none⟩ = some (.int .u16 (nH fa)) := cw 1
          have z2 : wa.cell? ⟨wr.heap.size, 2, none⟩ = some (.int .u16 (nH fb)) := cw 2
          have z3 : wa.cell? ⟨wr.heap.size, 3, none⟩ = some (.int .u16 (nH fc)) := cw 3
          have z4 : wa.cell? ⟨wr.heap.size, 4, none⟩ = some (.int .u16 (nH fd)) := cw 4
          have z5 : wa.cell? ⟨wr.heap.size, 5, none⟩ = some (.int .i64 oT) := cw 5
          have z6 : wa.cell? ⟨wr.heap.size, 6, none⟩ = some (.int .i64 r) := cw 6
          have z7 : wa.cell? ⟨wr.heap.size, 7, none⟩ = some (.int .u16 (nH oS)) := cw 7
          have z8 : wa.cell? ⟨wr.heap.size, 8, none⟩ = some (.int .u16 (nH oI)) := cw 8
          have z9 : wa.cell? ⟨wr.heap.size, 9, none⟩ = some (.int .u16 (nH U)) := cw 9
          have HBa := Lib.hid (show Below w6.heap.size w6 wa by rw [hwa]; exact HB.out.alloc HB.out.size _)
          have hHa := HA6.out.call HBa.out
          obtain ⟨y0, y1, y2, y3, y4, y5, y6, y7, y8⟩ := ask_cells hHa (k := 3) rfl
          obtain ⟨s0, s1, s2, s3⟩ := s4_cells hHa (k := 1) rfl
          obtain ⟨J, hJ⟩ : ∃ J : World → Prop, ∀ W, J W ↔ Below wa.heap.size wa W := ⟨_, fun _ => Iff.rfl⟩
          have kc := fun {p : Addr} {u : Value} (hc : wa.cell? p = some u) (W : World) (h : J W) => (((hJ W).1 h).cell (World.block_lt_of_cell? wa _ hc)).trans hc
          have K := fun W (h : J W) => (And.intro (kc y0 W h) (And.intro (kc s0 W h) (And.intro (kc s1 W h) (And.intro (kc s2 W h) (And.intro (kc z0 W h) (And.intro (kc z1 W h) (And.intro (kc z2 W h) (And.intro (kc z3 W h) (And.intro (kc z4 W h) (And.intro (kc z5 W h) (And.intro (kc z6 W h) (And.intro (kc z7 W h) (And.intro (kc z8 W h) (kc z9 W h))))))))))))))
          have HJ := Lib.hid hJ
          have hj0 := (HJ.out wa.drew).2 ((Below.refl _ _).drew)
          clear hJ kc hHa cw hrow
          go_wp2_with fail
          rw [← hwa]
          clear x0 x1 x2 x3 x4 x5 x6 x7 x8 x9 y0 y1 y2 y3 y4 y5 y6 y7 y8 s0 s1 s2 s3 z0 z1 z2 z3 z4 z5 z6 z7 z8 z9 hwa
          refine Turn.region_seq [0, 1, 2, 3, 4, 5, 6, 7, 8, 9, 10, 11, 12, 13, 14, 15, 16, 17, 18, 19, 20, 21, 22, 23, 24, 25, 26, 27, 28, 29, 30, 31, 32, 33, 34, 35, 36, 37, 38, 39, 40, 41, 42, 43, 44, 45, 46, 47, 48, 49, 50, 51, 52, 53, 54, 55] (fun i => i == 25 || i == 35 || i == 46) J (by kernel_rfl) (by kernel_rfl) hj0 ?_
          repeat (first | (apply Turn.seq_yes; (· simp only [List.getElem?_toArray, List.getElem?_cons_succ, List.getElem?_cons_zero]; rfl); (· rfl); (· go_simp); (· intro v1 h1; obtain ⟨y0, s0, s1, s2, z0, z1, z2, z3, z4, z5, z6, z7, z8, z9⟩ := K v1 h1; go_simp; exact ⟨rfl, h1⟩); (· go_simp; rfl)) | (apply Turn.seq_no; (· simp only [List.getElem?_toArray, List.getElem?_cons_succ, List.getElem?_cons_zero]; rfl); (· go_simp); (· go_simp; rfl)))
          apply Turn.seq_call
          · simp only [List.getElem?_toArray, List.getElem?_cons_succ, List.getElem?_cons_zero]; rfl
          · rfl
          · go_simp
          · intro v; go_simp; rfl
          go_simp
          refine (HF.out _).mono ?_
          rintro e v1 ⟨rfl, hb⟩
          have hj1 := (HJ.out _).2 (((HJ.out _).1 hj0).trans (hb.mono ((HJ.out _).1 hj0).size))
          clear hb hj0
          refine ⟨_, rfl, hj1, ?_⟩
          repeat (first | (apply Turn.seq_yes; (· simp only [List.getElem?_toArray, List.getElem?_cons_succ, List.getElem?_cons_zero]; rfl); (· rfl); (· go_simp); (· intro v1 h1; obtain ⟨y0, s0, s1, s2, z0, z1, z2, z3, z4, z5, z6, z7, z8, z9⟩ := K v1 h1; go_simp; exact ⟨rfl, h1⟩); (· go_simp; rfl)) | (apply Turn.seq_no; (· simp only [List.getElem?_toArray, List.getElem?_cons_succ, List.getElem?_cons_zero]; rfl); (· go_simp); (· go_simp; rfl)))
          apply Turn.seq_call
          · simp only [List.getElem?_toArray, List.getElem?_cons_succ, List.getElem?_cons_zero]; rfl
          · rfl
          · go_simp
          · intro v; go_simp; rfl
          go_simp
          refine (HU.out _).mono ?_
          rintro e v2 ⟨rfl, hb⟩
          have hj2 := (HJ.out _).2 (((HJ.out _).1 hj1).trans (hb.mono ((HJ.out _).1 hj1).size))
          clear hb hj1
          refine ⟨_, rfl, hj2, ?_⟩
          repeat (first | (apply Turn.seq_yes; (· simp only [List.getElem?_toArray, List.getElem?_cons_succ, List.getElem?_cons_zero]; rfl); (· rfl); (· go_simp); (· intro v1 h1; obtain ⟨y0, s0, s1, s2, z0, z1, z2, z3, z4, z5, z6, z7, z8, z9⟩ := K v1 h1; go_simp; exact ⟨rfl, h1⟩); (· go_simp; rfl)) | (apply Turn.seq_no; (· simp only [List.getElem?_toArray, List.getElem?_cons_succ, List.getElem?_cons_zero]; rfl); (· go_simp); (· go_simp; rfl)))
          apply Turn.seq_call
          · simp only [List.getElem?_toArray, List.getElem?_cons_succ, List.getElem?_cons_zero]; rfl
          · rfl
          · go_simp
          · intro v; go_simp; rfl
          go_simp
          refine (HLF.out _).mono ?_
          rintro e v3 ⟨rfl, hb⟩
          have hj3 := (HJ.out _).2 (((HJ.out _).1 hj2).trans (hb.mono ((HJ.out _).1 hj2).size))
          clear hb hj2
          refine ⟨_, rfl, hj3, ?_⟩
          repeat (first | (apply Turn.seq_yes; (· simp only [List.getElem?_toArray, List.getElem?_cons_succ, List.getElem?_cons_zero]; rfl); (· rfl); (· go_simp); (· intro v1 h1; obtain ⟨y0, s0, s1, s2, z0, z1, z2, z3, z4, z5, z6, z7, z8, z9⟩ := K v1 h1; go_simp; exact ⟨rfl, h1⟩); (· go_simp; rfl)) | (apply Turn.seq_no; (· simp only [List.getElem?_toArray, List.getElem?_cons_succ, List.getElem?_cons_zero]; rfl); (· go_simp); (· go_simp; rfl)))
          apply Turn.seq_nil
          have HB9 := Lib.hid (HBa.out.trans (((HJ.out _).1 hj3).mono HBa.out.size))
          clear K HJ hj3 J HU HF HLF HBa HB
          go_wp2_with fail
          go_roundw
          case rel => exact ⟨k + 1, hlt, by go_num, HB9⟩
          case measure => simp [intOf]; omega
        · obtain rfl : k = n := by omega
          have d1 : decide ((k : Int) < (k : Int)) = false := by rw [decide_eq_false_iff_not]; omega
          have HA9 := Lib.hid (HA6.out.call HB.out)
          go_wp2_with fail
          refine (HAL2.out _ HA9.out.below).mono ?_
          rintro e w9 ⟨rfl, hb⟩
          have HA10 := Lib.hid (HA9.out.call hb)
          clear hb
          go_wp2_with fail
          go_ret
          exact ⟨rfl, HA10.out.below⟩
    · have d1 : (e1 != 0) = true := by rw [bne_iff_ne]; exact he
      clear HPL he
      go_wp2_with fail
      refine (HAL2.out _ HA5.out.below).mono ?_
      rintro e w6 ⟨rfl, hb⟩
      have HA6 := Lib.hid (HA5.out.call hb)
      clear hb
      go_wp2_with fail
      go_ret
      exact ⟨rfl, HA6.out.below⟩
end Go.Proofs.YtohdldlagkmcnaaDoor.Mv
