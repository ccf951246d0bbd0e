/- The walk of the law LexBlanks. -/
import Derived.Test.YtdlfdkdcnabpoaaDoorLxI
namespace Go.Proofs.YtdlfdkdcnabpoaaDoor.Lx
set_option linter.unusedSimpArgs false
set_option linter.unusedVariables false
open Go.RowKit
open _root_.Go.Proofs.YtdlfdkdcnabpoaaDoor.Own
attribute [local go_sem] str_size str_extract str_append str_toList
theorem spread_take (ps : List Pc) (i : Nat) (p : Pc) (h : ps[i]? = some p) : 32 :: spread (ps.take (i + 1)) = ((32 :: spread (ps.take i)) ++ p.text) ++ [32] := by
  rw [List.take_add_one, h]
  simp [spread]
theorem spread_len (ps : List Pc) (h : ∀ p ∈ ps, p.text.length ≤ 48) : (spread ps).length ≤ ps.length * 49 := by
  induction ps with
  | nil => exact Nat.zero_le _
  | cons p ps ih =>
    have h1 := h p (List.mem_cons_self ..)
    have h2 := ih fun q hq => h q (List.mem_cons_of_mem _ hq)
    rw [show spread (p :: ps) = (p.text ++ [32]) ++ spread ps from rfl, List.length_append, List.length_append, List.length_cons, List.length_cons, List.length_nil]
    omega
theorem alike_at {ps qs : List Pc} (h : Alike ps qs) {i : Nat} {p q : Pc} (hp : ps[i]? = some p) (hq : qs[i]? = some q) : p.kind = q.kind ∧ p.text = q.text ∧ p.n = q.n := by
  have := congrArg (fun l => l[i]?) h
  simp only [List.getElem?_map, hp, hq, Option.map_some, Option.some.injEq, Prod.mk.injEq] at this
  exact this
set_option maxRecDepth 10000 in
set_option maxHeartbeats 8000000 in
theorem blanks_walk (s : List UInt8) (w : World) (hE : Env w) : Calls Tryd.prog 4 #[.string (str s)] w fun e w' => e = .returned (.bool true) ∧ Below w.heap.size w w' := by
  have HA := Lib.hid (fun w hE => alive16 w hE)
  have hP := Pieces_calls s w hE
  have hn49 := pieces_len s
  have HE := Lib.hid hE
  unfold Gave at hP
  rcases hps : pieces s with ⟨ps, a0, er⟩
  rw [hps] at hP hn49
  simp only at hP hn49
  have HP := Lib.hid hP
  clear hP hE
  obtain ⟨n, hn⟩ : ∃ n, ps.length = n := ⟨_, rfl⟩
  rw [hn] at HP hn49
  by_cases her : er = 0
  · subst her
    obtain ⟨hg, hs48⟩ := pieces_good hps
    have HBL := Lib.hid (fun h => blanks hps h)
    have HG := Lib.hid hg
    have HN := Lib.hid hn
    have HS := Lib.hid (show ∀ i, (spread (ps.take i)).length ≤ 49 * 49 from fun i => by
      refine Nat.le_trans (spread_len _ fun p hp => ?_) ?_
      · have := (hg.each p (List.mem_of_mem_take hp)).2.1
        omega
      · rw [List.length_take]
        have : min i ps.length ≤ 49 := by omega
        exact Nat.mul_le_mul_right 49 this)
    clear hps hg hn
    go_enter Tryd.func4, Tryd.ntmps4
    go_wp2_with fail
    refine HP.out.mono ?_
    rintro e w1 ⟨v1, rfl, h1, hb1⟩
    obtain ⟨A, c1, rfl, hc1, _, hR1, _, _⟩ := h1.form
    have HR1 := Lib.hid hR1
    have HB1 := Lib.hid hb1
    clear h1 hR1 hb1 HP
    go_wp2_with fail
    go_loopw [6, 7] (fun v6 v7 wr => ∃ i : Nat, v7 = .int .i64 i ∧ i ≤ n ∧ v6 = .string (str (32 :: spread (ps.take i))) ∧ Hid (Below w1.heap.size w1 wr)) (fun _ v7 _ => n - (intOf v7).toNat)
    case atStart => exact ⟨0, rfl, Nat.zero_le _, rfl, Lib.hid (Below.refl _ _)⟩
    case round =>
      obtain ⟨i, rfl, hi, rfl, HB⟩ := hrel
      have hsl := HS.out i
      obtain ⟨ti, hti⟩ : ∃ ti, 32 :: spread (ps.take i) = ti := ⟨_, rfl⟩
      have htl : ti.length ≤ 49 * 49 + 1 := by rw [← hti, List.length_cons]; omega
      have HTI := Lib.hid hti
      by_cases hlt : i < n
      · have d3 : decide (i < n) = true := decide_eq_true hlt
        have d4 : ((i : Int) < (n : Int)) = True := by simp; omega
        obtain ⟨ad, k, t, m, a, rfl, hp, X⟩ := pc_at HR1.out (by rw [HN.out]; exact hlt)
        obtain ⟨_, hpl, hpt⟩ := HG.out.each _ (List.mem_of_getElem? hp)
        simp only [Nat.zero_add, Nat.sub_zero] at hpl hpt
        have HT2 := Lib.hid (spread_take ps i _ hp)
        have d5 : decide ((a : Int) < 0) = false := by rw [decide_eq_false_iff_not]; omega
        have d6 : ((a : Int) < 0) = False := eq_false (by omega)
        have fw : IntKind.i64.wrap ((a : Int) + (t.length : Int)) = (a : Int) + (t.length : Int) := by rw [IntKind.wrap_i64]; omega
        have d7 : ((s.length : Int) < (a : Int) + (t.length : Int)) = False := by simp; omega
        have d8 : decide ((s.length : Int) < (a : Int) + (t.length : Int)) = false := by rw [decide_eq_false_iff_not]; omega
        have d9 : decide (s.length < a + t.length) = false := by rw [decide_eq_false_iff_not]; omega
        have hmid : ∀ w, (Instr.slice 9 (.string (str s)) (some (.int .i64 a)) (some (.int .i64 ((a : Int) + (t.length : Int)))) none).run Tryd.prog w = .ok (.string (str t)) w := fun w => by
          have := run_mid (P := Tryd.prog) (w := w) _ Tryd.underlying9 s a (a + t.length) (by omega) hpl
          rw [Nat.add_sub_cancel_left, hpt] at this
          exact this
        have ha1 : ∀ w, (Op.stringOp .add (str ti) (str t)).run Tryd.prog w = .ok (.string (str (ti ++ t))) w := fun w => run_string_add_lists w ti t (by omega) (by omega)
        have ha2 : ∀ w, (Op.stringOp .add (str (ti ++ t)) ⟨#[32]⟩).run Tryd.prog w = .ok (.string (str ((ti ++ t) ++ [32]))) w := fun w => run_string_add_lists w (ti ++ t) [32] (by rw [List.length_append]; omega) (by decide)
        obtain ⟨J, hJ⟩ : ∃ J : World → Prop, ∀ W, J W ↔ Below w1.heap.size w1 W := ⟨_, fun _ => Iff.rfl⟩
        have hj := (hJ wr.drew).2 HB.out.drew
        have K := fun w1 h1 => X w1 ((hJ w1).1 h1)
        obtain ⟨y0, y1, y2, y3⟩ := X wr HB.out
        rw [hti]
        clear hJ X hp hpt hti hsl
        go_wp2_with fail
        refine Turn.region_seq [0, 1, 2, 3, 4, 5, 6, 7, 8, 9, 10, 11, 12, 13, 14, 15, 16, 17, 18, 19, 20, 21, 22, 23, 24, 25, 26, 27, 28, 29, 30, 31, 32, 33, 34, 35, 36, 37, 38, 39, 40, 41, 42, 43, 44, 45, 46, 47, 48, 49] (fun _ => false) J (by kernel_rfl) (by kernel_rfl) hj ?_
        repeat (first | (apply Turn.seq_yes; (· simp only [List.getElem?_toArray, List.getElem?_cons_succ, List.getElem?_cons_zero]; rfl); (· rfl); (· go_simp); (· intro w1 h1; obtain ⟨zz0, zz1, zz2, zz3⟩ := K w1 h1; go_simp; exact ⟨rfl, rfl, h1⟩); (· go_simp; rfl)) | (apply Turn.seq_yes; (· simp only [List.getElem?_toArray, List.getElem?_cons_succ, List.getElem?_cons_zero]; rfl); (· rfl); (· go_simp); (· intro w1 h1; obtain ⟨zz0, zz1, zz2, zz3⟩ := K w1 h1; go_simp; exact ⟨rfl, h1⟩); (· go_simp; rfl)) | (apply Turn.seq_no; (· simp only [List.getElem?_toArray, List.getElem?_cons_succ, List.getElem?_cons_zero]; rfl); (· go_simp); (· go_simp; rfl)))
        apply Turn.seq_nil
        clear K hj
        go_wp2_with fail
        go_roundw
        case rel => exact ⟨i + 1, by go_num, by omega, by rw [HT2.out, HTI.out, List.append_assoc], Lib.hid HB.out.drew⟩
        case measure => simp only [intOf]; omega
      · have ei : i = n := by omega
        have d3 : decide (i < n) = false := decide_eq_false hlt
        have d4 : ((i : Int) < (n : Int)) = False := by simp; omega
        rw [hti]
        have htake : ps.take i = ps := List.take_of_length_le (by rw [HN.out]; omega)
        rw [htake] at hti
        have HTT := Lib.hid hti
        have HB2 := Lib.hid (HB1.out.trans (HB.out.mono HB1.out.size))
        have HR2 := Lib.hid (HR1.out.below HB.out)
        have hP2 := Pieces_calls ti wr (HE.out.below HB2.out)
        unfold Gave at hP2
        rcases hqs : pieces ti with ⟨qs, b0, fr⟩
        rw [hqs] at hP2
        simp only at hP2
        have HP2 := Lib.hid hP2
        clear hP2 hti htake HTI ei hsl
        by_cases h48 : 48 < ti.length
        · have d5 : decide (48 < ti.length) = true := decide_eq_true h48
          have d6 : ((48 : Int) < (ti.length : Int)) = True := by simp; omega
          have hfr : fr = 5 := by unfold pieces at hqs; rw [if_pos h48] at hqs; cases hqs; rfl
          subst hfr
          go_wp2_with fail
          refine HP2.out.mono ?_
          rintro e w3 ⟨v3, rfl, h3, hb3⟩
          have HB3 := Lib.hid (HB2.out.trans (hb3.mono HB2.out.size))
          clear h3 hb3
          go_wp2_with fail
          refine (HA.out _ (HE.out.below HB3.out)).mono ?_
          rintro e w4 ⟨rfl, hb4⟩
          have HB4 := Lib.hid (HB3.out.trans (hb4.mono HB3.out.size))
          clear hb4
          go_wp2_with fail
          go_ret
          exact ⟨rfl, HB4.out⟩
        · have d5 : decide (48 < ti.length) = false := decide_eq_false h48
          have d6 : ((48 : Int) < (ti.length : Int)) = False := by simp; omega
          have hbl := HBL.out (by rw [HTT.out]; omega)
          rw [HTT.out, hqs] at hbl
          obtain ⟨qs', heq, hal⟩ := hbl
          cases heq
          have hql : qs.length = n := by rw [← alike_length hal]; exact HN.out
          rw [hql] at HP2
          have HAL := Lib.hid hal
          have HQL := Lib.hid hql
          clear hal hql hqs
          go_wp2_with fail
          refine HP2.out.mono ?_
          rintro e w3 ⟨v3, rfl, h3, hb3⟩
          obtain ⟨B, c3, rfl, hc3, _, hR3, _, _⟩ := h3.form
          have HR3 := Lib.hid hR3
          have HR4 := Lib.hid (HR2.out.below hb3)
          have HB3 := Lib.hid (HB2.out.trans (hb3.mono HB2.out.size))
          clear h3 hb3 hR3 HP2
          go_wp2_with fail
          go_loopw [11] (fun v11 wr => ∃ i : Nat, v11 = .int .i64 i ∧ i ≤ n ∧ Hid (Below w3.heap.size w3 wr)) (fun v11 _ => n - (intOf v11).toNat)
          case atStart => exact ⟨0, rfl, Nat.zero_le _, Lib.hid (Below.refl _ _)⟩
          case round =>
            obtain ⟨j, rfl, hj, HB⟩ := hrel
            by_cases hlj : j < n
            · have d7 : decide (j < n) = true := decide_eq_true hlj
              have d8 : ((j : Int) < (n : Int)) = True := by simp; omega
              obtain ⟨a1, k, t, m, a, rfl, hp, X⟩ := pc_at HR4.out (by rw [HN.out]; exact hlj)
              obtain ⟨a2, k', t', m', a', rfl, hp', Y⟩ := pc_at HR3.out (by rw [HQL.out]; exact hlj)
              obtain ⟨rfl, rfl, rfl⟩ := alike_at HAL.out hp hp'
              obtain ⟨J, hJ⟩ : ∃ J : World → Prop, ∀ W, J W ↔ Below w3.heap.size w3 W := ⟨_, fun _ => Iff.rfl⟩
              have hj := (hJ wr.drew).2 HB.out.drew
              have K := fun w1 h1 => And.intro (X w1 ((hJ w1).1 h1)) (Y w1 ((hJ w1).1 h1))
              simp only [and_assoc] at K
              clear hJ X Y hp hp'
              go_wp2_with fail
              refine Turn.region_seq [0, 1, 2, 3, 4, 5, 6, 7, 8, 9, 10, 11, 12, 13, 14, 15, 16, 17, 18, 19, 20, 21, 22, 23, 24, 25, 26, 27, 28, 29, 30, 31, 32, 33, 34, 35, 36] (fun _ => false) J (by kernel_rfl) (by kernel_rfl) hj ?_
              repeat (first | (apply Turn.seq_yes; (· simp only [List.getElem?_toArray, List.getElem?_cons_succ, List.getElem?_cons_zero]; rfl); (· rfl); (· go_simp); (· intro w1 h1; obtain ⟨zz0, zz1, zz2, zz3, yy0, yy1, yy2, yy3⟩ := K w1 h1; go_simp; exact ⟨rfl, h1⟩); (· go_simp; rfl)) | (apply Turn.seq_yes; (· simp only [List.getElem?_toArray, List.getElem?_cons_succ, List.getElem?_cons_zero]; rfl); (· rfl); (· go_simp); (· intro w1 h1; obtain ⟨zz0, zz1, zz2, zz3, yy0, yy1, yy2, yy3⟩ := K w1 h1; go_simp; exact ⟨rfl, rfl, h1⟩); (· go_simp; rfl)) | (apply Turn.seq_no; (· simp only [List.getElem?_toArray, List.getElem?_cons_succ, List.getElem?_cons_zero]; rfl); (· go_simp); (· go_simp; rfl)))
              apply Turn.seq_nil
              clear K hj
              go_wp2_with fail
              go_roundw
              case rel => exact ⟨j + 1, by go_num, by omega, Lib.hid HB.out.drew⟩
              case measure => simp only [intOf]; omega
            · have d7 : decide (j < n) = false := decide_eq_false hlj
              have d8 : ((j : Int) < (n : Int)) = False := by simp; omega
              have HB5 := Lib.hid (HB3.out.trans (HB.out.mono HB3.out.size))
              go_wp2_with fail
              refine (HA.out _ (HE.out.below HB5.out)).mono ?_
              rintro e w4 ⟨rfl, hb4⟩
              have HB4 := Lib.hid (HB5.out.trans (hb4.mono HB5.out.size))
              clear hb4
              go_wp2_with fail
              go_ret
              exact ⟨rfl, HB4.out⟩
  · have hnil := pieces_bad hps her
    have hn0 : n = 0 := by rw [← hn, hnil]; rfl
    subst hn0
    have e1 : (er == 0) = false := beq_eq_false_iff_ne.2 her
    have e2 : ((er : Int) == 0) = false := by rw [beq_eq_false_iff_ne]; omega
    clear hps hnil hn
    go_enter Tryd.func4, Tryd.ntmps4
    go_wp2_with fail
    refine HP.out.mono ?_
    rintro e w1 ⟨v1, rfl, h1, hb1⟩
    obtain ⟨A, c1, rfl, hc1, _, hR1, _, _⟩ := h1.form
    have HB1 := Lib.hid hb1
    clear h1 hR1 hb1 HP
    go_wp2_with fail
    refine (HA.out _ (HE.out.below HB1.out)).mono ?_
    rintro e w4 ⟨rfl, hb4⟩
    have HB4 := Lib.hid (HB1.out.trans (hb4.mono HB1.out.size))
    clear hb4
    go_wp2_with fail
    go_ret
    exact ⟨rfl, HB4.out⟩
end Go.Proofs.YtdlfdkdcnabpoaaDoor.Lx
