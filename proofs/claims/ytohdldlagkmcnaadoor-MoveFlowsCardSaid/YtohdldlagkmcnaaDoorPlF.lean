/- Layer 12: the reference's Mend: some policy. -/
import Derived.Test.YtohdldlagkmcnaaDoorPlE
import Derived.Deep.DeepCutAuto
namespace Go.Proofs.YtohdldlagkmcnaaDoor.Pl
set_option linter.unusedSimpArgs false
set_option linter.unusedVariables false
open Go.RowKit Go.Shelf
open _root_.Go.Proofs.YtohdldlagkmcnaaDoor.Own
theorem polC_set (Q Q' : Pol) (i : Nat) (v : Value) (h1 : polV Q' i = v) (h2 : ∀ j, j ≠ i → polV Q' j = polV Q j) : (polC Q).set i v = polC Q' := by
  apply List.ext_getElem?
  intro j
  rw [List.getElem?_set]
  by_cases hj : j < 66
  · rw [polC_get Q' j hj]
    by_cases e : i = j
    · subst e
      rw [if_pos rfl, if_pos (by rw [polC_length]; exact hj), h1]
    · rw [if_neg e, polC_get Q j hj, h2 j (fun x => e x.symm)]
  · have n1 : (polC Q)[j]? = none := List.getElem?_eq_none (by rw [polC_length]; omega)
    have n2 : (polC Q')[j]? = none := List.getElem?_eq_none (by rw [polC_length]; omega)
    rw [n1, n2]
    split
    · split
      · rename_i e hl; subst e; rw [polC_length] at hl; omega
      · rfl
    · rfl
theorem set_lab (Q : Pol) (k : Nat) (hk : k < 32) (x : BitVec 16) : ∃ Q' : Pol, (polC Q).set (1 + k) (.int .u16 (nH x)) = polC Q' := by
  refine ⟨{ Q with lab := fun i => if i = k then x else Q.lab i }, polC_set _ _ _ _ ?_ fun j hj => ?_⟩
  · unfold polV; rw [if_neg (by omega), if_pos (by omega), show 1 + k - 1 = k by omega]; simp
  · unfold polV
    by_cases h0 : j = 0
    · rw [if_pos h0, if_pos h0]
    · rw [if_neg h0, if_neg h0]
      by_cases h1 : j < 33
      · rw [if_pos h1, if_pos h1]; simp only; rw [if_neg (by omega)]
      · rw [if_neg h1, if_neg h1]
theorem set_acts (Q : Pol) (k : Nat) (hk : k < 16) (x : BitVec 16) : ∃ Q' : Pol, (polC Q).set (33 + k) (.int .u16 (nH x)) = polC Q' := by
  refine ⟨{ Q with acts := fun i => if i = k then x else Q.acts i }, polC_set _ _ _ _ ?_ fun j hj => ?_⟩
  · unfold polV; rw [if_neg (by omega), if_neg (by omega), if_pos (by omega), show 33 + k - 33 = k by omega]; simp
  · unfold polV
    by_cases h0 : j = 0
    · rw [if_pos h0, if_pos h0]
    · rw [if_neg h0, if_neg h0]
      by_cases h1 : j < 33
      · rw [if_pos h1, if_pos h1]
      · rw [if_neg h1, if_neg h1]
        by_cases h2 : j < 49
        · rw [if_pos h2, if_pos h2]; simp only; rw [if_neg (by omega)]
        · rw [if_neg h2, if_neg h2]
theorem set_own (Q : Pol) (k : Nat) (hk : k < 16) (x : UInt8) : ∃ Q' : Pol, (polC Q).set (49 + k) (.int .u8 (nB x)) = polC Q' := by
  refine ⟨{ Q with own := fun i => if i = k then x else Q.own i }, polC_set _ _ _ _ ?_ fun j hj => ?_⟩
  · unfold polV; rw [if_neg (by omega), if_neg (by omega), if_neg (by omega), if_pos (by omega), show 49 + k - 49 = k by omega]; simp
  · unfold polV
    by_cases h0 : j = 0
    · rw [if_pos h0, if_pos h0]
    · rw [if_neg h0, if_neg h0]
      by_cases h1 : j < 33
      · rw [if_pos h1, if_pos h1]
      · rw [if_neg h1, if_neg h1]
        by_cases h2 : j < 49
        · rw [if_pos h2, if_pos h2]
        · rw [if_neg h2, if_neg h2]
          by_cases h3 : j < 65
          · rw [if_pos h3, if_pos h3]; simp only; rw [if_neg (by omega)]
          · rw [if_neg h3, if_neg h3]
theorem splc_two (cs : List Value) (x y : Value) (i : Nat) (h : i + 2 ≤ cs.length) : splc cs [x, y] i = (cs.set i x).set (i + 1) y := by
  unfold splc
  apply List.ext_getElem?
  intro j
  rw [List.getElem?_set, List.getElem?_set, List.length_set]
  have hl : (cs.take i).length = i := by rw [List.length_take]; omega
  rw [List.append_assoc]
  rcases Nat.lt_trichotomy j i with hj | hj | hj
  · rw [List.getElem?_append_left (by omega), List.getElem?_take, if_pos hj, if_neg (by omega), if_neg (by omega)]
  · subst hj
    rw [List.getElem?_append_right (by omega), hl, Nat.sub_self, if_neg (by omega), if_pos rfl, if_pos (by omega)]; rfl
  · rw [List.getElem?_append_right (by omega), hl]
    by_cases e : j = i + 1
    · subst e
      rw [if_pos rfl, if_pos (by omega), show i + 1 - i = 1 by omega]; rfl
    · rw [if_neg (by omega), if_neg (by omega), List.getElem?_append_right (by simp; omega), List.getElem?_drop]
      congr 1
      simp; omega
theorem splc_lab (Q : Pol) (r : Nat) (hr : r < 16) (x y : BitVec 16) : ∃ Q' : Pol, splc (polC Q) [.int .u16 (nH x), .int .u16 (nH y)] (1 + r * 2) = polC Q' := by
  rw [splc_two _ _ _ _ (by rw [polC_length]; omega)]
  obtain ⟨Q1, h1⟩ := set_lab Q (r * 2) (by omega) x
  obtain ⟨Q2, h2⟩ := set_lab Q1 (r * 2 + 1) (by omega) y
  exact ⟨Q2, by rw [h1, show 1 + r * 2 + 1 = 1 + (r * 2 + 1) by omega, h2]⟩
section
variable {P : Program} {ops : Array Oper} {Q : Exit → Act → World → Prop} {a : Act} {w : World} {rest : List Oper} {o : Oper}
theorem splc_one (cs : List Value) (x : Value) (i : Nat) (h : i < cs.length) : splc cs [x] i = cs.set i x := by
  unfold splc
  apply List.ext_getElem?
  intro j
  rw [List.getElem?_set]
  have hl : (cs.take i).length = i := by rw [List.length_take]; omega
  rw [List.append_assoc]
  rcases Nat.lt_trichotomy j i with hj | hj | hj
  · rw [List.getElem?_append_left (by omega), List.getElem?_take, if_pos hj, if_neg (by omega)]
  · subst hj
    rw [List.getElem?_append_right (by omega), hl, Nat.sub_self, if_pos rfl, if_pos (by omega)]; rfl
  · rw [List.getElem?_append_right (by omega), hl, if_neg (by omega), List.getElem?_append_right (by simp; omega), List.getElem?_drop]
    congr 1
    simp; omega
theorem run_storeVar_cell (w : World) (g off : Nat) (t ty : TypeId) (cs : List Value) (v : Value) (hg : w.heap[g]? = some (.cells ⟨cs⟩ t (0, 0))) (hi : (P.info? ty).map (·.size) = some 1) (hb : off < cs.length) (h1 : v.oneCell' = true) :
    (storeVar ty ⟨g, off, none⟩ v).run P w = .ok () (w.setRow g ⟨cs.set off v⟩) := by
  have h := run_storeCells_at P g off t [v] 0 ⟨cs⟩ w hg (by simp; omega) (by simpa using h1)
  simp only [Nat.add_zero] at h
  have e : (List.take off (⟨cs⟩ : Array Value).toList ++ [v] ++ List.drop (off + [v].length) (⟨cs⟩ : Array Value).toList).toArray = ⟨cs.set off v⟩ := by
    rw [← splc_one cs v off hb]; rfl
  rw [e] at h
  have hc : v.cells = #[v] := by cases v <;> first | rfl | cases h1
  cases hq : P.info? ty with
  | none => simp [hq] at hi
  | some i =>
    have hs : i.size = 1 := by simpa [hq] using hi
    simp [storeVar, Sem.run_bind, sizeOf, typeInfo, hq, hs, hc, h]
/-- Stores into a known block: what is known behind them. -/
theorem st_cell (hgd : o.guard = none) (ty : TypeId) (x y : Operand) (ho : o.op = .store ty x y) (g off : Nat) (hx : a.eval x = .pointer (some ⟨g, off, none⟩)) (v : Value) (hy : a.eval y = v) (t : TypeId) (cs : List Value)
    {w0 : World} {L : List (Nat × List Value × TypeId)} (H : At w0 L w) (j : Nat) (hj : L[j]? = some (g, cs, t)) (hi : (P.info? ty).map (·.size) = some 1) (hb : off < cs.length) (h1 : v.oneCell' = true)
    (h : ∀ w', At w0 (L.set j (g, cs.set off v, t)) w' → wpList P ops Q rest (a.put o.dst undef) w') : wpList P ops Q (o :: rest) a w := by
  refine wpList_plain hgd fun K hK => ?_
  unfold Oper.wp execOp
  simp only [ho, hx, hy, Instr.storeAt, Instr.sureAddr, Sem.run_bind, Sem.run_pure, Result.andThen_ok, run_storeVar_cell w g off t ty cs v (H.row j hj) hi hb h1]
  exact hK _ _ (h _ (H.setRow j hj ⟨cs.set off v⟩))
theorem st_part (hgd : o.guard = none) (ty : TypeId) (x y : Operand) (ho : o.op = .store ty x y) (g off : Nat) (hx : a.eval x = .pointer (some ⟨g, off, none⟩)) (xs : List Value) (hy : a.eval y = .agg ⟨xs⟩) (t : TypeId) (cs : List Value) (n : Nat)
    {w0 : World} {L : List (Nat × List Value × TypeId)} (H : At w0 L w) (j : Nat) (hj : L[j]? = some (g, cs, t)) (hi : (P.info? ty).map (·.size) = some n) (hn : xs.length = n) (hb : off + n ≤ cs.length) (h1 : ∀ u ∈ xs, u.oneCell' = true)
    (h : ∀ w', At w0 (L.set j (g, splc cs xs off, t)) w' → wpList P ops Q rest (a.put o.dst undef) w') : wpList P ops Q (o :: rest) a w :=
  wpList_store_part hgd ty x y ho g off hx xs hy t cs n (H.row j hj) hi hn hb h1 (h _ (H.setRow j hj ⟨splc cs xs off⟩))
end
theorem infoU16 : (Tryd.prog.info? 22).map (·.size) = some 1 := by kernel_rfl
theorem infoU8' : (Tryd.prog.info? 5).map (·.size) = some 1 := by kernel_rfl
/-- A policy that is being mended. -/
abbrev MA (w : World) (Q : Pol) (V : World) : Prop := At w [(w.heap.size + 1, polC PZ, 29), (w.heap.size, polC Q, 29)] V
set_option maxRecDepth 10000 in
set_option maxHeartbeats 8000000 in
theorem Mend_calls (P : Pol) (w : World) : Calls Tryd.prog 6 #[.agg ⟨polC P⟩] w fun e w' => ∃ Q : Pol, e = .returned (.agg ⟨polC Q⟩) ∧ Below w.heap.size w w' := by
  have hA := ((At.refl w).alloc (polC P) 29).alloc (polC PZ) 29
  simp only [World.size_alloc] at hA
  have HA := Lib.hid (show MA w P _ from hA)
  clear hA
  go_enter Tryd.func6, Tryd.ntmps6
  go_wp2_with (first | refine wpList_alloc_arr rfl 29 rfl (polC PZ) polC_zero ?_)
  obtain ⟨W0, hW0⟩ : ∃ W0, (w.alloc (.cells ⟨polC P⟩ 29)).alloc (.cells ⟨polC PZ⟩ 29) = W0 := ⟨_, rfl⟩
  rw [hW0] at HA ⊢
  clear hW0
  go_loopw [3] (fun v3 wr => ∃ (k : Nat) (Q : Pol), k ≤ 16 ∧ v3 = .int .i64 k ∧ Hid (MA w Q wr)) (fun v3 _ => 16 - (intOf v3).toNat)
  case atStart => exact ⟨0, P, Nat.zero_le _, rfl, HA⟩
  case round =>
    clear HA
    obtain ⟨k, Q, hk, rfl, H⟩ := hrel
    by_cases hlt : k < 16
    · have d1 : decide ((k : Int) < 16) = true := by rw [decide_eq_true_eq]; omega
      have d2 : decide (k < 16) = true := decide_eq_true hlt
      have hki : (k : Int) < 16 := by omega
      have f1 : IntKind.i64.wrap ((k : Int) + 1) = ((k + 1 : Nat) : Int) := by rw [IntKind.wrap_i64]; omega
      have c0 := (pol_cells (H.out.row 1 rfl)).1
      have HH := Lib.hid (Has_calls Q.live k hlt wr)
      go_wp2_with fail
      refine HH.out.mono ?_
      rintro e w1 ⟨rfl, rfl⟩
      clear HH
      go_upto_if 14 with fail
      go_cut [] (fun wx => ∃ Q : Pol, Hid (MA w Q wx))
      case first =>
        clear c0
        obtain ⟨b, hb⟩ : ∃ b, has Q.live k = b := ⟨_, rfl⟩
        rw [hb]
        clear hb
        cases b with
        | true =>
          go_wp2_with fail
          go_meet
          exact ⟨Q, H⟩
        | false =>
          obtain ⟨Q1, e1⟩ := splc_lab Q k hlt 0#16 0#16
          obtain ⟨Q2, e2⟩ := set_acts Q1 k hlt 0#16
          have E1 := Lib.hid e1
          have E2 := Lib.hid e2
          clear e1 e2
          go_wp2_with (first | (refine st_part rfl 24 _ _ rfl w.heap.size (1 + k * 2) rfl [.int .u16 (nH 0#16), .int .u16 (nH 0#16)] rfl 29 (polC Q) 2 H.out 1 rfl info2 rfl (by rw [polC_length]; omega) (by simp [Value.oneCell']) ?_; rw [E1.out]; intro w2 h2; have H2 := Lib.hid h2; clear h2 H) | (refine st_cell rfl 22 _ _ rfl w.heap.size (33 + k) rfl (.int .u16 (nH 0#16)) rfl 29 (polC Q1) H2.out 1 rfl infoU16 (by rw [polC_length]; omega) rfl ?_; rw [E2.out]; intro w3 h3; have H3 := Lib.hid h3; clear h3 H2))
          go_meet
          exact ⟨Q2, H3⟩
      case rest =>
        obtain ⟨Q, H⟩ := hcut
        have L1 := lab_cells (w0 := w) (H.out.row 1 rfl) k hlt
        have H2 := H.out.alloc [.int .u16 (nH (Q.lab (2 * k))), .int .u16 (nH (Q.lab (2 * k + 1)))] 24
        have H2' := Lib.hid H2
        clear H2 c0
        go_wp2_with fail
        obtain ⟨W2, hW2⟩ : ∃ W2, wc.alloc (.cells ⟨[.int .u16 (nH (Q.lab (2 * k))), .int .u16 (nH (Q.lab (2 * k + 1)))]⟩ 24) = W2 := ⟨_, rfl⟩
        rw [hW2] at H2'
        first | rw [hW2] | (rw [show wc.alloc (.cells #[.int .u16 (nH (Q.lab (2 * k))), .int .u16 (nH (Q.lab (2 * k + 1)))] 24) = W2 from hW2])
        clear hW2 L1 H
        obtain ⟨B, hB⟩ : ∃ B, wc.heap.size = B := ⟨_, rfl⟩
        rw [hB] at H2' ⊢
        clear hB
        have r0 : W2.cell? ⟨B, 0, none⟩ = some (.int .u16 (nH (Q.lab (2 * k)))) := (H2'.out.rules _ (List.mem_cons_self ..)).1 0
        have r1 : W2.cell? ⟨B, 1, none⟩ = some (.int .u16 (nH (Q.lab (2 * k + 1)))) := (H2'.out.rules _ (List.mem_cons_self ..)).1 1
        have r2 := (pol_cells (H2'.out.row 2 rfl)).2.1
        obtain ⟨Q1, e1⟩ := splc_lab Q k hlt (Q.lab (2 * k) &&& Q.act) (Q.lab (2 * k + 1) &&& Q.act)
        have E1 := Lib.hid e1
        clear e1
        refine still_tail 14 (by kernel_rfl) (by kernel_rfl) ?_
        simp only [List.take_succ_cons, List.take_zero, List.drop_succ_cons, List.drop_zero]
        iterate 5 still_step
        still_call (still_of (And_calls _ _ _))
        iterate 4 still_step
        still_call (still_of (And_calls _ _ _))
        iterate 3 still_step
        refine wpStill_nil ?_
        refine st_part rfl 24 _ _ rfl w.heap.size (1 + k * 2) rfl [.int .u16 (nH (Q.lab (2 * k) &&& Q.act)), .int .u16 (nH (Q.lab (2 * k + 1) &&& Q.act))] rfl 29 (polC Q) 2 H2'.out.drew 2 rfl info2 rfl (by rw [polC_length]; omega) (by simp [Value.oneCell']) ?_
        rw [E1.out]
        intro w3 h3
        have H3 := Lib.hid h3
        clear h3 H2' r0 r1 r2 E1
        go_wp2_with fail
        have r3 := (pol_cells (H3.out.row 2 rfl)).1
        have r4 := (pol_cells (H3.out.row 2 rfl)).2.2.1 k hlt
        obtain ⟨Q2, e2⟩ := set_acts Q1 k hlt ((Q1.acts k &&& Q1.live) &&& ~~~ (bit k))
        have E2 := Lib.hid e2
        have HW := Lib.hid (With_calls 0#16 k hlt)
        rw [BitVec.zero_or] at HW
        clear e2
        refine still_tail 13 (by kernel_rfl) (by kernel_rfl) ?_
        simp only [List.take_succ_cons, List.take_zero, List.drop_succ_cons, List.drop_zero]
        iterate 7 still_step
        still_call (still_of (And_calls _ _ _))
        iterate 1 still_step
        still_call (still_of (HW.out _))
        still_call (still_of (Less_calls _ _ _))
        iterate 2 still_step
        refine wpStill_nil ?_
        refine st_cell rfl 22 _ _ rfl w.heap.size (33 + k) rfl (.int .u16 (nH ((Q1.acts k &&& Q1.live) &&& ~~~ (bit k)))) rfl 29 (polC Q1) H3.out.drew 2 rfl infoU16 (by rw [polC_length]; omega) rfl ?_
        rw [E2.out]
        intro w4 h4
        have H4 := Lib.hid (show MA w Q2 w4 from ⟨h4.below, fun x hx => h4.blk x (List.mem_cons_of_mem _ hx), (List.pairwise_cons.1 h4.nodup).2⟩)
        clear h4 H3 r3 r4 E2 HW
        go_wp2_with fail
        go_roundw
        case rel => exact ⟨k + 1, Q2, by omega, by go_num, H4⟩
        case measure => simp [intOf]; omega
    · obtain rfl : k = 16 := by omega
      have e1 : decide ((16 : Int) < 16) = false := by decide
      go_wp2_with fail
      clear hk hlt e1
      have H0 := H
      clear H
      obtain ⟨w5, rfl⟩ : ∃ w5 : World, w5 = wr := ⟨_, rfl⟩
      obtain ⟨Qs, rfl⟩ : ∃ Qs : Pol, Qs = Q := ⟨_, rfl⟩
      go_loopw [5] (fun v5 wr => ∃ (k : Nat) (Q : Pol), k ≤ 16 ∧ v5 = .int .i64 k ∧ Hid (MA w Q wr)) (fun v5 _ => 16 - (intOf v5).toNat)
      case atStart => exact ⟨0, Qs, Nat.zero_le _, rfl, H0⟩
      case round =>
        clear H0
        obtain ⟨k, Q, hk, rfl, H⟩ := hrel
        by_cases hlt : k < 16
        · have d1 : decide ((k : Int) < 16) = true := by rw [decide_eq_true_eq]; omega
          have d2 : decide (k < 16) = true := decide_eq_true hlt
          have hki : (k : Int) < 16 := by omega
          have f1 : IntKind.i64.wrap ((k : Int) + 1) = ((k + 1 : Nat) : Int) := by rw [IntKind.wrap_i64]; omega
          obtain ⟨w1', w2'⟩ := wrap_nB (Q.own k)
          obtain ⟨J, hJ⟩ : ∃ J : World → Prop, ∀ V, J V ↔ MA w Q V := ⟨_, fun _ => Iff.rfl⟩
          have HJ := Lib.hid hJ
          have K := fun V (h : J V) => show V.cell? ⟨w.heap.size, 0, none⟩ = some (.int .u16 (nH Q.live)) ∧ V.cell? ⟨w.heap.size, 65, none⟩ = some (.int .u16 (nH Q.act)) ∧ V.cell? ⟨w.heap.size, 49 + k, none⟩ = some (.int .u8 (nB (Q.own k))) from ⟨(pol_cells (((HJ.out V).1 h).row 1 rfl)).1, (pol_cells (((HJ.out V).1 h).row 1 rfl)).2.1, (pol_cells (((HJ.out V).1 h).row 1 rfl)).2.2.2 k hlt⟩
          have hj := (hJ _).2 H.out.drew
          have hA1 := fun V => RHasAny_calls Q.live (Q.own k).toNat V
          have hA2 := fun V => Has_calls Q.act k hlt V
          clear hJ
          obtain ⟨b, hb⟩ : ∃ b, has Q.live (Q.own k).toNat = b := ⟨_, rfl⟩
          obtain ⟨c, hc⟩ : ∃ c, has Q.act k = c := ⟨_, rfl⟩
          rw [hb] at hA1
          rw [hc] at hA2
          have HA1 := Lib.hid hA1
          have HA2 := Lib.hid hA2
          clear hb hc hA1 hA2
          obtain ⟨Q1, e1⟩ := set_own Q k hlt 16
          have E1 := Lib.hid e1
          clear e1
          cases b with
          | false =>
            go_wp2_with fail
            refine region_inv J (by kernel_rfl) (by kernel_rfl) hj ?_
            iterate 7 (apply inv_yes; (· go_simp); (· intro w1 h1; have K1 := K w1 h1; go_simp; exact ⟨rfl, h1⟩); (· go_simp; rfl))
            apply inv_yes
            · go_simp
            · intro w1 h1; go_simp; exact callI_same (HA1.out _) h1
            · go_simp; rfl
            iterate 2 (apply inv_yes; (· go_simp); (· intro w1 h1; have K1 := K w1 h1; go_simp; exact ⟨rfl, h1⟩); (· go_simp; rfl))
            repeat (first | (apply inv_no; (· go_simp); (· go_simp; rfl)) | (apply inv_yes; (· go_simp); (· intro w1 h1; have K1 := K w1 h1; go_simp; exact ⟨rfl, h1⟩); (· go_simp; rfl)))
            refine wpInv_nil (fun w6 h6 => ?_)
            have H6 := Lib.hid ((HJ.out _).1 h6)
            clear K h6 hj HJ H HA1 HA2
            go_wp2_with (refine st_cell rfl 5 _ _ rfl w.heap.size (49 + k) rfl (.int .u8 (nB 16)) rfl 29 (polC Q) H6.out 1 rfl infoU8' (by rw [polC_length]; omega) rfl ?_; rw [E1.out]; intro w7 h7; have H7 := Lib.hid h7; clear h7)
            go_roundw
            case rel => (repeat apply Exists.intro); exact ⟨⟨k + 1, Q1, by omega, by go_num, H7⟩, rfl⟩
            case measure => simp [intOf]; omega
          | true =>
            go_wp2_with fail
            refine region_inv J (by kernel_rfl) (by kernel_rfl) hj ?_
            iterate 7 (apply inv_yes; (· go_simp); (· intro w1 h1; have K1 := K w1 h1; go_simp; exact ⟨rfl, h1⟩); (· go_simp; rfl))
            apply inv_yes
            · go_simp
            · intro w1 h1; go_simp; exact callI_same (HA1.out _) h1
            · go_simp; rfl
            iterate 5 (apply inv_yes; (· go_simp); (· intro w1 h1; have K1 := K w1 h1; go_simp; exact ⟨rfl, h1⟩); (· go_simp; rfl))
            apply inv_yes
            · go_simp
            · intro w1 h1; go_simp; exact callI_same (HA2.out _) h1
            · go_simp; rfl
            iterate 2 (apply inv_yes; (· go_simp); (· intro w1 h1; have K1 := K w1 h1; go_simp; exact ⟨rfl, h1⟩); (· go_simp; rfl))
            refine wpInv_nil (fun w6 h6 => ?_)
            have H6 := Lib.hid ((HJ.out _).1 h6)
            clear K h6 hj HJ H HA1 HA2
            cases c with
            | false =>
              go_wp2_with (refine st_cell rfl 5 _ _ rfl w.heap.size (49 + k) rfl (.int .u8 (nB 16)) rfl 29 (polC Q) H6.out 1 rfl infoU8' (by rw [polC_length]; omega) rfl ?_; rw [E1.out]; intro w7 h7; have H7 := Lib.hid h7; clear h7)
              go_roundw
              case rel => (repeat apply Exists.intro); exact ⟨⟨k + 1, Q1, by omega, by go_num, H7⟩, rfl⟩
              case measure => simp [intOf]; omega
            | true =>
              go_wp2_with fail
              go_roundw
              case rel => (repeat apply Exists.intro); exact ⟨⟨k + 1, Q, by omega, by go_num, H6⟩, rfl⟩
              case measure => simp [intOf]; omega
        · obtain rfl : k = 16 := by omega
          have e1 : decide ((16 : Int) < 16) = false := by decide
          have H8 := Lib.hid (H.out.setRow 0 rfl ⟨polC Q⟩)
          go_wp2_with (first | refine wpList_load_row rfl 29 _ rfl _ rfl 29 _ (0, 0) _ (H.out.row 1 rfl) Tryd.underlying29 rfl polC_size ?_ | (refine wpList_store_row rfl 29 _ _ rfl _ _ rfl rfl 29 _ (H.out.row 0 rfl) polC_size polC_old polC_one ?_))
          refine bodyPost_ret (v := .agg ⟨polC Q⟩) (results_cell_row rfl _ _ (w.heap.size + 1) 29 _ (0, 0) _ rfl (H8.out.row 0 rfl) Tryd.underlying29 rfl polC_size) rfl ⟨⟨Q, rfl⟩, H8.out.below⟩
end Go.Proofs.YtohdldlagkmcnaaDoor.Pl
