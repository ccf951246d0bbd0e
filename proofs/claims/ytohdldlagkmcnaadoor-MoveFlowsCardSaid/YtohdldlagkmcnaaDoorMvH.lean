/- Chapter 30: alive. -/
import Derived.Test.YtohdldlagkmcnaaDoorMvG
namespace Go.Proofs.YtohdldlagkmcnaaDoor.Mv
set_option linter.unusedSimpArgs false
set_option linter.unusedVariables false
open Go.RowKit
open _root_.Go.Proofs.YtohdldlagkmcnaaDoor.Own
open Go.Proofs.YtohdldlagkmcnaaDoor.Pl
theorem seen_PF : seenF PF 65535#16 0#16 = 1#16 := by decide +kernel
theorem acts_PF : PF.acts = fun _ => 0#16 := rfl
theorem down_0 : downF PF 0 65535#16 0#16 = 1#16 := by
  unfold downF
  rw [seen_PF, acts_PF]
  exact dn_is [0] (by decide +kernel) (by decide +kernel) (by decide +kernel) (by decide +kernel)
theorem down_1 : downF PF 1 65535#16 0#16 = 0#16 := by
  unfold downF
  rw [seen_PF, acts_PF]
  exact dn_is [] (by decide +kernel) (by decide +kernel) (by decide +kernel) (by decide +kernel)
theorem caps_0 : capsF PF 0 65535#16 0#16 = 65535#16 := by
  unfold capsF
  rw [down_0]
  decide +kernel
theorem caps_1 : capsF PF 1 65535#16 0#16 = 0#16 := by
  unfold capsF
  rw [down_1]
  decide +kernel
theorem res_a : mayF PF 0 0#16 65535#16 0 false 65535#16 0#16 0 false 1 = (0#16, 0) := by
  unfold mayF
  rw [if_neg (by decide), if_neg (by decide), if_neg (by decide), show usedW 1 0#16 65535#16 65535#16 0#16 = 0#16 from by decide +kernel, BitVec.zero_and]
  rfl
theorem may_a (w : World) (hT : Table w) (hw1 : 1 ≤ w.heap.size) : Calls Tryd.prog 7 #[.agg ⟨polC PF⟩, .int .i64 0, (.agg #[.int .u16 0, .int .u16 65535, .int .i64 0, .bool false]), (.agg #[.int .u16 65535, .int .u16 0, .int .i64 0, .bool false]), .int .i64 1] w fun e w' => e = .returned (.tuple #[.int .u16 0, .int .i64 0]) ∧ Below w.heap.size w w' := by
  have h := May_calls PF 0 0#16 65535#16 0 false 65535#16 0#16 0 false 1 w hT hw1
  rw [res_a] at h
  exact h
theorem res_b : mayF PF 1 65535#16 0#16 0 false 0#16 65535#16 0 false 1 = (0#16, 9) := by
  unfold mayF
  rw [if_neg (by decide), if_neg (by decide), if_neg (by decide), show usedW 1 65535#16 0#16 0#16 65535#16 = 65535#16 from by decide +kernel, caps_1]
  decide +kernel
theorem may_b (w : World) (hT : Table w) (hw1 : 1 ≤ w.heap.size) : Calls Tryd.prog 7 #[.agg ⟨polC PF⟩, .int .i64 1, (.agg #[.int .u16 65535, .int .u16 0, .int .i64 0, .bool false]), (.agg #[.int .u16 0, .int .u16 65535, .int .i64 0, .bool false]), .int .i64 1] w fun e w' => e = .returned (.tuple #[.int .u16 0, .int .i64 9]) ∧ Below w.heap.size w w' := by
  have h := May_calls PF 1 65535#16 0#16 0 false 0#16 65535#16 0 false 1 w hT hw1
  rw [res_b] at h
  exact h
theorem res_c : mayF PF 0 65535#16 0#16 0 false 0#16 65535#16 0 false 3 = (65535#16, 0) := by
  unfold mayF
  rw [if_neg (by decide), if_neg (by decide), if_neg (by decide), show usedW 3 65535#16 0#16 0#16 65535#16 = 65535#16 from by decide +kernel, caps_0]
  decide +kernel
theorem may_c (w : World) (hT : Table w) (hw1 : 1 ≤ w.heap.size) : Calls Tryd.prog 7 #[.agg ⟨polC PF⟩, .int .i64 0, (.agg #[.int .u16 65535, .int .u16 0, .int .i64 0, .bool false]), (.agg #[.int .u16 0, .int .u16 65535, .int .i64 0, .bool false]), .int .i64 3] w fun e w' => e = .returned (.tuple #[.int .u16 65535, .int .i64 0]) ∧ Below w.heap.size w w' := by
  have h := May_calls PF 0 65535#16 0#16 0 false 0#16 65535#16 0 false 3 w hT hw1
  rw [res_c] at h
  exact h
theorem res_d : mayF PF 0 0#16 65535#16 0 false 65535#16 0#16 1 false 1 = (0#16, 10) := by
  unfold mayF
  rw [if_neg (by decide), if_neg (by decide), if_pos (by decide)]
theorem may_d (w : World) (hT : Table w) (hw1 : 1 ≤ w.heap.size) : Calls Tryd.prog 7 #[.agg ⟨polC PF⟩, .int .i64 0, (.agg #[.int .u16 0, .int .u16 65535, .int .i64 0, .bool false]), (.agg #[.int .u16 65535, .int .u16 0, .int .i64 1, .bool false]), .int .i64 1] w fun e w' => e = .returned (.tuple #[.int .u16 0, .int .i64 10]) ∧ Below w.heap.size w w' := by
  have h := May_calls PF 0 0#16 65535#16 0 false 65535#16 0#16 1 false 1 w hT hw1
  rw [res_d] at h
  exact h
theorem res_e : mayF PF 0 0#16 65535#16 0 false 65535#16 0#16 1 true 1 = (0#16, 11) := by
  unfold mayF
  rw [if_neg (by decide), if_pos (by decide)]
theorem may_e (w : World) (hT : Table w) (hw1 : 1 ≤ w.heap.size) : Calls Tryd.prog 7 #[.agg ⟨polC PF⟩, .int .i64 0, (.agg #[.int .u16 0, .int .u16 65535, .int .i64 0, .bool false]), (.agg #[.int .u16 65535, .int .u16 0, .int .i64 1, .bool true]), .int .i64 1] w fun e w' => e = .returned (.tuple #[.int .u16 0, .int .i64 11]) ∧ Below w.heap.size w w' := by
  have h := May_calls PF 0 0#16 65535#16 0 false 65535#16 0#16 1 true 1 w hT hw1
  rw [res_e] at h
  exact h
theorem res_f : mayF PF 0 0#16 65535#16 0 false 0#16 65535#16 0 false 4 = (0#16, 1) := by
  unfold mayF
  rw [if_pos (by decide)]
theorem may_f (w : World) (hT : Table w) (hw1 : 1 ≤ w.heap.size) : Calls Tryd.prog 7 #[.agg ⟨polC PF⟩, .int .i64 0, (.agg #[.int .u16 0, .int .u16 65535, .int .i64 0, .bool false]), (.agg #[.int .u16 0, .int .u16 65535, .int .i64 0, .bool false]), .int .i64 4] w fun e w' => e = .returned (.tuple #[.int .u16 0, .int .i64 1]) ∧ Below w.heap.size w w' := by
  have h := May_calls PF 0 0#16 65535#16 0 false 0#16 65535#16 0 false 4 w hT hw1
  rw [res_f] at h
  exact h
theorem ev_a (w : World) (hT : Table w) (hw1 : 1 ≤ w.heap.size) : Calls Tryd.prog 9 #[.agg ⟨polC PF⟩, .int .i64 0, (.agg #[.int .u16 65535, .int .u16 0, .int .i64 0, .bool false]), (.agg #[.int .u16 0, .int .u16 65535, .int .i64 0, .bool false]), .int .i64 3] w fun e w' => ∃ g c, e = .returned (.slice (some ⟨g, 0, none⟩) 2 c) ∧ (w'.cell? ⟨g, 0, none⟩ = some (.int .i64 2) ∧ w'.cell? ⟨g, 9, none⟩ = some (.int .u16 0) ∧ w'.cell? ⟨g, 13, none⟩ = some (.int .u16 0) ∧ w'.cell? ⟨g, 14, none⟩ = some (.int .u16 65535) ∧ w'.cell? ⟨g, 19, none⟩ = some (.int .u16 65535)) ∧ Below w.heap.size w w' := by
  refine (Event_calls PF 0 65535#16 0#16 0 false 0#16 65535#16 0 false 3 w hT hw1).mono ?_
  rintro e w' ⟨v, rfl, hv, hb⟩
  rw [res_c] at hv
  rw [if_pos rfl] at hv
  have hv : HasN w.heap.size 50 10 v 2 (evs 0 0 65535#16 0#16 [⟨2, 0#16, 65535#16, 65535#16, 0#16⟩, ⟨1, 65535#16, 0#16, 0#16, 65535#16⟩]) w' := hv
  obtain ⟨A, g, c, rfl, hc, h⟩ := ev_at (n := 2) rfl hv
  obtain ⟨rfl, hE⟩ := h (by simp)
  have h0 := hE 0 (by decide)
  have h1 := hE 1 (by decide)
  exact ⟨g, c, rfl, ⟨h0.1, h0.2.2.2.2.2.2.2.2.2.trans (by rfl), h1.2.2.2.1, h1.2.2.2.2.1, h1.2.2.2.2.2.2.2.2.2.trans (by rfl)⟩, hb⟩
theorem told_a (w : World) : Calls Tryd.prog 12 #[.agg #[.int .u16 0, .int .u16 65535], .agg #[.int .u16 65535, .int .u16 0]] w fun e w' => e = .returned (.bool false) ∧ Below w.heap.size w w' := Told_calls 0#16 65535#16 65535#16 0#16 w
theorem told_b (w : World) : Calls Tryd.prog 12 #[.agg #[.int .u16 65535, .int .u16 0], .agg #[.int .u16 0, .int .u16 65535]] w fun e w' => e = .returned (.bool true) ∧ Below w.heap.size w w' := Told_calls 65535#16 0#16 0#16 65535#16 w
theorem lh_cells {w V : World} {a b : Nat} {L : List (Nat × List Value × TypeId)} (h : At w L V) (h1 : (b, [Value.int .u16 65535, .int .u16 0, .int .i64 0, .bool false], 35) ∈ L) (h2 : (a, [Value.int .u16 0, .int .u16 65535, .int .i64 0, .bool false], 35) ∈ L) :
    V.cell? ⟨a, 0, none⟩ = some (.int .u16 0) ∧ V.cell? ⟨a, 1, none⟩ = some (.int .u16 65535) ∧ V.cell? ⟨a, 2, none⟩ = some (.int .i64 0) ∧ V.cell? ⟨a, 3, none⟩ = some (.bool false) ∧ V.cell? ⟨b, 0, none⟩ = some (.int .u16 65535) ∧ V.cell? ⟨b, 1, none⟩ = some (.int .u16 0) ∧ V.cell? ⟨b, 2, none⟩ = some (.int .i64 0) ∧ V.cell? ⟨b, 3, none⟩ = some (.bool false) :=
  have r1 := (h.rules _ h1).1
  have r2 := (h.rules _ h2).1
  ⟨r2 0, r2 1, r2 2, r2 3, r1 0, r1 1, r1 2, r1 3⟩
set_option maxRecDepth 10000 in
set_option maxHeartbeats 8000000 in
theorem alive30 (w : World) (hT : Table w) (hw1 : 1 ≤ w.heap.size) : Calls Tryd.prog 14 #[] w fun e w' => e = .returned (.bool true) ∧ Below w.heap.size w w' := by
  have HT := Lib.hid (And.intro hT hw1)
  clear hT hw1
  go_enter Tryd.func14, Tryd.ntmps14
  go_wp2_with fail
  refine (First_calls _).mono ?_
  rintro e w1 ⟨rfl, hb1⟩
  have A0 := (At.refl w).call hb1
  have A1 := A0.alloc (polC PZ) 29
  have A2 := A1.setRow 0 rfl ⟨polC PF⟩
  simp only [List.set_cons_zero, List.set_cons_succ] at A2
  have HA := Lib.hid A2
  clear A0 hb1
  go_wp2_with (first | refine wpList_alloc_arr rfl 29 rfl (polC PZ) polC_zero ?_ | refine wpList_store_row rfl 29 _ _ rfl _ _ rfl rfl 29 _ (A1.row 0 rfl) polC_size polC_old polC_one ?_)
  clear A1 A2
  refine (Bottom_calls _).mono ?_
  rintro e w2 ⟨rfl, hb2⟩
  have HA2 := Lib.hid (HA.out.call hb2)
  clear hb2 HA
  go_wp2_with fail
  refine (Top_calls _).mono ?_
  rintro e w3 ⟨rfl, hb3⟩
  have hA3 := ((HA2.out.call hb3).alloc [.int .u16 0, .int .u16 65535, .int .i64 0, .bool false] 35).alloc [.int .u16 65535, .int .u16 0, .int .i64 0, .bool false] 35
  simp only [World.size_alloc] at hA3
  have HA3 := Lib.hid hA3
  clear hb3 HA2 hA3
  go_wp2_with (refine wpList_load_row rfl 29 _ rfl _ rfl 29 _ (0, 0) _ (HA3.out.row 2 rfl) Tryd.underlying29 rfl polC_size ?_)
  refine (may_a _ (HT.out.1.below (HA3.out.below.mono HT.out.2)) (Nat.le_trans HT.out.2 HA3.out.below.size)).mono ?_
  rintro e w4 ⟨rfl, hb4⟩
  have HA4 := Lib.hid (HA3.out.call hb4)
  obtain ⟨x0, x1, x2, x3, y0, y1, y2, y3⟩ := lh_cells (a := w3.heap.size) (b := w3.heap.size + 1) HA4.out (by simp) (by simp)
  clear hb4 HA3
  go_wp2_with (refine wpList_load_row rfl 29 _ rfl _ rfl 29 _ (0, 0) _ (HA4.out.row 2 rfl) Tryd.underlying29 rfl polC_size ?_)
  clear x0 x1 x2 x3 y0 y1 y2 y3
  refine (may_b _ (HT.out.1.below (HA4.out.below.mono HT.out.2)) (Nat.le_trans HT.out.2 HA4.out.below.size)).mono ?_
  rintro e w5 ⟨rfl, hb5⟩
  have HA5 := Lib.hid (HA4.out.call hb5)
  obtain ⟨x0, x1, x2, x3, y0, y1, y2, y3⟩ := lh_cells (a := w3.heap.size) (b := w3.heap.size + 1) HA5.out (by simp) (by simp)
  clear hb5 HA4
  go_wp2_with (refine wpList_load_row rfl 29 _ rfl _ rfl 29 _ (0, 0) _ (HA5.out.row 2 rfl) Tryd.underlying29 rfl polC_size ?_)
  clear x0 x1 x2 x3 y0 y1 y2 y3
  refine (may_c _ (HT.out.1.below (HA5.out.below.mono HT.out.2)) (Nat.le_trans HT.out.2 HA5.out.below.size)).mono ?_
  rintro e w6 ⟨rfl, hb6⟩
  have HA6 := Lib.hid (HA5.out.call hb6)
  obtain ⟨x0, x1, x2, x3, y0, y1, y2, y3⟩ := lh_cells (a := w3.heap.size) (b := w3.heap.size + 1) HA6.out (by simp) (by simp)
  clear hb6 HA5
  have l1 : w3.heap.size < w6.heap.size := (HA6.out.rules _ (List.mem_cons_of_mem _ (List.mem_cons_self ..))).2.2.1
  have l2 : w3.heap.size + 1 < w6.heap.size := (HA6.out.rules _ (List.mem_cons_self ..)).2.2.1
  have l3 : (w3.heap.size = w6.heap.size) = False := by rw [eq_iff_iff]; constructor; omega; exact False.elim
  have l4 : (w3.heap.size + 1 = w6.heap.size) = False := by rw [eq_iff_iff]; constructor; omega; exact False.elim
  have HA7 := Lib.hid (HA6.out.alloc [.int .u16 65535, .int .u16 0, .int .i64 1, .bool false] 35)
  go_wp2_with (refine wpList_load_row rfl 29 _ rfl _ rfl 29 _ (0, 0) _ (HA7.out.row 3 rfl) Tryd.underlying29 rfl polC_size ?_)
  clear x0 x1 x2 x3 y0 y1 y2 y3 HA6
  refine (may_d _ (HT.out.1.below (HA7.out.below.mono HT.out.2)) (Nat.le_trans HT.out.2 HA7.out.below.size)).mono ?_
  rintro e w8 ⟨rfl, hb8⟩
  have HA8 := Lib.hid (HA7.out.call hb8)
  obtain ⟨x0, x1, x2, x3, y0, y1, y2, y3⟩ := lh_cells (a := w3.heap.size) (b := w3.heap.size + 1) HA8.out (by simp) (by simp)
  clear hb8 HA7
  have hf8 : World.frozen? w8 ⟨w6.heap.size, 3, none⟩ = false := (HA8.out.rules _ (List.mem_cons_self ..)).2.1 3
  have z0 : w8.cell? ⟨w6.heap.size, 0, none⟩ = some (.int .u16 65535) := (HA8.out.rules _ (List.mem_cons_self ..)).1 0
  have z1 : w8.cell? ⟨w6.heap.size, 1, none⟩ = some (.int .u16 0) := (HA8.out.rules _ (List.mem_cons_self ..)).1 1
  have z2 : w8.cell? ⟨w6.heap.size, 2, none⟩ = some (.int .i64 1) := (HA8.out.rules _ (List.mem_cons_self ..)).1 2
  have z3 : w8.cell? ⟨w6.heap.size, 3, none⟩ = some (.bool false) := (HA8.out.rules _ (List.mem_cons_self ..)).1 3
  have hA9 := HA8.out.set 0 rfl 3 (.bool true)
  simp only [List.set_cons_zero, List.set_cons_succ] at hA9
  have HA9 := Lib.hid hA9
  clear hA9
  go_wp2_with (refine wpList_load_row rfl 29 _ rfl _ rfl 29 _ (0, 0) _ (HA9.out.row 3 rfl) Tryd.underlying29 rfl polC_size ?_)
  clear x0 x1 x2 x3 y0 y1 y2 y3 z0 z1 z2 z3 hf8 HA8
  refine (may_e _ (HT.out.1.below (HA9.out.below.mono HT.out.2)) (Nat.le_trans HT.out.2 HA9.out.below.size)).mono ?_
  rintro e w10 ⟨rfl, hb10⟩
  have HA10 := Lib.hid (HA9.out.call hb10)
  obtain ⟨x0, x1, x2, x3, y0, y1, y2, y3⟩ := lh_cells (a := w3.heap.size) (b := w3.heap.size + 1) HA10.out (by simp) (by simp)
  clear hb10 HA9
  go_wp2_with (refine wpList_load_row rfl 29 _ rfl _ rfl 29 _ (0, 0) _ (HA10.out.row 3 rfl) Tryd.underlying29 rfl polC_size ?_)
  clear x0 x1 x2 x3 y0 y1 y2 y3
  refine (may_f _ (HT.out.1.below (HA10.out.below.mono HT.out.2)) (Nat.le_trans HT.out.2 HA10.out.below.size)).mono ?_
  rintro e w11 ⟨rfl, hb11⟩
  have HA11 := Lib.hid (HA10.out.call hb11)
  obtain ⟨x0, x1, x2, x3, y0, y1, y2, y3⟩ := lh_cells (a := w3.heap.size) (b := w3.heap.size + 1) HA11.out (by simp) (by simp)
  clear hb11 HA10
  go_wp2_with (refine wpList_load_row rfl 29 _ rfl _ rfl 29 _ (0, 0) _ (HA11.out.row 3 rfl) Tryd.underlying29 rfl polC_size ?_)
  clear x0 x1 x2 x3 y0 y1 y2 y3
  refine (ev_a _ (HT.out.1.below (HA11.out.below.mono HT.out.2)) (Nat.le_trans HT.out.2 HA11.out.below.size)).mono ?_
  rintro e w12 ⟨ge, ce, rfl, ⟨q0, q1, q2, q3, q4⟩, hb12⟩
  have HA12 := Lib.hid (HA11.out.call hb12)
  obtain ⟨x0, x1, x2, x3, y0, y1, y2, y3⟩ := lh_cells (a := w3.heap.size) (b := w3.heap.size + 1) HA12.out (by simp) (by simp)
  clear hb12 HA11
  obtain ⟨J, hJ⟩ : ∃ J : World → Prop, ∀ W, J W ↔ Below w12.heap.size w12 W := ⟨_, fun _ => Iff.rfl⟩
  have kc := fun {p : Addr} {u : Value} (hc : w12.cell? p = some u) (W : World) (h : J W) => (((hJ W).1 h).cell (World.block_lt_of_cell? w12 _ hc)).trans hc
  have K := fun W (h : J W) => And.intro (kc x0 W h) (And.intro (kc x1 W h) (And.intro (kc x2 W h) (And.intro (kc x3 W h) (And.intro (kc y0 W h) (And.intro (kc y1 W h) (And.intro (kc y2 W h) (And.intro (kc y3 W h) (And.intro (kc q0 W h) (And.intro (kc q1 W h) (And.intro (kc q2 W h) (And.intro (kc q3 W h) (kc q4 W h))))))))))))
  have HJ := Lib.hid hJ
  have hj12 := (HJ.out w12.drew).2 ((Below.refl _ _).drew)
  clear hJ kc
  go_wp2_with fail
  clear x0 x1 x2 x3 y0 y1 y2 y3 q0 q1 q2 q3 q4
  refine Turn.region_seq (List.range 85) (fun i => i == 74 || i == 82) J (by kernel_rfl) (by kernel_rfl) hj12 ?_
  simp only [show List.range 85 = [0, 1, 2, 3, 4, 5, 6, 7, 8, 9, 10, 11, 12, 13, 14, 15, 16, 17, 18, 19, 20, 21, 22, 23, 24, 25, 26, 27, 28, 29, 30, 31, 32, 33, 34, 35, 36, 37, 38, 39, 40, 41, 42, 43, 44, 45, 46, 47, 48, 49, 50, 51, 52, 53, 54, 55, 56, 57, 58, 59, 60, 61, 62, 63, 64, 65, 66, 67, 68, 69, 70, 71, 72, 73, 74, 75, 76, 77, 78, 79, 80, 81, 82, 83, 84] from rfl]
  repeat (first | (apply Turn.seq_yes; (· simp only [List.getElem?_toArray, List.getElem?_cons_succ, List.getElem?_cons_zero]; rfl); (· rfl); (· go_simp); (· intro v1 h1; obtain ⟨x0, x1, x2, x3, y0, y1, y2, y3, q0, q1, q2, q3, q4⟩ := K v1 h1; go_simp; exact ⟨rfl, h1⟩); (· go_simp; rfl)) | (apply Turn.seq_no; (· simp only [List.getElem?_toArray, List.getElem?_cons_succ, List.getElem?_cons_zero]; rfl); (· go_simp); (· go_simp; rfl)))
  apply Turn.seq_call
  · simp only [List.getElem?_toArray, List.getElem?_cons_succ, List.getElem?_cons_zero]; rfl
  · rfl
  · go_simp
  · intro v; go_simp; rfl
  go_simp
  refine (told_a _).mono ?_
  rintro e w13 ⟨rfl, hb13⟩
  have hj13 := (HJ.out _).2 (((HJ.out _).1 hj12).trans (hb13.mono ((HJ.out _).1 hj12).size))
  clear hb13 hj12
  refine ⟨_, rfl, hj13, ?_⟩
  repeat (first | (apply Turn.seq_yes; (· simp only [List.getElem?_toArray, List.getElem?_cons_succ, List.getElem?_cons_zero]; rfl); (· rfl); (· go_simp); (· intro v1 h1; obtain ⟨x0, x1, x2, x3, y0, y1, y2, y3, q0, q1, q2, q3, q4⟩ := K v1 h1; go_simp; exact ⟨rfl, h1⟩); (· go_simp; rfl)) | (apply Turn.seq_no; (· simp only [List.getElem?_toArray, List.getElem?_cons_succ, List.getElem?_cons_zero]; rfl); (· go_simp); (· go_simp; rfl)))
  apply Turn.seq_call
  · simp only [List.getElem?_toArray, List.getElem?_cons_succ, List.getElem?_cons_zero]; rfl
  · rfl
  · go_simp
  · intro v; go_simp; rfl
  go_simp
  refine (told_b _).mono ?_
  rintro e w14 ⟨rfl, hb14⟩
  have hj14 := (HJ.out _).2 (((HJ.out _).1 hj13).trans (hb14.mono ((HJ.out _).1 hj13).size))
  clear hb14 hj13
  refine ⟨_, rfl, hj14, ?_⟩
  repeat (first | (apply Turn.seq_yes; (· simp only [List.getElem?_toArray, List.getElem?_cons_succ, List.getElem?_cons_zero]; rfl); (· rfl); (· go_simp); (· intro v1 h1; obtain ⟨x0, x1, x2, x3, y0, y1, y2, y3, q0, q1, q2, q3, q4⟩ := K v1 h1; go_simp; exact ⟨rfl, h1⟩); (· go_simp; rfl)) | (apply Turn.seq_no; (· simp only [List.getElem?_toArray, List.getElem?_cons_succ, List.getElem?_cons_zero]; rfl); (· go_simp); (· go_simp; rfl)))
  apply Turn.seq_nil
  have HA14 := Lib.hid (HA12.out.call ((HJ.out _).1 hj14))
  clear K HJ hj14 HA12
  go_wp2_with fail
  go_ret
  exact ⟨rfl, HA14.out.below⟩
end Go.Proofs.YtohdldlagkmcnaaDoor.Mv
