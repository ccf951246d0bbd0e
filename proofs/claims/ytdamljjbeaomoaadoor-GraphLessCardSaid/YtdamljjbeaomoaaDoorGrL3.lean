/- The walk of the law GraphLess. -/
import Derived.Test.YtdamljjbeaomoaaDoorGrL2
import Derived.Test.YtdamljjbeaomoaaDoorFork
import Derived.Test.YtdamljjbeaomoaaDoorOn
import Derived.Deep.DeepCutAuto
import Derived.BigRegion
import Derived.Lib.Hide
namespace Go.Proofs.YtdamljjbeaomoaaDoor
set_option linter.unusedSimpArgs false
set_option linter.unusedVariables false
open Go.RowKit
open _root_.Go.Proofs.YtdamljjbeaomoaaDoor.Own
attribute [local go_sem] b16_and b16_or b16_andNot b16_zero
/-! ### The plain law -/
theorem dn_mono {g : Nat → BitVec 16} {W V s : BitVec 16} (h : ∀ i, has V i = true → has W i = true) : (dn g V s &&& ~~~dn g W s == 0#16) = true := less_zero _ _ fun j _ hj => by
  obtain ⟨q, h1, h2⟩ := (dn_iff s j).1 hj
  exact (dn_iff s j).2 ⟨q, h1, h2.mono h fun _ _ _ _ h => h⟩
theorem dn_same {g h : Nat → BitVec 16} {W : BitVec 16} (s : BitVec 16) (e : ∀ a b, has W a = true → has W b = true → has (g a) b = has (h a) b) : dn g W s = dn h W s := by
  refine has_ext' fun i => ?_
  rw [dn_iff, dn_iff]
  exact ⟨fun ⟨q, h1, h2⟩ => ⟨q, h1, h2.mono (fun _ h => h) fun a b ha hb hx => by rw [← e a b ha hb]; exact hx⟩, fun ⟨q, h1, h2⟩ => ⟨q, h1, h2.mono (fun _ h => h) fun a b ha hb hx => by rw [e a b ha hb]; exact hx⟩⟩
theorem up_same {g h : Nat → BitVec 16} {W : BitVec 16} (s : BitVec 16) (e : ∀ a b, has W a = true → has W b = true → has (g a) b = has (h a) b) : up g W s = up h W s := by
  refine has_ext' fun i => ?_
  rw [up_iff, up_iff]
  exact ⟨fun ⟨q, h1, h2⟩ => ⟨q, h1, h2.mono (fun _ h => h) fun a b ha hb hx => by rw [← e a b ha hb]; exact hx⟩, fun ⟨q, h1, h2⟩ => ⟨q, h1, h2.mono (fun _ h => h) fun a b ha hb hx => by rw [e a b ha hb]; exact hx⟩⟩
theorem dn_ct (g : Nat → BitVec 16) (W s : BitVec 16) : dn (ct g W) W s = dn g W s := dn_same s fun a b ha hb => by rw [ct_has, ha, hb]; rfl
/-- The second graph, its first k rows turned. -/
def mix (f h : Nat → BitVec 16) (W : BitVec 16) (k i : Nat) : BitVec 16 := if i < k ∧ has W i = true then (f i &&& W) ||| (h i &&& ~~~W) else h i
theorem mix_zero (f h : Nat → BitVec 16) (W : BitVec 16) : mix f h W 0 = h := by funext i; unfold mix; rw [if_neg (by omega)]
theorem mix_yes (f h : Nat → BitVec 16) (W : BitVec 16) (k : Nat) (hW : has W k = true) : ∀ i, i < 16 → updF (mix f h W k) k ((f k &&& W) ||| (h k &&& ~~~W)) i = mix f h W (k + 1) i := by
  intro i _
  unfold updF mix
  by_cases e : i = k
  · subst e; rw [if_pos rfl, if_pos ⟨by omega, hW⟩]
  · rw [if_neg e]
    by_cases e2 : i < k ∧ has W i = true
    · rw [if_pos e2, if_pos ⟨by omega, e2.2⟩]
    · rw [if_neg e2, if_neg (fun h => e2 ⟨by omega, h.2⟩)]
theorem mix_no (f h : Nat → BitVec 16) (W : BitVec 16) (k : Nat) (hW : has W k = false) : ∀ i, i < 16 → mix f h W k i = mix f h W (k + 1) i := by
  intro i _
  unfold mix
  by_cases e2 : i < k ∧ has W i = true
  · rw [if_pos e2, if_pos ⟨by omega, e2.2⟩]
  · rw [if_neg e2, if_neg (fun h => e2 ⟨by
      by_cases e : i = k
      · subst e; rw [hW] at h; exact absurd h.2 (by decide)
      · omega, h.2⟩)]
theorem mix_at (f h : Nat → BitVec 16) (W : BitVec 16) (k : Nat) : mix f h W k k = h k := by unfold mix; rw [if_neg (by omega)]
theorem mix_has (f h : Nat → BitVec 16) (W : BitVec 16) (a b : Nat) (ha16 : a < 16) (ha : has W a = true) (hb : has W b = true) : has (mix f h W 16 a) b = has (f a) b := by
  unfold mix
  rw [if_pos ⟨ha16, ha⟩]
  have : has (~~~W) b = false := by
    have hb16 : b < 16 := by
      unfold has at hb
      exact BitVec.lt_of_getLsbD hb
    unfold has at hb ⊢
    rw [BitVec.getLsbD_not, hb]
    simp
  rw [has_or, has_and, has_and, hb, this]
  simp
theorem has_lt {W : BitVec 16} {a : Nat} (h : has W a = true) : a < 16 := BitVec.lt_of_getLsbD h
/-! ### Rows of sixteen in a region that draws its order -/
section
variable {P : Program}
theorem exec_alloc_arr {a : Act} {w : World} {o : Oper} (ty : TypeId) (ho : o.op = .alloc ty) (zs : List Value) (hz : (P.info? ty).map (·.zero) = some (some (.agg ⟨zs⟩))) :
    (execOp a.eval o).run P w = .ok (.value (.pointer (some ⟨w.heap.size, 0, none⟩))) (w.alloc (.cells ⟨zs⟩ ty)) := by
  have hr : (zeroValue ty).run P w = .ok (.agg ⟨zs⟩) w := by
    cases hq : P.info? ty with
    | none => simp [hq] at hz
    | some i => simp [hq] at hz; simp [zeroValue, typeInfo, hq, hz]
  unfold execOp
  simp only [ho, Instr.alloc, Sem.run_bind, hr, Result.andThen_ok]
  rfl
theorem exec_store_row {a : Act} {w : World} {o : Oper} (ty : TypeId) (x y : Operand) (ho : o.op = .store ty x y) (g : Nat) (hx : a.eval x = .pointer (some ⟨g, 0, none⟩)) (xs : List Value) (hy : a.eval y = .agg ⟨xs⟩) (t : TypeId) (cs : List Value) (n : Nat)
    (hg : w.heap[g]? = some (.cells ⟨cs⟩ t (0, 0))) (hi : (P.info? ty).map (·.size) = some n) (hn : xs.length = n) (hc : cs.length = n) (h1 : ∀ u ∈ xs, u.oneCell' = true) :
    (execOp a.eval o).run P w = .ok .skip (w.setRow g ⟨xs⟩) := by
  have hs := run_storeVar_part (P := P) w g 0 n t ty cs xs hg hi hn (by omega) h1
  have e : splc cs xs 0 = xs := by unfold splc; rw [List.take_zero, List.nil_append, List.drop_eq_nil_of_le (by omega), List.append_nil]
  rw [e] at hs
  unfold execOp
  simp only [ho, hx, hy, Instr.storeAt, Instr.sureAddr, Sem.run_bind, Sem.run_pure, Result.andThen_ok, hs]
end
theorem at_pick {w0 w : World} {L L' : List (Nat × List Value × TypeId)} (h : At w0 L w) (hs : ∀ x ∈ L', x ∈ L) (hn : L'.Pairwise (fun x y => x.1 ≠ y.1)) : At w0 L' w := ⟨h.below, fun x hx => h.blk x (hs x hx), hn⟩
/-- The argument's cells. -/
def twoC (f hh : Nat → BitVec 16) (s W Le : BitVec 16) : List Value := gC f ++ (gC hh ++ [.int .u16 (nH s), .int .u16 (nH W), .int .u16 (nH Le)])
theorem twoC_length (f hh : Nat → BitVec 16) (s W Le : BitVec 16) : (twoC f hh s W Le).length = 35 := by simp [twoC, gC_length]
theorem twoC_a (f hh : Nat → BitVec 16) (s W Le : BitVec 16) (i : Nat) (hi : i < 16) : (twoC f hh s W Le)[0 + i]? = (gC f)[i]? := by rw [Nat.zero_add]; unfold twoC; rw [List.getElem?_append_left (by rw [gC_length]; exact hi)]
theorem twoC_b (f hh : Nat → BitVec 16) (s W Le : BitVec 16) (i : Nat) (hi : i < 16) : (twoC f hh s W Le)[16 + i]? = (gC hh)[i]? := by
  unfold twoC
  rw [List.getElem?_append_right (by rw [gC_length]; omega), gC_length, List.getElem?_append_left (by rw [gC_length]; omega), Nat.add_sub_cancel_left]
theorem twoC_c (f hh : Nat → BitVec 16) (s W Le : BitVec 16) (i : Nat) : (twoC f hh s W Le)[32 + i]? = ([.int .u16 (nH s), .int .u16 (nH W), .int .u16 (nH Le)] : List Value)[i]? := by
  unfold twoC
  rw [List.getElem?_append_right (by rw [gC_length]; omega), gC_length, List.getElem?_append_right (by rw [gC_length]; omega), gC_length, show 32 + i - 16 - 16 = i by omega]
theorem gC_ones (f : Nat → BitVec 16) : ∀ u ∈ gC f, u.oneCell' = true := by
  intro u hu
  unfold gC at hu
  obtain ⟨j, _, rfl⟩ := List.mem_map.1 hu
  rfl
theorem info16 : (Tryd.prog.info? 23).map (·.size) = some 16 := by kernel_rfl
set_option maxRecDepth 10000 in
set_option maxHeartbeats 8000000 in
theorem less_walk (f hh : Nat → BitVec 16) (s V_ Le : BitVec 16) (w : World) (hT : Table w) (hw1 : 1 ≤ w.heap.size) :
    Calls Tryd.prog 6 #[.agg ⟨twoC f hh s V_ Le⟩] w fun e w' => e = .returned (.bool true) ∧ Below w.heap.size w w' := by
  have HX0 := Lib.hid ((At.refl w).alloc (twoC f hh s V_ Le) 32)
  obtain ⟨xs, hxs⟩ : ∃ xs, twoC f hh s V_ Le = xs := ⟨_, rfl⟩
  have HC := Lib.hid hxs
  rw [hxs] at HX0
  rw [hxs]
  clear hxs
  go_enter Tryd.func6, Tryd.ntmps6
  go_upto_region 1 with fail
  go_cut [3, 4, 5, 6, 7] (fun t3 t4 t5 t6 t7 wx => ∃ g1 g2 : Nat, t3 = .pointer (some ⟨g1, 0, none⟩) ∧ t4 = .pointer (some ⟨g2, 0, none⟩) ∧ t5 = .int .u16 (nH s) ∧ t6 = .int .u16 (nH V_) ∧ t7 = .int .u16 (nH Le) ∧ Hid (At w [(g1, gC f, 23), (g2, gC hh, 23)] wx))
  case first =>
    obtain ⟨J, hJ⟩ : ∃ J : World → Prop, ∀ W, J W ↔ At w [(w.heap.size, xs, 32)] W := ⟨_, fun _ => Iff.rfl⟩
    have HJ := Lib.hid hJ
    have hj := (hJ _).2 HX0.out.drew
    have hrow : ∀ W, J W → W.heap[w.heap.size]? = some (.cells ⟨xs⟩ 32 (0, 0)) := fun W h => ((hJ W).1 h).row 0 rfl
    have HR := Lib.hid hrow
    have K : ∀ W, J W → W.cell? ⟨w.heap.size, 32, none⟩ = some (.int .u16 (nH s)) ∧ W.cell? ⟨w.heap.size, 33, none⟩ = some (.int .u16 (nH V_)) ∧ W.cell? ⟨w.heap.size, 34, none⟩ = some (.int .u16 (nH Le)) := fun W h => by
      have r := hrow W h
      have he : ∀ i : Nat, (⟨xs⟩ : Array Value)[i]? = xs[i]? := fun i => List.getElem?_toArray
      refine ⟨(cell_of_row W w.heap.size 32 _ _ _ r).trans ?_, (cell_of_row W w.heap.size 33 _ _ _ r).trans ?_, (cell_of_row W w.heap.size 34 _ _ _ r).trans ?_⟩
      · rw [he, ← HC.out]; exact twoC_c f hh s V_ Le 0
      · rw [he, ← HC.out]; exact twoC_c f hh s V_ Le 1
      · rw [he, ← HC.out]; exact twoC_c f hh s V_ Le 2
    have hca : ∀ i, i < 16 → xs[0 + i]? = (gC f)[i]? := fun i hi => by rw [← HC.out]; exact twoC_a f hh s V_ Le i hi
    have hcb : ∀ i, i < 16 → xs[16 + i]? = (gC hh)[i]? := fun i hi => by rw [← HC.out]; exact twoC_b f hh s V_ Le i hi
    have HA := Lib.hid hca
    have HB := Lib.hid hcb
    clear hJ hrow hca hcb
    refine Turn.region_fork [0, 1, 2, 3, 4, 5, 6, 7, 8, 9] 10 11 [11, 12, 13, 14, 15, 16] [10, 12, 13, 14, 15, 16] (fun i => 10 ≤ i && i ≤ 13) J (by kernel_rfl) (by kernel_rfl) hj ?_
    apply Turn.seq_yes; (· simp only [List.getElem?_toArray, List.getElem?_cons_succ, List.getElem?_cons_zero]; rfl); (· rfl); (· go_simp); (· intro w1 h1; obtain ⟨k0, k1, k2⟩ := K w1 h1; go_simp; first | exact ⟨rfl, h1⟩ | exact ⟨rfl, rfl, h1⟩); (· go_simp; rfl)
    refine Turn.seq_load_part w.heap.size 0 16 32 23 xs (gC f) (0, 0) _ HR.out Tryd.underlying23 rfl info16 (gC_length f) HA.out ?o1 ?ho1 rfl ?w1 ?x1 ?hop1 ?e1 ?a1 ?p1 ?_
    case ho1 => simp only [List.getElem?_toArray, List.getElem?_cons_succ, List.getElem?_cons_zero]; rfl
    case hop1 => rfl
    case w1 => go_simp
    case e1 => go_simp
    case p1 => go_simp; rfl
    apply Turn.seq_yes; (· simp only [List.getElem?_toArray, List.getElem?_cons_succ, List.getElem?_cons_zero]; rfl); (· rfl); (· go_simp); (· intro w1 h1; obtain ⟨k0, k1, k2⟩ := K w1 h1; go_simp; first | exact ⟨rfl, h1⟩ | exact ⟨rfl, rfl, h1⟩); (· go_simp; rfl)
    refine Turn.seq_load_part w.heap.size 16 16 32 23 xs (gC hh) (0, 0) _ HR.out Tryd.underlying23 rfl info16 (gC_length hh) HB.out ?o2 ?ho2 rfl ?w2 ?x2 ?hop2 ?e2 ?a2 ?p2 ?_
    case ho2 => simp only [List.getElem?_toArray, List.getElem?_cons_succ, List.getElem?_cons_zero]; rfl
    case hop2 => rfl
    case w2 => go_simp
    case e2 => go_simp
    case p2 => go_simp; rfl
    repeat (apply Turn.seq_yes; (· simp only [List.getElem?_toArray, List.getElem?_cons_succ, List.getElem?_cons_zero]; rfl); (· rfl); (· go_simp); (· intro w1 h1; obtain ⟨k0, k1, k2⟩ := K w1 h1; go_simp; first | exact ⟨rfl, h1⟩ | exact ⟨rfl, rfl, h1⟩); (· go_simp; rfl))
    apply Turn.seq_nil
    clear K
    refine ⟨?_, ?_⟩
    · have A0 := HX0.out.drew
      have A1 := A0.alloc (gC fun _ => 0#16) 23
      have A2 := A1.alloc (gC fun _ => 0#16) 23
      obtain ⟨W0, hW0⟩ : ∃ W0, (w.alloc (.cells ⟨xs⟩ 32)).drew = W0 := ⟨_, rfl⟩
      rw [hW0] at A0 A1 A2 ⊢
      obtain ⟨W1, hW1⟩ : ∃ W1, W0.alloc (.cells ⟨(gC fun _ => 0#16)⟩ 23) = W1 := ⟨_, rfl⟩
      obtain ⟨W2, hW2⟩ : ∃ W2, W1.alloc (.cells ⟨(gC fun _ => 0#16)⟩ 23) = W2 := ⟨_, rfl⟩
      rw [show (W0.alloc (.cells ⟨(gC fun _ => 0#16)⟩ 23 (0, 0))) = W1 from hW1] at A1 A2
      rw [show (W1.alloc (.cells ⟨(gC fun _ => 0#16)⟩ 23 (0, 0))) = W2 from hW2] at A2
      have A3 := A2.setRow 1 rfl ⟨gC f⟩
      have A4 := A3.setRow 0 rfl ⟨gC hh⟩
      have J1 : J W1 := (HJ.out W1).2 (at_pick A1 (by simp) (by simp))
      have J2 : J W2 := (HJ.out W2).2 (at_pick A2 (by simp) (by simp))
      have J3 : J (W2.setRow W0.heap.size ⟨gC f⟩) := (HJ.out _).2 (at_pick A3 (by simp) (by simp))
      have J4 : J ((W2.setRow W0.heap.size ⟨gC f⟩).setRow W1.heap.size ⟨gC hh⟩) := (HJ.out _).2 (at_pick A4 (by simp) (by simp))
      have r2 := A2.row 1 rfl
      have r3 := A3.row 0 rfl
      have HA4 := Lib.hid A4
      clear A0 A1 A2 A3 A4 HX0 HA HB HR
      refine Turn.opR_call ?o3 ?ho3 rfl ?hw3 ?a3 ?ha3 ?_
      case ho3 => simp only [List.getElem?_toArray, List.getElem?_cons_succ, List.getElem?_cons_zero]; rfl
      case hw3 => go_simp
      case ha3 => intro v; go_simp; rfl
      rw [exec_alloc_arr 23 (by rfl) (gC fun _ => 0#16) gC_zero, hW1]
      show J W1 ∧ _
      refine ⟨J1, ?_⟩
      refine Turn.seq_call ?o4 ?ho4 rfl ?hw4 ?a4 ?ha4 ?_
      case ho4 => simp only [List.getElem?_toArray, List.getElem?_cons_succ, List.getElem?_cons_zero]; rfl
      case hw4 => go_simp
      case ha4 => intro v; go_simp; rfl
      rw [exec_alloc_arr 23 (by rfl) (gC fun _ => 0#16) gC_zero, hW2]
      show J W2 ∧ _
      refine ⟨J2, ?_⟩
      refine Turn.seq_call ?o5 ?ho5 rfl ?hw5 ?a5 ?ha5 ?_
      case ho5 => simp only [List.getElem?_toArray, List.getElem?_cons_succ, List.getElem?_cons_zero]; rfl
      case hw5 => go_simp
      case ha5 => intro v; go_simp; rfl
      rw [exec_store_row 23 _ _ (by rfl) W0.heap.size (by go_simp) (gC f) (by go_simp) 23 (gC fun _ => 0#16) 16 r2 info16 (gC_length f) (gC_length _) (gC_ones f)]
      show J _ ∧ _
      refine ⟨J3, ?_⟩
      refine Turn.seq_call ?o6 ?ho6 rfl ?hw6 ?a6 ?ha6 ?_
      case ho6 => simp only [List.getElem?_toArray, List.getElem?_cons_succ, List.getElem?_cons_zero]; rfl
      case hw6 => go_simp
      case ha6 => intro v; go_simp; rfl
      rw [exec_store_row 23 _ _ (by rfl) W1.heap.size (by go_simp) (gC hh) (by go_simp) 23 (gC fun _ => 0#16) 16 r3 info16 (gC_length hh) (gC_length _) (gC_ones hh)]
      show J _ ∧ _
      refine ⟨J4, ?_⟩
      repeat (apply Turn.seq_yes; (· simp only [List.getElem?_toArray, List.getElem?_cons_succ, List.getElem?_cons_zero]; rfl); (· rfl); (· go_simp); (· intro w1 h1; go_simp; first | exact ⟨rfl, h1⟩ | exact ⟨rfl, rfl, h1⟩); (· go_simp; rfl))
      apply Turn.seq_nil
      go_wp2_with fail
      go_meet
      refine ⟨W0.heap.size, W1.heap.size, rfl, rfl, rfl, rfl, rfl, Lib.hid (at_pick HA4.out (by simp) ?_)⟩
      have hs : W1.heap.size = W0.heap.size + 1 := by rw [← hW1, World.size_alloc]
      simp [hs]
    · have A0 := HX0.out.drew
      have A1 := A0.alloc (gC fun _ => 0#16) 23
      have A2 := A1.alloc (gC fun _ => 0#16) 23
      obtain ⟨W0, hW0⟩ : ∃ W0, (w.alloc (.cells ⟨xs⟩ 32)).drew = W0 := ⟨_, rfl⟩
      rw [hW0] at A0 A1 A2 ⊢
      obtain ⟨W1, hW1⟩ : ∃ W1, W0.alloc (.cells ⟨(gC fun _ => 0#16)⟩ 23) = W1 := ⟨_, rfl⟩
      obtain ⟨W2, hW2⟩ : ∃ W2, W1.alloc (.cells ⟨(gC fun _ => 0#16)⟩ 23) = W2 := ⟨_, rfl⟩
      rw [show (W0.alloc (.cells ⟨(gC fun _ => 0#16)⟩ 23 (0, 0))) = W1 from hW1] at A1 A2
      rw [show (W1.alloc (.cells ⟨(gC fun _ => 0#16)⟩ 23 (0, 0))) = W2 from hW2] at A2
      have A3 := A2.setRow 0 rfl ⟨gC f⟩
      have A4 := A3.setRow 1 rfl ⟨gC hh⟩
      have J1 : J W1 := (HJ.out W1).2 (at_pick A1 (by simp) (by simp))
      have J2 : J W2 := (HJ.out W2).2 (at_pick A2 (by simp) (by simp))
      have J3 : J (W2.setRow W1.heap.size ⟨gC f⟩) := (HJ.out _).2 (at_pick A3 (by simp) (by simp))
      have J4 : J ((W2.setRow W1.heap.size ⟨gC f⟩).setRow W0.heap.size ⟨gC hh⟩) := (HJ.out _).2 (at_pick A4 (by simp) (by simp))
      have r2 := A2.row 0 rfl
      have r3 := A3.row 1 rfl
      have HA4 := Lib.hid A4
      clear A0 A1 A2 A3 A4 HX0 HA HB HR
      refine Turn.opR_call ?o13 ?ho13 rfl ?hw13 ?a13 ?ha13 ?_
      case ho13 => simp only [List.getElem?_toArray, List.getElem?_cons_succ, List.getElem?_cons_zero]; rfl
      case hw13 => go_simp
      case ha13 => intro v; go_simp; rfl
      rw [exec_alloc_arr 23 (by rfl) (gC fun _ => 0#16) gC_zero, hW1]
      show J W1 ∧ _
      refine ⟨J1, ?_⟩
      refine Turn.seq_call ?o14 ?ho14 rfl ?hw14 ?a14 ?ha14 ?_
      case ho14 => simp only [List.getElem?_toArray, List.getElem?_cons_succ, List.getElem?_cons_zero]; rfl
      case hw14 => go_simp
      case ha14 => intro v; go_simp; rfl
      rw [exec_alloc_arr 23 (by rfl) (gC fun _ => 0#16) gC_zero, hW2]
      show J W2 ∧ _
      refine ⟨J2, ?_⟩
      refine Turn.seq_call ?o15 ?ho15 rfl ?hw15 ?a15 ?ha15 ?_
      case ho15 => simp only [List.getElem?_toArray, List.getElem?_cons_succ, List.getElem?_cons_zero]; rfl
      case hw15 => go_simp
      case ha15 => intro v; go_simp; rfl
      rw [exec_store_row 23 _ _ (by rfl) W1.heap.size (by go_simp) (gC f) (by go_simp) 23 (gC fun _ => 0#16) 16 r2 info16 (gC_length f) (gC_length _) (gC_ones f)]
      show J _ ∧ _
      refine ⟨J3, ?_⟩
      refine Turn.seq_call ?o16 ?ho16 rfl ?hw16 ?a16 ?ha16 ?_
      case ho16 => simp only [List.getElem?_toArray, List.getElem?_cons_succ, List.getElem?_cons_zero]; rfl
      case hw16 => go_simp
      case ha16 => intro v; go_simp; rfl
      rw [exec_store_row 23 _ _ (by rfl) W0.heap.size (by go_simp) (gC hh) (by go_simp) 23 (gC fun _ => 0#16) 16 r3 info16 (gC_length hh) (gC_length _) (gC_ones hh)]
      show J _ ∧ _
      refine ⟨J4, ?_⟩
      repeat (apply Turn.seq_yes; (· simp only [List.getElem?_toArray, List.getElem?_cons_succ, List.getElem?_cons_zero]; rfl); (· rfl); (· go_simp); (· intro w1 h1; go_simp; first | exact ⟨rfl, h1⟩ | exact ⟨rfl, rfl, h1⟩); (· go_simp; rfl))
      apply Turn.seq_nil
      go_wp2_with fail
      go_meet
      refine ⟨W1.heap.size, W0.heap.size, rfl, rfl, rfl, rfl, rfl, Lib.hid (at_pick HA4.out (by simp) ?_)⟩
      have hs : W1.heap.size = W0.heap.size + 1 := by rw [← hW1, World.size_alloc]
      simp [hs]
  case rest =>
    obtain ⟨g1, g2, rfl, rfl, rfl, rfl, rfl, HA⟩ := hcut
    have H0 := HA.out
    clear HX0 HC HA
    have f1 : (nH (dn f (V_ &&& Le) s &&& ~~~dn f V_ s) != 0) = false := by
      show (!(nH _ == 0)) = false
      rw [b16_zero, dn_mono (fun i h => by rw [has_and, Bool.and_eq_true] at h; exact h.1)]
      rfl
    go_wp2_with (refine wpList_load_rowG ?_ 23 _ rfl _ rfl 23 _ (0, 0) _ (H0.row 0 rfl) Tryd.underlying23 rfl gC_size ?_; (· go_simp))
    refine callAt (R := fun e => e = .returned (.int .u16 (nH (dn f V_ s)))) (Down_calls f s V_ _ (hT.below (H0.below.mono hw1)) (Nat.le_trans hw1 H0.below.size)) H0 ?_
    rintro e w2 rfl H2
    clear H0
    go_wp2_with (refine wpList_load_rowG ?_ 23 _ rfl _ rfl 23 _ (0, 0) _ (H2.row 0 rfl) Tryd.underlying23 rfl gC_size ?_; (· go_simp))
    refine callAt (R := fun e => e = .returned (.int .u16 (nH (dn f (V_ &&& Le) s)))) (Down_calls f s (V_ &&& Le) _ (hT.below (H2.below.mono hw1)) (Nat.le_trans hw1 H2.below.size)) H2 ?_
    rintro e w3 rfl H3
    clear H2
    go_wp2_with (refine wpList_load_rowG ?_ 23 _ rfl _ rfl 23 _ (0, 0) _ (H3.row 0 rfl) Tryd.underlying23 rfl gC_size ?_; (· go_simp))
    refine callAt (R := fun e => e = .returned (.agg ⟨gC (ct f V_)⟩)) (Cut_calls f V_ _) H3 ?_
    rintro e w4 rfl H4
    clear H3
    go_wp2_with fail
    refine callAt (R := fun e => e = .returned (.int .u16 (nH (dn (ct f V_) V_ s)))) (Down_calls (ct f V_) s V_ _ (hT.below (H4.below.mono hw1)) (Nat.le_trans hw1 H4.below.size)) H4 ?_
    rintro e w5 rfl H5
    rw [dn_ct]
    clear H4
    go_wp2_with fail
    go_loopw [9] (fun v9 wr => ∃ k : Nat, k ≤ 16 ∧ v9 = .int .i64 k ∧ Hid (At w [(g1, gC f, 23), (g2, gC (mix f hh V_ k), 23)] wr)) (fun v9 _ => 16 - (intOf v9).toNat)
    case atStart => exact ⟨0, Nat.zero_le _, rfl, Lib.hid (by rw [mix_zero]; exact H5)⟩
    case round =>
      clear H5
      obtain ⟨k, hk, rfl, H⟩ := hrel
      by_cases hlt : k < 16
      · have d1 : decide (k < 16) = true := decide_eq_true hlt
        have d2 : ((k : Int) < 16) = True := by simp; omega
        have hw := has_walk V_ k
        have HH := Lib.hid H.out
        cases hb : has V_ k with
        | false =>
          rw [hb] at hw
          go_wp2_with fail
          go_roundw
          case rel => exact ⟨k + 1, by omega, by go_num, Lib.hid (by have := H.out; rw [gC_congr (mix_no f hh V_ k hb)] at this; exact this)⟩
          case measure => simp only [intOf]; omega
        | true =>
          rw [hb] at hw
          have y1 : ∀ W, At w [(g1, gC f, 23), (g2, gC (mix f hh V_ k), 23)] W → W.cell? ⟨g1, k, none⟩ = some (.int .u16 (nH (f k))) ∧ W.cell? ⟨g2, k, none⟩ = some (.int .u16 (nH (hh k))) ∧ W.frozen? ⟨g2, k, none⟩ = false := fun W hW => by
            refine ⟨((hW.rules _ (List.mem_cons_self ..)).1 k).trans (gC_at f k hlt), ((hW.rules _ (List.mem_cons_of_mem _ (List.mem_cons_self ..))).1 k).trans ((gC_at _ k hlt).trans (by rw [mix_at])), (hW.rules _ (List.mem_cons_of_mem _ (List.mem_cons_self ..))).2.1 k⟩
          obtain ⟨x1, x2, x3⟩ := y1 wr H.out
          obtain ⟨v9, hv9⟩ : ∃ v9, (f k &&& V_) ||| (hh k &&& ~~~V_) = v9 := ⟨_, rfl⟩
          have hset : At w [(g1, gC f, 23), (g2, gC (mix f hh V_ (k + 1)), 23)] (wr.setCell ⟨g2, k, none⟩ (.int .u16 (nH v9))).drew := by
            have h := (H.out.set 1 rfl k (.int .u16 (nH v9))).drew
            rw [← hv9] at h ⊢
            have e := gC_setk (mix f hh V_ k) k _ (mix_yes f hh V_ k hb)
            have h' : At w [(g1, gC f, 23), (g2, (gC (mix f hh V_ k)).set k (.int .u16 (nH ((f k &&& V_) ||| (hh k &&& ~~~V_)))), 23)] _ := h
            rw [e] at h'
            exact h'
          obtain ⟨J, hJ⟩ : ∃ J : World → Prop, ∀ W, J W ↔ W.cell? ⟨g1, k, none⟩ = some (.int .u16 (nH (f k))) := ⟨_, fun _ => Iff.rfl⟩
          have hj := (hJ wr.drew).2 x1
          have K := fun w1 h1 => (hJ w1).1 h1
          have hset1 := (hset.rules _ (List.mem_cons_self ..)).1 k
          have HJ2 := Lib.hid ((hJ _).2 (hset1.trans (gC_at f k hlt)))
          have HS := Lib.hid hset
          clear hJ hset hset1 y1
          have b1 := b16_and (f k) V_
          have b2 := b16_andNot (hh k) V_
          have b3 := b16_or (f k &&& V_) (hh k &&& ~~~V_)
          rw [hv9] at b3
          go_wp2_with fail
          refine Turn.region_seq [0, 1, 2, 3, 4, 5, 6, 7, 9, 8, 10, 11, 12, 13] (fun i => i == 8 || i == 13) J (by kernel_rfl) (by kernel_rfl) hj ?_
          repeat (first | (apply Turn.seq_yes; (· simp only [List.getElem?_toArray, List.getElem?_cons_succ, List.getElem?_cons_zero]; rfl); (· rfl); (· go_simp); (· intro w1 h1; have zz := K w1 h1; go_simp; exact ⟨rfl, h1⟩); (· go_simp; rfl)) | (apply Turn.seq_yes; (· simp only [List.getElem?_toArray, List.getElem?_cons_succ, List.getElem?_cons_zero]; rfl); (· rfl); (· go_simp); (· intro w1 h1; have zz := K w1 h1; go_simp; exact ⟨rfl, rfl, h1⟩); (· go_simp; rfl)) | (apply Turn.seq_no; (· simp only [List.getElem?_toArray, List.getElem?_cons_succ, List.getElem?_cons_zero]; rfl); (· go_simp); (· go_simp; rfl)))
          apply Turn.seq_call
          · simp only [List.getElem?_toArray, List.getElem?_cons_succ, List.getElem?_cons_zero]; rfl
          · rfl
          · go_simp
          · intro v; go_simp; rfl
          go_simp
          refine ⟨hj, ?_⟩
          repeat (first | (apply Turn.seq_yes; (· simp only [List.getElem?_toArray, List.getElem?_cons_succ, List.getElem?_cons_zero]; rfl); (· rfl); (· go_simp); (· intro w1 h1; have zz := K w1 h1; go_simp; exact ⟨rfl, h1⟩); (· go_simp; rfl)) | (apply Turn.seq_yes; (· simp only [List.getElem?_toArray, List.getElem?_cons_succ, List.getElem?_cons_zero]; rfl); (· rfl); (· go_simp); (· intro w1 h1; have zz := K w1 h1; go_simp; exact ⟨rfl, rfl, h1⟩); (· go_simp; rfl)) | (apply Turn.seq_no; (· simp only [List.getElem?_toArray, List.getElem?_cons_succ, List.getElem?_cons_zero]; rfl); (· go_simp); (· go_simp; rfl)))
          apply Turn.seq_call
          · simp only [List.getElem?_toArray, List.getElem?_cons_succ, List.getElem?_cons_zero]; rfl
          · rfl
          · go_simp
          · intro v; go_simp; rfl
          go_simp
          refine ⟨HJ2.out, ?_⟩
          apply Turn.seq_nil
          clear K hj x1 x2 x3
          go_wp2_with fail
          go_roundw
          case rel => exact ⟨k + 1, by omega, by go_num, HS⟩
          case measure => simp only [intOf]; omega
      · have e16 : k = 16 := by omega
        have d1 : decide (k < 16) = false := decide_eq_false hlt
        have d2 : ((k : Int) < 16) = False := by simp; omega
        have hm : ∀ a b, has V_ a = true → has V_ b = true → has (mix f hh V_ k a) b = has (f a) b := fun a b ha hb => by rw [e16]; exact mix_has f hh V_ a b (has_lt ha) ha hb
        have hd : ∀ w, Table w → 1 ≤ w.heap.size → Calls Tryd.prog 7 #[.agg ⟨gC (mix f hh V_ k)⟩, .int .u16 (nH s), .int .u16 (nH V_)] w fun e w' => e = .returned (.int .u16 (nH (dn f V_ s))) ∧ Below w.heap.size w w' := fun w h1 h2 => by
          have := Down_calls (mix f hh V_ k) s V_ w h1 h2
          rwa [dn_same s hm] at this
        have hu : ∀ w, Table w → 1 ≤ w.heap.size → Calls Tryd.prog 9 #[.agg ⟨gC (mix f hh V_ k)⟩, .int .u16 (nH s), .int .u16 (nH V_)] w fun e w' => e = .returned (.int .u16 (nH (up f V_ s))) ∧ Below w.heap.size w w' := fun w h1 h2 => by
          have := Up_calls (mix f hh V_ k) s V_ w h1 h2
          rwa [up_same s hm] at this
        have HD := Lib.hid hd
        have HU := Lib.hid hu
        obtain ⟨mx, hmx⟩ : ∃ mx, mix f hh V_ k = mx := ⟨_, rfl⟩
        rw [hmx] at H HD HU
        clear hd hu hm hmx e16 hlt hk f1
        go_wp2_with fail
        refine region_at (by kernel_rfl) (by kernel_rfl) H.out.drew (fun J hJ1 hJ2 => ?_)
        have K := fun w1 h1 => (hJ1 w1 h1).rules
        simp only [List.forall_mem_cons] at K
        repeat (first | (apply inv_yes; (· go_simp); (· intro w1 h1; have K1 := K w1 h1; go_simp; exact ⟨rfl, h1⟩); (· go_simp; rfl)) | (apply inv_no; (· go_simp); (· go_simp; rfl)) | (apply inv_load_row ?_ 23 _ rfl _ rfl 23 _ (0, 0) _ (fun w1 h1 => (hJ1 w1 h1).row 0 rfl) Tryd.underlying23 rfl gC_size; (· go_simp; rfl); rotate_left; (· go_simp)) | (apply inv_load_row ?_ 23 _ rfl _ rfl 23 _ (0, 0) _ (fun w1 h1 => (hJ1 w1 h1).row 1 rfl) Tryd.underlying23 rfl gC_size; (· go_simp; rfl); rotate_left; (· go_simp)))
        apply inv_yes
        · go_simp
        · intro w1 h1; have K1 := K w1 h1; go_simp; exact callI hJ1 hJ2 (HD.out _ (hT.below ((hJ1 _ h1).below.mono hw1)) (Nat.le_trans hw1 (hJ1 _ h1).below.size)) h1
        · go_simp; rfl
        repeat (first | (apply inv_yes; (· go_simp); (· intro w1 h1; have K1 := K w1 h1; go_simp; exact ⟨rfl, h1⟩); (· go_simp; rfl)) | (apply inv_no; (· go_simp); (· go_simp; rfl)) | (apply inv_load_row ?_ 23 _ rfl _ rfl 23 _ (0, 0) _ (fun w1 h1 => (hJ1 w1 h1).row 0 rfl) Tryd.underlying23 rfl gC_size; (· go_simp; rfl); rotate_left; (· go_simp)) | (apply inv_load_row ?_ 23 _ rfl _ rfl 23 _ (0, 0) _ (fun w1 h1 => (hJ1 w1 h1).row 1 rfl) Tryd.underlying23 rfl gC_size; (· go_simp; rfl); rotate_left; (· go_simp)))
        apply inv_yes
        · go_simp
        · intro w1 h1; have K1 := K w1 h1; go_simp; exact callI hJ1 hJ2 (HU.out _ (hT.below ((hJ1 _ h1).below.mono hw1)) (Nat.le_trans hw1 (hJ1 _ h1).below.size)) h1
        · go_simp; rfl
        repeat (first | (apply inv_yes; (· go_simp); (· intro w1 h1; have K1 := K w1 h1; go_simp; exact ⟨rfl, h1⟩); (· go_simp; rfl)) | (apply inv_no; (· go_simp); (· go_simp; rfl)) | (apply inv_load_row ?_ 23 _ rfl _ rfl 23 _ (0, 0) _ (fun w1 h1 => (hJ1 w1 h1).row 0 rfl) Tryd.underlying23 rfl gC_size; (· go_simp; rfl); rotate_left; (· go_simp)) | (apply inv_load_row ?_ 23 _ rfl _ rfl 23 _ (0, 0) _ (fun w1 h1 => (hJ1 w1 h1).row 1 rfl) Tryd.underlying23 rfl gC_size; (· go_simp; rfl); rotate_left; (· go_simp)))
        apply inv_yes
        · go_simp
        · intro w1 h1; have K1 := K w1 h1; go_simp; exact callI hJ1 hJ2 (Up_calls f s V_ _ (hT.below ((hJ1 _ h1).below.mono hw1)) (Nat.le_trans hw1 (hJ1 _ h1).below.size)) h1
        · go_simp; rfl
        repeat (first | (apply inv_yes; (· go_simp); (· intro w1 h1; have K1 := K w1 h1; go_simp; exact ⟨rfl, h1⟩); (· go_simp; rfl)) | (apply inv_no; (· go_simp); (· go_simp; rfl)) | (apply inv_load_row ?_ 23 _ rfl _ rfl 23 _ (0, 0) _ (fun w1 h1 => (hJ1 w1 h1).row 0 rfl) Tryd.underlying23 rfl gC_size; (· go_simp; rfl); rotate_left; (· go_simp)) | (apply inv_load_row ?_ 23 _ rfl _ rfl 23 _ (0, 0) _ (fun w1 h1 => (hJ1 w1 h1).row 1 rfl) Tryd.underlying23 rfl gC_size; (· go_simp; rfl); rotate_left; (· go_simp)))
        apply inv_yes
        · go_simp
        · intro w1 h1; have K1 := K w1 h1; go_simp; exact callI hJ1 hJ2 (alive11 _ (hT.below ((hJ1 _ h1).below.mono hw1)) (Nat.le_trans hw1 (hJ1 _ h1).below.size)) h1
        · go_simp; rfl
        repeat (first | (apply inv_yes; (· go_simp); (· intro w1 h1; have K1 := K w1 h1; go_simp; exact ⟨rfl, h1⟩); (· go_simp; rfl)) | (apply inv_no; (· go_simp); (· go_simp; rfl)) | (apply inv_load_row ?_ 23 _ rfl _ rfl 23 _ (0, 0) _ (fun w1 h1 => (hJ1 w1 h1).row 0 rfl) Tryd.underlying23 rfl gC_size; (· go_simp; rfl); rotate_left; (· go_simp)) | (apply inv_load_row ?_ 23 _ rfl _ rfl 23 _ (0, 0) _ (fun w1 h1 => (hJ1 w1 h1).row 1 rfl) Tryd.underlying23 rfl gC_size; (· go_simp; rfl); rotate_left; (· go_simp)))
        refine wpInv_nil (fun wx hx => ?_)
        have H1 := hJ1 wx hx
        clear K hJ1 hJ2 hx
        go_wp2_with fail
        go_ret
        exact ⟨rfl, H1.below⟩
end Go.Proofs.YtdamljjbeaomoaaDoor
