/- Layer 12: policy.Seen. -/
import Derived.Test.YtohdldlagkmcnaaDoorPlA
import Derived.Test.YtohdldlagkmcnaaDoorGrE
import Derived.Test.YtohdldlagkmcnaaDoorInvIn
namespace Go.Proofs.YtohdldlagkmcnaaDoor.Pl
set_option linter.unusedSimpArgs false
set_option linter.unusedVariables false
open Go.RowKit Go.Shelf
open _root_.Go.Proofs.YtohdldlagkmcnaaDoor.Own
attribute [local go_sem] Oper.semAt_some
attribute [local go_sem] b16_and b16_or
/-- Which roles are seen under a label. -/
def seenB (P : Pol) (S I : BitVec 16) (i : Nat) : Bool := has P.live i && flowsB (P.lab (2 * i)) (P.lab (2 * i + 1)) S I
def seenF (P : Pol) (S I : BitVec 16) : BitVec 16 := mk16 (seenB P S I) 16
theorem seen_has (P : Pol) (S I : BitVec 16) (i : Nat) (hi : i < 16) : has (seenF P S I) i = seenB P S I i := by unfold seenF; rw [mk16_has _ 16 (Nat.le_refl _)]; simp [hi]
set_option maxHeartbeats 2000000 in
theorem Seen_calls (P : Pol) (S I : BitVec 16) (w : World) (hT : Table w) (hw1 : 1 ≤ w.heap.size) :
    Calls Tryd.prog 40 #[.agg ⟨polC P⟩, .agg #[.int .u16 (nH S), .int .u16 (nH I)]] w fun e w' => e = .returned (.int .u16 (nH (seenF P S I))) ∧ Below w.heap.size w w' := by
  have hA := (((((At.refl w).alloc (polC P) 29).alloc [.int .u16 (nH S), .int .u16 (nH I)] 24).alloc [.int .u16 0] 22)).alloc [.int .u16 (nH P.live)] 22
  simp only [World.size_alloc] at hA
  have hlv := polC_live P
  refine (callsIn_wide (n := 3)).1 ?_
  refine callsIn_of_wp_marks Tryd.func40 rfl trivial ?_ rfl
  simp only [Tryd.ntmps40, List.size_toArray, List.length_cons, List.length_nil, Nat.reduceAdd, Nat.reduceSub, Array.replicate_succ, Array.replicate_zero, List.push_toArray, List.append_toArray, List.nil_append, List.cons_append]
  gi_wp2_with (refine ⟨trivial, ?_⟩; gi_at_call 44; refine (callsIn_wide.2 (Each_calls _ _)).mono ?_; rintro e w' ⟨rfl, rfl⟩)
  obtain ⟨W0, hW0⟩ : ∃ W0, ((((w.alloc (.cells ⟨polC P⟩ 29)).alloc (.cells #[.int .u16 (nH S), .int .u16 (nH I)] 24)).alloc (.cells #[.int .u16 0] 22)).alloc (.cells #[.int .u16 (nH P.live)] 22)) = W0 := ⟨_, rfl⟩
  rw [hW0] at hA ⊢
  have hsz : W0.heap.size = w.heap.size + 4 := by rw [← hW0]; simp
  clear hW0
  have hR := hA.rules
  have hsb := (hR _ (List.getElem_mem (n := 0) (by simp))).1 0
  have hbx : Boxed W0 (w.heap.size + 1 + 1) 22 (.int .u16 (nH 0#16)) := (hA.blk _ (List.getElem_mem (n := 1) (by simp))).2
  have hl0 := (hA.blk _ (List.getElem_mem (n := 2) (by simp))).2
  have hp0 := (hA.blk _ (List.getElem_mem (n := 3) (by simp))).2
  simp only [List.getElem_cons_zero, List.getElem_cons_succ, List.getElem?_cons_zero] at hsb hl0 hp0
  have hT0 : Table W0 := hT.below (hA.below.mono hw1)
  have hBel := hA.below
  clear hR hA
  refine wpIn_rangeFunc_ownF rfl (by omega) (gf := 46) (lb := #[.pointer (some ⟨w.heap.size + 1 + 1 + 1, 0, none⟩)]) rfl trivial (enters_of Tryd.func46 (by kernel_rfl) rfl)
    (each_stops 2 (by omega) (w.heap.size + 1 + 1 + 1) P.live W0 (by omega) hsb hT0) belowK_t (belowK_b (by omega)) (Below.refl _ _) (fun _ => rfl)
    (fun pre W' => ∃ o, (∀ i, i < 16 → has o i = (decide (i ∈ pre.map Fin.val) && flowsB (P.lab (2 * i)) (P.lab (2 * i + 1)) S I)) ∧ Boxed W' (w.heap.size + 1 + 1) 22 (.int .u16 (nH o)) ∧ W0.grownBy W' (some (w.heap.size + 1 + 1)))
    (fun _ _ _ => False) ?hI (fun _ _ _ _ _ hs _ _ => hs) ⟨0#16, fun i _ => by simp [has], hbx, ⟨rfl, rfl, rfl, Nat.le_refl _, fun _ _ _ => rfl⟩⟩
    (fun x => { tmps := #[.agg ⟨polC P⟩, .agg #[.int .u16 (nH S), .int .u16 (nH I)], .pointer (some ⟨w.heap.size, 0, none⟩), .pointer (some ⟨w.heap.size + 1, 0, none⟩), .int .u16 0, .pointer (some ⟨w.heap.size + 1 + 1, 0, none⟩), .int .i64 (x.val : Int), .pointer (some ⟨w.heap.size, 0, none⟩), .int .u16 (nH P.live),
      .func (.func 46) #[] #[.pointer (some ⟨w.heap.size + 1 + 1 + 1, 0, none⟩)], .int .i64 (x.val : Int), undef, undef, undef, undef, undef, undef, undef, undef, undef, undef, undef], defers := [] }) ?assign ?body ?done ?stop
  case hI =>
    rintro pre A B row ⟨o2, hv, hb, hg'⟩ hgr hrow
    refine ⟨o2, hv, hb.kept hgr (fun e => by have := (hrow _ e.symm).1; omega), ⟨hgr.os.trans hg'.os, hgr.tape.trans hg'.tape, hgr.output.trans hg'.output, Nat.le_trans hg'.size hgr.size, fun k hk hne => (hgr.block k (by have := hg'.size; omega) (fun e => by have := (hrow k e.symm).1; omega)).trans (hg'.block k hk hne)⟩⟩
  case assign =>
    intro l x W K hK
    gi_wp2
    exact hK
  case body =>
    rintro l pre x W ⟨o2, hv, hb, hg'⟩ _
    have hx : x.val < 16 := x.isLt
    have hpW := (hg'.block w.heap.size (by omega) (by simp; omega)).trans hp0
    have hlW := (hg'.block (w.heap.size + 1) (by omega) (by simp)).trans hl0
    obtain ⟨J, hJ⟩ : ∃ J : World → Prop, ∀ V, J V ↔ Below W.heap.size W V := ⟨_, fun _ => Iff.rfl⟩
    have HJ := Lib.hid hJ
    have cP := fun (V : World) (h : J V) (i : Nat) => (((hJ V).1 h).cell (p := ⟨w.heap.size, i, none⟩) (by have := blk_lt hpW; simp; omega)).trans (cell_of_row W w.heap.size i _ _ _ hpW)
    have cL := fun (V : World) (h : J V) (i : Nat) => (((hJ V).1 h).cell (p := ⟨w.heap.size + 1, i, none⟩) (by have := blk_lt hlW; simp; omega)).trans (cell_of_row W (w.heap.size + 1) i _ _ _ hlW)
    obtain ⟨q1, q2⟩ := polC_lab2 P x.val x.isLt
    have q1' : (⟨polC P⟩ : Array Value)[1 + x.val * 2]? = some (.int .u16 (nH (P.lab (2 * x.val)))) := by simpa using q1
    have q2' : (⟨polC P⟩ : Array Value)[1 + x.val * 2 + 1]? = some (.int .u16 (nH (P.lab (2 * x.val + 1)))) := by simpa using q2
    have hj0 := (hJ W.drew).2 (Below.refl _ _).drew
    have hxi : (x.val : Int) < 16 := by omega
    have K := fun (V : World) (h : J V) => show (V.cell? ⟨w.heap.size, 1 + x.val * 2, none⟩ = some (.int .u16 (nH (P.lab (2 * x.val)))) ∧ V.cell? ⟨w.heap.size, 1 + x.val * 2 + 1, none⟩ = some (.int .u16 (nH (P.lab (2 * x.val + 1)))) ∧ V.cell? ⟨w.heap.size + 1, 0, none⟩ = some (.int .u16 (nH S)) ∧ V.cell? ⟨w.heap.size + 1, 1, none⟩ = some (.int .u16 (nH I))) from ⟨(cP V h _).trans q1', (cP V h _).trans q2', cL V h 0, cL V h 1⟩
    clear hJ cP cL q1 q2 q1' q2'
    gi_wp2_with fail
    refine regionIn_inv J (by kernel_rfl) (by kernel_rfl) rfl hj0 ?_
    iterate 3 (apply qin_yes (by intro _ _ _ _; trivial); (· go_simp); (· intro w1 h1; have K1 := K w1 h1; go_simp; exact rfl); (· go_simp; rfl))
    iterate 2 (apply qin_yes (by intro _ _ _ _; trivial); (· go_simp); (· intro w1 h1; obtain ⟨z0, z1, z2, z3⟩ := K w1 h1; go_simp; exact rfl); (· go_simp; rfl))
    obtain ⟨b, hbf⟩ : ∃ b, flowsB (P.lab (2 * x.val)) (P.lab (2 * x.val + 1)) S I = b := ⟨_, rfl⟩
    have hfl := fun (V : World) => LFlows_calls (P.lab (2 * x.val)) (P.lab (2 * x.val + 1)) S I V
    change ∀ V, Calls Tryd.prog 18 _ V fun e w' => e = .returned (.bool (flowsB (P.lab (2 * x.val)) (P.lab (2 * x.val + 1)) S I)) ∧ _ at hfl
    rw [hbf] at hfl
    have HBF := Lib.hid hbf
    have HV := Lib.hid hv
    have HG := Lib.hid hg'
    have HBX := Lib.hid hb
    clear hbf hv hg' hb hpW hlW
    apply qin_yes (by intro _ _ _ _; trivial)
    · go_simp
    · intro w1 h1
      go_simp
      exact CallsIn.inRound l (callsIn_wide.2 ((hfl w1).mono fun _ _ ⟨e, q⟩ => ⟨e, (HJ.out _).2 (((HJ.out _).1 h1).trans (q.mono ((HJ.out _).1 h1).size))⟩))
    · go_simp; rfl
    refine wpQ_nil (fun w2 h2 => ?_)
    have hb2 := (HJ.out _).1 h2
    clear K hfl h2 hj0 HJ
    have hgn : W.grownBy w2 none := ⟨hb2.os, hb2.tape, hb2.output, hb2.size, fun k hk _ => hb2.block k hk⟩
    have hbx2 := HBX.out.kept hgn (by simp)
    have hg2 : W0.grownBy w2 (some (w.heap.size + 1 + 1)) := ⟨hb2.os.trans HG.out.os, hb2.tape.trans HG.out.tape, hb2.output.trans HG.out.output, Nat.le_trans HG.out.size hb2.size, fun k hk hne => (hb2.block k (Nat.lt_of_lt_of_le hk HG.out.size)).trans (HG.out.block k hk hne)⟩
    have hk2 : KeepsOthers W w2 := KeepsOthers.of_grownBy hgn (fun j o e => nomatch e)
    have hbl1 : Below 1 W w2 := ⟨hb2.os, hb2.tape, hb2.output, hb2.size, fun k hk => hb2.block k (by have := HBX.out.lt; omega)⟩
    cases b with
    | false =>
      have HE := Lib.hid (And.intro hk2 (And.intro hbl1 (show ∃ o, (∀ i, i < 16 → has o i = (decide (i ∈ (pre ++ [x]).map Fin.val) && flowsB (P.lab (2 * i)) (P.lab (2 * i + 1)) S I)) ∧ Boxed w2 (w.heap.size + 1 + 1) 22 (.int .u16 (nH o)) ∧ W0.grownBy w2 (some (w.heap.size + 1 + 1)) from ⟨o2, fun i hi => by
        rw [HV.out i hi]
        by_cases e : i = x.val
        · rw [e, HBF.out]; simp
        · have : (i ∈ (pre ++ [x]).map Fin.val) = (i ∈ pre.map Fin.val) := by simp [e]
          simp only [this], hbx2, hg2⟩)))
      clear hgn hbx2 hg2 hk2 hbl1 hb2
      gi_wp2
      exact HE.out
    | true =>
      have hs := nH_shl x.val hx
      have hor := b16_or o2 (bit x.val)
      have hc := hbx2.cell
      have hfz := hbx2.frozen
      have hlt := hbx2.lt
      have hb3 := (hbx2.set (.int .u16 (nH (o2 ||| bit x.val))))
      have hg3 := grown_setCell (i := 0) (v := .int .u16 (nH (o2 ||| bit x.val))) hg2
      have hk3 := (hk2.trans (KeepsOthers.setCell w2 ⟨w.heap.size + 1 + 1, 0, none⟩ (.int .u16 (nH (o2 ||| bit x.val))))).trans (KeepsOthers.drew _)
      have hbl3 := (hbl1.trans ((Below.refl 1 w2).setCell (p := ⟨w.heap.size + 1 + 1, 0, none⟩) (by simp) (.int .u16 (nH (o2 ||| bit x.val))))).drew
      have HE := Lib.hid (And.intro hk3 (And.intro hbl3 (show ∃ o, (∀ i, i < 16 → has o i = (decide (i ∈ (pre ++ [x]).map Fin.val) && flowsB (P.lab (2 * i)) (P.lab (2 * i + 1)) S I)) ∧ Boxed (w2.setCell ⟨w.heap.size + 1 + 1, 0, none⟩ (.int .u16 (nH (o2 ||| bit x.val)))).drew (w.heap.size + 1 + 1) 22 (.int .u16 (nH o)) ∧ W0.grownBy (w2.setCell ⟨w.heap.size + 1 + 1, 0, none⟩ (.int .u16 (nH (o2 ||| bit x.val)))).drew (some (w.heap.size + 1 + 1)) from ⟨o2 ||| bit x.val, fun i hi => by
        rw [has_or, has_bit x.val i hx, HV.out i hi]
        by_cases e : i = x.val
        · rw [e, HBF.out]; simp
        · have : (i ∈ (pre ++ [x]).map Fin.val) = (i ∈ pre.map Fin.val) := by simp [e]
          simp only [this]; simp [e], hb3, ⟨hg3.os, hg3.tape, hg3.output, hg3.size, hg3.block⟩⟩)))
      clear hgn hbx2 hg2 hk2 hbl1 hb2 hb3 hg3 hk3 hbl3
      gi_wp2
      gi_region
      all_goals (gi_wp2; exact HE.out)
  case done =>
    rintro D xs W hD hS ⟨o2, hv, hb, hg'⟩ hK
    have hbc := hb.cell
    have heq : o2 = seenF P S I := has_ext fun i hi => by
      rw [seen_has P S I i hi, hv i hi, hS]
      unfold seenB
      cases h : has P.live i with
      | true => simp [mem_elems.2 h]
      | false =>
        have : i ∉ elems P.live := fun h' => by have := mem_elems.1 h'; rw [h] at this; cases this
        simp [this]
    subst heq
    gi_wp2
    refine ⟨by simp, .inl ⟨_, _, rfl, run_takeDeferred hK, ?_⟩⟩
    refine ⟨_, results_tmp rfl _ _ _, rfl, ?_⟩
    have hgD := grownBy_putObj' W D (.deferred none)
    exact hBel.trans ⟨hgD.os.trans hg'.os, hgD.tape.trans hg'.tape, hgD.output.trans hg'.output, Nat.le_trans (by have := hBel.size; omega) (Nat.le_trans hg'.size hgD.size),
      fun k hk => (hgD.block k (by have := hg'.size; omega) (by simp; omega)).trans (hg'.block k (by omega) (by simp; omega))⟩
  case stop =>
    rintro D c pre W _ _ h _
    exact h.elim
end Go.Proofs.YtohdldlagkmcnaaDoor.Pl
