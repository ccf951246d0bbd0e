/- The walks of graph.Cut, graph.Turn. -/
import Derived.Test.YtdamljjbeaomoaaDoorGrE
import Derived.Test.YtdamljjbeaomoaaDoorMemIn
namespace Go.Proofs.YtdamljjbeaomoaaDoor
set_option linter.unusedSimpArgs false
set_option linter.unusedVariables false
open Go.RowKit Go.Shelf
open _root_.Go.Proofs.YtdamljjbeaomoaaDoor.Own
attribute [local go_sem] Oper.semAt_some
attribute [local go_sem] b16_and b16_or
/-- Cut, under way. -/
def stK (f : Nat → BitVec 16) (W : BitVec 16) (m i : Nat) : BitVec 16 := if i < m then ct f W i else f i
theorem stK_set (f : Nat → BitVec 16) (W : BitVec 16) (m : Nat) (x : BitVec 16) (h : x = ct f W m) : ∀ i, i < 16 → updF (stK f W m) m x i = stK f W (m + 1) i := by
  intro i _
  unfold updF stK
  by_cases e : i = m
  · subst e; simp [h]
  · rw [if_neg e]
    by_cases e2 : i < m
    · rw [if_pos e2, if_pos (by omega)]
    · rw [if_neg e2, if_neg (by omega)]
theorem stK_at (f : Nat → BitVec 16) (W : BitVec 16) (m : Nat) : stK f W m m = f m := by unfold stK; rw [if_neg (by omega)]
set_option maxHeartbeats 2000000 in
theorem Cut_calls (f : Nat → BitVec 16) (W : BitVec 16) (w : World) :
    Calls Tryd.prog 14 #[.agg ⟨gC f⟩, .int .u16 (nH W)] w fun e w' => e = .returned (.agg ⟨gC (ct f W)⟩) ∧ Below w.heap.size w w' := by
  go_enter Tryd.func14, Tryd.ntmps14
  have H0 := At.refl w
  go_wp2_with (refine wpList_alloc_arr rfl 23 rfl (gC fun _ => 0#16) gC_zero ?_)
  have H1 := (H0.alloc (gC f) 23).alloc (gC fun _ => 0#16) 23
  simp only [World.size_alloc] at H1
  clear H0
  go_loopw [6] (fun i wr => ∃ m : Nat, m ≤ 16 ∧ i = .int .i64 m ∧ At w [(w.heap.size + 1, gC fun _ => 0#16, 23), (w.heap.size, gC (stK f W m), 23)] wr) (fun i _ => 16 - (intOf i).toNat)
  case atStart => exact ⟨0, Nat.zero_le _, rfl, by rw [gC_congr (f := stK f W 0) (g := f) (fun i _ => rfl)]; exact H1⟩
  case round =>
    clear H1
    obtain ⟨m, hm, rfl, H⟩ := hrel
    by_cases hlt : m < 16
    · have K := H.rules
      simp only [List.forall_mem_cons] at K
      have hc := gC_at (stK f W m) m hlt
      rw [stK_at] at hc
      cases h : has W m
      · have E := Lib.hid (show (0#16 : BitVec 16) = ct f W m by unfold ct; rw [h]; rfl)
        go_wp2_with (go_at_call 17; refine (THas_calls _ _ (by omega) _).mono ?_; rintro e w' ⟨rfl, rfl⟩)
        go_roundw
        case rel =>
          have h2 := H.set 1 rfl m (.int .u16 (nH 0#16))
          rw [gC_setk _ _ _ (stK_set f W m _ E.out)] at h2
          exact ⟨m + 1, by omega, by go_num, h2⟩
        case measure => simp [intOf]; omega
      · have E := Lib.hid (show f m &&& W = ct f W m by unfold ct; rw [h]; rfl)
        go_wp2_with (go_at_call 17; refine (THas_calls _ _ (by omega) _).mono ?_; rintro e w' ⟨rfl, rfl⟩)
        go_roundw
        case rel =>
          have h2 := H.set 1 rfl m (.int .u16 (nH (f m &&& W)))
          rw [gC_setk _ _ _ (stK_set f W m _ E.out)] at h2
          exact ⟨m + 1, by omega, by go_num, h2⟩
        case measure => simp [intOf]; omega
    · obtain rfl : m = 16 := by omega
      go_wp2_with (first | (refine wpList_store_row rfl 23 _ _ rfl _ _ rfl rfl 23 _ (H.row 0 rfl) gC_size gC_old gC_one ?_) | refine wpList_load_row rfl 23 _ rfl _ rfl 23 _ (0, 0) _ (H.row 1 rfl) Tryd.underlying23 rfl gC_size ?_)
      have H2 := H.setRow 0 rfl ⟨gC (stK f W 16)⟩
      have e1 : gC (stK f W 16) = gC (ct f W) := gC_congr fun i hi => by unfold stK; rw [if_pos hi]
      rw [e1] at H2 ⊢
      exact bodyPost_ret (v := .agg ⟨gC (ct f W)⟩) (results_cell_row rfl _ _ (w.heap.size + 1) 23 _ (0, 0) _ rfl (H2.row 0 rfl) Tryd.underlying23 rfl gC_size) rfl ⟨rfl, H2.below⟩
theorem elem_at (f : Nat → BitVec 16) (m : Nat) (hm : m < 16) (w : World) : (Instr.index 23 (.agg ⟨gC f⟩) (.int .i64 m)).run Tryd.prog w = .ok (.int .u16 (nH (f m))) w :=
  run_index_arr w 23 22 16 _ _ _ _ Tryd.underlying23 _ Tryd.underlying22 rfl (by kernel_rfl) (by omega) (by omega) (by simpa using gC_at f m hm)
set_option maxHeartbeats 2000000 in
theorem Turn_calls (f : Nat → BitVec 16) (w : World) (hT : Table w) (hw1 : 1 ≤ w.heap.size) :
    Calls Tryd.prog 12 #[.agg ⟨gC f⟩] w fun e w' => e = .returned (.agg ⟨gC (tn f)⟩) ∧ Below w.heap.size w w' := by
  refine (callsIn_wide (n := 3)).1 ?_
  refine callsIn_of_wp_marks Tryd.func12 rfl trivial ?_ rfl
  simp only [Tryd.ntmps12, List.size_toArray, List.length_cons, List.length_nil, Nat.reduceAdd, Nat.reduceSub, Array.replicate_succ, Array.replicate_zero, List.push_toArray, List.append_toArray, List.nil_append, List.cons_append]
  have H0 := (At.refl w).alloc (gC f) 23
  gi_wp2_with (first | refine wpListIn_alloc_arr rfl 23 rfl (gC fun _ => 0#16) gC_zero ?_ | refine wpListIn_load_row rfl 23 _ rfl _ rfl 23 _ (0, 0) _ (((H0.alloc _ _).alloc _ _).row 2 rfl) Tryd.underlying23 rfl gC_size ?_)
  have H1 := (H0.alloc (gC fun _ => 0#16) 23).alloc (gC fun _ => 0#16) 23
  simp only [World.size_alloc] at H1
  clear H0
  obtain ⟨W1, hW1⟩ : ∃ W1, (((w.alloc (.cells ⟨gC f⟩ 23)).alloc (.cells ⟨gC fun _ => 0#16⟩ 23)).alloc (.cells ⟨gC fun _ => 0#16⟩ 23)) = W1 := ⟨_, rfl⟩
  rw [hW1] at H1 ⊢
  clear hW1
  refine wpIn_loop (fun a' w' => ∃ (m : Nat) (Ds : List Nat) (u4 u5 u6 u9 u10 u11 u12 u13 u14 u15 u16 u17 u18 u19 u20 u21 u22 : Value), m ≤ 16 ∧
      a' = { tmps := #[.agg ⟨gC f⟩, .pointer (some ⟨w.heap.size, 0, none⟩), .pointer (some ⟨w.heap.size + 1, 0, none⟩), .pointer (some ⟨w.heap.size + 1 + 1, 0, none⟩), u4, u5, u6, .agg ⟨gC f⟩, .int .i64 m, u9, u10, u11, u12, u13, u14, u15, u16, u17, u18, u19, u20, u21, u22, undef], defers := marks Ds } ∧
      Ds.Nodup ∧ (∀ D ∈ Ds, w.heap.size + 3 ≤ D ∧ w'.heap[D]? = some (.deferred (some []))) ∧ At w [(w.heap.size + 1 + 1, gC (stT f m 0), 23), (w.heap.size + 1, gC fun _ => 0#16, 23), (w.heap.size, gC f, 23)] w')
    (fun a' _ => 16 - (intOf (a'.tmps.getD 8 undef)).toNat) ?start ?round
  case start => exact ⟨0, [], _, _, _, _, _, _, _, _, _, _, _, _, _, _, _, _, _, Nat.zero_le _, rfl, List.nodup_nil, fun D h => (by cases h), by rw [gC_congr (f := stT f 0 0) (g := fun _ => 0#16) (fun i _ => rfl)]; exact H1⟩
  case round =>
    clear H1
    rintro _ wr ⟨m, Ds, u4, u5, u6, u9, u10, u11, u12, u13, u14, u15, u16, u17, u18, u19, u20, u21, u22, hm, rfl, hN, hD, H⟩
    by_cases hlt : m < 16
    · have hd1 : decide ((m : Int) < 16) = true := by simp; omega
      have hix := elem_at f m hlt
      gi_wp2_with (refine ⟨trivial, ?_⟩; gi_at_call 18; refine (callsIn_wide.2 (Each_calls _ _)).mono ?_; rintro e w' ⟨rfl, rfl⟩)
      obtain ⟨W0, hW0⟩ : ∃ W0, (wr.alloc (.cells #[.int .i64 m] 3)).alloc (.cells #[.int .u16 (nH (f m))] 22) = W0 := ⟨_, rfl⟩
      have hg0 : wr.grownBy W0 none := by
        rw [← hW0]
        exact ⟨rfl, rfl, rfl, by simp; omega, fun k hk _ => (Below.heap_alloc _ _ k (by simp; omega)).trans (Below.heap_alloc _ _ k hk)⟩
      have hsz : W0.heap.size = wr.heap.size + 2 := by rw [← hW0]; simp
      have hbm : W0.cell? ⟨wr.heap.size, 0, none⟩ = some (.int .i64 m) := by rw [← hW0]; simp [go_sem]
      have hsb : W0.cell? ⟨wr.heap.size + 1, 0, none⟩ = some (.int .u16 (nH (f m))) := by
        rw [← hW0]
        have := (Boxed.new (wr.alloc (.cells #[.int .i64 m] 3)) 22 (.int .u16 (nH (f m)))).cell
        rw [World.size_alloc] at this
        exact this
      have hA0 : At w [(w.heap.size + 1 + 1, gC (stT f m 0), 23), (w.heap.size + 1, gC fun _ => 0#16, 23), (w.heap.size, gC f, 23)] W0 := by rw [← hW0]; exact (H.other _).other _
      rw [hW0]
      clear hW0
      have hs1 : w.heap.size + 1 + 1 < wr.heap.size := blk_lt (H.row 0 rfl)
      have hT0 : Table W0 := hT.below (hA0.below.mono hw1)
      have hwr : IntKind.u16.wrap (2 ^ m) = nH (bit m) := by
        rw [IntKind.wrap_u16, nH_bit m hlt]
        have : (2 : Nat) ^ m < 65536 := Nat.pow_lt_pow_right (by decide : 1 < 2) hlt
        have e : ((2 : Int) ^ m) = ((2 ^ m : Nat) : Int) := by simp
        rw [e]
        exact Int.emod_eq_of_lt (Int.natCast_nonneg _) (Int.ofNat_lt.2 this)
      refine wpIn_rangeFunc_ownF rfl (by omega) (gf := 23) (lb := #[.pointer (some ⟨wr.heap.size + 1, 0, none⟩)]) rfl trivial (enters_of Tryd.func23 (by kernel_rfl) rfl)
        (each_stops 2 (by omega) (wr.heap.size + 1) (f m) W0 (by omega) hsb hT0) belowK_t (belowK_b (by omega)) (Below.refl _ _) (fun _ => rfl)
        (fun pre W' => At w [(w.heap.size + 1 + 1, gC (fun i => if i ∈ pre.map Fin.val then tnk f i m ||| bit m else tnk f i m), 23), (w.heap.size + 1, gC fun _ => 0#16, 23), (w.heap.size, gC f, 23)] W' ∧ W0.grownBy W' (some (w.heap.size + 1 + 1)))
        (fun _ _ _ => False) ?hI (fun _ _ _ _ _ hs _ _ => hs) ⟨by rw [gC_congr (g := stT f m 0) (fun i _ => by simp [stT])]; exact hA0, ⟨rfl, rfl, rfl, Nat.le_refl _, fun _ _ _ => rfl⟩⟩
        (fun x => { tmps := #[.agg ⟨gC f⟩, .pointer (some ⟨w.heap.size, 0, none⟩), .pointer (some ⟨w.heap.size + 1, 0, none⟩), .pointer (some ⟨w.heap.size + 1 + 1, 0, none⟩), .pointer (some ⟨wr.heap.size, 0, none⟩), .int .u16 (nH (f m)), .int .i64 (x.val : Int),
          .agg ⟨gC f⟩, .int .i64 m, .bool true, .int .i64 m, .int .u16 (nH (f m)), .int .u16 (nH (f m)), .func (.func 23) #[] #[.pointer (some ⟨wr.heap.size + 1, 0, none⟩)], .int .i64 (x.val : Int), u15, u16, u17, u18, u19, u20, u21, u22, undef], defers := [] }) ?assign ?body ?done ?stop
      case hI =>
        rintro pre A B row ⟨hAt, hg'⟩ hgr hrow
        refine ⟨hAt.grown hgr W0.heap.size (fun r e => (hrow r e).1) (by omega) (fun x hx => ?_), ⟨hgr.os.trans hg'.os, hgr.tape.trans hg'.tape, hgr.output.trans hg'.output, Nat.le_trans hg'.size hgr.size, fun k hk hne => (hgr.block k (by have := hg'.size; omega) (fun e => by have := (hrow k e.symm).1; omega)).trans (hg'.block k hk hne)⟩⟩
        simp only [List.mem_cons, List.not_mem_nil, or_false] at hx
        rcases hx with rfl | rfl | rfl <;> simp only <;> omega
      case assign =>
        intro l x W K hK
        gi_wp2
        exact hK
      case body =>
        rintro l pre x W ⟨hAt, hg'⟩ _
        have hx : x.val < 16 := x.isLt
        have K := hAt.rules
        simp only [List.forall_mem_cons] at K
        obtain ⟨o, ho⟩ : ∃ o, o = (if x.val ∈ pre.map Fin.val then tnk f x.val m ||| bit m else tnk f x.val m) := ⟨_, rfl⟩
        have hc : (gC fun i => if i ∈ pre.map Fin.val then tnk f i m ||| bit m else tnk f i m)[x.val]? = some (.int .u16 (nH (if x.val ∈ pre.map Fin.val then tnk f x.val m ||| bit m else tnk f x.val m))) := gC_at _ x.val hx
        rw [← ho] at hc
        have HO := Lib.hid ho
        clear ho
        have hm' : W.cell? ⟨wr.heap.size, 0, none⟩ = some (.int .i64 m) := (World.cell?_of_block (hg'.block wr.heap.size (by omega) (by simp; omega))).trans hbm
        have hkx := K.1.1 x.val
        rw [hc] at hkx
        have hfx := K.1.2.1 x.val
        have hlt3 := K.1.2.2.1
        clear K hc
        have hset : (gC fun i => if i ∈ pre.map Fin.val then tnk f i m ||| bit m else tnk f i m).set x.val (.int .u16 (nH (o ||| bit m))) = gC (fun i => if i ∈ (pre ++ [x]).map Fin.val then tnk f i m ||| bit m else tnk f i m) := by
          refine gC_setk _ _ _ fun i hi => ?_
          unfold updF
          by_cases e : i = x.val
          · rw [if_pos e, if_pos (by simp [e]), HO.out, e]
            split
            · rw [BitVec.or_assoc, BitVec.or_self]
            · rfl
          · rw [if_neg e]
            have : (i ∈ (pre ++ [x]).map Fin.val) = (i ∈ pre.map Fin.val) := by simp [e]
            simp only [this]
        have hA2 := (hAt.set 0 rfl x.val (.int .u16 (nH (o ||| bit m)))).drew
        rw [hset] at hA2
        have hB2 := ((Below.refl 1 W).setCell (p := ⟨w.heap.size + 1 + 1, x.val, none⟩) (by simp) (.int .u16 (nH (o ||| bit m)))).drew
        have hG2 : W0.grownBy (W.setCell ⟨w.heap.size + 1 + 1, x.val, none⟩ (.int .u16 (nH (o ||| bit m)))).drew (some (w.heap.size + 1 + 1)) := by
          have := grown_setCell (i := x.val) (v := .int .u16 (nH (o ||| bit m))) hg'
          exact ⟨this.os, this.tape, this.output, this.size, this.block⟩
        have hK2 := (KeepsOthers.setCell W ⟨w.heap.size + 1 + 1, x.val, none⟩ (.int .u16 (nH (o ||| bit m)))).trans (KeepsOthers.drew _)
        have HE := Lib.hid (And.intro hK2 (And.intro hB2 (And.intro hA2 hG2)))
        clear hset hA2 hB2 hG2 hK2 hAt hg' hA0 hg0
        have hor := b16_or o (bit m)
        gi_wp2
        gi_region
        all_goals (gi_wp2; exact HE.out)
      case done =>
        rintro D xs W hDl hS ⟨hAt, hg'⟩ hK
        gi_wp2
        have hst : ∀ i, i < 16 → (if i ∈ xs.map Fin.val then tnk f i m ||| bit m else tnk f i m) = stT f (m + 1) 0 i := by
          intro i hi
          rw [hS]
          unfold stT
          cases h : has (f m) i with
          | true => rw [if_pos (mem_elems.2 h), if_neg (Nat.not_lt_zero i), tnk_yes h]
          | false => rw [if_neg (fun h' => by have := mem_elems.1 h'; rw [h] at this; cases this), if_neg (Nat.not_lt_zero i), tnk_no h]
        refine ⟨⟨m + 1, D :: Ds, _, _, _, _, _, _, _, _, _, _, _, _, _, _, _, _, _, by omega, by rw [show ((m + 1 : Nat) : Int) = (m : Int) + 1 by omega]; rfl, ?_, ?_, by rw [← gC_congr hst]; exact hAt⟩, by simp [intOf]; omega⟩
        · refine List.nodup_cons.2 ⟨fun h => ?_, hN⟩
          have := blk_lt (hD D h).2
          omega
        · intro D' h'
          rcases List.mem_cons.1 h' with rfl | h'
          · exact ⟨by omega, hK⟩
          · obtain ⟨g1, g2⟩ := hD D' h'
            have g3 := blk_lt g2
            exact ⟨g1, (hg'.block D' (by omega) (by simp; omega)).trans ((hg0.block D' g3 (by simp)).trans g2)⟩
      case stop =>
        rintro D c pre W _ _ h _
        exact h.elim
    · obtain rfl : m = 16 := by omega
      have hd1 : decide ((16 : Int) < 16) = false := by decide
      gi_wp2_with (first | (refine wpListIn_store_row rfl 23 _ _ rfl _ _ rfl rfl 23 _ (H.row 1 rfl) gC_size gC_old gC_one ?_) | refine wpListIn_load_row rfl 23 _ rfl _ rfl 23 _ (0, 0) _ (H.row 0 rfl) Tryd.underlying23 rfl gC_size ?_)
      have H2 := H.setRow 1 rfl ⟨gC (stT f 16 0)⟩
      have e1 : gC (stT f 16 0) = gC (tn f) := gC_congr fun i _ => rfl
      rw [e1] at H2 ⊢
      have hn : w.heap.size + 1 ∉ Ds := fun h => by have := (hD _ h).1; omega
      refine leaves_marks Ds _ hN (fun D hd => (setRow_other wr (w.heap.size + 1) D _ (by have := (hD D hd).1; omega)).trans (hD D hd).2) ?_
      refine ⟨_, results_cell_row rfl _ _ (w.heap.size + 1) 23 _ (0, 0) _ rfl ((shutAll_other Ds _ _ hn).trans (H2.row 1 rfl)) Tryd.underlying23 rfl gC_size, rfl, H2.below.trans (shutAll_below Ds _ fun D hd => by have := (hD D hd).1; omega)⟩
end Go.Proofs.YtdamljjbeaomoaaDoor
