/- The walks of graph.Up and of the usual calls of layer 11 ('alive'). -/
import Derived.Test.YtdamljjbeaomoaaDoorGrT
import Derived.WalkLawsBesides
namespace Go.Proofs.YtdamljjbeaomoaaDoor
set_option linter.unusedSimpArgs false
set_option linter.unusedVariables false
open Go.RowKit
open _root_.Go.Proofs.YtdamljjbeaomoaaDoor.Own
set_option maxHeartbeats 1000000 in
theorem Up_calls (f : Nat → BitVec 16) (to W : BitVec 16) (w : World) (hT : Table w) (hw1 : 1 ≤ w.heap.size) :
    Calls Tryd.prog 9 #[.agg ⟨gC f⟩, .int .u16 (nH to), .int .u16 (nH W)] w fun e w' => e = .returned (.int .u16 (nH (up f W to))) ∧ Below w.heap.size w w' := by
  go_enter Tryd.func9, Tryd.ntmps9
  have H0 := (At.refl w).alloc (gC f) 23
  go_wp2_with (refine wpList_load_row rfl 23 _ rfl _ rfl 23 _ (0, 0) _ (H0.row 0 rfl) Tryd.underlying23 rfl gC_size ?_)
  refine callAt (R := fun e => e = .returned (.agg ⟨gC (tn f)⟩)) (Turn_calls f _ (hT.below (H0.below.mono hw1)) (by simp)) H0 ?_
  rintro e w1 rfl H1
  clear H0
  have hT1 := hT.below (H1.below.mono hw1)
  have hs := H1.below.size
  go_wp2_with fail
  refine callAt (R := fun e => e = .returned (.int .u16 (nH (up f W to)))) (Down_calls (tn f) to W _ hT1 (by omega)) H1 ?_
  rintro e w2 rfl H2
  clear H1
  go_wp2_with fail
  go_ret
  exact ⟨rfl, H2.below⟩
/-- A row of three. -/
def g0 (i : Nat) : BitVec 16 := [0#16, 4#16, 8#16, 8#16].getD i 0#16
theorem dn_a : nH (dn g0 14#16 2#16) = 14 := by rw [show dn g0 14#16 2#16 = 14#16 from dn_is [1, 2, 3] (by decide +kernel) (by decide +kernel) (by decide +kernel) (by decide +kernel)]; rfl
theorem dn_b : nH (dn g0 10#16 2#16) = 2 := by rw [show dn g0 10#16 2#16 = 2#16 from dn_is [1] (by decide +kernel) (by decide +kernel) (by decide +kernel) (by decide +kernel)]; rfl
theorem up_a : nH (up g0 14#16 8#16) = 14 := by rw [show up g0 14#16 8#16 = 14#16 from dn_is [3, 2, 1] (by decide +kernel) (by decide +kernel) (by decide +kernel) (by decide +kernel)]; rfl
theorem up_b : nH (up g0 15#16 8#16) = 14 := by rw [show up g0 15#16 8#16 = 14#16 from dn_is [3, 2, 1] (by decide +kernel) (by decide +kernel) (by decide +kernel) (by decide +kernel)]; rfl
theorem dn_c : nH (dn g0 0#16 2#16) = 0 := by rw [show dn g0 0#16 2#16 = 0#16 from dn_is [] (by decide +kernel) (by decide +kernel) (by decide +kernel) (by decide +kernel)]; rfl
theorem g0_cells : (#[.int .u16 0, .int .u16 4, .int .u16 8, .int .u16 8, .int .u16 0, .int .u16 0, .int .u16 0, .int .u16 0, .int .u16 0, .int .u16 0, .int .u16 0, .int .u16 0, .int .u16 0, .int .u16 0, .int .u16 0, .int .u16 0] : Array Value) = ⟨gC g0⟩ := by unfold gC; rfl
theorem tn_2 : (gC (tn g0))[2]? = some (.int .u16 2) := (gC_at _ 2 (by decide)).trans (by rw [show nH (tn g0 2) = 2 from by decide +kernel])
theorem tn_3 : (gC (tn g0))[3]? = some (.int .u16 12) := (gC_at _ 3 (by decide)).trans (by rw [show nH (tn g0 3) = 12 from by decide +kernel])
theorem ct_1 : (gC (ct g0 6#16))[1]? = some (.int .u16 4) := (gC_at _ 1 (by decide)).trans (by rw [show nH (ct g0 6#16 1) = 4 from by decide +kernel])
theorem ct_2 : (gC (ct g0 6#16))[2]? = some (.int .u16 0) := (gC_at _ 2 (by decide)).trans (by rw [show nH (ct g0 6#16 2) = 0 from by decide +kernel])
set_option maxHeartbeats 2000000 in
theorem alive11 (w : World) (hT : Table w) (hw1 : 1 ≤ w.heap.size) : Calls Tryd.prog 11 #[] w fun e w' => e = .returned (.bool true) ∧ Below w.heap.size w w' := by
  have hb := g0_cells
  go_enter Tryd.func11, Tryd.ntmps11
  have A1 := (At.refl w).alloc (gC fun _ => 0#16) 23
  have A2 := A1.setRow 0 rfl ⟨gC g0⟩
  simp only [List.set_cons_zero, List.set_cons_succ] at A2
  go_wp2_with (first | refine wpList_alloc_arr rfl 23 rfl (gC fun _ => 0#16) gC_zero ?_ | refine wpList_store_row rfl 23 _ _ rfl _ _ rfl rfl 23 _ (A1.row 0 rfl) gC_size gC_old gC_one ?_ | refine wpList_load_row rfl 23 _ rfl _ rfl 23 _ (0, 0) _ (A2.row 0 rfl) Tryd.underlying23 rfl gC_size ?_)
  refine callAt (R := fun e => e = .returned (.agg ⟨gC (tn g0)⟩)) (Turn_calls g0 _ (hT.below (A2.below.mono hw1)) (Nat.le_trans hw1 A2.below.size)) A2 ?_
  rintro e w1 rfl B0
  clear A1 A2
  have B1 := B0.alloc (gC fun _ => 0#16) 23
  have B2 := B1.setRow 0 rfl ⟨gC (tn g0)⟩
  simp only [List.set_cons_zero, List.set_cons_succ] at B2
  go_wp2_with (first | refine wpList_alloc_arr rfl 23 rfl (gC fun _ => 0#16) gC_zero ?_ | refine wpList_store_row rfl 23 _ _ rfl _ _ rfl rfl 23 _ (B1.row 0 rfl) gC_size gC_old gC_one ?_ | refine wpList_load_row rfl 23 _ rfl _ rfl 23 _ (0, 0) _ (B2.row 1 rfl) Tryd.underlying23 rfl gC_size ?_)
  refine callAt (R := fun e => e = .returned (.agg ⟨gC (ct g0 6#16)⟩)) (Cut_calls g0 6#16 _) B2 ?_
  rintro e w2 rfl C0
  clear B0 B1 B2
  have C1 := C0.alloc (gC fun _ => 0#16) 23
  have C2 := C1.setRow 0 rfl ⟨gC (ct g0 6#16)⟩
  simp only [List.set_cons_zero, List.set_cons_succ] at C2
  go_wp2_with (first | refine wpList_alloc_arr rfl 23 rfl (gC fun _ => 0#16) gC_zero ?_ | refine wpList_store_row rfl 23 _ _ rfl _ _ rfl rfl 23 _ (C1.row 0 rfl) gC_size gC_old gC_one ?_ | refine wpList_load_row rfl 23 _ rfl _ rfl 23 _ (0, 0) _ (C2.row 2 rfl) Tryd.underlying23 rfl gC_size ?_)
  refine callAt (R := fun e => e = .returned (.int .u16 (nH (dn g0 14#16 2#16)))) (Down_calls g0 2#16 14#16 _ (hT.below (C2.below.mono hw1)) (Nat.le_trans hw1 C2.below.size)) C2 ?_
  rintro e w3 rfl D0
  clear C0 C1 C2
  rw [dn_a]
  go_wp2_with (refine wpList_load_rowG ?_ 23 _ rfl _ rfl 23 _ (0, 0) _ (D0.row 2 rfl) Tryd.underlying23 rfl gC_size ?_; (· go_simp))
  refine callAt (R := fun e => e = .returned (.int .u16 (nH (dn g0 10#16 2#16)))) (Down_calls g0 2#16 10#16 _ (hT.below (D0.below.mono hw1)) (Nat.le_trans hw1 D0.below.size)) D0 ?_
  rintro e w4 rfl D1
  clear D0
  rw [dn_b]
  go_wp2_with (refine wpList_load_rowG ?_ 23 _ rfl _ rfl 23 _ (0, 0) _ (D1.row 2 rfl) Tryd.underlying23 rfl gC_size ?_; (· go_simp))
  refine callAt (R := fun e => e = .returned (.int .u16 (nH (up g0 14#16 8#16)))) (Up_calls g0 8#16 14#16 _ (hT.below (D1.below.mono hw1)) (Nat.le_trans hw1 D1.below.size)) D1 ?_
  rintro e w5 rfl D2
  clear D1
  rw [up_a]
  go_wp2_with (refine wpList_load_rowG ?_ 23 _ rfl _ rfl 23 _ (0, 0) _ (D2.row 2 rfl) Tryd.underlying23 rfl gC_size ?_; (· go_simp))
  refine callAt (R := fun e => e = .returned (.int .u16 (nH (up g0 15#16 8#16)))) (Up_calls g0 8#16 15#16 _ (hT.below (D2.below.mono hw1)) (Nat.le_trans hw1 D2.below.size)) D2 ?_
  rintro e w6 rfl D3
  clear D2
  rw [up_b]
  have K := D3.rules
  simp only [List.forall_mem_cons] at K
  have k2 := (K.2.1.1 2).trans tn_2
  have k3 := (K.2.1.1 3).trans tn_3
  have k4 := (K.1.1 1).trans ct_1
  have k5 := (K.1.1 2).trans ct_2
  clear K
  go_wp2_with (refine wpList_load_rowG ?_ 23 _ rfl _ rfl 23 _ (0, 0) _ (D3.row 2 rfl) Tryd.underlying23 rfl gC_size ?_; (· go_simp))
  refine callAt (R := fun e => e = .returned (.int .u16 (nH (dn g0 0#16 2#16)))) (Down_calls g0 2#16 0#16 _ (hT.below (D3.below.mono hw1)) (Nat.le_trans hw1 D3.below.size)) D3 ?_
  rintro e w7 rfl D4
  clear D3
  rw [dn_c]
  go_wp2_with fail
  go_ret
  exact ⟨rfl, D4.below⟩
end Go.Proofs.YtdamljjbeaomoaaDoor
