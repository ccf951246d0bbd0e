/- The walks of the laws of layer 11: GraphTells, GraphTurns. -/
import Derived.Test.YtdamljjbeaomoaaDoorGrU
import Derived.Test.YtdamljjbeaomoaaDoorGrS
import Derived.Test.YtdamljjbeaomoaaDoorEqArr
import Derived.WalkLawsBesides
namespace Go.Proofs.YtdamljjbeaomoaaDoor
set_option linter.unusedSimpArgs false
set_option linter.unusedVariables false
open Go.RowKit
open _root_.Go.Proofs.YtdamljjbeaomoaaDoor.Own
set_option maxHeartbeats 2000000 in
theorem tells_walk (f : Nat → BitVec 16) (some_ W : BitVec 16) (w : World) (hT : Table w) (hw1 : 1 ≤ w.heap.size) :
    Calls Tryd.prog 3 #[.agg ⟨gC f⟩, .int .u16 (nH some_), .int .u16 (nH W)] w fun e w' => e = .returned (.bool true) ∧ Below w.heap.size w w' := by
  go_enter Tryd.func3, Tryd.ntmps3
  have H0 := (At.refl w).alloc (gC f) 23
  go_wp2_with fail
  refine region_at (by kernel_rfl) (by kernel_rfl) (by repeat (first | with_reducible exact H0 | apply At.drewN | apply At.drew | apply At.alloc)) (fun J hJ1 hJ2 => ?_)
  have K := fun w1 h1 => (hJ1 w1 h1).rules
  simp only [List.forall_mem_cons, World.size_alloc] at K
  repeat (first | (apply inv_yes; (· go_simp); (· intro w1 h1; have K1 := K w1 h1; go_simp; exact ⟨rfl, h1⟩); (· go_simp; rfl)) | (apply inv_no; (· go_simp); (· go_simp; rfl)) | (apply inv_load_row ?_ 23 _ rfl _ rfl 23 _ (0, 0) _ (fun w1 h1 => (hJ1 w1 h1).row 0 rfl) Tryd.underlying23 rfl gC_size; (· go_simp; rfl); rotate_left; (· go_simp)))
  apply inv_yes
  · go_simp
  · intro w1 h1; have K1 := K w1 h1; go_simp; exact callI hJ1 hJ2 (Down_calls f some_ W _ (hT.below ((hJ1 _ h1).below.mono hw1)) (Nat.le_trans hw1 (hJ1 _ h1).below.size)) h1
  · go_simp; rfl
  repeat (first | (apply inv_yes; (· go_simp); (· intro w1 h1; have K1 := K w1 h1; go_simp; exact ⟨rfl, h1⟩); (· go_simp; rfl)) | (apply inv_no; (· go_simp); (· go_simp; rfl)) | (apply inv_load_row ?_ 23 _ rfl _ rfl 23 _ (0, 0) _ (fun w1 h1 => (hJ1 w1 h1).row 0 rfl) Tryd.underlying23 rfl gC_size; (· go_simp; rfl); rotate_left; (· go_simp)))
  apply inv_yes
  · go_simp
  · intro w1 h1; have K1 := K w1 h1; go_simp; exact callI hJ1 hJ2 (RDown_calls f some_ W _) h1
  · go_simp; rfl
  repeat (first | (apply inv_yes; (· go_simp); (· intro w1 h1; have K1 := K w1 h1; go_simp; exact ⟨rfl, h1⟩); (· go_simp; rfl)) | (apply inv_no; (· go_simp); (· go_simp; rfl)) | (apply inv_load_row ?_ 23 _ rfl _ rfl 23 _ (0, 0) _ (fun w1 h1 => (hJ1 w1 h1).row 0 rfl) Tryd.underlying23 rfl gC_size; (· go_simp; rfl); rotate_left; (· go_simp)))
  apply inv_yes
  · go_simp
  · intro w1 h1; have K1 := K w1 h1; go_simp; exact callI hJ1 hJ2 (Up_calls f some_ W _ (hT.below ((hJ1 _ h1).below.mono hw1)) (Nat.le_trans hw1 (hJ1 _ h1).below.size)) h1
  · go_simp; rfl
  repeat (first | (apply inv_yes; (· go_simp); (· intro w1 h1; have K1 := K w1 h1; go_simp; exact ⟨rfl, h1⟩); (· go_simp; rfl)) | (apply inv_no; (· go_simp); (· go_simp; rfl)) | (apply inv_load_row ?_ 23 _ rfl _ rfl 23 _ (0, 0) _ (fun w1 h1 => (hJ1 w1 h1).row 0 rfl) Tryd.underlying23 rfl gC_size; (· go_simp; rfl); rotate_left; (· go_simp)))
  apply inv_yes
  · go_simp
  · intro w1 h1; have K1 := K w1 h1; go_simp; exact callI hJ1 hJ2 (RUp_calls f some_ W _) h1
  · go_simp; rfl
  repeat (first | (apply inv_yes; (· go_simp); (· intro w1 h1; have K1 := K w1 h1; go_simp; exact ⟨rfl, h1⟩); (· go_simp; rfl)) | (apply inv_no; (· go_simp); (· go_simp; rfl)) | (apply inv_load_row ?_ 23 _ rfl _ rfl 23 _ (0, 0) _ (fun w1 h1 => (hJ1 w1 h1).row 0 rfl) Tryd.underlying23 rfl gC_size; (· go_simp; rfl); rotate_left; (· go_simp)))
  apply inv_yes
  · go_simp
  · intro w1 h1; have K1 := K w1 h1; go_simp; exact callI hJ1 hJ2 (alive11 _ (hT.below ((hJ1 _ h1).below.mono hw1)) (Nat.le_trans hw1 (hJ1 _ h1).below.size)) h1
  · go_simp; rfl
  repeat (first | (apply inv_yes; (· go_simp); (· intro w1 h1; have K1 := K w1 h1; go_simp; exact ⟨rfl, h1⟩); (· go_simp; rfl)) | (apply inv_no; (· go_simp); (· go_simp; rfl)) | (apply inv_load_row ?_ 23 _ rfl _ rfl 23 _ (0, 0) _ (fun w1 h1 => (hJ1 w1 h1).row 0 rfl) Tryd.underlying23 rfl gC_size; (· go_simp; rfl); rotate_left; (· go_simp)))
  refine wpInv_nil (fun wx hx => ?_)
  have H1 := hJ1 wx hx
  clear K hJ1 hJ2 hx
  go_wp2_with fail
  go_ret
  exact ⟨rfl, H1.below⟩
theorem gC_ints (f : Nat → BitVec 16) : gC f = ((List.range 16).map fun i => nH (f i)).map (Value.int .u16) := by
  apply List.ext_getElem?
  intro i
  by_cases hi : i < 16
  · rw [gC_at f i hi]; simp [hi]
  · rw [List.getElem?_eq_none (by rw [gC_length]; omega), List.getElem?_eq_none (by simp; omega)]
theorem eq_same (f : Nat → BitVec 16) (w : World) : (Op.equalIn 10000 23 (.agg ⟨gC f⟩) (.agg ⟨gC f⟩)).run Tryd.prog w = .ok true w := by
  rw [gC_ints]
  refine (run_equalIn_ints w 9998 23 22 16 .u16 Tryd.underlying23 Tryd.underlying22 (by kernel_rfl) _ _ (by simp) (by simp)).trans ?_
  rw [beq_self_eq_true]
theorem eq_guard : Tryd.prog.eqGuardType Tryd.prog.depth 23 = false := by kernel_rfl
set_option maxHeartbeats 2000000 in
theorem turns_walk (f : Nat → BitVec 16) (W : BitVec 16) (w : World) (hT : Table w) (hw1 : 1 ≤ w.heap.size) :
    Calls Tryd.prog 4 #[.agg ⟨gC f⟩, .int .u16 (nH W)] w fun e w' => e = .returned (.bool true) ∧ Below w.heap.size w w' := by
  have q1 := eq_same f
  have q2 := eq_same (tn f)
  have q3 := eq_same (ct f W)
  have qg := eq_guard
  have ht : ∀ w, Table w → 1 ≤ w.heap.size → Calls Tryd.prog 12 #[.agg ⟨gC (tn f)⟩] w fun e w' => e = .returned (.agg ⟨gC f⟩) ∧ Below w.heap.size w w' := fun w h1 h2 => by
    have := Turn_calls (tn f) w h1 h2
    rwa [gC_congr (tn_tn f)] at this
  have HT := Lib.hid ht
  clear ht
  go_enter Tryd.func4, Tryd.ntmps4
  have H0 := (At.refl w).alloc (gC f) 23
  go_wp2_with fail
  refine region_at (by kernel_rfl) (by kernel_rfl) (by repeat (first | with_reducible exact H0 | apply At.drewN | apply At.drew | apply At.alloc)) (fun J hJ1 hJ2 => ?_)
  have K := fun w1 h1 => (hJ1 w1 h1).rules
  simp only [List.forall_mem_cons, World.size_alloc] at K
  repeat (first | (apply inv_yes; (· go_simp); (· intro w1 h1; have K1 := K w1 h1; go_simp; exact ⟨rfl, h1⟩); (· go_simp; rfl)) | (apply inv_no; (· go_simp); (· go_simp; rfl)) | (apply inv_load_row ?_ 23 _ rfl _ rfl 23 _ (0, 0) _ (fun w1 h1 => (hJ1 w1 h1).row 0 rfl) Tryd.underlying23 rfl gC_size; (· go_simp; rfl); rotate_left; (· go_simp)))
  apply inv_yes
  · go_simp
  · intro w1 h1; have K1 := K w1 h1; go_simp; exact callI hJ1 hJ2 (Turn_calls f _ (hT.below ((hJ1 _ h1).below.mono hw1)) (Nat.le_trans hw1 (hJ1 _ h1).below.size)) h1
  · go_simp; rfl
  repeat (first | (apply inv_yes; (· go_simp); (· intro w1 h1; have K1 := K w1 h1; go_simp; exact ⟨rfl, h1⟩); (· go_simp; rfl)) | (apply inv_no; (· go_simp); (· go_simp; rfl)) | (apply inv_load_row ?_ 23 _ rfl _ rfl 23 _ (0, 0) _ (fun w1 h1 => (hJ1 w1 h1).row 0 rfl) Tryd.underlying23 rfl gC_size; (· go_simp; rfl); rotate_left; (· go_simp)))
  apply inv_yes
  · go_simp
  · intro w1 h1; have K1 := K w1 h1; go_simp; exact callI hJ1 hJ2 (RTurn_calls f _) h1
  · go_simp; rfl
  repeat (first | (apply inv_yes; (· go_simp); (· intro w1 h1; have K1 := K w1 h1; go_simp; exact ⟨rfl, h1⟩); (· go_simp; rfl)) | (apply inv_no; (· go_simp); (· go_simp; rfl)) | (apply inv_load_row ?_ 23 _ rfl _ rfl 23 _ (0, 0) _ (fun w1 h1 => (hJ1 w1 h1).row 0 rfl) Tryd.underlying23 rfl gC_size; (· go_simp; rfl); rotate_left; (· go_simp)))
  apply inv_yes
  · go_simp
  · intro w1 h1; have K1 := K w1 h1; go_simp; exact callI hJ1 hJ2 (Cut_calls f W _) h1
  · go_simp; rfl
  repeat (first | (apply inv_yes; (· go_simp); (· intro w1 h1; have K1 := K w1 h1; go_simp; exact ⟨rfl, h1⟩); (· go_simp; rfl)) | (apply inv_no; (· go_simp); (· go_simp; rfl)) | (apply inv_load_row ?_ 23 _ rfl _ rfl 23 _ (0, 0) _ (fun w1 h1 => (hJ1 w1 h1).row 0 rfl) Tryd.underlying23 rfl gC_size; (· go_simp; rfl); rotate_left; (· go_simp)))
  apply inv_yes
  · go_simp
  · intro w1 h1; have K1 := K w1 h1; go_simp; exact callI hJ1 hJ2 (RCut_calls f W _) h1
  · go_simp; rfl
  repeat (first | (apply inv_yes; (· go_simp); (· intro w1 h1; have K1 := K w1 h1; go_simp; exact ⟨rfl, h1⟩); (· go_simp; rfl)) | (apply inv_no; (· go_simp); (· go_simp; rfl)) | (apply inv_load_row ?_ 23 _ rfl _ rfl 23 _ (0, 0) _ (fun w1 h1 => (hJ1 w1 h1).row 0 rfl) Tryd.underlying23 rfl gC_size; (· go_simp; rfl); rotate_left; (· go_simp)))
  apply inv_yes
  · go_simp
  · intro w1 h1; have K1 := K w1 h1; go_simp; exact callI hJ1 hJ2 (Turn_calls f _ (hT.below ((hJ1 _ h1).below.mono hw1)) (Nat.le_trans hw1 (hJ1 _ h1).below.size)) h1
  · go_simp; rfl
  repeat (first | (apply inv_yes; (· go_simp); (· intro w1 h1; have K1 := K w1 h1; go_simp; exact ⟨rfl, h1⟩); (· go_simp; rfl)) | (apply inv_no; (· go_simp); (· go_simp; rfl)) | (apply inv_load_row ?_ 23 _ rfl _ rfl 23 _ (0, 0) _ (fun w1 h1 => (hJ1 w1 h1).row 0 rfl) Tryd.underlying23 rfl gC_size; (· go_simp; rfl); rotate_left; (· go_simp)))
  apply inv_yes
  · go_simp
  · intro w1 h1; have K1 := K w1 h1; go_simp; exact callI hJ1 hJ2 (HT.out _ (hT.below ((hJ1 _ h1).below.mono hw1)) (Nat.le_trans hw1 (hJ1 _ h1).below.size)) h1
  · go_simp; rfl
  repeat (first | (apply inv_yes; (· go_simp); (· intro w1 h1; have K1 := K w1 h1; go_simp; exact ⟨rfl, h1⟩); (· go_simp; rfl)) | (apply inv_no; (· go_simp); (· go_simp; rfl)) | (apply inv_load_row ?_ 23 _ rfl _ rfl 23 _ (0, 0) _ (fun w1 h1 => (hJ1 w1 h1).row 0 rfl) Tryd.underlying23 rfl gC_size; (· go_simp; rfl); rotate_left; (· go_simp)))
  apply inv_yes
  · go_simp
  · intro w1 h1; have K1 := K w1 h1; go_simp; exact callI hJ1 hJ2 (alive11 _ (hT.below ((hJ1 _ h1).below.mono hw1)) (Nat.le_trans hw1 (hJ1 _ h1).below.size)) h1
  · go_simp; rfl
  repeat (first | (apply inv_yes; (· go_simp); (· intro w1 h1; have K1 := K w1 h1; go_simp; exact ⟨rfl, h1⟩); (· go_simp; rfl)) | (apply inv_no; (· go_simp); (· go_simp; rfl)) | (apply inv_load_row ?_ 23 _ rfl _ rfl 23 _ (0, 0) _ (fun w1 h1 => (hJ1 w1 h1).row 0 rfl) Tryd.underlying23 rfl gC_size; (· go_simp; rfl); rotate_left; (· go_simp)))
  refine wpInv_nil (fun wx hx => ?_)
  have H1 := hJ1 wx hx
  clear K hJ1 hJ2 hx
  go_wp2_with fail
  go_ret
  exact ⟨rfl, H1.below⟩
end Go.Proofs.YtdamljjbeaomoaaDoor
