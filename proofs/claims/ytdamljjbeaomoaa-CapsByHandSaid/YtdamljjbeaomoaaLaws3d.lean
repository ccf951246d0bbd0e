/- The walks of the laws of layer 3 (CapsByHand). -/
import Derived.Test.YtdamljjbeaomoaaLaws3
namespace Go.Proofs.Ytdamljjbeaomoaa
set_option linter.unusedSimpArgs false
set_option linter.unusedVariables false
open Go.RowKit Own
attribute [local go_sem] b16_and b16_or b16_andNot b16_zero
theorem hand_or (a b : BitVec 16) : a ||| (b &&& ~~~a) = a ||| b := by
  apply BitVec.eq_of_getLsbD_eq
  intro i hi
  simp only [BitVec.getLsbD_and, BitVec.getLsbD_not, BitVec.getLsbD_or, hi]
  cases a.getLsbD i <;> cases b.getLsbD i <;> rfl
theorem hand_flows (aS aI bS bI : BitVec 16) : flowsB (aS &&& bS) (aI ||| bI) bS bI = true := by
  refine flows_none fun j hj => ?_
  unfold has
  rw [BitVec.getLsbD_and, BitVec.getLsbD_or]
  cases aS.getLsbD j <;> cases bS.getLsbD j <;> cases aI.getLsbD j <;> cases bI.getLsbD j <;> rfl
set_option maxHeartbeats 1000000 in
theorem hand_no (aS aI bS bI c : BitVec 16) (hm : Hid ((((aS &&& ~~~bS) ||| (bI &&& ~~~aI)) &&& ~~~c == 0#16) = false)) (w : World) : Calls Try.prog 6 #[.agg #[.int .u16 (u16 aS), .int .u16 (u16 aI)], .agg #[.int .u16 (u16 bS), .int .u16 (u16 bI)], .int .u16 (u16 c)] w fun e w' => e = .returned (.bool true) ∧ Below w.heap.size w w' := by
  go_enter Try.func6, Try.ntmps6
  have H0 := At.refl w
  go_wp2_with fail
  refine callAt (R := fun e => e = .returned (.bool false)) (hm.out ▸ CFlows_calls aS aI bS bI c _) (by repeat (first | with_reducible exact H0 | apply At.drewN | apply At.drew | apply At.alloc)) ?_
  rintro e w1 rfl H1
  clear H0
  have K1 := H1.rules
  simp only [List.forall_mem_cons, World.size_alloc] at K1
  go_wp2_with fail
  refine callAt (alive3 _) (by repeat (first | with_reducible exact H1 | apply At.drewN | apply At.drew | apply At.alloc)) ?_
  rintro e w2 rfl H2
  clear H1 K1
  have K2 := H2.rules
  simp only [List.forall_mem_cons, World.size_alloc] at K2
  go_wp2_with fail
  go_ret
  exact ⟨rfl, H2.below⟩
set_option maxHeartbeats 1000000 in
theorem hand_yes (aS aI bS bI c : BitVec 16) (hm : Hid ((((aS &&& ~~~bS) ||| (bI &&& ~~~aI)) &&& ~~~c == 0#16) = true)) (h1 : Hid ((aS &&& ~~~bS &&& ~~~c == 0#16) = true)) (h2 : Hid ((bI &&& ~~~aI &&& ~~~c == 0#16) = true)) (w : World) : Calls Try.prog 6 #[.agg #[.int .u16 (u16 aS), .int .u16 (u16 aI)], .agg #[.int .u16 (u16 bS), .int .u16 (u16 bI)], .int .u16 (u16 c)] w fun e w' => e = .returned (.bool true) ∧ Below w.heap.size w w' := by
  go_enter Try.func6, Try.ntmps6
  have H0 := At.refl w
  go_wp2_with fail
  refine callAt (R := fun e => e = .returned (.bool true)) (hm.out ▸ CFlows_calls aS aI bS bI c _) (by repeat (first | with_reducible exact H0 | apply At.drewN | apply At.drew | apply At.alloc)) ?_
  rintro e w1 rfl H1
  clear H0
  have K1 := H1.rules
  simp only [List.forall_mem_cons, World.size_alloc] at K1
  go_wp2_with fail
  refine callAt (R := fun e => e = .returned (.tuple #[.agg #[.int .u16 (u16 (aS &&& bS)), .int .u16 (u16 aI)], .int .i64 0])) (and_less aS bS ▸ Decl_yes aS aI (aS &&& ~~~bS) c h1.out _) (by repeat (first | with_reducible exact H1 | apply At.drewN | apply At.drew | apply At.alloc)) ?_
  rintro e w2 rfl H2
  clear H1 K1
  have K2 := H2.rules
  simp only [List.forall_mem_cons, World.size_alloc] at K2
  go_wp2_with fail
  refine callAt (R := fun e => e = .returned (.tuple #[.agg #[.int .u16 (u16 (aS &&& bS)), .int .u16 (u16 (aI ||| bI))], .int .i64 0])) (hand_or aI bI ▸ End_yes (aS &&& bS) aI (bI &&& ~~~aI) c h2.out _) (by repeat (first | with_reducible exact H2 | apply At.drewN | apply At.drew | apply At.alloc)) ?_
  rintro e w3 rfl H3
  clear H2 K2
  have K3 := H3.rules
  simp only [List.forall_mem_cons, World.size_alloc] at K3
  go_wp2_with fail
  refine callAt (Raise_yes (aS &&& bS) (aI ||| bI) bS bI (hand_flows aS aI bS bI) _) (by repeat (first | with_reducible exact H3 | apply At.drewN | apply At.drew | apply At.alloc)) ?_
  rintro e w4 rfl H4
  clear H3 K3
  have K4 := H4.rules
  simp only [List.forall_mem_cons, World.size_alloc] at K4
  go_wp2_with fail
  refine callAt (alive3 _) (by repeat (first | with_reducible exact H4 | apply At.drewN | apply At.drew | apply At.alloc)) ?_
  rintro e w5 rfl H5
  clear H4 K4
  have K5 := H5.rules
  simp only [List.forall_mem_cons, World.size_alloc] at K5
  go_wp2_with fail
  go_ret
  exact ⟨rfl, H5.below⟩
theorem hand_walk (aS aI bS bI c : BitVec 16) (w : World) : Calls Try.prog 6 #[.agg #[.int .u16 (u16 aS), .int .u16 (u16 aI)], .agg #[.int .u16 (u16 bS), .int .u16 (u16 bI)], .int .u16 (u16 c)] w fun e w' => e = .returned (.bool true) ∧ Below w.heap.size w w' := by
  cases hm : (((aS &&& ~~~bS) ||| (bI &&& ~~~aI)) &&& ~~~c == 0#16)
  · exact hand_no aS aI bS bI c hm w
  · have h := hm
    rw [or_less] at h
    exact hand_yes aS aI bS bI c hm (Bool.and_eq_true_iff.1 h).1 (Bool.and_eq_true_iff.1 h).2 w
end Go.Proofs.Ytdamljjbeaomoaa
