/- The walks of the laws of layer 3. -/
import Derived.Test.YtdamljjbeaomoaaAlive3
import Derived.Test.YtdamljjbeaomoaaInv
namespace Go.Proofs.Ytdamljjbeaomoaa
set_option linter.unusedSimpArgs false
set_option linter.unusedVariables false
open Go.RowKit Own
attribute [local go_sem] b16_and b16_or b16_andNot b16_zero
theorem or_less (x y c : BitVec 16) : ((x ||| y) &&& ~~~c == 0#16) = ((x &&& ~~~c == 0#16) && (y &&& ~~~c == 0#16)) := by
  rw [show (x ||| y) &&& ~~~c = (x &&& ~~~c) ||| (y &&& ~~~c) from by ext i; simp [Bool.and_or_distrib_right]]
  by_cases h1 : x &&& ~~~c = 0#16
  · by_cases h2 : y &&& ~~~c = 0#16
    · simp [h1, h2]
    · simp [h1, h2]
  · rw [beq_eq_false_iff_ne.2 h1, Bool.false_and, beq_eq_false_iff_ne]
    intro e
    exact h1 (by
      apply BitVec.eq_of_getLsbD_eq
      intro i hi
      have := congrArg (fun z : BitVec 16 => z.getLsbD i) e
      rw [BitVec.getLsbD_or, BitVec.getLsbD_zero] at this
      rw [BitVec.getLsbD_zero]
      exact (Bool.or_eq_false_iff.1 this).1)
/-- To flow by capabilities is to flow once declassified and endorsed by all of them. -/
theorem flows_caps (aS aI bS bI c : BitVec 16) : (((aS &&& ~~~bS) ||| (bI &&& ~~~aI)) &&& ~~~c == 0#16) = flowsB (aS &&& ~~~c) (aI ||| c) bS bI := by
  rw [or_less]
  unfold flowsB
  rw [show aS &&& ~~~bS &&& ~~~c = aS &&& ~~~c &&& ~~~bS from by ext i; simp [Bool.and_right_comm], show bI &&& ~~~aI &&& ~~~c = bI &&& ~~~(aI ||| c) from by ext i; simp [Bool.and_assoc]]
set_option maxHeartbeats 2000000 in
theorem tells_walk (aS aI bS bI c : BitVec 16) (w : World) : Calls Try.prog 3 #[.agg #[.int .u16 (u16 aS), .int .u16 (u16 aI)], .agg #[.int .u16 (u16 bS), .int .u16 (u16 bI)], .int .u16 (u16 c)] w fun e w' => e = .returned (.bool true) ∧ Below w.heap.size w w' := by
  go_enter Try.func3, Try.ntmps3
  have H0 := At.refl w
  go_wp2_with fail
  refine region_at (by kernel_rfl) (by kernel_rfl) (by repeat (first | with_reducible exact H0 | apply At.drewN | apply At.drew | apply At.alloc)) (fun J hJ1 hJ2 => ?_)
  have K := fun w1 h1 => (hJ1 w1 h1).rules
  simp only [List.forall_mem_cons, World.size_alloc] at K
  repeat (first | (apply inv_yes; (· go_simp); (· intro w1 h1; have K1 := K w1 h1; go_simp; exact ⟨rfl, h1⟩); (· go_simp; rfl)) | (apply inv_no; (· go_simp); (· go_simp; rfl)))
  apply inv_yes
  · go_simp
  · intro w1 h1; have K1 := K w1 h1; go_simp; exact callI hJ1 hJ2 (Used_calls _ _ _ _ _) h1
  · go_simp; rfl
  repeat (first | (apply inv_yes; (· go_simp); (· intro w1 h1; have K1 := K w1 h1; go_simp; exact ⟨rfl, h1⟩); (· go_simp; rfl)) | (apply inv_no; (· go_simp); (· go_simp; rfl)))
  apply inv_yes
  · go_simp
  · intro w1 h1; have K1 := K w1 h1; go_simp; exact callI hJ1 hJ2 (RUsed_calls _ _ _ _ _) h1
  · go_simp; rfl
  repeat (first | (apply inv_yes; (· go_simp); (· intro w1 h1; have K1 := K w1 h1; go_simp; exact ⟨rfl, h1⟩); (· go_simp; rfl)) | (apply inv_no; (· go_simp); (· go_simp; rfl)))
  apply inv_yes
  · go_simp
  · intro w1 h1; have K1 := K w1 h1; go_simp; exact callI hJ1 hJ2 ((flows_caps aS aI bS bI c) ▸ CFlows_calls aS aI bS bI c _) h1
  · go_simp; rfl
  repeat (first | (apply inv_yes; (· go_simp); (· intro w1 h1; have K1 := K w1 h1; go_simp; exact ⟨rfl, h1⟩); (· go_simp; rfl)) | (apply inv_no; (· go_simp); (· go_simp; rfl)))
  apply inv_yes
  · go_simp
  · intro w1 h1; have K1 := K w1 h1; go_simp; exact callI hJ1 hJ2 (R3Flows_calls _ _ _ _ _ _) h1
  · go_simp; rfl
  repeat (first | (apply inv_yes; (· go_simp); (· intro w1 h1; have K1 := K w1 h1; go_simp; exact ⟨rfl, h1⟩); (· go_simp; rfl)) | (apply inv_no; (· go_simp); (· go_simp; rfl)))
  apply inv_yes
  · go_simp
  · intro w1 h1; have K1 := K w1 h1; go_simp; exact callI hJ1 hJ2 (alive3 _) h1
  · go_simp; rfl
  repeat (first | (apply inv_yes; (· go_simp); (· intro w1 h1; have K1 := K w1 h1; go_simp; exact ⟨rfl, h1⟩); (· go_simp; rfl)) | (apply inv_no; (· go_simp); (· go_simp; rfl)))
  refine wpInv_nil (fun w1 h1 => ?_)
  have H1 := hJ1 w1 h1
  clear K hJ1 hJ2 h1 H0
  have K1 := H1.rules
  simp only [List.forall_mem_cons, World.size_alloc] at K1
  go_wp2_with fail
  go_ret
  exact ⟨rfl, H1.below⟩
end Go.Proofs.Ytdamljjbeaomoaa
