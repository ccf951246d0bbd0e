/- The walk of the reference of layer 3: Flows. -/
import Derived.Test.YtohdldlagkmcnaaDoorCapsC
import Derived.Deep.RegionWith
import Derived.Deep.QuietTactic
import Derived.BigQuiet
import Derived.StillTailTactics
namespace Go.Proofs.YtohdldlagkmcnaaDoor
set_option linter.unusedSimpArgs false
set_option linter.unusedVariables false
open Go.RowKit Own
attribute [local go_sem] b16_and b16_or b16_andNot b16_zero
set_option maxHeartbeats 400000 in
theorem R3Flows_calls (aS aI bS bI c : BitVec 16) (w : World) :
    Calls Tryd.prog 26 #[.agg #[.int .u16 (nH aS), .int .u16 (nH aI)], .agg #[.int .u16 (nH bS), .int .u16 (nH bI)], .int .u16 (nH c)] w fun e w' => e = .returned (.bool (flowsB (aS &&& ~~~c) (aI ||| c) bS bI)) ∧ Below w.heap.size w w' := by
  go_enter Tryd.func26, Tryd.ntmps26
  go_wp2
  refine still_tail 10 (by kernel_rfl) (by kernel_rfl) ?_
  simp only [List.take_succ_cons, List.take_zero, List.drop_succ_cons, List.drop_zero]
  iterate 3 still_step
  still_call (still_of (Less_calls aS c _))
  iterate 3 still_step
  still_call (still_of (Or_calls aI c _))
  iterate 2 still_step
  refine wpStill_nil ?_
  have H0 := At.refl w
  go_wp2_with fail
  refine callAt (RFlows_calls _ _ _ _ _) (by repeat (first | with_reducible exact H0 | apply At.drew | apply At.alloc)) ?_
  rintro e w1 rfl H1
  go_wp2_with fail
  go_ret
  exact ⟨rfl, H1.below⟩
end Go.Proofs.YtohdldlagkmcnaaDoor
