/- The walks of package caps, of label.Flows, and of the references of layers 2 and 3. -/
import Derived.Test.YtohdldlagkmcnaaDoorCapsA
namespace Go.Proofs.YtohdldlagkmcnaaDoor
set_option linter.unusedSimpArgs false
set_option linter.unusedVariables false
open Go.RowKit Own
attribute [local go_sem] b16_and b16_or b16_andNot b16_zero
set_option maxHeartbeats 400000 in
theorem Sub_calls (a b : BitVec 16) (w : World) : Calls Tryd.prog 34 #[.int .u16 (nH a), .int .u16 (nH b)] w fun e w' => e = .returned (.bool (a &&& ~~~b == 0#16)) ∧ w = w' := by
  go_enter Tryd.func34, Tryd.ntmps34
  go_wp2
  go_ret
  exact ⟨rfl, rfl⟩
set_option maxHeartbeats 400000 in
theorem CFlows_calls (aS aI bS bI c : BitVec 16) (w : World) : Calls Tryd.prog 16 #[.agg #[.int .u16 (nH aS), .int .u16 (nH aI)], .agg #[.int .u16 (nH bS), .int .u16 (nH bI)], .int .u16 (nH c)] w fun e w' => e = .returned (.bool (((aS &&& ~~~bS) ||| (bI &&& ~~~aI)) &&& ~~~c == 0#16)) ∧ Below w.heap.size w w' := by
  go_enter Tryd.func16, Tryd.ntmps16
  have H0 := At.refl w
  go_wp2_with fail
  refine callAt (Used_calls aS aI bS bI _) (by repeat (first | with_reducible exact H0 | apply At.alloc)) ?_
  rintro e w1 rfl H1
  go_wp2_with (go_at_call 34; refine (Sub_calls _ _ _).mono ?_; rintro e w' ⟨rfl, rfl⟩)
  go_ret
  exact ⟨rfl, H1.below⟩
set_option maxHeartbeats 400000 in
theorem LFlows_calls (aS aI bS bI : BitVec 16) (w : World) : Calls Tryd.prog 18 #[.agg #[.int .u16 (nH aS), .int .u16 (nH aI)], .agg #[.int .u16 (nH bS), .int .u16 (nH bI)]] w fun e w' => e = .returned (.bool ((aS &&& ~~~bS == 0#16) && (bI &&& ~~~aI == 0#16))) ∧ Below w.heap.size w w' := by
  cases h : (aS &&& ~~~bS == 0#16)
  · go_enter Tryd.func18, Tryd.ntmps18
    go_wp2_with (go_at_call 34; refine (Sub_calls _ _ _).mono ?_; rintro e w' ⟨rfl, rfl⟩)
    go_ret
    exact ⟨rfl, by repeat (first | exact Below.refl _ _ | refine Below.alloc ?_ (by (try simp only [World.size_alloc]); omega) _)⟩
  · go_enter Tryd.func18, Tryd.ntmps18
    go_wp2_with (go_at_call 34; refine (Sub_calls _ _ _).mono ?_; rintro e w' ⟨rfl, rfl⟩)
    go_ret
    exact ⟨rfl, by repeat (first | exact Below.refl _ _ | refine Below.alloc ?_ (by (try simp only [World.size_alloc]); omega) _)⟩
/-- Does a label flow into another one? -/
def flowsB (aS aI bS bI : BitVec 16) : Bool := (aS &&& ~~~bS == 0#16) && (bI &&& ~~~aI == 0#16)
end Go.Proofs.YtohdldlagkmcnaaDoor
