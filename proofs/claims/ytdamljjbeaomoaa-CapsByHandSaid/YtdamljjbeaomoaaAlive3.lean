/- The usual calls of layer 3 ('alive') come out as told. -/
import Derived.Test.YtdamljjbeaomoaaCapsD
namespace Go.Proofs.Ytdamljjbeaomoaa
set_option linter.unusedSimpArgs false
set_option linter.unusedVariables false
open Go.RowKit Own
attribute [local go_sem] b16_and b16_or b16_andNot b16_zero
set_option maxHeartbeats 1000000 in
theorem alive3 (w : World) : Calls Try.prog 14 #[] w fun e w' => e = .returned (.bool true) ∧ Below w.heap.size w w' := by
  go_enter Try.func14, Try.ntmps14
  have H0 := At.refl w
  go_wp2_with fail
  refine callAt (R := fun e => e = .returned (.tuple #[.agg #[.int .u16 1, .int .u16 0], .int .i64 0])) (Decl_yes 3#16 0#16 2#16 6#16 (by decide) _) (by repeat (first | with_reducible exact H0 | apply At.drewN | apply At.drew | apply At.alloc)) ?_
  rintro e w1 rfl H1
  clear H0
  have K1 := H1.rules
  simp only [List.forall_mem_cons, World.size_alloc] at K1
  go_wp2_with fail
  refine callAt (R := fun e => e = .returned (.tuple #[.agg #[.int .u16 1, .int .u16 4], .int .i64 0])) (End_yes 1#16 0#16 4#16 6#16 (by decide) _) (by repeat (first | with_reducible exact H1 | apply At.drewN | apply At.drew | apply At.alloc)) ?_
  rintro e w2 rfl H2
  clear H1 K1
  have K2 := H2.rules
  simp only [List.forall_mem_cons, World.size_alloc] at K2
  go_wp2_with fail
  refine callAt (R := fun e => e = .returned (.tuple #[.agg #[.int .u16 0, .int .u16 0], .int .i64 9])) (Decl_no 3#16 0#16 1#16 6#16 (by decide) _) (by repeat (first | with_reducible exact H2 | apply At.drewN | apply At.drew | apply At.alloc)) ?_
  rintro e w3 rfl H3
  clear H2 K2
  have K3 := H3.rules
  simp only [List.forall_mem_cons, World.size_alloc] at K3
  go_wp2_with fail
  refine callAt (R := fun e => e = .returned (.tuple #[.agg #[.int .u16 0, .int .u16 0], .int .i64 9])) (Raise_no 3#16 0#16 1#16 4#16 (by decide) _) (by repeat (first | with_reducible exact H3 | apply At.drewN | apply At.drew | apply At.alloc)) ?_
  rintro e w4 rfl H4
  clear H3 K3
  have K4 := H4.rules
  simp only [List.forall_mem_cons, World.size_alloc] at K4
  go_wp2_with fail
  refine callAt (R := fun e => e = .returned (.tuple #[.agg #[.int .u16 1, .int .u16 4], .int .i64 0])) (Raise_yes 1#16 4#16 1#16 4#16 (by decide) _) (by repeat (first | with_reducible exact H4 | apply At.drewN | apply At.drew | apply At.alloc)) ?_
  rintro e w5 rfl H5
  clear H4 K4
  have K5 := H5.rules
  simp only [List.forall_mem_cons, World.size_alloc] at K5
  go_wp2_with fail
  refine callAt (R := fun e => e = .returned (.int .u16 6)) (Used_calls 3#16 0#16 1#16 4#16 _) (by repeat (first | with_reducible exact H5 | apply At.drewN | apply At.drew | apply At.alloc)) ?_
  rintro e w6 rfl H6
  clear H5 K5
  have K6 := H6.rules
  simp only [List.forall_mem_cons, World.size_alloc] at K6
  go_wp2_with fail
  refine callAt (R := fun e => e = .returned (.bool true)) (CFlows_calls 3#16 0#16 1#16 4#16 6#16 _) (by repeat (first | with_reducible exact H6 | apply At.drewN | apply At.drew | apply At.alloc)) ?_
  rintro e w7 rfl H7
  clear H6 K6
  have K7 := H7.rules
  simp only [List.forall_mem_cons, World.size_alloc] at K7
  go_wp2_with fail
  refine callAt (R := fun e => e = .returned (.bool false)) (CFlows_calls 3#16 0#16 1#16 4#16 2#16 _) (by repeat (first | with_reducible exact H7 | apply At.drewN | apply At.drew | apply At.alloc)) ?_
  rintro e w8 rfl H8
  clear H7 K7
  have K8 := H8.rules
  simp only [List.forall_mem_cons, World.size_alloc] at K8
  go_wp2_with fail
  go_ret
  exact ⟨rfl, H8.below⟩
end Go.Proofs.Ytdamljjbeaomoaa
