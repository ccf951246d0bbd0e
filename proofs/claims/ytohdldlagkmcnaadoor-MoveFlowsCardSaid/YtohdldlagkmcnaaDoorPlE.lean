/- Layer 12: policy.First; label.Bottom, Top. -/
import Derived.Test.YtohdldlagkmcnaaDoorPlD
import Derived.Great.BuildSlice
namespace Go.Proofs.YtohdldlagkmcnaaDoor.Pl
set_option linter.unusedSimpArgs false
set_option linter.unusedVariables false
open Go.RowKit Go.Shelf
open _root_.Go.Proofs.YtohdldlagkmcnaaDoor.Own
def PZ : Pol := ⟨0#16, fun _ => 0#16, fun _ => 0#16, fun _ => 0, 0#16⟩
def P1 : Pol := ⟨1#16, fun _ => 0#16, fun _ => 0#16, fun _ => 0, 65535#16⟩
def PF : Pol := ⟨1#16, fun i => if i = 1 then 65535#16 else 0#16, fun _ => 0#16, fun _ => 0, 65535#16⟩
theorem polC_zero : (Tryd.prog.info? 29).map (·.zero) = some (some (.agg ⟨polC PZ⟩)) := by kernel_rfl
theorem polC_built : Tryd.prog.built 29 [(0, .int .u16 1), (4, .int .u16 65535)] = some ⟨polC P1⟩ := by kernel_rfl
theorem polC_first : splc (polC P1) [.int .u16 0, .int .u16 65535] 1 = polC PF := by kernel_rfl
theorem info2 : (Tryd.prog.info? 24).map (·.size) = some 2 := by kernel_rfl
set_option maxRecDepth 10000 in
theorem Bottom_calls (w : World) : Calls Tryd.prog 30 #[] w fun e w' => e = .returned (.agg #[.int .u16 0, .int .u16 65535]) ∧ Below w.heap.size w w' := by
  go_enter Tryd.func30, Tryd.ntmps30
  go_wp2_with fail
  exact bodyPost_ret (v := .agg #[.int .u16 0, .int .u16 65535]) (by simp [results, Tryd.results30, go_sem]) rfl ⟨rfl, (Below.refl _ _).alloc (Nat.le_refl _) _⟩
set_option maxRecDepth 10000 in
theorem Top_calls (w : World) : Calls Tryd.prog 31 #[] w fun e w' => e = .returned (.agg #[.int .u16 65535, .int .u16 0]) ∧ Below w.heap.size w w' := by
  go_enter Tryd.func31, Tryd.ntmps31
  go_wp2_with fail
  exact bodyPost_ret (v := .agg #[.int .u16 65535, .int .u16 0]) (by simp [results, Tryd.results31, go_sem]) rfl ⟨rfl, (Below.refl _ _).alloc (Nat.le_refl _) _⟩
set_option maxRecDepth 10000 in
set_option maxHeartbeats 2000000 in
theorem First_calls (w : World) : Calls Tryd.prog 29 #[] w fun e w' => e = .returned (.agg ⟨polC PF⟩) ∧ Below w.heap.size w w' := by
  go_enter Tryd.func29, Tryd.ntmps29
  have H0 := At.refl w
  have H1 := (H0.alloc (polC PZ) 29).alloc (polC PZ) 29
  simp only [World.size_alloc] at H1
  have H2 := H1.setRow 0 rfl ⟨polC P1⟩
  have H2' := Lib.hid H2
  clear H2
  go_wp2_with (first | refine wpList_alloc_arr rfl 29 rfl (polC PZ) polC_zero ?_ | (refine wpList_buildTo rfl 29 _ rfl (some 2) rfl ⟨polC P1⟩ ?hf ?_; (case hf => simpa [Act.eval] using polC_built)) | ((try simp only [World.size_alloc]); refine wpList_store_row rfl 29 _ _ rfl _ _ rfl rfl 29 _ (H1.row 0 rfl) polC_size polC_old polC_one ?_))
  refine (Bottom_calls _).mono ?_
  rintro e w1 ⟨rfl, hb1⟩
  have H3 := H2'.out.call hb1
  have hf3 : World.frozen? w1 ⟨w.heap.size + 1, 1, none⟩ = false := (H3.rules _ (List.mem_cons_self ..)).2.1 1
  have H4 := H3.setRow 0 rfl ⟨splc (polC P1) [.int .u16 0, .int .u16 65535] 1⟩
  rw [polC_first] at H4
  have H5 := H4.setRow 1 rfl ⟨polC PF⟩
  have H3' := Lib.hid H3
  have H4' := Lib.hid H4
  have H5' := Lib.hid H5
  clear H2' H3 H4 H5 hb1 H0 H1
  go_wp2_with (first | (refine wpList_store_part rfl 24 _ _ rfl (w.heap.size + 1) 1 rfl [.int .u16 0, .int .u16 65535] rfl 29 (polC P1) 2 (H3'.out.row 0 rfl) info2 rfl (by rw [polC_length]; decide) (by simp [Value.oneCell']) ?_; rw [polC_first]) | refine wpList_load_row rfl 29 _ rfl _ rfl 29 _ (0, 0) _ (H4'.out.row 0 rfl) Tryd.underlying29 rfl polC_size ?_ | (refine wpList_store_row rfl 29 _ _ rfl _ _ rfl rfl 29 _ (H4'.out.row 1 rfl) polC_size polC_old polC_one ?_))
  exact bodyPost_ret (v := .agg ⟨polC PF⟩) (results_cell_row rfl _ _ w.heap.size 29 _ (0, 0) _ rfl (H5'.out.row 1 rfl) Tryd.underlying29 rfl polC_size) rfl ⟨rfl, H5'.out.below⟩
end Go.Proofs.YtohdldlagkmcnaaDoor.Pl
