/- The walks of the laws of layer 3 (continued). -/
import Derived.Test.YtdamljjbeaomoaaLaws3
namespace Go.Proofs.Ytdamljjbeaomoaa
set_option linter.unusedSimpArgs false
set_option linter.unusedVariables false
open Go.RowKit Own
attribute [local go_sem] b16_and b16_or b16_andNot b16_zero
set_option maxHeartbeats 1000000 in
theorem changes_yes_yes (aS aI bS bI t c : BitVec 16) (hf : Hid (flowsB aS aI bS bI = true)) (hm : Hid ((t &&& ~~~c == 0#16) = true)) (w : World) : Calls Try.prog 4 #[.agg #[.int .u16 (u16 aS), .int .u16 (u16 aI)], .agg #[.int .u16 (u16 bS), .int .u16 (u16 bI)], .int .u16 (u16 t), .int .u16 (u16 c)] w fun e w' => e = .returned (.bool true) ∧ Below w.heap.size w w' := by
  go_enter Try.func4, Try.ntmps4
  have H0 := At.refl w
  go_wp2_with fail
  refine callAt (Raise_yes aS aI bS bI hf.out _) (by repeat (first | with_reducible exact H0 | apply At.drewN | apply At.drew | apply At.alloc)) ?_
  rintro e w1 rfl H1
  clear H0
  have K1 := H1.rules
  simp only [List.forall_mem_cons, World.size_alloc] at K1
  go_wp2_with fail
  refine callAt (Decl_yes aS aI t c hm.out _) (by repeat (first | with_reducible exact H1 | apply At.drewN | apply At.drew | apply At.alloc)) ?_
  rintro e w2 rfl H2
  clear H1 K1
  have K2 := H2.rules
  simp only [List.forall_mem_cons, World.size_alloc] at K2
  go_wp2_with fail
  refine callAt (End_yes aS aI t c hm.out _) (by repeat (first | with_reducible exact H2 | apply At.drewN | apply At.drew | apply At.alloc)) ?_
  rintro e w3 rfl H3
  clear H2 K2
  have K3 := H3.rules
  simp only [List.forall_mem_cons, World.size_alloc] at K3
  go_wp2_with fail
  refine (SubR_calls t c _).mono ?_
  rintro e w9 ⟨rfl, rfl⟩
  rw [hm.out]
  go_wp2_with fail
  refine callAt (R := fun e => e = .returned (.bool true)) (hf.out ▸ RFlows_calls aS aI bS bI _) (by repeat (first | with_reducible exact H3 | apply At.drewN | apply At.drew | apply At.alloc)) ?_
  rintro e w4 rfl H4
  clear H3 K3
  have K4 := H4.rules
  simp only [List.forall_mem_cons, World.size_alloc] at K4
  go_wp2_with fail
  refine region_at (by kernel_rfl) (by kernel_rfl) (by repeat (first | with_reducible exact H4 | apply At.drewN | apply At.drew | apply At.alloc)) (fun J hJ1 hJ2 => ?_)
  have K := fun w1 h1 => (hJ1 w1 h1).rules
  simp only [List.forall_mem_cons, World.size_alloc] at K
  repeat (first | (apply inv_yes; (· go_simp); (· intro w1 h1; have K1 := K w1 h1; go_simp; exact ⟨rfl, h1⟩); (· go_simp; rfl)) | (apply inv_no; (· go_simp); (· go_simp; rfl)))
  apply inv_yes
  · go_simp
  · intro w1 h1; have K1 := K w1 h1; go_simp; exact callI_same (Less_calls _ _ _) h1
  · go_simp; rfl
  repeat (first | (apply inv_yes; (· go_simp); (· intro w1 h1; have K1 := K w1 h1; go_simp; exact ⟨rfl, h1⟩); (· go_simp; rfl)) | (apply inv_no; (· go_simp); (· go_simp; rfl)))
  apply inv_yes
  · go_simp
  · intro w1 h1; have K1 := K w1 h1; go_simp; exact callI_same (Or_calls _ _ _) h1
  · go_simp; rfl
  repeat (first | (apply inv_yes; (· go_simp); (· intro w1 h1; have K1 := K w1 h1; go_simp; exact ⟨rfl, h1⟩); (· go_simp; rfl)) | (apply inv_no; (· go_simp); (· go_simp; rfl)))
  apply inv_yes
  · go_simp
  · intro w1 h1; have K1 := K w1 h1; go_simp; exact callI hJ1 hJ2 (alive3 _) h1
  · go_simp; rfl
  repeat (first | (apply inv_yes; (· go_simp); (· intro w1 h1; have K1 := K w1 h1; go_simp; exact ⟨rfl, h1⟩); (· go_simp; rfl)) | (apply inv_no; (· go_simp); (· go_simp; rfl)))
  refine wpInv_nil (fun w5 h5 => ?_)
  have H5 := hJ1 w5 h5
  clear K hJ1 hJ2 h5 H4 K4
  have K5 := H5.rules
  simp only [List.forall_mem_cons, World.size_alloc] at K5
  go_wp2_with fail
  go_ret
  exact ⟨rfl, H5.below⟩
set_option maxHeartbeats 1000000 in
theorem changes_yes_no (aS aI bS bI t c : BitVec 16) (hf : Hid (flowsB aS aI bS bI = true)) (hm : Hid ((t &&& ~~~c == 0#16) = false)) (w : World) : Calls Try.prog 4 #[.agg #[.int .u16 (u16 aS), .int .u16 (u16 aI)], .agg #[.int .u16 (u16 bS), .int .u16 (u16 bI)], .int .u16 (u16 t), .int .u16 (u16 c)] w fun e w' => e = .returned (.bool true) ∧ Below w.heap.size w w' := by
  go_enter Try.func4, Try.ntmps4
  have H0 := At.refl w
  go_wp2_with fail
  refine callAt (Raise_yes aS aI bS bI hf.out _) (by repeat (first | with_reducible exact H0 | apply At.drewN | apply At.drew | apply At.alloc)) ?_
  rintro e w1 rfl H1
  clear H0
  have K1 := H1.rules
  simp only [List.forall_mem_cons, World.size_alloc] at K1
  go_wp2_with fail
  refine callAt (Decl_no aS aI t c hm.out _) (by repeat (first | with_reducible exact H1 | apply At.drewN | apply At.drew | apply At.alloc)) ?_
  rintro e w2 rfl H2
  clear H1 K1
  have K2 := H2.rules
  simp only [List.forall_mem_cons, World.size_alloc] at K2
  go_wp2_with fail
  refine callAt (End_no aS aI t c hm.out _) (by repeat (first | with_reducible exact H2 | apply At.drewN | apply At.drew | apply At.alloc)) ?_
  rintro e w3 rfl H3
  clear H2 K2
  have K3 := H3.rules
  simp only [List.forall_mem_cons, World.size_alloc] at K3
  go_wp2_with fail
  refine (SubR_calls t c _).mono ?_
  rintro e w9 ⟨rfl, rfl⟩
  rw [hm.out]
  go_wp2_with fail
  refine callAt (R := fun e => e = .returned (.bool true)) (hf.out ▸ RFlows_calls aS aI bS bI _) (by repeat (first | with_reducible exact H3 | apply At.drewN | apply At.drew | apply At.alloc)) ?_
  rintro e w4 rfl H4
  clear H3 K3
  have K4 := H4.rules
  simp only [List.forall_mem_cons, World.size_alloc] at K4
  go_wp2_with fail
  refine callAt (alive3 _) (by repeat (first | with_reducible exact H4 | apply At.drewN | apply At.drew | apply At.alloc)) ?_
  rintro e w5 rfl H5
  clear H4 K4
  have K5 := H5.rules
  simp only [List.forall_mem_cons, World.size_alloc] at K5
  go_wp2_with fail
  go_ret
  exact ⟨rfl, H5.below⟩
set_option maxHeartbeats 1000000 in
theorem changes_no_yes (aS aI bS bI t c : BitVec 16) (hf : Hid (flowsB aS aI bS bI = false)) (hm : Hid ((t &&& ~~~c == 0#16) = true)) (w : World) : Calls Try.prog 4 #[.agg #[.int .u16 (u16 aS), .int .u16 (u16 aI)], .agg #[.int .u16 (u16 bS), .int .u16 (u16 bI)], .int .u16 (u16 t), .int .u16 (u16 c)] w fun e w' => e = .returned (.bool true) ∧ Below w.heap.size w w' := by
  go_enter Try.func4, Try.ntmps4
  have H0 := At.refl w
  go_wp2_with fail
  refine callAt (Raise_no aS aI bS bI hf.out _) (by repeat (first | with_reducible exact H0 | apply At.drewN | apply At.drew | apply At.alloc)) ?_
  rintro e w1 rfl H1
  clear H0
  have K1 := H1.rules
  simp only [List.forall_mem_cons, World.size_alloc] at K1
  go_wp2_with fail
  refine callAt (Decl_yes aS aI t c hm.out _) (by repeat (first | with_reducible exact H1 | apply At.drewN | apply At.drew | apply At.alloc)) ?_
  rintro e w2 rfl H2
  clear H1 K1
  have K2 := H2.rules
  simp only [List.forall_mem_cons, World.size_alloc] at K2
  go_wp2_with fail
  refine callAt (End_yes aS aI t c hm.out _) (by repeat (first | with_reducible exact H2 | apply At.drewN | apply At.drew | apply At.alloc)) ?_
  rintro e w3 rfl H3
  clear H2 K2
  have K3 := H3.rules
  simp only [List.forall_mem_cons, World.size_alloc] at K3
  go_wp2_with fail
  refine (SubR_calls t c _).mono ?_
  rintro e w9 ⟨rfl, rfl⟩
  rw [hm.out]
  go_wp2_with fail
  refine callAt (R := fun e => e = .returned (.bool false)) (hf.out ▸ RFlows_calls aS aI bS bI _) (by repeat (first | with_reducible exact H3 | apply At.drewN | apply At.drew | apply At.alloc)) ?_
  rintro e w4 rfl H4
  clear H3 K3
  have K4 := H4.rules
  simp only [List.forall_mem_cons, World.size_alloc] at K4
  go_wp2_with fail
  refine region_at (by kernel_rfl) (by kernel_rfl) (by repeat (first | with_reducible exact H4 | apply At.drewN | apply At.drew | apply At.alloc)) (fun J hJ1 hJ2 => ?_)
  have K := fun w1 h1 => (hJ1 w1 h1).rules
  simp only [List.forall_mem_cons, World.size_alloc] at K
  repeat (first | (apply inv_yes; (· go_simp); (· intro w1 h1; have K1 := K w1 h1; go_simp; exact ⟨rfl, h1⟩); (· go_simp; rfl)) | (apply inv_no; (· go_simp); (· go_simp; rfl)))
  apply inv_yes
  · go_simp
  · intro w1 h1; have K1 := K w1 h1; go_simp; exact callI_same (Less_calls _ _ _) h1
  · go_simp; rfl
  repeat (first | (apply inv_yes; (· go_simp); (· intro w1 h1; have K1 := K w1 h1; go_simp; exact ⟨rfl, h1⟩); (· go_simp; rfl)) | (apply inv_no; (· go_simp); (· go_simp; rfl)))
  apply inv_yes
  · go_simp
  · intro w1 h1; have K1 := K w1 h1; go_simp; exact callI_same (Or_calls _ _ _) h1
  · go_simp; rfl
  repeat (first | (apply inv_yes; (· go_simp); (· intro w1 h1; have K1 := K w1 h1; go_simp; exact ⟨rfl, h1⟩); (· go_simp; rfl)) | (apply inv_no; (· go_simp); (· go_simp; rfl)))
  apply inv_yes
  · go_simp
  · intro w1 h1; have K1 := K w1 h1; go_simp; exact callI hJ1 hJ2 (alive3 _) h1
  · go_simp; rfl
  repeat (first | (apply inv_yes; (· go_simp); (· intro w1 h1; have K1 := K w1 h1; go_simp; exact ⟨rfl, h1⟩); (· go_simp; rfl)) | (apply inv_no; (· go_simp); (· go_simp; rfl)))
  refine wpInv_nil (fun w5 h5 => ?_)
  have H5 := hJ1 w5 h5
  clear K hJ1 hJ2 h5 H4 K4
  have K5 := H5.rules
  simp only [List.forall_mem_cons, World.size_alloc] at K5
  go_wp2_with fail
  go_ret
  exact ⟨rfl, H5.below⟩
set_option maxHeartbeats 1000000 in
theorem changes_no_no (aS aI bS bI t c : BitVec 16) (hf : Hid (flowsB aS aI bS bI = false)) (hm : Hid ((t &&& ~~~c == 0#16) = false)) (w : World) : Calls Try.prog 4 #[.agg #[.int .u16 (u16 aS), .int .u16 (u16 aI)], .agg #[.int .u16 (u16 bS), .int .u16 (u16 bI)], .int .u16 (u16 t), .int .u16 (u16 c)] w fun e w' => e = .returned (.bool true) ∧ Below w.heap.size w w' := by
  go_enter Try.func4, Try.ntmps4
  have H0 := At.refl w
  go_wp2_with fail
  refine callAt (Raise_no aS aI bS bI hf.out _) (by repeat (first | with_reducible exact H0 | apply At.drewN | apply At.drew | apply At.alloc)) ?_
  rintro e w1 rfl H1
  clear H0
  have K1 := H1.rules
  simp only [List.forall_mem_cons, World.size_alloc] at K1
  go_wp2_with fail
  refine callAt (Decl_no aS aI t c hm.out _) (by repeat (first | with_reducible exact H1 | apply At.drewN | apply At.drew | apply At.alloc)) ?_
  rintro e w2 rfl H2
  clear H1 K1
  have K2 := H2.rules
  simp only [List.forall_mem_cons, World.size_alloc] at K2
  go_wp2_with fail
  refine callAt (End_no aS aI t c hm.out _) (by repeat (first | with_reducible exact H2 | apply At.drewN | apply At.drew | apply At.alloc)) ?_
  rintro e w3 rfl H3
  clear H2 K2
  have K3 := H3.rules
  simp only [List.forall_mem_cons, World.size_alloc] at K3
  go_wp2_with fail
  refine (SubR_calls t c _).mono ?_
  rintro e w9 ⟨rfl, rfl⟩
  rw [hm.out]
  go_wp2_with fail
  refine callAt (R := fun e => e = .returned (.bool false)) (hf.out ▸ RFlows_calls aS aI bS bI _) (by repeat (first | with_reducible exact H3 | apply At.drewN | apply At.drew | apply At.alloc)) ?_
  rintro e w4 rfl H4
  clear H3 K3
  have K4 := H4.rules
  simp only [List.forall_mem_cons, World.size_alloc] at K4
  go_wp2_with fail
  refine callAt (alive3 _) (by repeat (first | with_reducible exact H4 | apply At.drewN | apply At.drew | apply At.alloc)) ?_
  rintro e w5 rfl H5
  clear H4 K4
  have K5 := H5.rules
  simp only [List.forall_mem_cons, World.size_alloc] at K5
  go_wp2_with fail
  go_ret
  exact ⟨rfl, H5.below⟩
theorem changes_walk (aS aI bS bI t c : BitVec 16) (w : World) : Calls Try.prog 4 #[.agg #[.int .u16 (u16 aS), .int .u16 (u16 aI)], .agg #[.int .u16 (u16 bS), .int .u16 (u16 bI)], .int .u16 (u16 t), .int .u16 (u16 c)] w fun e w' => e = .returned (.bool true) ∧ Below w.heap.size w w' := by
  cases hf : flowsB aS aI bS bI
  · cases hm : (t &&& ~~~c == 0#16)
    · exact changes_no_no aS aI bS bI t c hf hm w
    · exact changes_no_yes aS aI bS bI t c hf hm w
  · cases hm : (t &&& ~~~c == 0#16)
    · exact changes_yes_no aS aI bS bI t c hf hm w
    · exact changes_yes_yes aS aI bS bI t c hf hm w
end Go.Proofs.Ytdamljjbeaomoaa
