/- The walks of the laws of layer 3 (CapsMore). -/
import Derived.Test.YtdamljjbeaomoaaLaws3
namespace Go.Proofs.Ytdamljjbeaomoaa
set_option linter.unusedSimpArgs false
set_option linter.unusedVariables false
open Go.RowKit Own
attribute [local go_sem] b16_and b16_or b16_andNot b16_zero
/-- What is used. -/
def usedB (aS aI bS bI : BitVec 16) : BitVec 16 := (aS &&& ~~~bS) ||| (bI &&& ~~~aI)
theorem not_zero (x : BitVec 16) : x &&& ~~~0#16 = x := by rw [show (~~~0#16 : BitVec 16) = BitVec.allOnes 16 from rfl, BitVec.and_allOnes]
theorem flows_none0 (aS aI bS bI : BitVec 16) : ((aS &&& ~~~bS) ||| (bI &&& ~~~aI)) &&& ~~~0#16 = usedB aS aI bS bI := not_zero _
theorem used_flows (aS aI bS bI : BitVec 16) : (usedB aS aI bS bI == 0#16) = flowsB aS aI bS bI := by
  have h := or_less (aS &&& ~~~bS) (bI &&& ~~~aI) 0#16
  rw [not_zero, not_zero, not_zero] at h
  exact h
theorem flows_by0 (aS aI bS bI : BitVec 16) : (((aS &&& ~~~bS) ||| (bI &&& ~~~aI)) &&& ~~~0#16 == 0#16) = flowsB aS aI bS bI := by rw [flows_none0, used_flows]
theorem flows_all (aS aI bS bI : BitVec 16) : (((aS &&& ~~~bS) ||| (bI &&& ~~~aI)) &&& ~~~65535#16 == 0#16) = true := by
  rw [show (~~~65535#16 : BitVec 16) = 0#16 from by decide]; simp
theorem flows_used (aS aI bS bI : BitVec 16) : (((aS &&& ~~~bS) ||| (bI &&& ~~~aI)) &&& ~~~(usedB aS aI bS bI) == 0#16) = true := by
  unfold usedB
  rw [beq_iff_eq]
  apply BitVec.eq_of_getLsbD_eq
  intro i hi
  simp [hi]
theorem flows_more {x c : BitVec 16} (d : BitVec 16) (h : (x &&& ~~~c == 0#16) = true) : (x &&& ~~~(c ||| d) == 0#16) = true := by
  rw [beq_iff_eq] at h ⊢
  apply BitVec.eq_of_getLsbD_eq
  intro i hi
  have := congrArg (fun z : BitVec 16 => z.getLsbD i) h
  simp only [BitVec.getLsbD_and, BitVec.getLsbD_not, BitVec.getLsbD_or, BitVec.getLsbD_zero, hi] at this ⊢
  cases h1 : x.getLsbD i <;> cases h2 : c.getLsbD i <;> simp_all
set_option maxHeartbeats 1000000 in
theorem more_yes_yes (aS aI bS bI c d : BitVec 16) (hf : Hid (flowsB aS aI bS bI = true)) (hm : Hid ((((aS &&& ~~~bS) ||| (bI &&& ~~~aI)) &&& ~~~c == 0#16) = true)) (w : World) : Calls Try.prog 5 #[.agg #[.int .u16 (u16 aS), .int .u16 (u16 aI)], .agg #[.int .u16 (u16 bS), .int .u16 (u16 bI)], .int .u16 (u16 c), .int .u16 (u16 d)] w fun e w' => e = .returned (.bool true) ∧ Below w.heap.size w w' := by
  go_enter Try.func5, Try.ntmps5
  have H0 := At.refl w
  go_wp2_with fail
  refine callAt (R := fun e => e = .returned (.int .u16 (u16 (usedB aS aI bS bI)))) (Used_calls aS aI bS bI _) (by repeat (first | with_reducible exact H0 | apply At.drewN | apply At.drew | apply At.alloc)) ?_
  rintro e w1 rfl H1
  clear H0
  have K1 := H1.rules
  simp only [List.forall_mem_cons, World.size_alloc] at K1
  go_wp2_with fail
  refine region_at (by kernel_rfl) (by kernel_rfl) (by repeat (first | with_reducible exact H1 | apply At.drewN | apply At.drew | apply At.alloc)) (fun J hJ1 hJ2 => ?_)
  have K := fun w1 h1 => (hJ1 w1 h1).rules
  simp only [List.forall_mem_cons, World.size_alloc] at K
  repeat (first | (apply inv_yes; (· go_simp); (· intro w1 h1; have K1 := K w1 h1; go_simp; exact ⟨rfl, h1⟩); (· go_simp; rfl)) | (apply inv_no; (· go_simp); (· go_simp; rfl)))
  apply inv_yes
  · go_simp
  · intro w1 h1; have K1 := K w1 h1; go_simp; exact callI (v := .bool true) hJ1 hJ2 ((flows_by0 aS aI bS bI).trans hf.out ▸ CFlows_calls aS aI bS bI 0#16 _) h1
  · go_simp; rfl
  repeat (first | (apply inv_yes; (· go_simp); (· intro w1 h1; have K1 := K w1 h1; go_simp; exact ⟨rfl, h1⟩); (· go_simp; rfl)) | (apply inv_no; (· go_simp); (· go_simp; rfl)))
  apply inv_yes
  · go_simp
  · intro w1 h1; have K1 := K w1 h1; go_simp; exact callI (v := .bool true) hJ1 hJ2 ((show ((aS &&& ~~~bS == 0#16) && (bI &&& ~~~aI == 0#16)) = true from hf.out) ▸ LFlows_calls aS aI bS bI _) h1
  · go_simp; rfl
  repeat (first | (apply inv_yes; (· go_simp); (· intro w1 h1; have K1 := K w1 h1; go_simp; exact ⟨rfl, h1⟩); (· go_simp; rfl)) | (apply inv_no; (· go_simp); (· go_simp; rfl)))
  apply inv_yes
  · go_simp
  · intro w1 h1; have K1 := K w1 h1; go_simp; exact callI (v := .bool true) hJ1 hJ2 (flows_all aS aI bS bI ▸ CFlows_calls aS aI bS bI 65535#16 _) h1
  · go_simp; rfl
  repeat (first | (apply inv_yes; (· go_simp); (· intro w1 h1; have K1 := K w1 h1; go_simp; exact ⟨rfl, h1⟩); (· go_simp; rfl)) | (apply inv_no; (· go_simp); (· go_simp; rfl)))
  apply inv_yes
  · go_simp
  · intro w1 h1; have K1 := K w1 h1; go_simp; exact callI (v := .bool true) hJ1 hJ2 (flows_used aS aI bS bI ▸ CFlows_calls aS aI bS bI (usedB aS aI bS bI) _) h1
  · go_simp; rfl
  repeat (first | (apply inv_yes; (· go_simp); (· intro w1 h1; have K1 := K w1 h1; go_simp; exact ⟨rfl, h1⟩); (· go_simp; rfl)) | (apply inv_no; (· go_simp); (· go_simp; rfl)))
  apply inv_yes
  · go_simp
  · intro w1 h1; have K1 := K w1 h1; go_simp; exact callI (v := .bool true) hJ1 hJ2 (hm.out ▸ CFlows_calls aS aI bS bI c _) h1
  · go_simp; rfl
  repeat (first | (apply inv_yes; (· go_simp); (· intro w1 h1; have K1 := K w1 h1; go_simp; exact ⟨rfl, h1⟩); (· go_simp; rfl)) | (apply inv_no; (· go_simp); (· go_simp; rfl)))
  apply inv_yes
  · go_simp
  · intro w1 h1; have K1 := K w1 h1; go_simp; exact callI (v := .bool true) hJ1 hJ2 (flows_more d hm.out ▸ CFlows_calls aS aI bS bI (c ||| d) _) h1
  · go_simp; rfl
  repeat (first | (apply inv_yes; (· go_simp); (· intro w1 h1; have K1 := K w1 h1; go_simp; exact ⟨rfl, h1⟩); (· go_simp; rfl)) | (apply inv_no; (· go_simp); (· go_simp; rfl)))
  refine wpInv_nil (fun w2 h2 => ?_)
  have H2 := hJ1 w2 h2
  clear K hJ1 hJ2 h2 H1 K1
  have K2 := H2.rules
  simp only [List.forall_mem_cons, World.size_alloc] at K2
  go_wp2_with fail
  refine callAt (R := fun e => e = .returned (.bool true)) (hm.out ▸ CFlows_calls aS aI bS bI c _) (by repeat (first | with_reducible exact H2 | apply At.drewN | apply At.drew | apply At.alloc)) ?_
  rintro e w3 rfl H3
  clear H2 K2
  have K3 := H3.rules
  simp only [List.forall_mem_cons, World.size_alloc] at K3
  have hn : (usedB aS aI bS bI &&& ~~~c == 0#16) = true := hm.out
  go_wp2_with fail
  refine callAt (R := fun e => e = .returned (.bool true)) ((show ((aS &&& ~~~bS == 0#16) && (bI &&& ~~~aI == 0#16)) = true from hf.out) ▸ LFlows_calls aS aI bS bI _) (by repeat (first | with_reducible exact H3 | apply At.drewN | apply At.drew | apply At.alloc)) ?_
  rintro e w4 rfl H4
  clear H3 K3
  have K4 := H4.rules
  simp only [List.forall_mem_cons, World.size_alloc] at K4
  clear hn
  have hg : (usedB aS aI bS bI == 0#16) = true := (used_flows aS aI bS bI).trans hf.out
  go_wp2_with fail
  refine callAt (alive3 _) (by repeat (first | with_reducible exact H4 | apply At.drewN | apply At.drew | apply At.alloc)) ?_
  rintro e w5 rfl H5
  clear H4 K4
  have K5 := H5.rules
  simp only [List.forall_mem_cons, World.size_alloc] at K5
  go_wp2_with fail
  go_ret
  exact ⟨rfl, H5.below⟩
set_option maxHeartbeats 1000000 in
theorem more_yes_no (aS aI bS bI c d : BitVec 16) (hf : Hid (flowsB aS aI bS bI = true)) (hm : Hid ((((aS &&& ~~~bS) ||| (bI &&& ~~~aI)) &&& ~~~c == 0#16) = false)) (w : World) : Calls Try.prog 5 #[.agg #[.int .u16 (u16 aS), .int .u16 (u16 aI)], .agg #[.int .u16 (u16 bS), .int .u16 (u16 bI)], .int .u16 (u16 c), .int .u16 (u16 d)] w fun e w' => e = .returned (.bool true) ∧ Below w.heap.size w w' := by
  go_enter Try.func5, Try.ntmps5
  have H0 := At.refl w
  go_wp2_with fail
  refine callAt (R := fun e => e = .returned (.int .u16 (u16 (usedB aS aI bS bI)))) (Used_calls aS aI bS bI _) (by repeat (first | with_reducible exact H0 | apply At.drewN | apply At.drew | apply At.alloc)) ?_
  rintro e w1 rfl H1
  clear H0
  have K1 := H1.rules
  simp only [List.forall_mem_cons, World.size_alloc] at K1
  go_wp2_with fail
  refine region_at (by kernel_rfl) (by kernel_rfl) (by repeat (first | with_reducible exact H1 | apply At.drewN | apply At.drew | apply At.alloc)) (fun J hJ1 hJ2 => ?_)
  have K := fun w1 h1 => (hJ1 w1 h1).rules
  simp only [List.forall_mem_cons, World.size_alloc] at K
  repeat (first | (apply inv_yes; (· go_simp); (· intro w1 h1; have K1 := K w1 h1; go_simp; exact ⟨rfl, h1⟩); (· go_simp; rfl)) | (apply inv_no; (· go_simp); (· go_simp; rfl)))
  apply inv_yes
  · go_simp
  · intro w1 h1; have K1 := K w1 h1; go_simp; exact callI (v := .bool true) hJ1 hJ2 ((flows_by0 aS aI bS bI).trans hf.out ▸ CFlows_calls aS aI bS bI 0#16 _) h1
  · go_simp; rfl
  repeat (first | (apply inv_yes; (· go_simp); (· intro w1 h1; have K1 := K w1 h1; go_simp; exact ⟨rfl, h1⟩); (· go_simp; rfl)) | (apply inv_no; (· go_simp); (· go_simp; rfl)))
  apply inv_yes
  · go_simp
  · intro w1 h1; have K1 := K w1 h1; go_simp; exact callI (v := .bool true) hJ1 hJ2 ((show ((aS &&& ~~~bS == 0#16) && (bI &&& ~~~aI == 0#16)) = true from hf.out) ▸ LFlows_calls aS aI bS bI _) h1
  · go_simp; rfl
  repeat (first | (apply inv_yes; (· go_simp); (· intro w1 h1; have K1 := K w1 h1; go_simp; exact ⟨rfl, h1⟩); (· go_simp; rfl)) | (apply inv_no; (· go_simp); (· go_simp; rfl)))
  apply inv_yes
  · go_simp
  · intro w1 h1; have K1 := K w1 h1; go_simp; exact callI (v := .bool true) hJ1 hJ2 (flows_all aS aI bS bI ▸ CFlows_calls aS aI bS bI 65535#16 _) h1
  · go_simp; rfl
  repeat (first | (apply inv_yes; (· go_simp); (· intro w1 h1; have K1 := K w1 h1; go_simp; exact ⟨rfl, h1⟩); (· go_simp; rfl)) | (apply inv_no; (· go_simp); (· go_simp; rfl)))
  apply inv_yes
  · go_simp
  · intro w1 h1; have K1 := K w1 h1; go_simp; exact callI (v := .bool true) hJ1 hJ2 (flows_used aS aI bS bI ▸ CFlows_calls aS aI bS bI (usedB aS aI bS bI) _) h1
  · go_simp; rfl
  repeat (first | (apply inv_yes; (· go_simp); (· intro w1 h1; have K1 := K w1 h1; go_simp; exact ⟨rfl, h1⟩); (· go_simp; rfl)) | (apply inv_no; (· go_simp); (· go_simp; rfl)))
  apply inv_yes
  · go_simp
  · intro w1 h1; have K1 := K w1 h1; go_simp; exact callI (v := .bool false) hJ1 hJ2 (hm.out ▸ CFlows_calls aS aI bS bI c _) h1
  · go_simp; rfl
  repeat (first | (apply inv_yes; (· go_simp); (· intro w1 h1; have K1 := K w1 h1; go_simp; exact ⟨rfl, h1⟩); (· go_simp; rfl)) | (apply inv_no; (· go_simp); (· go_simp; rfl)))
  refine wpInv_nil (fun w2 h2 => ?_)
  have H2 := hJ1 w2 h2
  clear K hJ1 hJ2 h2 H1 K1
  have K2 := H2.rules
  simp only [List.forall_mem_cons, World.size_alloc] at K2
  go_wp2_with fail
  refine callAt (R := fun e => e = .returned (.bool false)) (hm.out ▸ CFlows_calls aS aI bS bI c _) (by repeat (first | with_reducible exact H2 | apply At.drewN | apply At.drew | apply At.alloc)) ?_
  rintro e w3 rfl H3
  clear H2 K2
  have K3 := H3.rules
  simp only [List.forall_mem_cons, World.size_alloc] at K3
  have hn : (usedB aS aI bS bI &&& ~~~c == 0#16) = false := hm.out
  go_wp2_with fail
  refine callAt (R := fun e => e = .returned (.bool true)) ((show ((aS &&& ~~~bS == 0#16) && (bI &&& ~~~aI == 0#16)) = true from hf.out) ▸ LFlows_calls aS aI bS bI _) (by repeat (first | with_reducible exact H3 | apply At.drewN | apply At.drew | apply At.alloc)) ?_
  rintro e w4 rfl H4
  clear H3 K3
  have K4 := H4.rules
  simp only [List.forall_mem_cons, World.size_alloc] at K4
  clear hn
  have hg : (usedB aS aI bS bI == 0#16) = true := (used_flows aS aI bS bI).trans hf.out
  go_wp2_with fail
  refine callAt (alive3 _) (by repeat (first | with_reducible exact H4 | apply At.drewN | apply At.drew | apply At.alloc)) ?_
  rintro e w5 rfl H5
  clear H4 K4
  have K5 := H5.rules
  simp only [List.forall_mem_cons, World.size_alloc] at K5
  go_wp2_with fail
  go_ret
  exact ⟨rfl, H5.below⟩
set_option maxHeartbeats 1000000 in
theorem more_no_yes (aS aI bS bI c d : BitVec 16) (hf : Hid (flowsB aS aI bS bI = false)) (hm : Hid ((((aS &&& ~~~bS) ||| (bI &&& ~~~aI)) &&& ~~~c == 0#16) = true)) (w : World) : Calls Try.prog 5 #[.agg #[.int .u16 (u16 aS), .int .u16 (u16 aI)], .agg #[.int .u16 (u16 bS), .int .u16 (u16 bI)], .int .u16 (u16 c), .int .u16 (u16 d)] w fun e w' => e = .returned (.bool true) ∧ Below w.heap.size w w' := by
  go_enter Try.func5, Try.ntmps5
  have H0 := At.refl w
  go_wp2_with fail
  refine callAt (R := fun e => e = .returned (.int .u16 (u16 (usedB aS aI bS bI)))) (Used_calls aS aI bS bI _) (by repeat (first | with_reducible exact H0 | apply At.drewN | apply At.drew | apply At.alloc)) ?_
  rintro e w1 rfl H1
  clear H0
  have K1 := H1.rules
  simp only [List.forall_mem_cons, World.size_alloc] at K1
  go_wp2_with fail
  refine region_at (by kernel_rfl) (by kernel_rfl) (by repeat (first | with_reducible exact H1 | apply At.drewN | apply At.drew | apply At.alloc)) (fun J hJ1 hJ2 => ?_)
  have K := fun w1 h1 => (hJ1 w1 h1).rules
  simp only [List.forall_mem_cons, World.size_alloc] at K
  repeat (first | (apply inv_yes; (· go_simp); (· intro w1 h1; have K1 := K w1 h1; go_simp; exact ⟨rfl, h1⟩); (· go_simp; rfl)) | (apply inv_no; (· go_simp); (· go_simp; rfl)))
  apply inv_yes
  · go_simp
  · intro w1 h1; have K1 := K w1 h1; go_simp; exact callI (v := .bool false) hJ1 hJ2 ((flows_by0 aS aI bS bI).trans hf.out ▸ CFlows_calls aS aI bS bI 0#16 _) h1
  · go_simp; rfl
  repeat (first | (apply inv_yes; (· go_simp); (· intro w1 h1; have K1 := K w1 h1; go_simp; exact ⟨rfl, h1⟩); (· go_simp; rfl)) | (apply inv_no; (· go_simp); (· go_simp; rfl)))
  apply inv_yes
  · go_simp
  · intro w1 h1; have K1 := K w1 h1; go_simp; exact callI (v := .bool false) hJ1 hJ2 ((show ((aS &&& ~~~bS == 0#16) && (bI &&& ~~~aI == 0#16)) = false from hf.out) ▸ LFlows_calls aS aI bS bI _) h1
  · go_simp; rfl
  repeat (first | (apply inv_yes; (· go_simp); (· intro w1 h1; have K1 := K w1 h1; go_simp; exact ⟨rfl, h1⟩); (· go_simp; rfl)) | (apply inv_no; (· go_simp); (· go_simp; rfl)))
  apply inv_yes
  · go_simp
  · intro w1 h1; have K1 := K w1 h1; go_simp; exact callI (v := .bool true) hJ1 hJ2 (flows_all aS aI bS bI ▸ CFlows_calls aS aI bS bI 65535#16 _) h1
  · go_simp; rfl
  repeat (first | (apply inv_yes; (· go_simp); (· intro w1 h1; have K1 := K w1 h1; go_simp; exact ⟨rfl, h1⟩); (· go_simp; rfl)) | (apply inv_no; (· go_simp); (· go_simp; rfl)))
  apply inv_yes
  · go_simp
  · intro w1 h1; have K1 := K w1 h1; go_simp; exact callI (v := .bool true) hJ1 hJ2 (flows_used aS aI bS bI ▸ CFlows_calls aS aI bS bI (usedB aS aI bS bI) _) h1
  · go_simp; rfl
  repeat (first | (apply inv_yes; (· go_simp); (· intro w1 h1; have K1 := K w1 h1; go_simp; exact ⟨rfl, h1⟩); (· go_simp; rfl)) | (apply inv_no; (· go_simp); (· go_simp; rfl)))
  apply inv_yes
  · go_simp
  · intro w1 h1; have K1 := K w1 h1; go_simp; exact callI (v := .bool true) hJ1 hJ2 (hm.out ▸ CFlows_calls aS aI bS bI c _) h1
  · go_simp; rfl
  repeat (first | (apply inv_yes; (· go_simp); (· intro w1 h1; have K1 := K w1 h1; go_simp; exact ⟨rfl, h1⟩); (· go_simp; rfl)) | (apply inv_no; (· go_simp); (· go_simp; rfl)))
  apply inv_yes
  · go_simp
  · intro w1 h1; have K1 := K w1 h1; go_simp; exact callI (v := .bool true) hJ1 hJ2 (flows_more d hm.out ▸ CFlows_calls aS aI bS bI (c ||| d) _) h1
  · go_simp; rfl
  repeat (first | (apply inv_yes; (· go_simp); (· intro w1 h1; have K1 := K w1 h1; go_simp; exact ⟨rfl, h1⟩); (· go_simp; rfl)) | (apply inv_no; (· go_simp); (· go_simp; rfl)))
  refine wpInv_nil (fun w2 h2 => ?_)
  have H2 := hJ1 w2 h2
  clear K hJ1 hJ2 h2 H1 K1
  have K2 := H2.rules
  simp only [List.forall_mem_cons, World.size_alloc] at K2
  go_wp2_with fail
  refine callAt (R := fun e => e = .returned (.bool true)) (hm.out ▸ CFlows_calls aS aI bS bI c _) (by repeat (first | with_reducible exact H2 | apply At.drewN | apply At.drew | apply At.alloc)) ?_
  rintro e w3 rfl H3
  clear H2 K2
  have K3 := H3.rules
  simp only [List.forall_mem_cons, World.size_alloc] at K3
  have hn : (usedB aS aI bS bI &&& ~~~c == 0#16) = true := hm.out
  go_wp2_with fail
  refine callAt (R := fun e => e = .returned (.bool false)) ((show ((aS &&& ~~~bS == 0#16) && (bI &&& ~~~aI == 0#16)) = false from hf.out) ▸ LFlows_calls aS aI bS bI _) (by repeat (first | with_reducible exact H3 | apply At.drewN | apply At.drew | apply At.alloc)) ?_
  rintro e w4 rfl H4
  clear H3 K3
  have K4 := H4.rules
  simp only [List.forall_mem_cons, World.size_alloc] at K4
  clear hn
  have hg : (usedB aS aI bS bI == 0#16) = false := (used_flows aS aI bS bI).trans hf.out
  go_wp2_with fail
  refine callAt (alive3 _) (by repeat (first | with_reducible exact H4 | apply At.drewN | apply At.drew | apply At.alloc)) ?_
  rintro e w5 rfl H5
  clear H4 K4
  have K5 := H5.rules
  simp only [List.forall_mem_cons, World.size_alloc] at K5
  go_wp2_with fail
  go_ret
  exact ⟨rfl, H5.below⟩
set_option maxHeartbeats 1000000 in
theorem more_no_no (aS aI bS bI c d : BitVec 16) (hf : Hid (flowsB aS aI bS bI = false)) (hm : Hid ((((aS &&& ~~~bS) ||| (bI &&& ~~~aI)) &&& ~~~c == 0#16) = false)) (w : World) : Calls Try.prog 5 #[.agg #[.int .u16 (u16 aS), .int .u16 (u16 aI)], .agg #[.int .u16 (u16 bS), .int .u16 (u16 bI)], .int .u16 (u16 c), .int .u16 (u16 d)] w fun e w' => e = .returned (.bool true) ∧ Below w.heap.size w w' := by
  go_enter Try.func5, Try.ntmps5
  have H0 := At.refl w
  go_wp2_with fail
  refine callAt (R := fun e => e = .returned (.int .u16 (u16 (usedB aS aI bS bI)))) (Used_calls aS aI bS bI _) (by repeat (first | with_reducible exact H0 | apply At.drewN | apply At.drew | apply At.alloc)) ?_
  rintro e w1 rfl H1
  clear H0
  have K1 := H1.rules
  simp only [List.forall_mem_cons, World.size_alloc] at K1
  go_wp2_with fail
  refine region_at (by kernel_rfl) (by kernel_rfl) (by repeat (first | with_reducible exact H1 | apply At.drewN | apply At.drew | apply At.alloc)) (fun J hJ1 hJ2 => ?_)
  have K := fun w1 h1 => (hJ1 w1 h1).rules
  simp only [List.forall_mem_cons, World.size_alloc] at K
  repeat (first | (apply inv_yes; (· go_simp); (· intro w1 h1; have K1 := K w1 h1; go_simp; exact ⟨rfl, h1⟩); (· go_simp; rfl)) | (apply inv_no; (· go_simp); (· go_simp; rfl)))
  apply inv_yes
  · go_simp
  · intro w1 h1; have K1 := K w1 h1; go_simp; exact callI (v := .bool false) hJ1 hJ2 ((flows_by0 aS aI bS bI).trans hf.out ▸ CFlows_calls aS aI bS bI 0#16 _) h1
  · go_simp; rfl
  repeat (first | (apply inv_yes; (· go_simp); (· intro w1 h1; have K1 := K w1 h1; go_simp; exact ⟨rfl, h1⟩); (· go_simp; rfl)) | (apply inv_no; (· go_simp); (· go_simp; rfl)))
  apply inv_yes
  · go_simp
  · intro w1 h1; have K1 := K w1 h1; go_simp; exact callI (v := .bool false) hJ1 hJ2 ((show ((aS &&& ~~~bS == 0#16) && (bI &&& ~~~aI == 0#16)) = false from hf.out) ▸ LFlows_calls aS aI bS bI _) h1
  · go_simp; rfl
  repeat (first | (apply inv_yes; (· go_simp); (· intro w1 h1; have K1 := K w1 h1; go_simp; exact ⟨rfl, h1⟩); (· go_simp; rfl)) | (apply inv_no; (· go_simp); (· go_simp; rfl)))
  apply inv_yes
  · go_simp
  · intro w1 h1; have K1 := K w1 h1; go_simp; exact callI (v := .bool true) hJ1 hJ2 (flows_all aS aI bS bI ▸ CFlows_calls aS aI bS bI 65535#16 _) h1
  · go_simp; rfl
  repeat (first | (apply inv_yes; (· go_simp); (· intro w1 h1; have K1 := K w1 h1; go_simp; exact ⟨rfl, h1⟩); (· go_simp; rfl)) | (apply inv_no; (· go_simp); (· go_simp; rfl)))
  apply inv_yes
  · go_simp
  · intro w1 h1; have K1 := K w1 h1; go_simp; exact callI (v := .bool true) hJ1 hJ2 (flows_used aS aI bS bI ▸ CFlows_calls aS aI bS bI (usedB aS aI bS bI) _) h1
  · go_simp; rfl
  repeat (first | (apply inv_yes; (· go_simp); (· intro w1 h1; have K1 := K w1 h1; go_simp; exact ⟨rfl, h1⟩); (· go_simp; rfl)) | (apply inv_no; (· go_simp); (· go_simp; rfl)))
  apply inv_yes
  · go_simp
  · intro w1 h1; have K1 := K w1 h1; go_simp; exact callI (v := .bool false) hJ1 hJ2 (hm.out ▸ CFlows_calls aS aI bS bI c _) h1
  · go_simp; rfl
  repeat (first | (apply inv_yes; (· go_simp); (· intro w1 h1; have K1 := K w1 h1; go_simp; exact ⟨rfl, h1⟩); (· go_simp; rfl)) | (apply inv_no; (· go_simp); (· go_simp; rfl)))
  refine wpInv_nil (fun w2 h2 => ?_)
  have H2 := hJ1 w2 h2
  clear K hJ1 hJ2 h2 H1 K1
  have K2 := H2.rules
  simp only [List.forall_mem_cons, World.size_alloc] at K2
  go_wp2_with fail
  refine callAt (R := fun e => e = .returned (.bool false)) (hm.out ▸ CFlows_calls aS aI bS bI c _) (by repeat (first | with_reducible exact H2 | apply At.drewN | apply At.drew | apply At.alloc)) ?_
  rintro e w3 rfl H3
  clear H2 K2
  have K3 := H3.rules
  simp only [List.forall_mem_cons, World.size_alloc] at K3
  have hn : (usedB aS aI bS bI &&& ~~~c == 0#16) = false := hm.out
  go_wp2_with fail
  refine callAt (R := fun e => e = .returned (.bool false)) ((show ((aS &&& ~~~bS == 0#16) && (bI &&& ~~~aI == 0#16)) = false from hf.out) ▸ LFlows_calls aS aI bS bI _) (by repeat (first | with_reducible exact H3 | apply At.drewN | apply At.drew | apply At.alloc)) ?_
  rintro e w4 rfl H4
  clear H3 K3
  have K4 := H4.rules
  simp only [List.forall_mem_cons, World.size_alloc] at K4
  clear hn
  have hg : (usedB aS aI bS bI == 0#16) = false := (used_flows aS aI bS bI).trans hf.out
  go_wp2_with fail
  refine callAt (alive3 _) (by repeat (first | with_reducible exact H4 | apply At.drewN | apply At.drew | apply At.alloc)) ?_
  rintro e w5 rfl H5
  clear H4 K4
  have K5 := H5.rules
  simp only [List.forall_mem_cons, World.size_alloc] at K5
  go_wp2_with fail
  go_ret
  exact ⟨rfl, H5.below⟩
theorem more_walk (aS aI bS bI c d : BitVec 16) (w : World) : Calls Try.prog 5 #[.agg #[.int .u16 (u16 aS), .int .u16 (u16 aI)], .agg #[.int .u16 (u16 bS), .int .u16 (u16 bI)], .int .u16 (u16 c), .int .u16 (u16 d)] w fun e w' => e = .returned (.bool true) ∧ Below w.heap.size w w' := by
  cases hf : flowsB aS aI bS bI
  · cases hm : (((aS &&& ~~~bS) ||| (bI &&& ~~~aI)) &&& ~~~c == 0#16)
    · exact more_no_no aS aI bS bI c d hf hm w
    · exact more_no_yes aS aI bS bI c d hf hm w
  · cases hm : (((aS &&& ~~~bS) ||| (bI &&& ~~~aI)) &&& ~~~c == 0#16)
    · exact more_yes_no aS aI bS bI c d hf hm w
    · exact more_yes_yes aS aI bS bI c d hf hm w
end Go.Proofs.Ytdamljjbeaomoaa
