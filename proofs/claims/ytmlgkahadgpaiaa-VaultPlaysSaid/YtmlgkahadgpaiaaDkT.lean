/- Chapter 07: the reference's New. -/
import Derived.Test.YtmlgkahadgpaiaaDkS3
import Derived.Handy
namespace Go.Proofs.Ytmlgkahadgpaiaa.Dk
open Go.RowKit _root_.Go.Proofs.Ytmlgkahadgpaiaa.Own
set_option linter.unusedVariables false
set_option linter.unusedSimpArgs false
theorem infoU8 : ∃ i : TypeInfo, Try.prog.info? 5 = some i ∧ i.size = 1 ∧ i.bytes = 1 ∧ i.zero = some (.int .u8 0) := by
  have h : (Try.prog.info? 5).map (fun i => (i.zero, i.size, i.bytes)) = some (some (.int .u8 0), 1, 1) := by kernel_rfl
  obtain ⟨i, hi, hq⟩ := Option.map_eq_some_iff.1 h
  simp only [Prod.mk.injEq] at hq
  exact ⟨i, hi, hq.2.1, hq.2.2, hq.1⟩
def RD0 (n : Nat) : RD := { all := List.replicate (n * 128) 0, off := false, fuse := -1, keep := 0, writes := 0 }
theorem RNew_calls (n : Nat) (h2 : n ≤ 1024) (w : World) : Calls Try.prog 28 #[.int .i64 n] w fun e w' => ∃ q, e = .returned (.agg ⟨rcells q (n * 128) (RD0 n)⟩) ∧ w.heap.size ≤ q ∧ w'.heap[q]? = some (.cells ⟨bys (RD0 n).all⟩ 5 (0, 0)) ∧ Below w.heap.size w w' := by
  obtain ⟨i, i1, i2, i3, i4⟩ := infoU8
  obtain ⟨m, hm⟩ : ∃ m : Nat, n * 128 = m := ⟨_, rfl⟩
  have hxs : madeCells (Value.int .u8 0).cells (m * i.size) = ⟨bys (List.replicate m 0)⟩ := by
    rw [i2, Nat.mul_one]
    refine (made_all (.int .u8 0) 1 m (by decide)).trans ?_
    simp [bys, nB]
  have f1 : (128 : Int) * n = m := by omega
  have H0 := At.refl w
  go_enter Try.func28, Try.ntmps28
  go_wp2_with (refine wpList_make_at rfl _ _ _ rfl 5 i (.int .u8 0) Try.underlying23 i1 i4 m rfl rfl (by rw [i3]; omega) (by omega) (bys (List.replicate m 0)) hxs ?_)
  go_returns
  subst hm
  have H1 := (H0.alloc (rcells (w.heap.size + 1) (n * 128) (RD0 n)) 62).alloc (bys (List.replicate (n * 128) 0)) 5
  have hr := H1.row 0 rfl
  rw [show (w.alloc (.cells ⟨rcells (w.heap.size + 1) (n * 128) (RD0 n)⟩ 62 (0, 0))).heap.size = w.heap.size + 1 by simp] at hr
  exact ⟨w.heap.size + 1, rfl, by omega, hr, H1.below⟩
end Go.Proofs.Ytmlgkahadgpaiaa.Dk
