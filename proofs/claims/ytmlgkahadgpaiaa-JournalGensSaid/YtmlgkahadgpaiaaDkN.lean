/- Chapter 07: New. -/
import Derived.Test.YtmlgkahadgpaiaaDkW
import Derived.Laws.MakeOwn
namespace Go.Proofs.Ytmlgkahadgpaiaa.Dk
open Go.RowKit _root_.Go.Proofs.Ytmlgkahadgpaiaa.Own
set_option linter.unusedVariables false
set_option linter.unusedSimpArgs false
theorem wpList_make_at {P : Program} {w : World} {ops : Array Oper} {rest : List Oper} {o : Oper} {a : Act} {Q : Exit → Act → World → Prop}
    (hg : o.guard = none) (l c : Operand) (t : TypeId) (hop : o.op = Op.makeSlice t l c) (e : TypeId) (i : TypeInfo) (z : Value) (ht : P.underlying t = some (.slice e)) (hi : P.info? e = some i) (hz : i.zero = some z)
    (n : Nat) (hl : a.eval l = .int .i64 (n : Int)) (hc : a.eval c = .int .i64 (n : Int)) (hbytes : i.bytes * n ≤ 281474976710656) (h63 : n ≤ 9223372036854775807) (xs : List Value) (hxs : madeCells z.cells (n * i.size) = ⟨xs⟩)
    (hK : wpList P ops Q rest (a.put o.dst (.slice (some ⟨w.heap.size, 0, none⟩) n n)) (w.alloc (.cells ⟨xs⟩ e))) : wpList P ops Q (o :: rest) a w := by
  refine wpList_plain hg fun K hK' => ?_
  have hb : (i.bytes : Int) * (n : Int) ≤ 281474976710656 := by
    have h : ((i.bytes * n : Nat) : Int) ≤ 281474976710656 := by omega
    rwa [Int.natCast_mul] at h
  have hrun := run_make (P := P) w t e i z ht hi hz .i64 .i64 n n (by omega) (Int.le_refl _) hb (by omega)
  simp only [Int.toNat_natCast, hxs] at hrun
  unfold Oper.wp
  simp [execOp, hop, hl, hc, hrun, Result.andThen]
  exact hK' _ _ hK
theorem made_all (x : Value) (k m : Nat) (hk : 0 < k) : madeCells (List.replicate k x).toArray m = ⟨List.replicate m x⟩ := by
  unfold madeCells
  apply Array.ext
  · simp
  · intro j h1 h2
    have hlt : j % k < k := Nat.mod_lt _ hk
    simp [hlt]
theorem info128 : ∃ i : TypeInfo, Try.prog.info? 91 = some i ∧ i.size = 128 ∧ i.bytes = 128 ∧ ∃ z, i.zero = some z ∧ z.cells = (List.replicate 128 (.int .u8 0)).toArray := by
  have h : (Try.prog.info? 91).map (fun i => (i.zero, i.size, i.bytes)) = some (some (.agg (List.replicate 128 (.int .u8 0)).toArray), 128, 128) := by kernel_rfl
  obtain ⟨i, hi, hq⟩ := Option.map_eq_some_iff.1 h
  simp only [Prod.mk.injEq] at hq
  refine ⟨i, hi, hq.2.1, hq.2.2, _, hq.1, by kernel_rfl⟩
def D0 (n : Nat) : D := { all := List.replicate (n * 128) 0, off := false, armed := false, left := 0, keep := 0, writes := 0 }
set_option maxHeartbeats 1000000 in
theorem New_calls (n : Nat) (h1 : 1 ≤ n) (h2 : n ≤ 1024) (w : World) : Calls Try.prog 11 #[.int .i64 n] w fun e w' => ∃ g r, e = .returned (.tuple #[.pointer (some ⟨g, 0, none⟩), .int .i64 0]) ∧ w.heap.size ≤ g ∧ w.heap.size ≤ r ∧ Is g r n n [] (D0 n) w' ∧ Below w.heap.size w w' := by
  obtain ⟨i, i1, i2, i3, z, z1, z2⟩ := info128
  have hxs : madeCells z.cells (n * i.size) = ⟨bys (List.replicate (n * 128) 0)⟩ := by
    rw [z2, i2, made_all _ _ _ (by decide)]
    simp [bys, nB]
  have H0 := At.refl w
  obtain ⟨X, hX⟩ : ∃ X, bys (List.replicate (n * 128) (0 : UInt8)) = X := ⟨_, rfl⟩
  rw [hX] at hxs
  have HX := Lib.hid hX
  have HZ := Lib.hid hxs
  have HI := Lib.hid i3
  clear hX hxs z2 i2 i3
  have m1 : decide ((n : Int) < 1) = false := by rw [decide_eq_false_iff_not]; omega
  have m2 : decide ((n : Int) > 1024) = false := by rw [decide_eq_false_iff_not]; omega
  go_enter Try.func11, Try.ntmps11
  go_wp2_with (refine wpList_make_at rfl _ _ _ rfl 91 i z Try.underlying77 i1 z1 n rfl rfl (by rw [HI.out]; omega) (by omega) X HZ.out ?_)
  go_ret2
  have H1 := (H0.alloc X 91).alloc (dcells w.heap.size n n (D0 n)) 79
  refine ⟨w.heap.size + 1, w.heap.size, rfl, by omega, by omega, ⟨?_, ?_, by simp [D0]⟩, H1.below⟩
  · have hr := H1.row 0 rfl
    rw [show (w.alloc (.cells ⟨X⟩ 91 (0, 0))).heap.size = w.heap.size + 1 by simp] at hr
    exact hr
  · have := H1.row 1 rfl
    rw [show bys (D0 n).all = X from HX.out, List.append_nil]
    exact this
theorem NewBad_calls (n : Int) (h : n < 1 ∨ n > 1024) (w : World) : Calls Try.prog 11 #[.int .i64 n] w fun e w' => e = .returned (.tuple #[.pointer none, .int .i64 8]) ∧ Below w.heap.size w w' := by
  by_cases h1 : n < 1
  · have m1 := decide_eq_true h1
    go_enter Try.func11, Try.ntmps11
    go_wp2_with fail
    go_ret2
    exact ⟨rfl, Below.refl _ _⟩
  · have m1 := decide_eq_false h1
    have m2 : decide (n > 1024) = true := by rw [decide_eq_true_eq]; omega
    go_enter Try.func11, Try.ntmps11
    go_wp2_with fail
    go_ret2
    exact ⟨rfl, Below.refl _ _⟩
end Go.Proofs.Ytmlgkahadgpaiaa.Dk
