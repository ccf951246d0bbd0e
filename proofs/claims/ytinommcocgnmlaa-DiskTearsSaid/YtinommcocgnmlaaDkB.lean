/- Chapter 07: the bytes that an act writes. -/
import Derived.Test.YtinommcocgnmlaaProg
import Derived.Test.YtinommcocgnmlaaMemIn
import Derived.Test.YtinommcocgnmlaaMem2
import Derived.Lib.Hide
namespace Go.Proofs.Ytinommcocgnmlaa.Dk
open Go.RowKit _root_.Go.Proofs.Ytinommcocgnmlaa.Own
set_option linter.unusedVariables false
set_option linter.unusedSimpArgs false
theorem infoB : (Try.prog.info? 5).map (fun i => (i.zero, i.size, i.bytes)) = some (some (.int .u8 0), 1, 1) := by kernel_rfl
/-- What an act writes: a byte, and one more each place. -/
def ups (b : UInt8) (n : Nat) : List UInt8 := (List.range n).map fun k => b + UInt8.ofNat k
theorem ups_length (b : UInt8) (n : Nat) : (ups b n).length = n := by simp [ups]
theorem ups_succ (b : UInt8) (n : Nat) : ups b (n + 1) = ups b n ++ [b + UInt8.ofNat n] := by simp [ups, List.range_succ]
theorem nB_up (b : UInt8) (k : Nat) (h : k < 256) : nB (b + UInt8.ofNat k) = (nB b + (k : Int)) % 256 := by
  unfold nB
  rw [UInt8.toNat_add, UInt8.toNat_ofNat']
  omega
def actLen (s : Int) : Nat := if s < -100 ∨ s > 100 then (128 + s).toNat else 128
def actV (k : Int) (i p : Int) (b : UInt8) (s : Int) : Value := .agg #[.int .u8 k, .int .i64 i, .int .i64 p, .int .u8 (nB b), .int .i8 s]
theorem Has.base {b b' : Nat} {e : TypeId} {v : Value} {xs : List Value} {w : World} (h : Has b e v xs w) (hb : b' ≤ b) : Has b' e v xs w := by
  obtain ⟨h1, h2⟩ := h
  refine ⟨h1, ?_⟩
  rcases h2 with h2 | ⟨g, cap, cur, q1, q2, q3⟩
  · exact .inl h2
  · exact .inr ⟨g, cap, cur, q1, Nat.le_trans hb q2, q3⟩
set_option maxHeartbeats 1000000 in
theorem Bytes_calls (k i p : Int) (b : UInt8) (s : Int) (hs : -128 ≤ s ∧ s ≤ 127) (w : World) :
    Calls Try.prog 17 #[actV k i p b s] w fun e w' => ∃ v, e = .returned v ∧ Has w.heap.size 5 v (bys (ups b (actLen s))) w' ∧ Below w.heap.size w w' := by
  have H0 := (At.refl w).alloc [.int .u8 k, .int .i64 i, .int .i64 p, .int .u8 (nB b), .int .i8 s] 35
  unfold actV
  obtain ⟨N, hN, hN1⟩ : ∃ N : Nat, actLen s = N ∧ N ≤ 255 := ⟨_, rfl, by unfold actLen; split <;> omega⟩
  have hcase : (s < -100 ∧ (N : Int) = 128 + s) ∨ (¬ s < -100 ∧ s > 100 ∧ (N : Int) = 128 + s) ∨ (¬ s < -100 ∧ ¬ s > 100 ∧ N = 128) := by
    unfold actLen at hN
    split at hN <;> omega
  rw [hN]
  clear hN
  have hlo := hs.1
  have hhi := hs.2
  have hb0 := u8_lo b
  have hb1 := u8_hi b
  rcases hcase with ⟨h1, h2⟩ | ⟨h0, h1, h2⟩ | ⟨h0, h1, h2⟩
  all_goals
    first | have m1 : decide (s < -100) = true := decide_eq_true h1 | have m1 : decide (s < -100) = false := decide_eq_false h0
    try have m2 : decide (s > 100) = true := decide_eq_true h1
    try have m2 : decide (s > 100) = false := decide_eq_false h1
    go_enter Try.func17, Try.ntmps17
    go_wp2_with fail
    go_loopw [4, 5] (fun v4 v5 wr => ∃ j : Nat, j ≤ N ∧ v5 = .int .i64 j ∧ Hid (Has (w.heap.size + 1) 5 v4 (bys (ups b j)) wr) ∧ Hid (At w [(w.heap.size, [.int .u8 k, .int .i64 i, .int .i64 p, .int .u8 (nB b), .int .i8 s], 35)] wr)) (fun _ v5 _ => N - (intOf v5).toNat)
    case atStart => exact ⟨0, Nat.zero_le _, rfl, Lib.hid (Has.nil _ _ _), Lib.hid H0⟩
    case round =>
      clear H0
      obtain ⟨j, hj, rfl, HV, HA⟩ := hrel
      by_cases hlt : j < N
      · first | (have hd : decide ((j : Int) < 128 + s) = true := by rw [decide_eq_true_eq]; omega) | (have hd : decide ((j : Int) < 128) = true := by rw [decide_eq_true_eq]; omega)
        have hR := (HA.out.rules _ (List.mem_cons_self ..)).1
        have hx3 := hR 3
        simp at hx3
        clear hR m1
        try clear m2
        have hu := nB_up b j (by omega)
        have hbs := (HA.out.rules _ (List.mem_cons_self ..)).2.2.1
        simp only at hbs
        go_wp2_with (at_builtin; refine wpList_app rfl _ _ 29 rfl (w.heap.size + 1) 5 (.int .u8 0) 1 Try.underlying29 infoB rfl _ (bys (ups b j)) rfl ?hOwn _ _ _ [.int .u8 (nB (b + UInt8.ofNat j))] rfl rfl ?hNil ?hRd ?h1 ?hCap ?hCap2 ?hBase ?_)
        case hOwn => exact World.ownsRow.alloc HV.out _
        case hNil => exact fun h => nomatch h
        case hRd => rw [hu]; exact Rd.mark _ _ _
        case h1 => simp [Value.oneCell']
        case hCap => rw [bys_length, ups_length]; simp [maxLen]; omega
        case hCap2 => rw [bys_length, ups_length]; simp; omega
        case hBase => simp; omega
        intro v' w2 hv hg
        have HV2 := Lib.hid hv
        have HA2 := Lib.hid (At.grown (HA.out.other _) hg (w.heap.size + 1) (fun r hr => (Has.blk HV.out r hr).1) (by omega) (by simp))
        clear hv hg hu
        go_wp2_with fail
        go_roundw
        case rel => exact ⟨j + 1, by omega, by simp, Lib.hid (by rw [ups_succ, bys_append, show bys [b + UInt8.ofNat j] = [.int .u8 (nB (b + UInt8.ofNat j))] from rfl, nB_up b j (by omega)]; exact HV2.out), HA2⟩
        case measure => simp [intOf]; omega
      · obtain rfl : j = N := by omega
        first | (have hd : decide ((j : Int) < 128 + s) = false := by rw [decide_eq_false_iff_not]; omega) | (have hd : decide ((j : Int) < 128) = false := by rw [decide_eq_false_iff_not]; omega)
        clear m1
        try clear m2
        go_wp2_with fail
        go_ret
        exact ⟨_, rfl, Has.base HV.out (by omega), HA.out.below⟩
end Go.Proofs.Ytinommcocgnmlaa.Dk
