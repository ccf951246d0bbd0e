/- Chapter 07: the bytes that an act writes. -/
import Derived.Test.YtmlgkahadgpaiaaProg
import Derived.Test.YtmlgkahadgpaiaaMemIn
import Derived.Test.YtmlgkahadgpaiaaMem2
import Derived.Lib.Hide
namespace Go.Proofs.Ytmlgkahadgpaiaa.Dk
open Go.RowKit _root_.Go.Proofs.Ytmlgkahadgpaiaa.Own
set_option linter.unusedVariables false
set_option linter.unusedSimpArgs false
theorem infoB : (Try.prog.info? 5).map (fun i => (i.zero, i.size, i.bytes)) = some (some (.int .u8 0), 1, 1) := by kernel_rfl
/-- What an act writes: a byte, and one more each place. -/
def ups (b : UInt8) (n : Nat) : List UInt8 := (List.range n).map fun k => b + UInt8.ofNat k
theorem ups_length (b : UInt8) (n : Nat) : (ups b n).length = n := by simp [ups]
theorem ups_succ (b : UInt8) (n : Nat) : ups b (n + 1) = ups b n ++ [b + UInt8.ofNat n] := by simp [ups, List.range_succ]
theorem nB_up (b : UInt8) (k : Nat) (h : k < 256) : nB (b + UInt8.ofNat k) = (nB b + (k : Int)) % 256 := by
  unfold nB
  rw [UInt8.toNat_add, UInt8.toNat_ofNat']
  omega
def actLen (s : Int) : Nat := if s < -100 ∨ s > 100 then (128 + s).toNat else 128
def actV (k : Int) (i p : Int) (b : UInt8) (s : Int) : Value := .agg #[.int .u8 k, .int .i64 i, .int .i64 p, .int .u8 (nB b), .int .i8 s]
theorem Has.base {b b' : Nat} {e : TypeId} {v : Value} {xs : List Value} {w : World} (h : Has b e v xs w) (hb : b' ≤ b) : Has b' e v xs w := by
  obtain ⟨h1, h2⟩ := h
  refine ⟨h1, ?_⟩
  rcases h2 with h2 | ⟨g, cap, cur, q1, q2, q3⟩
  · exact .inl h2
  · exact .inr ⟨g, cap, cur, q1, Nat.le_trans hb q2, q3⟩
end Go.Proofs.Ytmlgkahadgpaiaa.Dk
