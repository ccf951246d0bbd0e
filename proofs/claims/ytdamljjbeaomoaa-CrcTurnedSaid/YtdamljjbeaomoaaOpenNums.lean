/- Arguments opened: numbers of 32 bits. -/
import Derived.Test.YtdamljjbeaomoaaCrcP
namespace Go.Proofs.Ytdamljjbeaomoaa.Own
theorem u32_of (a : Int) (h : (Lit.int .u32 a).wf = true) : ∃ x, a = nW x := by
  have h0 : 0 ≤ a ∧ a < 4294967296 := by
    simp [Lit.wf, IntKind.min, IntKind.max, IntKind.bits, IntKind.signed] at h
    omega
  exact ⟨BitVec.ofNat 32 a.toNat, by unfold nW; rw [BitVec.toNat_ofNat]; omega⟩
end Go.Proofs.Ytdamljjbeaomoaa.Own
