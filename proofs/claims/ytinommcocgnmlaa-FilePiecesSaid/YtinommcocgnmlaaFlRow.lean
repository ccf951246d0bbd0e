/- Arguments opened: a slice of strings. -/
import Derived.Test.YtinommcocgnmlaaFlA
import Derived.ProofKit
import Derived.SizedLaws
import Derived.Deep.Strs
namespace Go.Proofs.Ytinommcocgnmlaa.PFileTells
open Go.ChangeShapes Go.WideShapes Go.ChangeAt Go.RowKit Go.Deep
open Go.Proofs.YtinommcocgnmlaaW.PrintWords Go.Proofs.YtinommcocgnmlaaW.PrintLast Go.Proofs.YtinommcocgnmlaaW.PrintMore
open _root_.Go.Proofs.Ytinommcocgnmlaa.Own
section
variable {H : Type} {enc : TypeId × Value → H} {w : World} {base : Nat} {held : Bool}
set_option maxRecDepth 100000 in
theorem open_string_list {v : Value} {d : DataW H} {p : List MemPlace} (hval : Value.okWide Try.prog w .any base 68 v) (h : DataW.Trod enc Try.prog w 0 (fun _ => true) held 68 v d p) :
    ∃ (A : Option Addr) (cap : Nat) (xs : List ByteArray), v = .slice A xs.length cap ∧ xs.length ≤ cap ∧ Rd w A (pw_strs xs) := by
  obtain ⟨a0, len, cap, rfl⟩ := okWide_slice Try.underlying68 hval
  obtain ⟨fuel, hf⟩ := h
  rcases open_strs Try.underlying68 Try.underlying9 (by kernel_rfl) hf with ⟨hcs, -⟩ | ⟨a, len', cap', m, S, hcs, _, hl, hm, hmm, -, hx⟩
  · simp [Value.cells] at hcs
    obtain ⟨rfl, rfl, rfl⟩ := hcs
    exact ⟨none, 0, [], rfl, Nat.le_refl _, Rd.nil _ _⟩
  · simp [Value.cells] at hcs
    obtain ⟨rfl, rfl, rfl⟩ := hcs
    simp only [if_true] at hmm
    have hlen : ((List.range len).map S).length = len := by simp
    refine ⟨some a, cap, (List.range len).map S, by rw [hlen], by rw [hlen]; exact hl, fun i hi => ⟨a, rfl, ?_⟩⟩
    have hi' : i < len := by simpa [pw_strs] using hi
    rw [(hx i (by omega)).1]
    simp [pw_strs]
end
end Go.Proofs.Ytinommcocgnmlaa.PFileTells
