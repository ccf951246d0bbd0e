/- Arguments opened: slices of bytes, each as one list of bytes. -/
import Derived.Test.YtmlgkahadgpaiaaMem
import Derived.ProofKit
import Derived.SizedLaws
import Derived.Deep.Matrix
namespace Go.Proofs.Ytmlgkahadgpaiaa.Own
open Go.ChangeShapes Go.WideShapes Go.ChangeAt Go.RowKit
section
variable {P : Program} {H : Type} {enc : TypeId × Value → H} {w : World} {base : Nat} {spare : Nat → Bool} {held : Bool}
theorem bytes_of_ints : ∀ (zs : List Int), (∀ n ∈ zs, (Lit.int .u8 n).wf = true) → ∃ xs : List UInt8, zs = xs.map nB
  | [], _ => ⟨[], rfl⟩
  | z :: zs, h => by
    obtain ⟨x, rfl⟩ := u8_of z (h z (by simp))
    obtain ⟨xs, rfl⟩ := bytes_of_ints zs (fun n hn => h n (by simp [hn]))
    exact ⟨x :: xs, rfl⟩
theorem rd_ints {a : Addr} {zs : List Int} (hw : ∀ n ∈ zs, (Lit.int .u8 n).wf = true) (hc : ∀ i, i < zs.length → w.cell? (a.add i) = some (.int .u8 (zs.getD i 0))) (len : Nat) (hl : len ≤ zs.length) :
    ∃ xs : List UInt8, xs.length = len ∧ Rd w (some a) (bys xs) := by
  obtain ⟨xs, rfl⟩ := bytes_of_ints zs hw
  rw [List.length_map] at hl
  refine ⟨xs.take len, by rw [List.length_take]; omega, ?_⟩
  have h : Rd w (some a) (bys xs) := by
    intro i hi
    rw [bys_length] at hi
    refine ⟨a, rfl, ?_⟩
    rw [hc i (by simpa using hi)]
    simp [bys, hi]
  have h2 := h.take len
  rw [show (bys xs).take len = bys (xs.take len) from by simp [bys, List.map_take]] at h2
  exact h2
theorem open_bytes {t e : TypeId} {v : Value} {d : DataW H} {p : List MemPlace} (ht : P.underlying t = some (.slice e)) (he : P.underlying e = some (.int .u8)) (hc : P.cellsOf e = 1)
    (hval : Value.okWide P w .any base t v) (h : DataW.Trod enc P w 0 (fun _ => true) held t v d p) :
    ∃ (A : Option Addr) (cap : Nat) (xs : List UInt8), v = .slice A xs.length cap ∧ xs.length ≤ cap ∧ xs.length ≤ maxLen ∧ (A = none → cap = 0) ∧ Rd w A (bys xs) := by
  obtain ⟨a0, len, cap, rfl⟩ := okWide_slice ht hval
  obtain ⟨fuel, hf⟩ := h
  rcases open_ints ht he hc hf with ⟨hcs, -⟩ | ⟨a, len', cap', zs, hcs, _, hl, hm, hz, -, hcell, hwz⟩
  · simp [Value.cells] at hcs
    obtain ⟨rfl, rfl, rfl⟩ := hcs
    exact ⟨none, 0, [], rfl, Nat.le_refl _, by decide, fun _ => rfl, Rd.nil _ _⟩
  · simp [Value.cells] at hcs
    obtain ⟨rfl, rfl, rfl⟩ := hcs
    simp only [if_true] at hz
    obtain ⟨xs, rfl, hx⟩ := rd_ints hwz hcell len (by omega)
    exact ⟨some a, cap, xs, rfl, hl, Nat.le_trans hl hm, (fun h => nomatch h), hx⟩
end
end Go.Proofs.Ytmlgkahadgpaiaa.Own
