/- An argument that is a slice of slices of bytes, opened as one list of parts. -/
import Derived.Test.YtmlgkahadgpaiaaOpens
import Derived.Test.YtmlgkahadgpaiaaCrcC
import Derived.Deep.Matrix
namespace Go.Proofs.Ytmlgkahadgpaiaa
open Go.ChangeShapes Go.WideShapes Go.ChangeAt Go.RowKit _root_.Go.Proofs.Ytmlgkahadgpaiaa.Own Go.Deep
theorem open_rows2 {P : Program} {H : Type} {enc : TypeId × Value → H} {w : World} {base : Nat} {held : Bool} {t e q : TypeId} {v : Value} {d : DataW H} {p : List MemPlace} (ht : P.underlying t = some (.slice e)) (he : P.underlying e = some (.slice q)) (hq : P.underlying q = some (.int .u8)) (ce : P.cellsOf e = 1) (cq : P.cellsOf q = 1)
    (hval : Value.okWide P w .any base t v) (h : DataW.Trod enc P w 0 (fun _ => true) held t v d p) :
    ∃ (A : Option Addr) (cap : Nat) (ps : List (Option Addr × Nat × List UInt8)), v = .slice A ps.length cap ∧ ps.length ≤ cap ∧ ps.length ≤ maxLen ∧ (A = none → cap = 0) ∧ Rd w A (sls ps) ∧
      ∀ p ∈ ps, (p.1 = none → p.2.1 = 0) ∧ p.2.2.length ≤ maxLen ∧ p.2.2.length ≤ p.2.1 ∧ Rd w p.1 (bys p.2.2) := by
  obtain ⟨a0, len, cap, rfl⟩ := okWide_slice ht hval
  obtain ⟨fuel, hf⟩ := h
  rcases open_int_rows ht he hq ce cq hf with ⟨hcs, -⟩ | ⟨a, len', cap', A, L, C, Z, hcs, _, hl, hm, -, hx⟩
  · simp [Value.cells] at hcs
    obtain ⟨rfl, rfl, rfl⟩ := hcs
    exact ⟨none, 0, [], rfl, Nat.le_refl _, by decide, fun _ => rfl, Rd.nil _ _, by simp⟩
  · simp [Value.cells] at hcs
    obtain ⟨rfl, rfl, rfl⟩ := hcs
    have each : ∀ r, r < cap → ∃ xs : List UInt8, xs.length = L r ∧ Rd w (A r) (bys xs) := by
      intro r hr
      obtain ⟨h1, h2, h3, h4, h5, h6, h7⟩ := hx r hr
      cases hA : A r with
      | none =>
        have := h6 hA
        exact ⟨[], by simp; omega, Rd.nil _ _⟩
      | some a' =>
        obtain ⟨xs, hxl, hxr⟩ := rd_ints h5 (fun i hi => (h7 a' hA).2 i (by omega)) (L r) (by omega)
        exact ⟨xs, hxl, hxr⟩
    obtain ⟨X, hX⟩ := choose_lt each
    have hlen : ((List.range len).map fun r => (A r, C r, X r)).length = len := by simp
    refine ⟨some a, cap, (List.range len).map fun r => (A r, C r, X r), by rw [hlen], by rw [hlen]; exact hl, by rw [hlen]; exact Nat.le_trans hl hm, (fun h => nomatch h), ?_, ?_⟩
    · intro i hi
      have hil : i < len := by simpa [sls] using hi
      refine ⟨a, rfl, ?_⟩
      rw [(hx i (by omega)).1]
      simp [sls, (hX i (by omega)).1]
    · intro p hp
      obtain ⟨r, hr, rfl⟩ := List.mem_map.1 hp
      have hr := List.mem_range.1 hr
      obtain ⟨h1, h2, h3, h4, h5, h6, h7⟩ := hx r (by omega)
      exact ⟨h6, by rw [(hX r (by omega)).1]; omega, by rw [(hX r (by omega)).1]; exact h2, (hX r (by omega)).2⟩
end Go.Proofs.Ytmlgkahadgpaiaa
