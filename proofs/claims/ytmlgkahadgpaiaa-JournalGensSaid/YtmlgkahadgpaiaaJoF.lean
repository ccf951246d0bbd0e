/- Chapter 09: rows as they lie; first plain law. -/
import Derived.Test.YtmlgkahadgpaiaaJoE
namespace Go.Proofs.Ytmlgkahadgpaiaa.Jo
open Go.RowKit _root_.Go.Proofs.Ytmlgkahadgpaiaa.Own
open Go.Proofs.Ytmlgkahadgpaiaa.Fr
open Go.Proofs.Ytmlgkahadgpaiaa.Dk (D Is D0 torn putRow rowB wst DOk rowB_length)
set_option linter.unusedVariables false
set_option linter.unusedSimpArgs false
theorem rows_of {w : World} {A : Option Addr} {ps : List (Option Addr × Nat × List UInt8)} (hR : Rd w A (sls ps)) (he : ∀ p ∈ ps, (p.1 = none → p.2.1 = 0) ∧ Rd w p.1 (bys p.2.2)) : Rows w A (ps.map fun p => p.2.2) := by
  intro i hi
  have hi' : i < ps.length := by rw [List.length_map] at hi; exact hi
  obtain ⟨a, ha, hc⟩ := hR i (by rw [sls_length]; exact hi')
  obtain ⟨h1, h2⟩ := he ps[i] (List.getElem_mem hi')
  refine ⟨a, ps[i].1, ps[i].2.1, ha, ?_, h1, ?_⟩
  · rw [hc]; simp [sls]
  · simpa using h2
theorem opened_rows {base : Nat} {all : List UInt8} {f m G : Nat} {v : Value} {ps : List (Option Addr × Nat × List UInt8)} {w : World} (h : Opened base all f m G v ps w) : ∃ A c, v = .slice A (ps.map fun p => p.2.2).length c ∧ Rows w A (ps.map fun p => p.2.2) := by
  obtain ⟨A, c, e, h1, h2, h3⟩ := h.has.form
  rw [sls_length] at e
  exact ⟨A, c, by rw [List.length_map]; exact e, rows_of h3 fun p hp => ⟨(h.rows p hp).1, (h.rows p hp).2.2.1⟩⟩
/-- What is opened is what stands on the disk, place by place, up to the first that is none. -/
theorem opened_eq {base : Nat} {all : List UInt8} {f m G : Nat} {v : Value} {ps : List (Option Addr × Nat × List UInt8)} {w : World} (h : Opened base all f m G v ps w) (he : ps.length = m ∨ placeD all f G ps.length = none) (bs : List (List UInt8)) (hb : bs.length ≤ m) (hs : ∀ q (hq : q < bs.length), placeD all f G q = some bs[q]) (hn : bs.length < m → placeD all f G bs.length = none) : (ps.map fun p => p.2.2) = bs := by
  have hl : ps.length = bs.length := by
    rcases Nat.lt_trichotomy ps.length bs.length with hlt | heq | hgt
    · rcases he with h1 | h1
      · omega
      · rw [hs _ hlt] at h1; cases h1
    · exact heq
    · have h1 := hn (by have := h.few; omega)
      rw [h.each _ hgt] at h1
      cases h1
  apply List.ext_getElem
  · rw [List.length_map]; exact hl
  · intro q h1 h2
    have e1 := h.each q (by omega)
    rw [hs q h2] at e1
    rw [List.getElem_map]
    exact (Option.some.inj e1).symm
end Go.Proofs.Ytmlgkahadgpaiaa.Jo
