/- Layer 17: an argument opened: a slice of nodes. -/
import Derived.Test.YtdlfdkdcnabpoaaDoorPaB
import Derived.ProofKit
import Derived.SizedLaws
import Derived.Deep.Matrix
import Derived.Deep.SlicePairs
namespace Go.Proofs.YtdlfdkdcnabpoaaDoor.Pa
open Go.ChangeShapes Go.WideShapes Go.ChangeAt Go.RowKit Go.Deep
open _root_.Go.Proofs.YtdlfdkdcnabpoaaDoor.Own
section
variable {H : Type} {enc : TypeId × Value → H} {w : World} {base : Nat} {held : Bool}
theorem pick_lt {α : Type} [Inhabited α] {n : Nat} {p : Nat → α → Prop} (h : ∀ i, i < n → ∃ x, p i x) : ∃ X : Nat → α, ∀ i, i < n → p i (X i) := by
  refine ⟨fun i => if hi : i < n then Classical.choose (h i hi) else default, fun i hi => ?_⟩
  simp only [dif_pos hi]
  exact Classical.choose_spec (h i hi)
set_option maxRecDepth 100000 in
theorem open_nodes {v : Value} {d : DataW H} {p : List MemPlace} (hval : Value.okWide Tryd.prog w .any base 37 v) (h : DataW.Trod enc Tryd.prog w 0 (fun _ => true) held 37 v d p) :
    ∃ (A : Option Addr) (cap : Nat) (l : List Nd), v = .slice A l.length cap ∧ l.length ≤ cap ∧ Rd w A (ndC l) := by
  obtain ⟨a0, len, cap, rfl⟩ := okWide_slice Tryd.underlying37 hval
  obtain ⟨fuel, hf⟩ := h
  rcases open_slice_pairs Tryd.underlying37 Tryd.underlying46 (by kernel_rfl) rfl rfl (by kernel_rfl) (by kernel_rfl) hf with ⟨hcs, -⟩ | ⟨a, len', cap', m, n, V0, V1, D0, D1, P0, P1, hcs, _, hl, hm, hmm, -, hx⟩
  · simp [Value.cells] at hcs
    obtain ⟨rfl, rfl, rfl⟩ := hcs
    exact ⟨none, 0, [], rfl, Nat.le_refl _, Rd.nil _ _⟩
  · simp [Value.cells] at hcs
    obtain ⟨rfl, rfl, rfl⟩ := hcs
    simp only [if_true] at hmm
    subst hmm
    have each : ∀ i, i < m → ∃ x : Nd, w.cell? (a.add (i * 2)) = some (.int .i64 x.k) ∧ w.cell? (a.add (i * 2 + 1)) = some (.int .i64 x.n) := by
      intro i hi
      obtain ⟨h1, h2, h3, h4⟩ := hx i hi
      obtain ⟨y0, e0, _, _⟩ := DataW.trod_int Tryd.underlying3 h3
      obtain ⟨y1, e1, _, _⟩ := DataW.trod_int Tryd.underlying3 h4
      simp at e0 e1
      exact ⟨⟨y0, y1⟩, by rw [h1, e0], by rw [h2, e1]⟩
    haveI : Inhabited Nd := ⟨⟨0, 0⟩⟩
    obtain ⟨X, hX⟩ := pick_lt each
    have hlen : ((List.range len).map X).length = len := by simp
    refine ⟨some a, m, (List.range len).map X, by rw [hlen], by rw [hlen]; exact hl, fun i hi => ⟨a, rfl, ?_⟩⟩
    have hi' := hi
    rw [ndC_length, hlen] at hi'
    have hj : i / 2 < len := by omega
    have hx1 : ((List.range len).map X)[i / 2]? = some (X (i / 2)) := by simp [hj]
    obtain ⟨c1, c2⟩ := ndC_at _ (i / 2) _ hx1
    obtain ⟨d1, d2⟩ := hX (i / 2) (by omega)
    rw [← List.getElem?_eq_getElem hi]
    rcases Nat.mod_two_eq_zero_or_one i with e | e
    · rw [show i / 2 * 2 = i by omega] at c1 d1
      rw [c1, d1]
    · rw [show i / 2 * 2 + 1 = i by omega] at c2 d2
      rw [c2, d2]
end
end Go.Proofs.YtdlfdkdcnabpoaaDoor.Pa
