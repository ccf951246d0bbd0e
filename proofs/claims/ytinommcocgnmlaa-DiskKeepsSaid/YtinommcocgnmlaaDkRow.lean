/- Arguments opened: an act. -/
import Derived.Test.YtinommcocgnmlaaDkB
import Derived.ProofKit
import Derived.SizedLaws
import Derived.Lib.SmallJoins
namespace Go.Proofs.Ytinommcocgnmlaa.Dk
open Go.ChangeShapes Go.WideShapes Go.ChangeAt Go.RowKit Go.Joins Go.Deep
open _root_.Go.Proofs.Ytinommcocgnmlaa.Own
section
variable {H : Type} {enc : TypeId × Value → H} {P : Program} {w : World} {base : Nat} {spare : Nat → Bool} {held : Bool}
theorem array5 {α : Type} {cs : Array α} (h : cs.size = 5) : ∃ c0 c1 c2 c3 c4, cs = #[c0, c1, c2, c3, c4] := by
  obtain ⟨l⟩ := cs
  match l, h with
  | [c0, c1, c2, c3, c4], _ => exact ⟨c0, c1, c2, c3, c4, rfl⟩
theorem open_agg5 {r : Reach} {b0 : Nat} {t : TypeId} {f0 f1 f2 f3 f4 : Field} {v : Value} {d : DataW H} {p : List MemPlace} (hs : P.underlying t = some (.struct #[f0, f1, f2, f3, f4])) (hone : oneCellFields P #[f0, f1, f2, f3, f4] = true) (hC : P.cellsOf t = 5)
    (hv : Value.okWide P w r b0 t v) (h : DataW.Trod enc P w base spare held t v d p) :
    ∃ (v0 v1 v2 v3 v4 : Value) (y0 y1 y2 y3 y4 : DataW H × List MemPlace) (n : Nat), v = .agg #[v0, v1, v2, v3, v4] ∧
      DataW.trod enc P w base spare held n f0.type [v0] = some y0 ∧ DataW.trod enc P w base spare held n f1.type [v1] = some y1 ∧ DataW.trod enc P w base spare held n f2.type [v2] = some y2 ∧ DataW.trod enc P w base spare held n f3.type [v3] = some y3 ∧ DataW.trod enc P w base spare held n f4.type [v4] = some y4 := by
  obtain ⟨cs, rfl, hsz⟩ := okWide_struct hs hv
  obtain ⟨c0, c1, c2, c3, c4, rfl⟩ := array5 (hsz.trans hC)
  obtain ⟨fuel, hf⟩ := h
  obtain ⟨xs, n, _, hx, hl, hlen, hfl⟩ := DataW.trod_struct hs hf
  match xs, hlen with
  | [y0, y1, y2, y3, y4], _ =>
    have h0 := hfl 0 f0 rfl
    have h1 := hfl 1 f1 rfl
    have h2 := hfl 2 f2 rfl
    have h3 := hfl 3 f3 rfl
    have h4 := hfl 4 f4 rfl
    obtain ⟨o0, k0⟩ := hone_of hone 0 f0 rfl
    obtain ⟨o1, k1⟩ := hone_of hone 1 f1 rfl
    obtain ⟨o2, k2⟩ := hone_of hone 2 f2 rfl
    obtain ⟨o3, k3⟩ := hone_of hone 3 f3 rfl
    obtain ⟨o4, k4⟩ := hone_of hone 4 f4 rfl
    exact ⟨c0, c1, c2, c3, c4, y0, y1, y2, y3, y4, n, rfl, by simpa [Value.cells, o0, k0] using h0, by simpa [Value.cells, o1, k1] using h1, by simpa [Value.cells, o2, k2] using h2, by simpa [Value.cells, o3, k3] using h3, by simpa [Value.cells, o4, k4] using h4⟩
set_option maxRecDepth 100000 in
theorem open_act {v : Value} {d : DataW H} {p : List MemPlace} {sp : Nat → Bool} (hval : Value.okWide Try.prog w .any base 35 v) (h : DataW.Trod enc Try.prog w 0 sp held 35 v d p) :
    ∃ (k i q : Int) (b : UInt8) (s : Int), v = actV k i q b s ∧ (-128 ≤ s ∧ s ≤ 127) := by
  obtain ⟨v0, v1, v2, v3, v4, y0, y1, y2, y3, y4, n, rfl, h0, h1, h2, h3, h4⟩ := open_agg5 Try.underlying35 (by kernel_rfl) (by kernel_rfl) hval h
  obtain ⟨k, e0, -, -⟩ := DataW.trod_int Try.underlying5 h0
  obtain ⟨i, e1, -, -⟩ := DataW.trod_int Try.underlying3 h1
  obtain ⟨q, e2, -, -⟩ := DataW.trod_int Try.underlying3 h2
  obtain ⟨b, e3, -, hb⟩ := DataW.trod_int Try.underlying5 h3
  obtain ⟨s, e4, -, hs⟩ := DataW.trod_int Try.underlying33 h4
  simp at e0 e1 e2 e3 e4
  subst e0 e1 e2 e3 e4
  obtain ⟨b', rfl⟩ := u8_of b hb
  refine ⟨k, i, q, b', s, rfl, ?_⟩
  simp [Lit.wf] at hs
  exact ⟨Int.le_trans (by decide) hs.1, Int.le_trans hs.2 (by decide)⟩
end
end Go.Proofs.Ytinommcocgnmlaa.Dk
