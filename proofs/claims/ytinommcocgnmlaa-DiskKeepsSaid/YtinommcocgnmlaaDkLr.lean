/- Arguments opened: a slice of pairs of bytes. -/
import Derived.Test.YtinommcocgnmlaaDkL
import Derived.Test.YtinommcocgnmlaaDkRow
import Derived.ProofKit
import Derived.SizedLaws
import Derived.OpenShut
import Derived.Deep.SlicePairs
namespace Go.Proofs.Ytinommcocgnmlaa.Dk
open Go.ChangeShapes Go.WideShapes Go.ChangeAt Go.RowKit Go.Joins Go.Deep
open _root_.Go.Proofs.Ytinommcocgnmlaa.Own
set_option linter.unusedVariables false
section
variable {H : Type} {enc : TypeId × Value → H} {P : Program} {w : World} {base : Nat} {spare : Nat → Bool} {held : Bool}
theorem eachArr2 {t e : TypeId} (ht : P.underlying t = some (.array 2 e)) (hC : P.cellsOf t = 2) (hE : P.cellsOf e = 1) {n : Nat} {a : Addr} {i : Nat} {cs' : List Value} {D : DataW H} {Pl : List MemPlace}
    (h1 : w.cells? base (a.add (i * P.cellsOf t)) (P.cellsOf t) = some cs') (h2 : DataW.trod enc P w base spare held n t cs' = some (D, Pl)) :
    ∃ (v0 v1 : Value) (y0 y1 : DataW H × List MemPlace) (k : Nat), w.cell? (a.add (i * 2)) = some v0 ∧ w.cell? (a.add (i * 2 + 1)) = some v1 ∧
      DataW.trod enc P w base spare held k e [v0] = some y0 ∧ DataW.trod enc P w base spare held k e [v1] = some y1 := by
  rw [hC] at h1
  obtain ⟨_, hlen, hcell⟩ := World.cells?_some h1
  obtain ⟨xs, k, hk, hxy, _, hxl, hf⟩ := DataW.trod_array ht h2
  match xs, hxl, cs', hlen with
  | [y0, y1], _, [v0, v1], _ =>
    have g0 := hf 0 (by decide)
    have g1 := hf 1 (by decide)
    have e0 := hcell 0 (by decide)
    have e1 := hcell 1 (by decide)
    rw [Go.Deep.add_add] at e0 e1
    exact ⟨v0, v1, y0, y1, k, by simpa using e0, by simpa using e1, by simpa [hE] using g0, by simpa [hE] using g1⟩
set_option maxRecDepth 100000 in
theorem open_pairs {v : Value} {d : DataW H} {p : List MemPlace} (hval : Value.okWide Try.prog w .any base 48 v) (h : DataW.Trod enc Try.prog w 0 (fun _ => true) held 48 v d p) :
    ∃ (A : Option Addr) (cap : Nat) (l : List (UInt8 × UInt8)), v = .slice A l.length cap ∧ l.length ≤ cap ∧ PairsRd w A l := by
  obtain ⟨a0, len, cap, rfl⟩ := okWide_slice Try.underlying48 hval
  obtain ⟨fuel, hf⟩ := h
  rcases open_slice Try.underlying48 hf with ⟨hcs, -⟩ | ⟨a, len', cap', m, n, D, Pl, hcs, _, hl, hm, hmm, -, hx⟩
  · simp [Value.cells] at hcs
    obtain ⟨rfl, rfl, rfl⟩ := hcs
    exact ⟨none, 0, [], rfl, Nat.le_refl _, fun j hj => absurd hj (by simp)⟩
  · simp [Value.cells] at hcs
    obtain ⟨rfl, rfl, rfl⟩ := hcs
    simp only [if_true] at hmm
    subst hmm
    have each : ∀ i, i < m → ∃ x : UInt8 × UInt8, w.cell? (a.add (i * 2)) = some (.int .u8 (nB x.1)) ∧ w.cell? (a.add (i * 2 + 1)) = some (.int .u8 (nB x.2)) := by
      intro i hi
      obtain ⟨cs', h1, h2⟩ := hx i hi
      obtain ⟨v0, v1, y0, y1, n, c0, c1, h0, h1⟩ := eachArr2 Try.underlying51 (by kernel_rfl) (by kernel_rfl) h1 h2
      obtain ⟨k, e0, -, hk⟩ := DataW.trod_int Try.underlying5 h0
      obtain ⟨b, e1, -, hb⟩ := DataW.trod_int Try.underlying5 h1
      simp at e0 e1
      subst e0 e1
      obtain ⟨b', rfl⟩ := u8_of b hb
      obtain ⟨k', rfl⟩ := u8_of k hk
      exact ⟨(k', b'), c0, c1⟩
    obtain ⟨X, hX⟩ := choose_lt each
    have hlen : ((List.range len).map X).length = len := by simp
    refine ⟨some a, m, (List.range len).map X, by rw [hlen], by rw [hlen]; exact hl, ?_⟩
    intro j hj
    rw [hlen] at hj
    refine ⟨a, rfl, ?_⟩
    rw [List.getElem_map, List.getElem_range]
    exact hX j (by omega)
end
/-- DiskKeeps, whatever comes in. -/
theorem keeps_all (A : Option Addr) (c : Nat) (l : List (UInt8 × UInt8)) (hc : l.length ≤ c) (w : World) (hR : PairsRd w A l) : Calls Try.prog 4 #[.slice A l.length c] w fun e w' => e = .returned (.bool true) ∧ Below w.heap.size w w' := by
  by_cases h1 : l.length > 60
  · exact keeps_long A l.length c h1 w
  · exact keeps_walk A c l (by omega) hc w hR
end Go.Proofs.Ytinommcocgnmlaa.Dk
