/- Arguments opened: a slice of acts. -/
import Derived.Test.YtinommcocgnmlaaDkP
import Derived.Test.YtinommcocgnmlaaDkRow
import Derived.ProofKit
import Derived.SizedLaws
import Derived.Deep.SlicePairs
namespace Go.Proofs.Ytinommcocgnmlaa.Dk
open Go.ChangeShapes Go.WideShapes Go.ChangeAt Go.RowKit Go.Joins Go.Deep
open _root_.Go.Proofs.Ytinommcocgnmlaa.Own
set_option linter.unusedVariables false
section
variable {H : Type} {enc : TypeId × Value → H} {P : Program} {w : World} {base : Nat} {spare : Nat → Bool} {held : Bool}
theorem each5 {e : TypeId} {f0 f1 f2 f3 f4 : Field} (he : P.underlying e = some (.struct #[f0, f1, f2, f3, f4])) (hone : oneCellFields P #[f0, f1, f2, f3, f4] = true)
    (hC : P.cellsOf e = 5) {n : Nat} {a : Addr} {i : Nat} {cs' : List Value} {D : DataW H} {Pl : List MemPlace}
    (h1 : w.cells? base (a.add (i * P.cellsOf e)) (P.cellsOf e) = some cs') (h2 : DataW.trod enc P w base spare held n e cs' = some (D, Pl)) :
    ∃ (v0 v1 v2 v3 v4 : Value) (y0 y1 y2 y3 y4 : DataW H × List MemPlace) (k : Nat), (∀ f v, [v0, v1, v2, v3, v4][f]? = some v → w.cell? (a.add (i * 5 + f)) = some v) ∧
      DataW.trod enc P w base spare held k f0.type [v0] = some y0 ∧ DataW.trod enc P w base spare held k f1.type [v1] = some y1 ∧ DataW.trod enc P w base spare held k f2.type [v2] = some y2 ∧ DataW.trod enc P w base spare held k f3.type [v3] = some y3 ∧ DataW.trod enc P w base spare held k f4.type [v4] = some y4 := by
  rw [hC] at h1
  obtain ⟨_, hlen, hcell⟩ := World.cells?_some h1
  obtain ⟨xs, k, hk, hxy, _, hxl, hf⟩ := DataW.trod_struct he h2
  match xs, hxl, cs', hlen with
  | [y0, y1, y2, y3, y4], _, [v0, v1, v2, v3, v4], _ =>
    have g0 := hf 0 f0 rfl
    have g1 := hf 1 f1 rfl
    have g2 := hf 2 f2 rfl
    have g3 := hf 3 f3 rfl
    have g4 := hf 4 f4 rfl
    obtain ⟨o0, k0⟩ := hone_of hone 0 f0 rfl
    obtain ⟨o1, k1⟩ := hone_of hone 1 f1 rfl
    obtain ⟨o2, k2⟩ := hone_of hone 2 f2 rfl
    obtain ⟨o3, k3⟩ := hone_of hone 3 f3 rfl
    obtain ⟨o4, k4⟩ := hone_of hone 4 f4 rfl
    refine ⟨v0, v1, v2, v3, v4, y0, y1, y2, y3, y4, k, ?_, by simpa [o0, k0] using g0, by simpa [o1, k1] using g1, by simpa [o2, k2] using g2, by simpa [o3, k3] using g3, by simpa [o4, k4] using g4⟩
    intro f v hfv
    obtain ⟨hf5, -⟩ := List.getElem?_eq_some_iff.1 hfv
    have := hcell f (by simpa using hf5)
    rw [Go.Deep.add_add] at this
    rw [this, hfv]
set_option maxRecDepth 100000 in
theorem open_acts {v : Value} {d : DataW H} {p : List MemPlace} (hval : Value.okWide Try.prog w .any base 22 v) (h : DataW.Trod enc Try.prog w 0 (fun _ => true) held 22 v d p) :
    ∃ (A : Option Addr) (cap : Nat) (l : List Ac), v = .slice A l.length cap ∧ l.length ≤ cap ∧ ActsRd w A l := by
  obtain ⟨a0, len, cap, rfl⟩ := okWide_slice Try.underlying22 hval
  obtain ⟨fuel, hf⟩ := h
  rcases open_slice Try.underlying22 hf with ⟨hcs, -⟩ | ⟨a, len', cap', m, n, D, Pl, hcs, _, hl, hm, hmm, -, hx⟩
  · simp [Value.cells] at hcs
    obtain ⟨rfl, rfl, rfl⟩ := hcs
    exact ⟨none, 0, [], rfl, Nat.le_refl _, fun j hj => absurd hj (by simp)⟩
  · simp [Value.cells] at hcs
    obtain ⟨rfl, rfl, rfl⟩ := hcs
    simp only [if_true] at hmm
    subst hmm
    have each : ∀ i, i < m → ∃ x : Ac, ∀ f v, (x.cells)[f]? = some v → w.cell? (a.add (i * 5 + f)) = some v := by
      intro i hi
      obtain ⟨cs', h1, h2⟩ := hx i hi
      obtain ⟨v0, v1, v2, v3, v4, y0, y1, y2, y3, y4, n, hc, h0, h1, h2, h3, h4⟩ := each5 Try.underlying35 (by kernel_rfl) (by kernel_rfl) h1 h2
      obtain ⟨k, e0, -, hk⟩ := DataW.trod_int Try.underlying5 h0
      obtain ⟨i', e1, -, hi'⟩ := DataW.trod_int Try.underlying3 h1
      obtain ⟨q, e2, -, -⟩ := DataW.trod_int Try.underlying3 h2
      obtain ⟨b, e3, -, hb⟩ := DataW.trod_int Try.underlying5 h3
      obtain ⟨s, e4, -, hs⟩ := DataW.trod_int Try.underlying33 h4
      simp at e0 e1 e2 e3 e4
      subst e0 e1 e2 e3 e4
      obtain ⟨b', rfl⟩ := u8_of b hb
      simp [Lit.wf] at hs hk hi'
      exact ⟨⟨k, i', q, b', s, ⟨Int.le_trans (by decide) hk.1, Int.lt_of_le_of_lt hk.2 (by decide)⟩, Int.le_trans hi'.2 (by decide), ⟨Int.le_trans (by decide) hs.1, Int.le_trans hs.2 (by decide)⟩⟩, hc⟩
    haveI : Inhabited Ac := ⟨⟨0, 0, 0, 0, 0, by decide, by decide, by decide⟩⟩
    obtain ⟨X, hX⟩ := choose_lt each
    have hlen : ((List.range len).map X).length = len := by simp
    refine ⟨some a, m, (List.range len).map X, by rw [hlen], by rw [hlen]; exact hl, ?_⟩
    intro j hj
    rw [hlen] at hj
    refine ⟨a, rfl, ?_⟩
    rw [List.getElem_map, List.getElem_range]
    exact hX j (by omega)
end
/-- DiskPlays, whatever comes in. -/
theorem plays_all (m : Int) (A : Option Addr) (c : Nat) (l : List Ac) (hc : l.length ≤ c) (w : World) (hR : ActsRd w A l) : Calls Try.prog 3 #[.int .i64 m, .slice A l.length c] w fun e w' => e = .returned (.bool true) ∧ Below w.heap.size w w' := by
  by_cases h1 : m < 1 ∨ m > 1024
  · exact plays_bad m h1 A l.length c w
  · obtain ⟨n, rfl⟩ : ∃ n : Nat, m = n := ⟨m.toNat, by omega⟩
    by_cases h2 : l.length > 30 ∨ n > 40
    · exact plays_long n (by omega) A l.length c h2 w
    · exact plays_walk n (by omega) A c l (by omega) hc w hR
end Go.Proofs.Ytinommcocgnmlaa.Dk
