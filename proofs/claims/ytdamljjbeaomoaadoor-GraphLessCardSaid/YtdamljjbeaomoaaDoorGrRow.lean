/- What the rows of layer 11 share: a graph opened; the table as it is laid. -/
import Derived.Test.YtdamljjbeaomoaaDoorRows
import Derived.Test.YtdamljjbeaomoaaDoorGrB
import Derived.Test.YtdamljjbeaomoaaDoorGrV
import Derived.ProofKit
import Derived.OpenShut
import Derived.LaidMore
import Derived.Stop.Joined
import Derived.Lib.LaidTab
namespace Go.Proofs.YtdamljjbeaomoaaDoor
open Go.ChangeShapes Go.WideShapes Go.ChangeAt Go.RowKit
open _root_.Go.Proofs.YtdamljjbeaomoaaDoor.Own
theorem open_u16s {H : Type} {enc : TypeId × Value → H} {P : Program} {w : World} {base : Nat} {sp : Nat → Bool} {held : Bool} {fuel n : Nat} {t e : TypeId} {cs : List Value} {x : DataW H × List MemPlace}
    (ht : P.underlying t = some (.array n e)) (he : P.underlying e = some (.int .u16)) (hce : P.cellsOf e = 1) (hct : P.cellsOf t = n)
    (h : DataW.trod enc P w base sp held fuel t cs = some x) : ∃ f : Nat → BitVec 16, cs = (List.range n).map fun i => .int .u16 (nH (f i)) := by
  obtain ⟨xs, m, _, _, hl, hn, hel⟩ := DataW.trod_array ht h
  have hc : ∀ i, ∃ y : BitVec 16, i < n → cs[i]? = some (.int .u16 (nH y)) := by
    intro i
    by_cases hi : i < n
    · have h1 := hel i hi
      rw [List.getElem?_eq_getElem (by omega)] at h1
      obtain ⟨z, hz, _, hw⟩ := DataW.trod_int he h1
      obtain ⟨y, rfl⟩ := u16_of z hw
      refine ⟨y, fun _ => ?_⟩
      have := congrArg (·[0]?) hz
      simpa [hce, List.getElem?_take, List.getElem?_drop] using this
    · exact ⟨0#16, fun h => absurd h hi⟩
  refine ⟨fun i => Classical.choose (hc i), ?_⟩
  apply List.ext_getElem?
  intro i
  by_cases hi : i < n
  · rw [Classical.choose_spec (hc i) hi]; simp [hi]
  · rw [List.getElem?_eq_none (by omega), List.getElem?_eq_none (by simp; omega)]
theorem gC_eq (f : Nat → BitVec 16) : gC f = (List.range 16).map fun i => .int .u16 (nH (f i)) := by unfold gC; rfl
theorem open_graph {H : Type} {enc : TypeId × Value → H} {w : World} {base : Nat} {sp : Nat → Bool} {held : Bool} {v : Value} {d : DataW H} {p : List MemPlace}
    (hval : Value.okWide Tryd.prog w .any base 23 v) (h : DataW.Trod enc Tryd.prog w 0 sp held 23 v d p) : ∃ f : Nat → BitVec 16, v = .agg ⟨gC f⟩ := by
  simp only [Value.okWide, Tryd.underlying23] at hval
  obtain ⟨cs, rfl, _, _⟩ := hval
  obtain ⟨fuel, hf⟩ := h
  obtain ⟨f, hcs⟩ := open_u16s Tryd.underlying23 Tryd.underlying22 (by kernel_rfl) (by kernel_rfl) hf
  refine ⟨f, ?_⟩
  rw [gC_eq, ← hcs]
  rfl
theorem door_met (os : Os) (args : Array Value) : laidMetH Tryd.prog [("math/bits.deBruijn32tab", Rows.laid_math_bits_deBruijn32tab)] ((World.doorLaid Tryd.prog 400 os).forCall (fun _ _ => 0) ⟨#[], args, []⟩).memory :=
  laidMetH_of_parts3 (fuel := 8) (laidMet_of_run' 8 (by kernel_rfl) (by kernel_rfl)) (by kernel_rfl) (by kernel_rfl)
theorem tab_named : Tryd.prog.globalNamed "math/bits.deBruijn32tab" = some 0 := by kernel_rfl
theorem tab_type : (Tryd.prog.globals[0]?).map (·.type) = some 44 := by kernel_rfl
theorem tabIs_of_laid {W : World} (h : laidMetH Tryd.prog [("math/bits.deBruijn32tab", Rows.laid_math_bits_deBruijn32tab)] W) : Lib.TabIs Tryd.prog W "math/bits.deBruijn32tab" .u8 dbT := by
  rw [MakeChecks.laidMetH_plain _ _ _ (by kernel_rfl)] at h
  have h' : laidMet Tryd.prog (("math/bits.deBruijn32tab", Lib.tabData .u8 dbT) :: []) W := h
  exact Lib.tabIs_of_head tab_named tab_type Tryd.underlying44 Tryd.underlying5 (by kernel_rfl) (by kernel_rfl) h'
theorem table_of_laid {W : World} (h : laidMetH Tryd.prog [("math/bits.deBruijn32tab", Rows.laid_math_bits_deBruijn32tab)] W) : Table W := fun i hi =>
  (tabIs_of_laid h).cell tab_named i hi
theorem size_of_laid {W : World} (h : laidMetH Tryd.prog [("math/bits.deBruijn32tab", Rows.laid_math_bits_deBruijn32tab)] W) : 1 ≤ W.heap.size := by
  have := World.block_lt_of_cell? W _ (table_of_laid h 0 (by decide))
  exact this
end Go.Proofs.YtdamljjbeaomoaaDoor
