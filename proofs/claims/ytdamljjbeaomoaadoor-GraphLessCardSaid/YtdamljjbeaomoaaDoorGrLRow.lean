/- GraphLess: its argument opened. -/
import Derived.Test.YtdamljjbeaomoaaDoorGrRow
import Derived.Test.YtdamljjbeaomoaaDoorGrL3
namespace Go.Proofs.YtdamljjbeaomoaaDoor
set_option linter.unusedSimpArgs false
set_option linter.unusedVariables false
open Go.ChangeShapes Go.WideShapes Go.ChangeAt Go.RowKit
open _root_.Go.Proofs.YtdamljjbeaomoaaDoor.Own
section
variable {H : Type} {enc : TypeId × Value → H} {P : Program} {w : World} {base : Nat} {sp : Nat → Bool} {held : Bool} {fuel : Nat} {t : TypeId} {cs : List Value} {x : DataW H × List MemPlace}
theorem trod_field {fs : Array Field} (ht : P.underlying t = some (.struct fs)) (h : DataW.trod enc P w base sp held fuel t cs = some x) (i : Nat) (ty : TypeId) (off sz : Nat) (hf : (fs[i]?).map (fun f => (f.type, f.offset)) = some (ty, off)) (hc : P.cellsOf ty = sz) :
    ∃ y n, DataW.trod enc P w base sp held n ty ((cs.drop off).take sz) = some y := by
  subst hc
  obtain ⟨f, hf2, he⟩ := Option.map_eq_some_iff.1 hf
  obtain ⟨rfl, rfl⟩ := Prod.mk.inj he
  obtain ⟨xs, n, _, _, _, hl, hx⟩ := DataW.trod_struct ht h
  have h1 := hx i f hf2
  have hi : i < xs.length := by rw [hl]; exact (Array.getElem?_eq_some_iff.1 hf2).1
  rw [List.getElem?_eq_getElem hi] at h1
  exact ⟨_, _, h1⟩
theorem trod_elem {n : Nat} {e : TypeId} (ht : P.underlying t = some (.array n e)) (h : DataW.trod enc P w base sp held fuel t cs = some x) (i : Nat) (hi : i < n) :
    ∃ y m, DataW.trod enc P w base sp held m e ((cs.drop (i * P.cellsOf e)).take (P.cellsOf e)) = some y := by
  obtain ⟨xs, m, _, _, _, hl, hx⟩ := DataW.trod_array ht h
  have h1 := hx i hi
  rw [List.getElem?_eq_getElem (by omega)] at h1
  exact ⟨_, _, h1⟩
theorem sub_get {α : Type} (cs : List α) (a b i : Nat) (hi : i < b) : ((cs.drop a).take b)[i]? = cs[a + i]? := by
  rw [List.getElem?_take, if_pos hi, List.getElem?_drop]
theorem leaf16 (ht : P.underlying t = some (.int .u16)) (h : DataW.trod enc P w base sp held fuel t cs = some x) : ∃ z : BitVec 16, cs[0]? = some (.int .u16 (nH z)) := by
  obtain ⟨n, rfl, _, hw⟩ := DataW.trod_int ht h
  obtain ⟨z, rfl⟩ := u16_of n hw
  exact ⟨z, rfl⟩
end
section
variable {H : Type} {enc : TypeId × Value → H} {w : World} {base : Nat} {sp : Nat → Bool} {held : Bool}
theorem c16 : Tryd.prog.cellsOf 22 = 1 := by kernel_rfl
theorem cu16 : Tryd.prog.cellsOf 23 = 16 := by kernel_rfl
theorem cTwo : Tryd.prog.cellsOf 32 = 35 := by kernel_rfl
theorem graph_cells {cs : List Value} {fuel : Nat} {x : DataW H × List MemPlace} (h : DataW.trod enc Tryd.prog w base sp held fuel 23 cs = some x) : ∃ f, cs = gC f := by
  obtain ⟨f, hcs⟩ := open_u16s Tryd.underlying23 Tryd.underlying22 (by kernel_rfl) (by kernel_rfl) h
  exact ⟨f, by rw [gC_eq, ← hcs]⟩
theorem open_two {v : Value} {d : DataW H} {p : List MemPlace} (hval : Value.okWide Tryd.prog w .any base 32 v) (h : DataW.Trod enc Tryd.prog w 0 sp held 32 v d p) :
    ∃ (f hh : Nat → BitVec 16) (s W Le : BitVec 16), v = .agg ⟨twoC f hh s W Le⟩ := by
  obtain ⟨cs, rfl, hsz⟩ := okWide_struct Tryd.underlying32 hval
  obtain ⟨cs⟩ := cs
  rw [cTwo] at hsz
  obtain ⟨fuel, h⟩ := h
  have h : DataW.trod enc Tryd.prog w 0 sp held fuel 32 cs = some (d, p) := h
  have hl : cs.length = 35 := hsz
  obtain ⟨y0, n0, h0⟩ := trod_field Tryd.underlying32 h 0 23 0 _ rfl cu16
  obtain ⟨y1, n1, h1⟩ := trod_field Tryd.underlying32 h 1 23 16 _ rfl cu16
  obtain ⟨y2, n2, h2⟩ := trod_field Tryd.underlying32 h 2 22 32 _ rfl c16
  obtain ⟨y3, n3, h3⟩ := trod_field Tryd.underlying32 h 3 22 33 _ rfl c16
  obtain ⟨y4, n4, h4⟩ := trod_field Tryd.underlying32 h 4 22 34 _ rfl c16
  obtain ⟨f, e0⟩ := graph_cells h0
  obtain ⟨hh, e1⟩ := graph_cells h1
  obtain ⟨s, e2⟩ := leaf16 Tryd.underlying22 h2
  obtain ⟨W, e3⟩ := leaf16 Tryd.underlying22 h3
  obtain ⟨Le, e4⟩ := leaf16 Tryd.underlying22 h4
  rw [sub_get _ _ _ _ (by decide)] at e2 e3 e4
  refine ⟨f, hh, s, W, Le, ?_⟩
  have e2 : cs[32]? = some (.int .u16 (nH s)) := e2
  have e3 : cs[33]? = some (.int .u16 (nH W)) := e3
  have e4 : cs[34]? = some (.int .u16 (nH Le)) := e4
  have hc : cs = twoC f hh s W Le := by
    unfold twoC
    rw [← e0, ← e1]
    have a4 : cs.drop 32 = [.int .u16 (nH s), .int .u16 (nH W), .int .u16 (nH Le)] := by
      rw [List.drop_eq_getElem_cons (i := 32) (by omega), List.drop_eq_getElem_cons (i := 33) (by omega), List.drop_eq_getElem_cons (i := 34) (by omega), List.drop_eq_nil_of_le (by omega)]
      rw [List.getElem?_eq_getElem (by omega)] at e2 e3 e4
      rw [Option.some.inj e2, Option.some.inj e3, Option.some.inj e4]
    have a1 : (cs.drop 16).take 16 ++ cs.drop 32 = cs.drop 16 := by
      have := List.take_append_drop 16 (cs.drop 16)
      rwa [List.drop_drop] at this
    rw [← a4, a1, List.drop_zero, List.take_append_drop]
  rw [hc]
end
end Go.Proofs.YtdamljjbeaomoaaDoor
