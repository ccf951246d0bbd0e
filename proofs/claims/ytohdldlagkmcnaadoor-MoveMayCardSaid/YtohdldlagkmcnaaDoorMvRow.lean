/- What the rows of chapter 30 share: an argument opened; the table as it is laid. -/
import Derived.Test.YtohdldlagkmcnaaDoorGrRow
import Derived.Test.YtohdldlagkmcnaaDoorMvI
namespace Go.Proofs.YtohdldlagkmcnaaDoor.Mv
set_option linter.unusedSimpArgs false
set_option linter.unusedVariables false
open Go.ChangeShapes Go.WideShapes Go.ChangeAt Go.RowKit
open _root_.Go.Proofs.YtohdldlagkmcnaaDoor.Own
open Go.Proofs.YtohdldlagkmcnaaDoor.Pl
section
variable {H : Type} {enc : TypeId × Value → H} {P : Program} {w : World} {base : Nat} {sp : Nat → Bool} {held : Bool} {fuel : Nat} {t : TypeId} {cs : List Value} {x : DataW H × List MemPlace}
theorem trod_field {fs : Array Field} (ht : P.underlying t = some (.struct fs)) (h : DataW.trod enc P w base sp held fuel t cs = some x) (i : Nat) (ty : TypeId) (off sz : Nat) (hf : (fs[i]?).map (fun f => (f.type, f.offset)) = some (ty, off)) (hc : P.cellsOf ty = sz) :
    ∃ y n, DataW.trod enc P w base sp held n ty ((cs.drop off).take sz) = some y := by
  subst hc
  obtain ⟨f, hf2, he⟩ := Option.map_eq_some_iff.1 hf
  obtain ⟨rfl, rfl⟩ := Prod.mk.inj he
  obtain ⟨xs, n, _, _, _, hl, hx⟩ := DataW.trod_struct ht h
  have h1 := hx i f hf2
  have hi : i < xs.length := by rw [hl]; exact (Array.getElem?_eq_some_iff.1 hf2).1
  rw [List.getElem?_eq_getElem hi] at h1
  exact ⟨_, _, h1⟩
theorem trod_elem {n : Nat} {e : TypeId} (ht : P.underlying t = some (.array n e)) (h : DataW.trod enc P w base sp held fuel t cs = some x) (i : Nat) (hi : i < n) :
    ∃ y m, DataW.trod enc P w base sp held m e ((cs.drop (i * P.cellsOf e)).take (P.cellsOf e)) = some y := by
  obtain ⟨xs, m, _, _, _, hl, hx⟩ := DataW.trod_array ht h
  have h1 := hx i hi
  rw [List.getElem?_eq_getElem (by omega)] at h1
  exact ⟨_, _, h1⟩
theorem sub_get {α : Type} (cs : List α) (a b i : Nat) (hi : i < b) : ((cs.drop a).take b)[i]? = cs[a + i]? := by
  rw [List.getElem?_take, if_pos hi, List.getElem?_drop]
theorem leaf16 (ht : P.underlying t = some (.int .u16)) (h : DataW.trod enc P w base sp held fuel t cs = some x) : ∃ z : BitVec 16, cs[0]? = some (.int .u16 (nH z)) := by
  obtain ⟨n, rfl, _, hw⟩ := DataW.trod_int ht h
  obtain ⟨z, rfl⟩ := u16_of n hw
  exact ⟨z, rfl⟩
theorem leaf8 (ht : P.underlying t = some (.int .u8)) (h : DataW.trod enc P w base sp held fuel t cs = some x) : ∃ z : UInt8, cs[0]? = some (.int .u8 (nB z)) := by
  obtain ⟨n, rfl, _, hw⟩ := DataW.trod_int ht h
  obtain ⟨z, rfl⟩ := u8_of n hw
  exact ⟨z, rfl⟩
theorem leafI (ht : P.underlying t = some (.int .i64)) (h : DataW.trod enc P w base sp held fuel t cs = some x) : ∃ z : Int, cs[0]? = some (.int .i64 z) := by
  obtain ⟨n, rfl, _, hw⟩ := DataW.trod_int ht h
  exact ⟨n, rfl⟩
theorem leafB (ht : P.underlying t = some .bool) (h : DataW.trod enc P w base sp held fuel t cs = some x) : ∃ z : Bool, cs[0]? = some (.bool z) := by
  obtain ⟨n, rfl, _⟩ := DataW.trod_bool ht h
  exact ⟨n, rfl⟩
end
section
variable {H : Type} {enc : TypeId × Value → H} {w : World} {base : Nat} {sp : Nat → Bool} {held : Bool} {fuel : Nat} {cs : List Value} {x : DataW H × List MemPlace}
theorem c16 : Tryd.prog.cellsOf 22 = 1 := by kernel_rfl
theorem c8 : Tryd.prog.cellsOf 5 = 1 := by kernel_rfl
theorem cI : Tryd.prog.cellsOf 3 = 1 := by kernel_rfl
theorem cB : Tryd.prog.cellsOf 4 = 1 := by kernel_rfl
theorem cL : Tryd.prog.cellsOf 24 = 2 := by kernel_rfl
theorem cS : Tryd.prog.cellsOf 31 = 4 := by kernel_rfl
theorem cP : Tryd.prog.cellsOf 29 = 66 := by kernel_rfl
theorem cA : Tryd.prog.cellsOf 33 = 75 := by kernel_rfl
theorem cl16 : Tryd.prog.cellsOf 25 = 32 := by kernel_rfl
theorem cu16 : Tryd.prog.cellsOf 26 = 16 := by kernel_rfl
theorem cb16 : Tryd.prog.cellsOf 27 = 16 := by kernel_rfl
theorem lab_open (h : DataW.trod enc Tryd.prog w base sp held fuel 24 cs = some x) : (∃ z : BitVec 16, cs[0]? = some (.int .u16 (nH z))) ∧ ∃ z : BitVec 16, cs[1]? = some (.int .u16 (nH z)) := by
  obtain ⟨y0, n0, h0⟩ := trod_field Tryd.underlying24 h 0 22 0 _ rfl c16
  obtain ⟨y1, n1, h1⟩ := trod_field Tryd.underlying24 h 1 22 1 _ rfl c16
  obtain ⟨z0, e0⟩ := leaf16 Tryd.underlying22 h0
  obtain ⟨z1, e1⟩ := leaf16 Tryd.underlying22 h1
  rw [sub_get _ _ _ _ (by decide)] at e0 e1
  exact ⟨⟨z0, e0⟩, ⟨z1, e1⟩⟩
theorem side_open (h : DataW.trod enc Tryd.prog w base sp held fuel 31 cs = some x) : ∃ (S I : BitVec 16) (t : Int) (f : Bool), cs = sideC S I t f := by
  have hl : cs.length = 4 := by obtain ⟨_, _, _, _, hl, _⟩ := DataW.trod_struct Tryd.underlying31 h; rw [hl, cS]
  obtain ⟨y0, n0, h0⟩ := trod_field Tryd.underlying31 h 0 24 0 _ rfl cL
  obtain ⟨y1, n1, h1⟩ := trod_field Tryd.underlying31 h 1 3 2 _ rfl cI
  obtain ⟨y2, n2, h2⟩ := trod_field Tryd.underlying31 h 2 4 3 _ rfl cB
  obtain ⟨⟨S, e0⟩, ⟨I, e1⟩⟩ := lab_open h0
  obtain ⟨t, e2⟩ := leafI Tryd.underlying3 h1
  obtain ⟨f, e3⟩ := leafB Tryd.underlying4 h2
  rw [sub_get _ _ _ _ (by decide)] at e0 e1 e2 e3
  simp only [Nat.zero_add, Nat.add_zero] at e0 e1 e2 e3
  refine ⟨S, I, t, f, ?_⟩
  match cs, hl with
  | [a, b, c, d], _ =>
    simp at e0 e1 e2 e3
    subst e0 e1 e2 e3
    rfl
theorem pol_open (h : DataW.trod enc Tryd.prog w base sp held fuel 29 cs = some x) : ∃ Q : Pol, cs = polC Q := by
  have hl : cs.length = 66 := by obtain ⟨_, _, _, _, hl, _⟩ := DataW.trod_struct Tryd.underlying29 h; rw [hl, cP]
  obtain ⟨y0, n0, h0⟩ := trod_field Tryd.underlying29 h 0 22 0 _ rfl c16
  obtain ⟨y1, n1, h1⟩ := trod_field Tryd.underlying29 h 1 25 1 _ rfl cl16
  obtain ⟨y2, n2, h2⟩ := trod_field Tryd.underlying29 h 2 26 33 _ rfl cu16
  obtain ⟨y3, n3, h3⟩ := trod_field Tryd.underlying29 h 3 27 49 _ rfl cb16
  obtain ⟨y4, n4, h4⟩ := trod_field Tryd.underlying29 h 4 22 65 _ rfl c16
  obtain ⟨zl, e0⟩ := leaf16 Tryd.underlying22 h0
  obtain ⟨zt, e4⟩ := leaf16 Tryd.underlying22 h4
  rw [sub_get _ _ _ _ (by decide)] at e0 e4
  simp only [Nat.zero_add, Nat.add_zero] at e0 e4
  have LB : ∀ i, ∃ z : BitVec 16, i < 32 → cs[1 + i]? = some (.int .u16 (nH z)) := by
    intro i
    by_cases hi : i < 32
    · obtain ⟨y, m, he⟩ := trod_elem Tryd.underlying25 h1 (i / 2) (by omega)
      rw [cL] at he
      obtain ⟨⟨S, e0⟩, ⟨I, e1⟩⟩ := lab_open he
      rw [sub_get _ _ _ _ (by decide), sub_get _ _ _ _ (by omega)] at e0 e1
      rcases Nat.mod_two_eq_zero_or_one i with h2 | h2
      · exact ⟨S, fun _ => by rw [show 1 + i = 1 + (i / 2 * 2 + 0) by omega]; exact e0⟩
      · exact ⟨I, fun _ => by rw [show 1 + i = 1 + (i / 2 * 2 + 1) by omega]; exact e1⟩
    · exact ⟨0#16, fun h => absurd h hi⟩
  have AC : ∀ i, ∃ z : BitVec 16, i < 16 → cs[33 + i]? = some (.int .u16 (nH z)) := by
    intro i
    by_cases hi : i < 16
    · obtain ⟨y, m, he⟩ := trod_elem Tryd.underlying26 h2 i hi
      rw [c16] at he
      obtain ⟨S, e0⟩ := leaf16 Tryd.underlying22 he
      rw [sub_get _ _ _ _ (by decide), sub_get _ _ _ _ (by omega)] at e0
      exact ⟨S, fun _ => by rw [show 33 + i = 33 + (i * 1 + 0) by omega]; exact e0⟩
    · exact ⟨0#16, fun h => absurd h hi⟩
  have OW : ∀ i, ∃ z : UInt8, i < 16 → cs[49 + i]? = some (.int .u8 (nB z)) := by
    intro i
    by_cases hi : i < 16
    · obtain ⟨y, m, he⟩ := trod_elem Tryd.underlying27 h3 i hi
      rw [c8] at he
      obtain ⟨S, e0⟩ := leaf8 Tryd.underlying5 he
      rw [sub_get _ _ _ _ (by decide), sub_get _ _ _ _ (by omega)] at e0
      exact ⟨S, fun _ => by rw [show 49 + i = 49 + (i * 1 + 0) by omega]; exact e0⟩
    · exact ⟨0, fun h => absurd h hi⟩
  obtain ⟨fl, hfl⟩ := Classical.axiomOfChoice LB
  obtain ⟨fa, hfa⟩ := Classical.axiomOfChoice AC
  obtain ⟨fo, hfo⟩ := Classical.axiomOfChoice OW
  refine ⟨⟨zl, fl, fa, fo, zt⟩, ?_⟩
  apply List.ext_getElem?
  intro i
  by_cases hi : i < 66
  · rw [polC_get _ i hi]
    unfold polV
    by_cases g0 : i = 0
    · subst g0; rw [if_pos rfl]; exact e0
    · rw [if_neg g0]
      by_cases g1 : i < 33
      · rw [if_pos g1]
        have := hfl (i - 1) (by omega)
        rw [show 1 + (i - 1) = i by omega] at this
        exact this
      · rw [if_neg g1]
        by_cases g2 : i < 49
        · rw [if_pos g2]
          have := hfa (i - 33) (by omega)
          rw [show 33 + (i - 33) = i by omega] at this
          exact this
        · rw [if_neg g2]
          by_cases g3 : i < 65
          · rw [if_pos g3]
            have := hfo (i - 49) (by omega)
            rw [show 49 + (i - 49) = i by omega] at this
            exact this
          · rw [if_neg g3, show i = 65 by omega]
            exact e4
  · rw [List.getElem?_eq_none (by omega), List.getElem?_eq_none (by rw [polC_length]; omega)]
theorem open_ask {v : Value} {d : DataW H} {p : List MemPlace} (hval : Value.okWide Tryd.prog w .any base 33 v) (h : DataW.Trod enc Tryd.prog w 0 sp held 33 v d p) :
    ∃ (P : Pol) (r : Int) (oS oI : BitVec 16) (oT : Int) (oF : Bool) (xS xI : BitVec 16) (xT : Int) (xF : Bool), v = .agg ⟨askC P r oS oI oT oF xS xI xT xF⟩ := by
  obtain ⟨cs, rfl, hsz⟩ := okWide_struct Tryd.underlying33 hval
  obtain ⟨cs⟩ := cs
  rw [cA] at hsz
  obtain ⟨fuel, h⟩ := h
  have h : DataW.trod enc Tryd.prog w 0 sp held fuel 33 cs = some (d, p) := h
  have hl : cs.length = 75 := hsz
  obtain ⟨y0, n0, h0⟩ := trod_field Tryd.underlying33 h 0 29 0 _ rfl cP
  obtain ⟨y1, n1, h1⟩ := trod_field Tryd.underlying33 h 1 3 66 _ rfl cI
  obtain ⟨y2, n2, h2⟩ := trod_field Tryd.underlying33 h 2 31 67 _ rfl cS
  obtain ⟨y3, n3, h3⟩ := trod_field Tryd.underlying33 h 3 31 71 _ rfl cS
  obtain ⟨P, e0⟩ := pol_open h0
  obtain ⟨r, e1⟩ := leafI Tryd.underlying3 h1
  obtain ⟨oS, oI, oT, oF, e2⟩ := side_open h2
  obtain ⟨xS, xI, xT, xF, e3⟩ := side_open h3
  rw [sub_get _ _ _ _ (by decide)] at e1
  refine ⟨P, r, oS, oI, oT, oF, xS, xI, xT, xF, ?_⟩
  have e1 : cs[66]? = some (.int .i64 r) := e1
  have e0 : (cs.drop 0).take 66 = polC P := e0
  have e2 : (cs.drop 67).take 4 = sideC oS oI oT oF := e2
  have e3 : (cs.drop 71).take 4 = sideC xS xI xT xF := e3
  have hc : cs = polC P ++ ([.int .i64 r] ++ (sideC oS oI oT oF ++ sideC xS xI xT xF)) := by
    rw [← e0, ← e2, ← e3]
    have a3 : (cs.drop 71).take 4 = cs.drop 71 := List.take_of_length_le (by simp; omega)
    have a2 : (cs.drop 67).take 4 ++ cs.drop 71 = cs.drop 67 := by
      have := List.take_append_drop 4 (cs.drop 67)
      rwa [List.drop_drop] at this
    have a1 : [Value.int .i64 r] ++ cs.drop 67 = cs.drop 66 := by
      rw [List.drop_eq_getElem_cons (i := 66) (by omega)]
      rw [List.getElem?_eq_getElem (by omega)] at e1
      rw [Option.some.inj e1]
      rfl
    rw [a3, a2, a1, List.drop_zero, List.take_append_drop]
  rw [hc]
  rfl
end
end Go.Proofs.YtohdldlagkmcnaaDoor.Mv
