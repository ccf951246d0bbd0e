/- Layer 17: the kinds of words and signs: the map that the program makes. -/
import Derived.Test.YtdlfdkdcnabpoaaDoorPaN
import Derived.Maps.OwnOps
namespace Go.Proofs.YtdlfdkdcnabpoaaDoor.Pa
set_option linter.unusedSimpArgs false
set_option linter.unusedVariables false
open Go.RowKit
open Go.Maps (Keyed string_keyed)
open Go.WideMaps (keyOf_string_mk)
open _root_.Go.Proofs.YtdlfdkdcnabpoaaDoor.Own
open Go.Proofs.YtdlfdkdcnabpoaaDoor.Lx
attribute [local go_sem] str_size str_extract str_append str_toList
/-- As the kit's law of 'm[k] = v', for the entry of a literal. -/
theorem wpList_insert_own {H : Type} {P : Program} (w : World) {ops : Array Oper} {rest : List Oper} {o : Oper} {a : Act} {Q : Exit → Act → World → Prop}
    (hg : o.guard = none) (m x v : Operand) (t : TypeId) (hop : o.op = Op.insert t m x v)
    (k e : TypeId) (K : Keyed P k) (ht : P.underlying t = some (.map k e)) (R : Value → Option (DataW H × List MemPlace)) (b n : Nat) (D : DataW H)
    (hm : a.eval m = .map (some b)) (hown : w.ownsMap P k R b n D) (hn : n < maxLen) (key val : Value) (kl : Lit) (hx : a.eval x = key) (hv : a.eval v = val) (hkey : keyOf P k key = some kl)
    (d : DataW H) (ps : List MemPlace) (hval : R val = some (d, ps))
    (hK : ∀ w', w'.ownsMap P k R b (n + 1) (D.put kl d) → w.grownBy w' (some b) → wpList P ops Q rest (a.put o.dst undef) w') :
    wpList P ops Q (o :: rest) a w := by
  refine wpList_plain hg fun K' hK' => ?_
  obtain ⟨w', hrun, r1, r2⟩ := hown.update K ht hn hkey hval
  unfold Oper.wp
  simp [execOp, hop, hm, hx, hv, hrun, Result.andThen]
  exact hK' _ _ (hK w' r1 r2)
noncomputable abbrev RI : Value → Option (DataW Unit × List MemPlace) := plainElem Tryd.prog 3
/-- The words' and signs' kinds. -/
def kindL : List (List UInt8 × Int) := [([97, 108, 108], 1), ([108, 105, 118, 101], 2), ([109, 105, 110, 101], 3), ([117, 112], 6), ([100, 111, 119, 110], 7), ([116, 97, 103, 115], 8), ([111, 119, 110, 101, 114, 115], 9), ([99, 111, 117, 110, 116], 10), ([115, 111, 109, 101], 11), ([38], 12), ([124], 13), ([45], 14), ([60, 61], 15)]
def kindD : DataW Unit := kindL.foldl (fun D x => D.put (.string x.1) (.lit (.int .i64 x.2))) (.map [])
def kindOf (t : List UInt8) : Int := ((kindL.find? fun x => x.1 == t).map (·.2)).getD 0
theorem kindD_at : ∀ x ∈ kindL, kindD.atKey (.string x.1) (.lit (.int .i64 0)) = .lit (.int .i64 x.2) := by
  intro x hx
  simp only [kindL, List.mem_cons, List.not_mem_nil, or_false] at hx
  rcases hx with rfl | rfl | rfl | rfl | rfl | rfl | rfl | rfl | rfl | rfl | rfl | rfl | rfl <;> rfl
def Kinds (w : World) (b : Nat) : Prop := w.ownsMap Tryd.prog 9 RI b 13 kindD
theorem key_of (l : List UInt8) (hl : l.length ≤ 1000) : keyOf Tryd.prog 9 (.string (str l)) = some (.string l) := by
  have h := keyOf_string_mk (P := Tryd.prog) (k := 9) Tryd.underlying9 (s := str l) (by rw [str_size]; unfold maxLen; omega)
  exact h.trans (congrArg (fun x => some (Lit.string x)) (by unfold str; rfl))
theorem key_lit (l : List UInt8) (hl : l.length ≤ 1000) : keyOf Tryd.prog 9 (.string ⟨l.toArray⟩) = some (.string l) := by
  have h := keyOf_string_mk (P := Tryd.prog) (k := 9) Tryd.underlying9 (s := ⟨l.toArray⟩) (by show l.toArray.size ≤ _; unfold maxLen; simp; omega)
  rw [h]
set_option maxRecDepth 10000 in
set_option maxHeartbeats 4000000 in
theorem kinds_calls (w : World) : Calls Tryd.prog 57 #[] w fun e w' => e = .returned (.map (some w.heap.size)) ∧ Kinds w' w.heap.size ∧ Below w.heap.size w w' := by
  obtain ⟨B, hB⟩ : ∃ B, w.heap.size = B := ⟨_, rfl⟩
  have hown : (w.alloc (.map #[] 0)).ownsMap Tryd.prog 9 RI w.heap.size 0 (.map []) := World.ownsMap_made w _ _ _
  have hb := (Below.refl w.heap.size w).alloc (Nat.le_refl _) (.map #[] 0)
  rw [hB] at hown hb
  go_enter Tryd.func57, Tryd.ntmps57
  rw [hB]
  have hmk := @run_makeMap Tryd.prog 82 w
  rw [hB] at hmk
  go_wp2_with (refine wpList_insert_own _ rfl _ _ _ 82 rfl 9 3 (string_keyed Tryd.underlying9) Tryd.underlying82 RI B _ _ rfl hown (by decide) _ _ _ rfl rfl (key_lit _ (by decide)) _ [] (plainElem_int Tryd.underlying3 (by decide)) ?_; intro w1 hown1 hgrow; have hb1 := hb.grown hgrow (by have := hb.size; omega) (fun k e => by cases e; omega); clear hown hb hgrow; have hown := hown1; have hb := hb1; clear hown1 hb1)
  go_ret
  exact ⟨rfl, hown, hb⟩
theorem kind_zero (w : World) : (zeroValue 3).run Tryd.prog w = .ok (.int .i64 0) w := by kernel_rfl
set_option maxRecDepth 100000 in
theorem kindL_short : ∀ x ∈ kindL, x.1.length ≤ 1000 := by decide
/-- What the map says of a known text. -/
theorem kinds_get {w : World} {b : Nat} (h : Kinds w b) (x : List UInt8 × Int) (hx : x ∈ kindL) : (Instr.lookup 82 (.map (some b)) (.string (str x.1)) false).run Tryd.prog w = .ok (.int .i64 x.2) w := by
  obtain ⟨c, hc, hat, _⟩ := World.ownsMap.lookup_int (t := 82) h (string_keyed Tryd.underlying9) Tryd.underlying82 Tryd.underlying3 (kind_zero w) (key_of x.1 (kindL_short x hx))
  rw [kindD_at x hx] at hat
  cases hat
  exact hc
attribute [irreducible] kindD
set_option maxRecDepth 100000 in
theorem kindOf_mem : ∀ x ∈ kindL, kindOf x.1 = x.2 := by decide
attribute [irreducible] kindOf
theorem kindOf_get {w : World} {b : Nat} (h : Kinds w b) (t : List UInt8) (ht : ∃ k, (t, k) ∈ kindL) : (Instr.lookup 82 (.map (some b)) (.string (str t)) false).run Tryd.prog w = .ok (.int .i64 (kindOf t)) w := by
  obtain ⟨k, hk⟩ := ht
  have e := kindOf_mem (t, k) hk
  change kindOf t = k at e
  rw [e]
  have g := kinds_get h (t, k) hk
  exact g
theorem Kinds.lt {w : World} {b : Nat} (h : Kinds w b) : b < w.heap.size := World.ownsMap.lt h
theorem Kinds.block {w w' : World} {b : Nat} (h : Kinds w b) (e : w'.heap[b]? = w.heap[b]?) : Kinds w' b := by
  obtain ⟨es, clock, hb, F, hs, hD⟩ := h
  exact ⟨es, clock, e.trans hb, F, hs, hD⟩
theorem Kinds.fr {r : Nat} {w w' : World} {b : Nat} (h : Kinds w b) (hf : Fr r w w') (hn : b ≠ r) : Kinds w' b := by
  refine h.block (hf.other b h.lt hn fun cs fr e => ?_)
  obtain ⟨es, clock, hb, _⟩ := h
  rw [hb] at e
  cases e
end Go.Proofs.YtdlfdkdcnabpoaaDoor.Pa
