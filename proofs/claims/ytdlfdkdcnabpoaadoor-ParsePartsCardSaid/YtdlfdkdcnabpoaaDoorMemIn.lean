/- Words for memory inside a fence: whole arrays read and written; an array's element by value; marks of loops over functions at a function's end. -/
import Derived.Test.YtdlfdkdcnabpoaaDoorMem3
import Derived.Test.YtdlfdkdcnabpoaaDoorInv
import Derived.RangeFuncLeaves
import Derived.RangeFuncNested
import Derived.OwnWalkIn
namespace Go.Proofs.YtdlfdkdcnabpoaaDoor.Own
open Go.RowKit
section
variable {P : Program} {F : Fence} {n : Nat} {ops : Array Oper} {Q : Exit → Act → World → Prop} {a : Act} {w : World} {rest : List Oper} {o : Oper}
theorem wpListIn_load_row (hgd : o.guard = none) (ty : TypeId) (x : Operand) (ho : o.op = .load ty x)
    (g : Nat) (hx : a.eval x = .pointer (some ⟨g, 0, none⟩)) (t : TypeId) (cs : Array Value) (fr : Nat × Nat) (d : TypeDesc) (hg : w.heap[g]? = some (.cells cs t fr))
    (hu : P.underlying ty = some d) (hd : (match d with | .struct _ | .array _ _ => true | _ => false) = true) (hi : (P.info? ty).map (·.size) = some cs.size)
    (h : wpListIn F n P ops Q rest (a.put o.dst (.agg cs)) w) : wpListIn F n P ops Q (o :: rest) a w := by
  refine wpListIn_plain hgd fun K hK' => ?_
  unfold Oper.wpIn
  refine ⟨?_, ?_⟩
  · simp [Oper.about, ho]
  · rw [Oper.semAt_plain F _ _ (by rw [ho]; intro c hc'; cases hc')]
    simp only [execOp, ho, hx, Instr.loadAt, Instr.sureAddr, Sem.run_bind, Sem.run_pure, Result.andThen_ok, run_loadVar_row w g t ty cs fr d hg hu hd hi]
    exact hK' _ _ h
theorem wpListIn_store_row (hgd : o.guard = none) (ty : TypeId) (x y : Operand) (ho : o.op = .store ty x y)
    (g : Nat) (cells : Array Value) (hx : a.eval x = .pointer (some ⟨g, 0, none⟩)) (hy : a.eval y = .agg cells)
    (t : TypeId) (old : Array Value) (hg : w.heap[g]? = some (.cells old t (0, 0))) (hi : (P.info? ty).map (·.size) = some cells.size)
    (hold : old.size = cells.size) (h1 : cells.all (·.oneCell') = true)
    (h : wpListIn F n P ops Q rest (a.put o.dst undef) (w.setRow g cells)) : wpListIn F n P ops Q (o :: rest) a w := by
  refine wpListIn_plain hgd fun K hK' => ?_
  unfold Oper.wpIn
  refine ⟨?_, ?_⟩
  · simp [Oper.about, ho]
  · rw [Oper.semAt_plain F _ _ (by rw [ho]; intro c hc'; cases hc')]
    simp only [execOp, ho, hx, hy, Instr.storeAt, Instr.sureAddr, Sem.run_bind, Sem.run_pure, Result.andThen_ok, run_storeVar_row w g t ty old cells hg hi hold h1]
    exact hK' _ _ h
theorem wpListIn_alloc_arr (hgd : o.guard = none) (ty : TypeId) (ho : o.op = .alloc ty) (zs : List Value)
    (hz : (P.info? ty).map (·.zero) = some (some (.agg ⟨zs⟩)))
    (h : wpListIn F n P ops Q rest (a.put o.dst (.pointer (some ⟨w.heap.size, 0, none⟩))) (w.alloc (.cells ⟨zs⟩ ty))) : wpListIn F n P ops Q (o :: rest) a w := by
  refine wpListIn_plain hgd fun K hK => ?_
  have hr : (zeroValue ty).run P w = .ok (.agg ⟨zs⟩) w := by
    cases hq : P.info? ty with
    | none => simp [hq] at hz
    | some i =>
      simp [hq] at hz
      simp [zeroValue, typeInfo, hq, hz]
  unfold Oper.wpIn
  refine ⟨?_, ?_⟩
  · simp [Oper.about, ho]
  · rw [Oper.semAt_plain F _ _ (by rw [ho]; intro c hc'; cases hc')]
    simp only [execOp, ho, Instr.alloc, Sem.run_bind, hr, Result.andThen_ok]
    exact hK _ _ h
theorem run_load_row {o : Oper} {a : Act} {w : World} (ty : TypeId) (x : Operand) (ho : o.op = .load ty x)
    (g : Nat) (hx : a.eval x = .pointer (some ⟨g, 0, none⟩)) (t : TypeId) (cs : Array Value) (fr : Nat × Nat) (d : TypeDesc) (hg : w.heap[g]? = some (.cells cs t fr))
    (hu : P.underlying ty = some d) (hd : (match d with | .struct _ | .array _ _ => true | _ => false) = true) (hi : (P.info? ty).map (·.size) = some cs.size) :
    (execOp a.eval o).run P w = .ok (.value (.agg cs)) w := by
  unfold execOp
  simp only [ho, hx, Instr.loadAt, Instr.sureAddr, Sem.run_bind, Sem.run_pure, Result.andThen_ok, run_loadVar_row w g t ty cs fr d hg hu hd hi]
theorem inv_load_row {I : World → Prop} {Q : Act → Prop} (hw : Region.wanted o (yielded ops a.tmps) = true) (ty : TypeId) (x : Operand) (ho : o.op = .load ty x)
    (g : Nat) (hx : a.eval x = .pointer (some ⟨g, 0, none⟩)) (t : TypeId) (cs : Array Value) (fr : Nat × Nat) (d : TypeDesc) (hg : ∀ w, I w → w.heap[g]? = some (.cells cs t fr))
    (hu : P.underlying ty = some d) (hd : (match d with | .struct _ | .array _ _ => true | _ => false) = true) (hi : (P.info? ty).map (·.size) = some cs.size)
    (a' : Act) (ha : a.put o.dst (.agg cs) = a') (k : wpInv P ops I Q rest a') : wpInv P ops I Q (o :: rest) a :=
  inv_yes hw (.agg cs) (fun w h => by rw [run_load_row ty x ho g hx t cs fr d (hg w h) hu hd hi]; exact ⟨rfl, h⟩) a' ha k
/-- An array's element, the array a value, its elements of one cell. -/
theorem run_index_arr (w : World) (t e : TypeId) (m : Nat) (cs : Array Value) (k : IntKind) (i : Int) (v : Value) (h : P.underlying t = some (.array m e)) (d : TypeDesc) (he : P.underlying e = some d)
    (hd : (match d with | .struct _ | .array _ _ => true | _ => false) = false) (hs : (P.info? e).map (·.size) = some 1) (h0 : 0 ≤ i) (h1 : i < m) (hc : cs[i.toNat]? = some v) :
    (Instr.index t (.agg cs) (.int k i)).run P w = .ok v w := by
  have hagg : (isAgg e).run P w = .ok false w := by
    unfold isAgg
    rw [Sem.run_bind, run_underlying he w]
    cases d <;> simp_all
  obtain ⟨i0, hi0, hs0⟩ : ∃ i0, P.info? e = some i0 ∧ i0.size = 1 := by
    cases hq : P.info? e with
    | none => simp [hq] at hs
    | some i0 => simp [hq] at hs; exact ⟨i0, rfl, hs⟩
  simp [Instr.index, asIntOf, run_underlying h, h0, h1, sizeOf, typeInfo, hi0, hs0, part, Sem.run_bind, hagg, hc]
def shutAll (w : World) (Ds : List Nat) : World := Ds.foldl (fun w D => w.putObj D (.deferred none)) w
theorem putObj_other (w : World) (D k : Nat) (o : Obj) (h : k ≠ D) : (w.putObj D o).heap[k]? = w.heap[k]? := World.putObj_heap_other h
theorem shutAll_other : ∀ (Ds : List Nat) (w : World) (k : Nat), k ∉ Ds → (shutAll w Ds).heap[k]? = w.heap[k]?
  | [], _, _, _ => rfl
  | D :: Ds, w, k, h => by
    rw [List.mem_cons, not_or] at h
    show (shutAll (w.putObj D (.deferred none)) Ds).heap[k]? = _
    rw [shutAll_other Ds _ k h.2, putObj_other w D k _ h.1]
theorem shutAll_below {B : Nat} : ∀ (Ds : List Nat) (w : World), (∀ D ∈ Ds, B ≤ D) → Below B w (shutAll w Ds)
  | [], w, _ => ⟨rfl, rfl, rfl, Nat.le_refl _, fun _ _ => rfl⟩
  | D :: Ds, w, hD => by
    have h1 : Below B w (w.putObj D (.deferred none)) := ⟨rfl, rfl, rfl, by simp [World.putObj], fun k hk => putObj_other w D k _ (by have := hD D (by simp); omega)⟩
    exact h1.trans (shutAll_below Ds _ fun D' h' => hD D' (List.mem_cons_of_mem _ h'))
theorem At.grown {w0 A B : World} {L : List (Nat × List Value × TypeId)} {row : Option Nat} (h : At w0 L A) (hg : A.grownBy B row) (M : Nat) (hr : ∀ r, row = some r → M ≤ r) (hM : w0.heap.size ≤ M) (hL : ∀ x ∈ L, x.1 < M) : At w0 L B := by
  refine ⟨h.below.trans ⟨hg.os, hg.tape, hg.output, hg.size, fun k hk => hg.block k (Nat.lt_of_lt_of_le hk h.below.size) (fun e => by have := hr k e.symm; omega)⟩, ?_, h.nodup⟩
  intro x hx
  obtain ⟨h1, h2⟩ := h.blk x hx
  exact ⟨h1, (hg.block x.1 (blk_lt h2) (fun e => by have := hr _ e.symm; have := hL x hx; omega)).trans h2⟩
theorem grown_setCell {W A : World} {g i : Nat} {v : Value} (h : W.grownBy A (some g)) : W.grownBy (A.setCell ⟨g, i, none⟩ v) (some g) :=
  ⟨h.os, h.tape, h.output, by have := h.size; simpa using this, fun k hk hne => (Below.heap_setCell A _ _ _ (fun e => hne (congrArg some e))).trans (h.block k hk hne)⟩
end
end Go.Proofs.YtdlfdkdcnabpoaaDoor.Own
