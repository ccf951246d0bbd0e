/- Parts of blocks read and written by one operation. -/
import Derived.Test.YtohdldlagkmcnaaDoorOn
namespace Go.Proofs.YtohdldlagkmcnaaDoor.Own
open Go.RowKit
section
variable {P : Program} {ops : Array Oper} {Q : Exit → Act → World → Prop} {a : Act} {w : World} {rest : List Oper} {o : Oper}
theorem wpList_load_part (hgd : o.guard = none) (ty : TypeId) (x : Operand) (ho : o.op = .load ty x) (g off : Nat) (hx : a.eval x = .pointer (some ⟨g, off, none⟩)) (t : TypeId) (cs xs : List Value) (n : Nat) (fr : Nat × Nat) (d : TypeDesc)
    (hg : w.heap[g]? = some (.cells ⟨cs⟩ t fr)) (hu : P.underlying ty = some d) (hd : (match d with | .struct _ | .array _ _ => true | _ => false) = true) (hi : (P.info? ty).map (·.size) = some n) (hn : xs.length = n) (hc : ∀ i, i < n → cs[off + i]? = xs[i]?)
    (h : wpList P ops Q rest (a.put o.dst (.agg ⟨xs⟩)) w) : wpList P ops Q (o :: rest) a w := by
  refine wpList_plain hgd fun K hK => ?_
  unfold Oper.wp execOp
  simp only [ho, hx, Instr.loadAt, Instr.sureAddr, Sem.run_bind, Sem.run_pure, Result.andThen_ok, run_loadVar_part w g off n t ty cs xs fr d hg hu hd hi hn hc]
  exact hK _ _ h
theorem wpList_store_part (hgd : o.guard = none) (ty : TypeId) (x y : Operand) (ho : o.op = .store ty x y) (g off : Nat) (hx : a.eval x = .pointer (some ⟨g, off, none⟩)) (xs : List Value) (hy : a.eval y = .agg ⟨xs⟩) (t : TypeId) (cs : List Value) (n : Nat)
    (hg : w.heap[g]? = some (.cells ⟨cs⟩ t (0, 0))) (hi : (P.info? ty).map (·.size) = some n) (hn : xs.length = n) (hb : off + n ≤ cs.length) (h1 : ∀ u ∈ xs, u.oneCell' = true)
    (h : wpList P ops Q rest (a.put o.dst undef) (w.setRow g ⟨splc cs xs off⟩)) : wpList P ops Q (o :: rest) a w := by
  refine wpList_plain hgd fun K hK => ?_
  unfold Oper.wp execOp
  simp only [ho, hx, hy, Instr.storeAt, Instr.sureAddr, Sem.run_bind, Sem.run_pure, Result.andThen_ok, run_storeVar_part w g off n t ty cs xs hg hi hn hb h1]
  exact hK _ _ h
end
end Go.Proofs.YtohdldlagkmcnaaDoor.Own
