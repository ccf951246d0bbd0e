/- Words for memory, continued: a known block as a slice; made rows of bytes. -/
import Derived.Test.YtdlfdkdcnabpoaaDoorMem
import Derived.Lib.SlBytesConst
namespace Go.Proofs.YtdlfdkdcnabpoaaDoor.Own
open Go.RowKit
theorem At.rd {w0 w : World} {L : List (Nat × List Value × TypeId)} (h : At w0 L w) (k : Nat) {g : Nat} {cs : List Value} {t : TypeId} (hk : L[k]? = some (g, cs, t)) : Rd w (some ⟨g, 0, none⟩) cs := by
  intro i hi
  refine ⟨_, rfl, ?_⟩
  rw [show (⟨g, 0, none⟩ : Addr).add i = ⟨g, i, none⟩ from by unfold Addr.add; split <;> simp_all, cell_of_row _ _ i ⟨cs⟩ t (0, 0) (h.row k hk)]
  simp [hi]
theorem Rd.mark {w : World} (xs : List Value) (T : TypeId) (fr : Nat × Nat) : Rd (w.alloc (.cells ⟨xs⟩ T fr)) (some ⟨w.heap.size, 0, none⟩) xs := by
  intro i hi
  refine ⟨_, rfl, ?_⟩
  rw [show (⟨w.heap.size, 0, none⟩ : Addr).add i = ⟨w.heap.size, i, none⟩ from by unfold Addr.add; split <;> simp_all, cell_of_row _ _ i ⟨xs⟩ T fr (heap_alloc_new w _)]
  simp [hi]
theorem Rd.put {w : World} (g : Nat) (hg : g = w.heap.size) (xs : List Value) (T : TypeId) (fr : Nat × Nat) : Rd (w.alloc (.cells ⟨xs⟩ T fr)) (some ⟨g, 0, none⟩) xs := by
  subst hg; exact Rd.mark xs T fr
theorem Rd.alloc {w : World} {A : Option Addr} {xs : List Value} (h : Rd w A xs) (o : Obj) : Rd (w.alloc o) A xs := h.below ((Below.refl _ _).alloc (Nat.le_refl _) o)
theorem conv_lit {P : Program} (t e : TypeId) (ht : P.underlying t = some (.slice e)) (he : P.underlying e = some (.int .u8)) (w : World) (C : Array Value) (n c g : Nat) (hg : g = w.heap.size) :
    (convert t t (.slice (some ⟨g, 0, none⟩) n c)).run P (w.alloc (.cells C e)) = .ok (.slice (some ⟨g, 0, none⟩) n c) (w.alloc (.cells C e (C.size, C.size + 1))) := by
  subst hg; exact Lib.run_convert_bytes_const w t e C n c ht he
theorem withAt {P : Program} {f : FuncId} {args : Array Value} {W w0 : World} {L : List (Nat × List Value × TypeId)} {Post : Ending → World → Prop} (hW : At w0 L W) (k : At w0 L W → Calls P f args W Post) : Calls P f args W Post := k hW
theorem Has.some_ {base : Nat} {e : TypeId} {v : Value} {xs : List UInt8} {w : World} (h : Has base e v (bys xs) w) (n : Nat) (hn : xs.length = n + 1) : ∃ a c, v = .slice (some a) (n + 1) c ∧ n + 1 ≤ c ∧ Rd w (some a) (bys xs) := by
  obtain ⟨A, c, rfl, hc, hA, hR⟩ := h.form
  rw [bys_length, hn] at hc ⊢
  cases A with
  | none => have := hA rfl; omega
  | some a => exact ⟨a, c, rfl, hc, hR⟩
end Go.Proofs.YtdlfdkdcnabpoaaDoor.Own
