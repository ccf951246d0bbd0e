/- Chapter 07: same: a disk has what the document's has. -/
import Derived.Test.YtmlgkahadgpaiaaDkT
import Derived.Test.YtmlgkahadgpaiaaInv
namespace Go.Proofs.Ytmlgkahadgpaiaa.Dk
open Go.RowKit _root_.Go.Proofs.Ytmlgkahadgpaiaa.Own
set_option linter.unusedVariables false
set_option linter.unusedSimpArgs false
theorem rbox_cells {w0 w : World} {g : Nat} {a b c d e : Value} {t : TypeId} (h : At w0 [(g, [a, b, c, d, e], t)] w) : w.cell? ⟨g, 0, none⟩ = some a ∧ w.cell? ⟨g, 1, none⟩ = some b ∧ w.cell? ⟨g, 2, none⟩ = some c ∧ w.cell? ⟨g, 3, none⟩ = some d ∧ w.cell? ⟨g, 4, none⟩ = some e := by
  have hR := (h.rules _ (List.mem_cons_self ..)).1
  exact ⟨hR 0, hR 1, hR 2, hR 3, hR 4⟩
theorem On_v {g r n c : Nat} {R : List Value} {d : D} {w : World} (h : Is g r n c R d w) {o : Bool} (ho : d.off = o) : Calls Try.prog 21 #[.pointer (some ⟨g, 0, none⟩)] w fun e w' => e = .returned (.bool (!o)) ∧ Below w.heap.size w w' := by
  subst ho; exact On_calls h
theorem Rd.of_row {w : World} {x : Nat} {xs : List UInt8} {t : TypeId} {fr : Nat × Nat} (h : w.heap[x]? = some (.cells ⟨bys xs⟩ t fr)) : Rd w (some ⟨x, 0, none⟩) (bys xs) := by
  have := row_rd h 0 xs.length
  rwa [List.drop_zero, List.take_of_length_le (Nat.le_refl _)] at this
theorem Writes_v {g r n c : Nat} {R : List Value} {d : D} {w : World} (h : Is g r n c R d w) {o : Int} (ho : d.writes = o) : Calls Try.prog 37 #[.pointer (some ⟨g, 0, none⟩)] w fun e w' => e = .returned (.int .i64 o) ∧ Below w.heap.size w w' := by
  subst ho; exact Writes_calls h
end Go.Proofs.Ytmlgkahadgpaiaa.Dk
