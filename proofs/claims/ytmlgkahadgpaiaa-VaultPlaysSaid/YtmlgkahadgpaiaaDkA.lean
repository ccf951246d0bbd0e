/- Chapter 07: alive, and the law DiskNobody. -/
import Derived.Test.YtmlgkahadgpaiaaDkN
namespace Go.Proofs.Ytmlgkahadgpaiaa.Dk
open Go.RowKit _root_.Go.Proofs.Ytmlgkahadgpaiaa.Own
set_option linter.unusedVariables false
set_option linter.unusedSimpArgs false
/-- The world as a caller of its own disk sees it: nothing elder has turned; the disk is known. -/
structure St (w0 : World) (g r n c : Nat) (R : List Value) (d : D) (w : World) : Prop where
  below : Below w0.heap.size w0 w
  is : Is g r n c R d w
  own : w0.heap.size ≤ g ∧ w0.heap.size ≤ r
theorem St.call {w0 : World} {g r n c : Nat} {R : List Value} {d : D} {w w' : World} (h : St w0 g r n c R d w) (hb : Below w.heap.size w w') : St w0 g r n c R d w' :=
  ⟨h.below.trans (hb.mono h.below.size), h.is.below hb, h.own⟩
theorem St.turn {w0 : World} {g r n c : Nat} {R : List Value} {d d' : D} {w w' : World} (h : St w0 g r n c R d w) (ho : Only [g, r] w w') (hi : Is g r n c R d' w') : St w0 g r n c R d' w' :=
  ⟨h.below.trans (ho.less (by intro k hk; simp at hk; rcases hk with rfl | rfl; exact h.own.1; exact h.own.2) h.below.size), hi, h.own⟩
theorem callSt {P : Program} {f : FuncId} {args : Array Value} {W w0 : World} {g r n c : Nat} {R : List Value} {d : D} {E : Ending → Prop} {Post : Ending → World → Prop}
    (h : Calls P f args W fun e w' => E e ∧ Below W.heap.size W w') (hS : St w0 g r n c R d W) (k : ∀ e w', E e → St w0 g r n c R d w' → Post e w') : Calls P f args W Post :=
  h.mono fun e w' ⟨h1, h2⟩ => k e w' h1 (hS.call h2)
theorem turnSt {P : Program} {f : FuncId} {args : Array Value} {W w0 : World} {g r n c : Nat} {R : List Value} {d d' : D} {E : Ending → Prop} {Post : Ending → World → Prop}
    (h : Calls P f args W fun e w' => E e ∧ Only [g, r] W w' ∧ Is g r n c R d' w') (hS : St w0 g r n c R d W) (k : ∀ e w', E e → Only [g, r] W w' → St w0 g r n c R d' w' → Post e w') : Calls P f args W Post :=
  h.mono fun e w' ⟨h1, h2, h3⟩ => k e w' h1 h2 (hS.turn h2 h3)
theorem rd_set {w w' : World} {bs : List Nat} {a : Addr} {xs : List Value} (h : Hid (Rd w (some a) xs)) (ho : Only bs w w') (hb : a.block ∉ bs) : Hid (Rd w' (some a) xs) := Lib.hid (Rd.only h.out ho (fun _ e => by cases e; exact hb))
def aD (d : D) : D := { d with armed := true, left := 0, keep := 2 }
def bD : D := { all := putRow (D0 2).all 1 (torn 2 (ups 1 128)), off := true, armed := false, left := 0, keep := 2, writes := 1 }
theorem b_row : rowB bD.all 1 = torn 2 (ups 1 128) := by
  have h1 : ((D0 2).all).length = 256 := by unfold D0; exact List.length_replicate
  have h2 : (torn 2 (ups 1 128)).length = 128 := by simp [torn, ups_length]
  unfold rowB bD putRow
  simp only
  rw [List.append_assoc, List.drop_append_of_le_length (by rw [List.length_take]; omega), List.drop_of_length_le (by rw [List.length_take]; omega), List.nil_append, List.take_append_of_le_length (by omega), List.take_of_length_le (by omega)]
theorem torn_cells : (bys (torn 2 (ups 1 128)))[0]? = some (.int .u8 1) ∧ (bys (torn 2 (ups 1 128)))[1]? = some (.int .u8 2) ∧ (bys (torn 2 (ups 1 128)))[2]? = some (.int .u8 255) ∧ (bys (torn 2 (ups 1 128)))[127]? = some (.int .u8 255) := by
  refine ⟨rfl, rfl, rfl, rfl⟩
end Go.Proofs.Ytmlgkahadgpaiaa.Dk
