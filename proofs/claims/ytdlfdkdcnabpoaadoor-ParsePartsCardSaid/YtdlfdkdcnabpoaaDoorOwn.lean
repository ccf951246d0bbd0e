/- Words for walks: the blocks that a call has made, and what stays as it was (lemmas over any program). -/
import Derived.Below
import Derived.Deep.Draws
import Derived.WalkKit
import Derived.OneCell
import Derived.Maps.AppendAt
import Derived.StillTailTactics
namespace Go.Proofs.YtdlfdkdcnabpoaaDoor.Own
open Go.RowKit
/-- The call's own blocks: 'L' lists those that are known whole; below the call's begin nothing has turned. -/
structure At (w0 : World) (L : List (Nat × List Value × TypeId)) (w : World) : Prop where
  below : Below w0.heap.size w0 w
  blk : ∀ x ∈ L, w0.heap.size ≤ x.1 ∧ w.heap[x.1]? = some (.cells ⟨x.2.1⟩ x.2.2 (0, 0))
  nodup : L.Pairwise (fun x y => x.1 ≠ y.1)

theorem At.refl (w : World) : At w [] w := ⟨Below.refl _ _, by simp, by simp⟩
theorem blk_lt {w : World} {g : Nat} {o : Obj} (h : w.heap[g]? = some o) : g < w.heap.size := (Array.getElem?_eq_some_iff.1 h).1
theorem At.alloc {w0 w : World} {L : List (Nat × List Value × TypeId)} (h : At w0 L w) (cs : List Value) (t : TypeId) : At w0 ((w.heap.size, cs, t) :: L) (w.alloc (.cells ⟨cs⟩ t (0, 0))) := by
  refine ⟨h.below.alloc h.below.size _, ?_, ?_⟩
  · intro x hx
    rcases List.mem_cons.1 hx with rfl | hx
    · exact ⟨h.below.size, heap_alloc_new w _⟩
    · obtain ⟨h1, h2⟩ := h.blk x hx
      exact ⟨h1, (Below.heap_alloc w _ x.1 (blk_lt h2)).trans h2⟩
  · refine List.pairwise_cons.2 ⟨fun x hx => ?_, h.nodup⟩
    have := blk_lt (h.blk x hx).2
    simp only
    omega
theorem At.other {w0 w : World} {L : List (Nat × List Value × TypeId)} (h : At w0 L w) (o : Obj) : At w0 L (w.alloc o) := by
  refine ⟨h.below.alloc h.below.size _, ?_, h.nodup⟩
  intro x hx
  obtain ⟨h1, h2⟩ := h.blk x hx
  exact ⟨h1, (Below.heap_alloc w _ x.1 (blk_lt h2)).trans h2⟩
theorem At.call {w0 w w' : World} {L : List (Nat × List Value × TypeId)} (h : At w0 L w) (hb : Below w.heap.size w w') : At w0 L w' :=
  ⟨h.below.trans (hb.mono h.below.size), fun x hx => ⟨(h.blk x hx).1, (hb.block x.1 (blk_lt (h.blk x hx).2)).trans (h.blk x hx).2⟩, h.nodup⟩
theorem At.drew {w0 w : World} {L : List (Nat × List Value × TypeId)} (h : At w0 L w) : At w0 L w.drew := h.call ((Below.refl _ _).drew)
theorem At.drewN {w0 w : World} {L : List (Nat × List Value × TypeId)} (h : At w0 L w) (n : Nat) : At w0 L (w.drewN n) := h.call ⟨rfl, rfl, rfl, Nat.le_refl _, fun _ _ => rfl⟩
theorem At.set {w0 w : World} {L : List (Nat × List Value × TypeId)} (h : At w0 L w) (k : Nat) {g : Nat} {cs : List Value} {t : TypeId} (hk : L[k]? = some (g, cs, t)) (i : Nat) (v : Value) :
    At w0 (L.set k (g, cs.set i v, t)) (w.setCell ⟨g, i, none⟩ v) := by
  have hm := List.mem_of_getElem? hk
  have hg := h.blk _ hm
  have hkl : k < L.length := (List.getElem?_eq_some_iff.1 hk).1
  have hke : L[k] = (g, cs, t) := (List.getElem?_eq_some_iff.1 hk).2
  have hne : ∀ (j : Nat) (hj : j < L.length), j ≠ k → L[j].1 ≠ g := by
    intro j hj hjk he
    have hp := List.pairwise_iff_getElem.1 h.nodup
    rcases Nat.lt_or_gt_of_ne hjk with hlt | hlt
    · exact hp j k hj hkl hlt (by rw [he, hke])
    · exact hp k j hkl hj hlt (by rw [he, hke])
  refine ⟨h.below.setCell (p := ⟨g, i, none⟩) hg.1 _, ?_, ?_⟩
  · intro x hx
    obtain ⟨j, hj, rfl⟩ := List.mem_iff_getElem.1 hx
    rw [List.length_set] at hj
    rw [List.getElem_set]
    split
    · refine ⟨hg.1, ?_⟩
      have h2 := hg.2
      simp only [World.setCell, Array.getElem?_modify, if_true]
      rw [h2]
      simp
    · rename_i hjk
      obtain ⟨h1, h2⟩ := h.blk L[j] (List.getElem_mem _)
      exact ⟨h1, (Below.heap_setCell w _ _ _ (hne j hj (fun e => hjk e.symm))).trans h2⟩
  · rw [List.pairwise_iff_getElem]
    intro a b ha hb hab
    rw [List.length_set] at ha hb
    rw [List.getElem_set, List.getElem_set]
    split
    · split
      · omega
      · rename_i h1 h2
        exact fun e => hne b hb (fun e' => h2 e'.symm) e.symm
    · split
      · rename_i h1 h2
        exact fun e => hne a ha (fun e' => h1 e'.symm) e
      · exact List.pairwise_iff_getElem.1 h.nodup a b ha hb hab
/-- What a walk wants of the blocks that are known: their cells, that they may be written, that they lie below the heap's end. -/
theorem At.rules {w0 w : World} {L : List (Nat × List Value × TypeId)} (h : At w0 L w) : ∀ x ∈ L, (∀ i, w.cell? ⟨x.1, i, none⟩ = x.2.1[i]?) ∧ (∀ i, w.frozen? ⟨x.1, i, none⟩ = false) ∧ x.1 < w.heap.size ∧ (∀ m, x.1 < w.heap.size + m) := by
  intro x hx
  obtain ⟨h1, h2⟩ := h.blk x hx
  have h3 := blk_lt h2
  exact ⟨fun i => by simpa using cell_of_row w x.1 i ⟨x.2.1⟩ x.2.2 (0, 0) h2, fun i => by simp [World.frozen?, h2], h3, fun m => by omega⟩
theorem callAt {P : Program} {f : FuncId} {args : Array Value} {W w0 : World} {R : Ending → Prop} {L : List (Nat × List Value × TypeId)} {Post : Ending → World → Prop}
    (h : Calls P f args W fun e w' => R e ∧ Below W.heap.size W w') (hW : At w0 L W) (k : ∀ e w', R e → At w0 L w' → Post e w') : Calls P f args W Post :=
  h.mono fun e w' ⟨h1, h2⟩ => k e w' h1 (hW.call h2)
/-- A contract that leaves the world alone, as the still words want it. -/
theorem still_of {P : Program} {f : FuncId} {args : Array Value} {w : World} {v : Value} (h : Calls P f args w fun e w' => e = .returned v ∧ w = w') : Calls P f args w fun e w' => e = .returned v ∧ w' = w :=
  h.mono fun _ _ ⟨a, b⟩ => ⟨a, b.symm⟩
theorem still_tail {P : Program} {id : Nat} {Q : Exit → Act → World → Prop} {a : Act} {w : World} {l : List Oper} (n : Nat) (hm : P.follows .mixedOrders = true) (hB : Region.lexTailB .any l.toArray n = true)
    (h : wpStill P l.toArray w.drew (fun a' => wpList P l.toArray Q (l.drop n) a' w.drew) (l.take n) a) : (Code.region id l.toArray true).wp P Q a w :=
  wp_region_still_tail n hm hB h
end Go.Proofs.YtdlfdkdcnabpoaaDoor.Own
