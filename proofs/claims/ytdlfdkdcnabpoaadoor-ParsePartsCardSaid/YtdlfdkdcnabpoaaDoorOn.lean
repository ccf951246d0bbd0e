/- Words for walks that write blocks which were there: which blocks may turn, which are known. After 'At' (there no elder block turns). -/
import Derived.Test.YtdlfdkdcnabpoaaDoorMemIn
import Derived.Laws.CopyRow
namespace Go.Proofs.YtdlfdkdcnabpoaaDoor.Own
open Go.RowKit
/-- From w0 to w just the blocks 'bs' and new ones have turned. -/
structure Only (bs : List Nat) (w0 w : World) : Prop where
  os : w.os = w0.os
  tape : w.tape = w0.tape
  output : w.output = w0.output
  size : w0.heap.size ≤ w.heap.size
  keep : ∀ k, k < w0.heap.size → k ∉ bs → w.heap[k]? = w0.heap[k]?
theorem Only.refl (bs : List Nat) (w : World) : Only bs w w := ⟨rfl, rfl, rfl, Nat.le_refl _, fun _ _ _ => rfl⟩
theorem Only.trans {bs : List Nat} {a b c : World} (h : Only bs a b) (k : Only bs b c) : Only bs a c :=
  ⟨k.os.trans h.os, k.tape.trans h.tape, k.output.trans h.output, Nat.le_trans h.size k.size, fun i hi hn => (k.keep i (Nat.lt_of_lt_of_le hi h.size) hn).trans (h.keep i hi hn)⟩
theorem Only.of_below {bs : List Nat} {a b : World} (h : Below a.heap.size a b) : Only bs a b := ⟨h.os, h.tape, h.output, h.size, fun k hk _ => h.block k hk⟩
theorem Only.below {a b : World} (h : Only [] a b) : Below a.heap.size a b := ⟨h.os, h.tape, h.output, h.size, fun k hk => h.keep k hk (by simp)⟩
theorem Only.mono {bs cs : List Nat} {a b : World} (h : Only bs a b) (hs : ∀ k ∈ bs, k ∈ cs) : Only cs a b := ⟨h.os, h.tape, h.output, h.size, fun k hk hn => h.keep k hk (fun q => hn (hs k q))⟩
/-- Blocks that turned and are new to the base need not be told. -/
theorem Only.less {bs : List Nat} {a b : World} {B : Nat} (h : Only bs a b) (hs : ∀ k ∈ bs, B ≤ k) (hB : B ≤ a.heap.size) : Below B a b := ⟨h.os, h.tape, h.output, h.size, fun k hk => h.keep k (by omega) (fun q => by have := hs k q; omega)⟩
/-- Known blocks: each may be written or is new. -/
structure On (w0 : World) (bs : List Nat) (L : List (Nat × List Value × TypeId)) (w : World) : Prop where
  only : Only bs w0 w
  blk : ∀ x ∈ L, (x.1 ∈ bs ∨ w0.heap.size ≤ x.1) ∧ w.heap[x.1]? = some (.cells ⟨x.2.1⟩ x.2.2 (0, 0))
  nodup : L.Pairwise (fun x y => x.1 ≠ y.1)
theorem On.refl (w : World) : On w [] [] w := ⟨Only.refl _ _, by simp, by simp⟩
theorem On.start {w : World} {L : List (Nat × List Value × TypeId)} (h : ∀ x ∈ L, w.heap[x.1]? = some (.cells ⟨x.2.1⟩ x.2.2 (0, 0))) (hn : L.Pairwise (fun x y => x.1 ≠ y.1)) : On w (L.map (·.1)) L w :=
  ⟨Only.refl _ _, fun x hx => ⟨.inl (List.mem_map.2 ⟨x, hx, rfl⟩), h x hx⟩, hn⟩
theorem On.of_at {w0 w : World} {L : List (Nat × List Value × TypeId)} (h : At w0 L w) : On w0 [] L w := ⟨Only.of_below h.below, fun x hx => ⟨.inr (h.blk x hx).1, (h.blk x hx).2⟩, h.nodup⟩
theorem On.at_ {w0 w : World} {L : List (Nat × List Value × TypeId)} (h : On w0 [] L w) : At w0 L w := ⟨h.only.below, fun x hx => ⟨by rcases (h.blk x hx).1 with q | q; simp at q; exact q, (h.blk x hx).2⟩, h.nodup⟩
theorem On.alloc {w0 w : World} {bs : List Nat} {L : List (Nat × List Value × TypeId)} (h : On w0 bs L w) (cs : List Value) (t : TypeId) : On w0 bs ((w.heap.size, cs, t) :: L) (w.alloc (.cells ⟨cs⟩ t (0, 0))) := by
  refine ⟨h.only.trans (Only.of_below ((Below.refl _ _).alloc (Nat.le_refl _) _)), ?_, ?_⟩
  · intro x hx
    rcases List.mem_cons.1 hx with rfl | hx
    · exact ⟨.inr h.only.size, heap_alloc_new w _⟩
    · obtain ⟨h1, h2⟩ := h.blk x hx
      exact ⟨h1, (Below.heap_alloc w _ x.1 (blk_lt h2)).trans h2⟩
  · refine List.pairwise_cons.2 ⟨fun x hx => ?_, h.nodup⟩
    have := blk_lt (h.blk x hx).2
    simp only
    omega
theorem On.call {w0 w w' : World} {bs : List Nat} {L : List (Nat × List Value × TypeId)} (h : On w0 bs L w) (hb : Below w.heap.size w w') : On w0 bs L w' :=
  ⟨h.only.trans (Only.of_below hb), fun x hx => ⟨(h.blk x hx).1, (hb.block x.1 (blk_lt (h.blk x hx).2)).trans (h.blk x hx).2⟩, h.nodup⟩
theorem On.other {w0 w : World} {bs : List Nat} {L : List (Nat × List Value × TypeId)} (h : On w0 bs L w) (o : Obj) : On w0 bs L (w.alloc o) := h.call ((Below.refl _ _).alloc (Nat.le_refl _) o)
theorem On.drew {w0 w : World} {bs : List Nat} {L : List (Nat × List Value × TypeId)} (h : On w0 bs L w) : On w0 bs L w.drew := h.call ((Below.refl _ _).drew)
theorem On.drewN {w0 w : World} {bs : List Nat} {L : List (Nat × List Value × TypeId)} (h : On w0 bs L w) (n : Nat) : On w0 bs L (w.drewN n) := h.call ⟨rfl, rfl, rfl, Nat.le_refl _, fun _ _ => rfl⟩
theorem On.row {w0 w : World} {bs : List Nat} {L : List (Nat × List Value × TypeId)} (h : On w0 bs L w) (k : Nat) {g : Nat} {cs : List Value} {t : TypeId} (hk : L[k]? = some (g, cs, t)) : w.heap[g]? = some (.cells ⟨cs⟩ t (0, 0)) :=
  (h.blk _ (List.mem_of_getElem? hk)).2
theorem On.rules {w0 w : World} {bs : List Nat} {L : List (Nat × List Value × TypeId)} (h : On w0 bs L w) : ∀ x ∈ L, (∀ i, w.cell? ⟨x.1, i, none⟩ = x.2.1[i]?) ∧ (∀ i, w.frozen? ⟨x.1, i, none⟩ = false) ∧ x.1 < w.heap.size ∧ (∀ m, x.1 < w.heap.size + m) := by
  intro x hx
  obtain ⟨h1, h2⟩ := h.blk x hx
  have h3 := blk_lt h2
  exact ⟨fun i => by simpa using cell_of_row w x.1 i ⟨x.2.1⟩ x.2.2 (0, 0) h2, fun i => by simp [World.frozen?, h2], h3, fun m => by omega⟩
/-- One known block is written as a whole. -/
theorem On.turn {w0 w w' : World} {bs : List Nat} {L : List (Nat × List Value × TypeId)} (h : On w0 bs L w) (k : Nat) {g : Nat} {cs : List Value} {t : TypeId} (hk : L[k]? = some (g, cs, t)) (cs' : List Value)
    (ho : Only [g] w w') (hg' : w'.heap[g]? = some (.cells ⟨cs'⟩ t (0, 0))) : On w0 bs (L.set k (g, cs', t)) w' := by
  have hm := List.mem_of_getElem? hk
  have hg := h.blk _ hm
  have hkl : k < L.length := (List.getElem?_eq_some_iff.1 hk).1
  have hke : L[k] = (g, cs, t) := (List.getElem?_eq_some_iff.1 hk).2
  have hne : ∀ (j : Nat) (hj : j < L.length), j ≠ k → L[j].1 ≠ g := by
    intro j hj hjk he
    have hp := List.pairwise_iff_getElem.1 h.nodup
    rcases Nat.lt_or_gt_of_ne hjk with hlt | hlt
    · exact hp j k hj hkl hlt (by rw [he, hke])
    · exact hp k j hkl hj hlt (by rw [he, hke])
  refine ⟨⟨ho.os.trans h.only.os, ho.tape.trans h.only.tape, ho.output.trans h.only.output, Nat.le_trans h.only.size ho.size, fun j hj hn => ?_⟩, ?_, ?_⟩
  · refine (ho.keep j (Nat.lt_of_lt_of_le hj h.only.size) (fun q => ?_)).trans (h.only.keep j hj hn)
    obtain rfl := List.mem_singleton.1 q
    rcases hg.1 with q | q
    · exact hn q
    · simp only at q; omega
  · intro x hx
    obtain ⟨j, hj, rfl⟩ := List.mem_iff_getElem.1 hx
    rw [List.length_set] at hj
    rw [List.getElem_set]
    split
    · exact ⟨hg.1, hg'⟩
    · rename_i hjk
      obtain ⟨h1, h2⟩ := h.blk L[j] (List.getElem_mem _)
      exact ⟨h1, (ho.keep L[j].1 (blk_lt h2) (fun q => hne j hj (fun e => hjk e.symm) (List.mem_singleton.1 q))).trans h2⟩
  · rw [List.pairwise_iff_getElem]
    intro a b ha hb hab
    rw [List.length_set] at ha hb
    rw [List.getElem_set, List.getElem_set]
    split
    · split
      · omega
      · rename_i h1 h2
        exact fun e => hne b hb (fun e' => h2 e'.symm) e.symm
    · split
      · rename_i h1 h2
        exact fun e => hne a ha (fun e' => h1 e'.symm) e
      · exact List.pairwise_iff_getElem.1 h.nodup a b ha hb hab
theorem only_setCell (w : World) (g i : Nat) (v : Value) : Only [g] w (w.setCell ⟨g, i, none⟩ v) :=
  ⟨rfl, rfl, rfl, by simp, fun k _ hn => Below.heap_setCell w _ _ _ (fun e => hn (by rw [e]; simp))⟩
theorem only_setRow (w : World) (g : Nat) (cs : Array Value) : Only [g] w (w.setRow g cs) :=
  ⟨rfl, rfl, rfl, by simp [World.setRow], fun k _ hn => setRow_other w g k cs (fun e => hn (by rw [e]; simp))⟩
theorem heap_setCell_list {w : World} {g i : Nat} {cs : List Value} {t : TypeId} {v : Value} (h : w.heap[g]? = some (.cells ⟨cs⟩ t (0, 0))) : (w.setCell ⟨g, i, none⟩ v).heap[g]? = some (.cells ⟨cs.set i v⟩ t (0, 0)) := by
  simp only [World.setCell, Array.getElem?_modify, if_true]
  rw [h]
  simp
theorem On.set {w0 w : World} {bs : List Nat} {L : List (Nat × List Value × TypeId)} (h : On w0 bs L w) (k : Nat) {g : Nat} {cs : List Value} {t : TypeId} (hk : L[k]? = some (g, cs, t)) (i : Nat) (v : Value) :
    On w0 bs (L.set k (g, cs.set i v, t)) (w.setCell ⟨g, i, none⟩ v) := h.turn k hk _ (only_setCell w g i v) (heap_setCell_list (h.row k hk))
theorem On.setRow {w0 w : World} {bs : List Nat} {L : List (Nat × List Value × TypeId)} (h : On w0 bs L w) (k : Nat) {g : Nat} {cs : List Value} {t : TypeId} (hk : L[k]? = some (g, cs, t)) (cs' : Array Value) :
    On w0 bs (L.set k (g, cs'.toList, t)) (w.setRow g cs') := h.turn k hk _ (only_setRow w g cs') (setRow_heap w g _ cs' t (0, 0) (h.row k hk))
/-- A call that turns known blocks k1, k2. -/
theorem On.turn2 {w0 w w' : World} {bs : List Nat} {L : List (Nat × List Value × TypeId)} (h : On w0 bs L w) (k1 k2 : Nat) {g1 g2 : Nat} {cs1 cs2 : List Value} {t1 t2 : TypeId} (h1 : L[k1]? = some (g1, cs1, t1)) (h2 : L[k2]? = some (g2, cs2, t2)) (hk : k1 ≠ k2) (cs1' cs2' : List Value)
    (ho : Only [g1, g2] w w') (hg1 : w'.heap[g1]? = some (.cells ⟨cs1'⟩ t1 (0, 0))) (hg2 : w'.heap[g2]? = some (.cells ⟨cs2'⟩ t2 (0, 0))) : On w0 bs ((L.set k1 (g1, cs1', t1)).set k2 (g2, cs2', t2)) w' := by
  have e1 := h.blk _ (List.mem_of_getElem? h1)
  have e2 := h.blk _ (List.mem_of_getElem? h2)
  have hne : g1 ≠ g2 := by
    obtain ⟨l1, q1⟩ := List.getElem?_eq_some_iff.1 h1
    obtain ⟨l2, q2⟩ := List.getElem?_eq_some_iff.1 h2
    have hp := List.pairwise_iff_getElem.1 h.nodup
    rcases Nat.lt_or_gt_of_ne hk with hlt | hlt
    · have := hp k1 k2 l1 l2 hlt; rw [q1, q2] at this; exact this
    · have := hp k2 k1 l2 l1 hlt; rw [q1, q2] at this; exact fun e => this e.symm
  -- by way of a world in which just the first has turned
  have s1 := h.setRow k1 h1 ⟨cs1'⟩
  have h2' : (L.set k1 (g1, cs1', t1))[k2]? = some (g2, cs2, t2) := by rw [List.getElem?_set]; rw [if_neg hk]; exact h2
  have s2 := s1.setRow k2 h2' ⟨cs2'⟩
  have l1 := blk_lt e1.2
  have l2 := blk_lt e2.2
  refine ⟨⟨ho.os.trans h.only.os, ho.tape.trans h.only.tape, ho.output.trans h.only.output, Nat.le_trans h.only.size ho.size, fun j hj hn => ?_⟩, ?_, s2.nodup⟩
  · refine (ho.keep j (Nat.lt_of_lt_of_le hj h.only.size) (fun q => ?_)).trans (h.only.keep j hj hn)
    simp only [List.mem_cons, List.not_mem_nil, or_false] at q
    rcases q with rfl | rfl
    · rcases e1.1 with q | q
      · exact hn q
      · simp only at q; omega
    · rcases e2.1 with q | q
      · exact hn q
      · simp only at q; omega
  · intro x hx
    obtain ⟨q1, q2⟩ := s2.blk x hx
    refine ⟨q1, ?_⟩
    by_cases x1 : x.1 = g1
    · rw [x1] at q2 ⊢
      have : ((w.setRow g1 ⟨cs1'⟩).setRow g2 ⟨cs2'⟩).heap[g1]? = some (.cells ⟨cs1'⟩ t1 (0, 0)) := by
        rw [setRow_other _ _ _ _ hne]; exact setRow_heap w g1 _ _ t1 (0, 0) e1.2
      rw [this] at q2
      rw [hg1, q2]
    · by_cases x2 : x.1 = g2
      · rw [x2] at q2 ⊢
        have := s2.row k2 (g := g2) (cs := cs2') (t := t2) (by rw [List.getElem?_set]; simp [(List.getElem?_eq_some_iff.1 h2).1])
        rw [this] at q2
        rw [hg2, q2]
      · have hx1 : x.1 < w.heap.size := by
          have := blk_lt q2
          simpa [World.setRow] using this
        rw [ho.keep x.1 hx1 (by simp [x1, x2])]
        rw [setRow_other _ _ _ _ x2, setRow_other _ _ _ _ x1] at q2
        exact q2
theorem callOn {P : Program} {f : FuncId} {args : Array Value} {W w0 : World} {R : Ending → Prop} {bs : List Nat} {L : List (Nat × List Value × TypeId)} {Post : Ending → World → Prop}
    (h : Calls P f args W fun e w' => R e ∧ Below W.heap.size W w') (hW : On w0 bs L W) (k : ∀ e w', R e → On w0 bs L w' → Post e w') : Calls P f args W Post :=
  h.mono fun e w' ⟨h1, h2⟩ => k e w' h1 (hW.call h2)
theorem withOn {P : Program} {f : FuncId} {args : Array Value} {W w0 : World} {bs : List Nat} {L : List (Nat × List Value × TypeId)} {Post : Ending → World → Prop} (hW : On w0 bs L W) (k : On w0 bs L W → Calls P f args W Post) : Calls P f args W Post := k hW
theorem region_on {P : Program} {id : Nat} {Q : Exit → Act → World → Prop} {a : Act} {w w0 : World} {l : List Oper} {bs : List Nat} {L : List (Nat × List Value × TypeId)} (hm : P.follows .mixedOrders = true) (hB : Region.lexB .any l.toArray = true) (hI : On w0 bs L w.drew)
    (h : ∀ J : World → Prop, (∀ w', J w' → On w0 bs L w') → (∀ w', On w0 bs L w' → J w') → wpInv P l.toArray J (fun a' => ∀ w', J w' → Q .normal a' w') l a) : (Code.region id l.toArray true).wp P Q a w :=
  region_inv (On w0 bs L) hm hB hI (h (On w0 bs L) (fun _ h => h) (fun _ h => h))
theorem callJ {P : Program} {I : World → Prop} {f : FuncId} {args : Array Value} {W w0 : World} {v : Value} {bs : List Nat} {L : List (Nat × List Value × TypeId)} (h1 : ∀ w', I w' → On w0 bs L w') (h2 : ∀ w', On w0 bs L w' → I w')
    (h : Calls P f args W fun e w' => e = .returned v ∧ Below W.heap.size W w') (hW : I W) : Calls P f args W fun e w' => e = .returned v ∧ I w' :=
  h.mono fun _ _ ⟨g1, g2⟩ => ⟨g1, h2 _ ((h1 _ hW).call g2)⟩
section
variable {P : Program} {ops : Array Oper} {Q : Exit → Act → World → Prop} {a : Act} {w : World} {rest : List Oper} {o : Oper} {d : TypeDesc}
/-- A part of a block read as one value. -/
theorem run_loadVar_part (w : World) (g off n : Nat) (t ty : TypeId) (cs xs : List Value) (fr : Nat × Nat) (d : TypeDesc) (hg : w.heap[g]? = some (.cells ⟨cs⟩ t fr))
    (hu : P.underlying ty = some d) (hd : (match d with | .struct _ | .array _ _ => true | _ => false) = true) (hi : (P.info? ty).map (·.size) = some n) (hx : xs.length = n) (hc : ∀ i, i < n → cs[off + i]? = xs[i]?) :
    (loadVar ty ⟨g, off, none⟩).run P w = .ok (.agg ⟨xs⟩) w := by
  have hl : (loadCells ⟨g, off, none⟩ xs.length).run P w = .ok xs.toArray w :=
    run_loadCells_list (P := P) w ⟨g, off, none⟩ xs (fun j v hv => by
      have hadd : (⟨g, off, none⟩ : Addr).add j = ⟨g, off + j, none⟩ := by unfold Addr.add; split <;> simp_all
      have hj := (List.getElem?_eq_some_iff.1 hv).1
      rw [hadd, cell_of_row w g (off + j) ⟨cs⟩ t fr hg]
      simpa [hc j (by omega)] using hv)
  cases hq : P.info? ty with
  | none => simp [hq] at hi
  | some i =>
    have hs : i.size = n := by simpa [hq] using hi
    have hagg : (isAgg ty).run P w = .ok true w := by
      unfold isAgg
      rw [Sem.run_bind, run_underlying hu w]
      cases d <;> simp_all
    rw [hx] at hl
    simp [loadVar, Sem.run_bind, hagg, sizeOf, typeInfo, hq, hs, hl]
/-- A part of a list set. -/
def splc (cs xs : List Value) (off : Nat) : List Value := cs.take off ++ xs ++ cs.drop (off + xs.length)
theorem run_storeVar_part (w : World) (g off n : Nat) (t ty : TypeId) (cs xs : List Value) (hg : w.heap[g]? = some (.cells ⟨cs⟩ t (0, 0))) (hi : (P.info? ty).map (·.size) = some n) (hx : xs.length = n) (hb : off + n ≤ cs.length) (h1 : ∀ u ∈ xs, u.oneCell' = true) :
    (storeVar ty ⟨g, off, none⟩ (.agg ⟨xs⟩)).run P w = .ok () (w.setRow g ⟨splc cs xs off⟩) := by
  have h := run_storeCells_at P g off t xs 0 ⟨cs⟩ w hg (by simp; omega) h1
  simp only [Nat.add_zero] at h
  have e : (List.take off (⟨cs⟩ : Array Value).toList ++ xs ++ List.drop (off + xs.length) (⟨cs⟩ : Array Value).toList).toArray = ⟨splc cs xs off⟩ := rfl
  rw [e] at h
  cases hq : P.info? ty with
  | none => simp [hq] at hi
  | some i =>
    have hs : i.size = n := by simpa [hq] using hi
    simp [storeVar, Sem.run_bind, sizeOf, typeInfo, hq, hs, Value.cells, hx, h]
end
end Go.Proofs.YtdlfdkdcnabpoaaDoor.Own
