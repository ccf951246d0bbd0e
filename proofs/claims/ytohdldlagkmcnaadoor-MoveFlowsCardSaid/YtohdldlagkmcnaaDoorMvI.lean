/- Chapter 30: the laws' argument. -/
import Derived.Test.YtohdldlagkmcnaaDoorMvH
import Derived.Deep.DeepCutAuto
namespace Go.Proofs.YtohdldlagkmcnaaDoor.Mv
set_option linter.unusedSimpArgs false
set_option linter.unusedVariables false
open Go.RowKit
open _root_.Go.Proofs.YtohdldlagkmcnaaDoor.Own
open Go.Proofs.YtohdldlagkmcnaaDoor.Pl
attribute [local go_sem] b16_and b16_or b16_andNot
def sideC (S I : BitVec 16) (t : Int) (f : Bool) : List Value := [.int .u16 (nH S), .int .u16 (nH I), .int .i64 t, .bool f]
def askC (P : Pol) (r : Int) (oS oI : BitVec 16) (oT : Int) (oF : Bool) (xS xI : BitVec 16) (xT : Int) (xF : Bool) : List Value :=
  polC P ++ [.int .i64 r, .int .u16 (nH oS), .int .u16 (nH oI), .int .i64 oT, .bool oF, .int .u16 (nH xS), .int .u16 (nH xI), .int .i64 xT, .bool xF]
theorem ask_pol {P : Pol} {r : Int} {oS oI : BitVec 16} {oT : Int} {oF : Bool} {xS xI : BitVec 16} {xT : Int} {xF : Bool} (i : Nat) (h : i < 66) : (askC P r oS oI oT oF xS xI xT xF)[0 + i]? = (polC P)[i]? := by
  rw [Nat.zero_add]
  exact List.getElem?_append_left (by rw [polC_length]; exact h)
theorem ask_rest {P : Pol} {r : Int} {oS oI : BitVec 16} {oT : Int} {oF : Bool} {xS xI : BitVec 16} {xT : Int} {xF : Bool} (i : Nat) : (askC P r oS oI oT oF xS xI xT xF)[66 + i]? = ([.int .i64 r, .int .u16 (nH oS), .int .u16 (nH oI), .int .i64 oT, .bool oF, .int .u16 (nH xS), .int .u16 (nH xI), .int .i64 xT, .bool xF] : List Value)[i]? := by
  unfold askC
  rw [List.getElem?_append_right (by rw [polC_length]; omega), polC_length]
  congr 1
  omega
theorem pol_size' : (Tryd.prog.info? 29).map (·.size) = some 66 := by kernel_rfl
theorem at_swap {w V : World} {a b : Nat × List Value × TypeId} {L : List (Nat × List Value × TypeId)} (h : At w (a :: b :: L) V) : At w (b :: a :: L) V := by
  refine ⟨h.below, fun x hx => h.blk x (by simp only [List.mem_cons] at hx ⊢; rcases hx with rfl | rfl | hx; exact .inr (.inl rfl); exact .inl rfl; exact .inr (.inr hx)), ?_⟩
  have h2 := h.nodup
  simp only [List.pairwise_cons, List.mem_cons] at h2 ⊢
  obtain ⟨h3, h4, h5⟩ := h2
  refine ⟨?_, fun x hx => h3 x (.inr hx), h5⟩
  rintro x (rfl | hx)
  · exact fun e => h3 b (.inl rfl) e.symm
  · exact h4 x hx
theorem ask_cells {w V : World} {k : Nat} {L : List (Nat × List Value × TypeId)} {P : Pol} {r : Int} {oS oI : BitVec 16} {oT : Int} {oF : Bool} {xS xI : BitVec 16} {xT : Int} {xF : Bool} (h : At w L V) (hk : L[k]? = some (w.heap.size, askC P r oS oI oT oF xS xI xT xF, 33)) :
    V.cell? ⟨w.heap.size, 66, none⟩ = some (.int .i64 r) ∧ V.cell? ⟨w.heap.size, 67, none⟩ = some (.int .u16 (nH oS)) ∧ V.cell? ⟨w.heap.size, 68, none⟩ = some (.int .u16 (nH oI)) ∧ V.cell? ⟨w.heap.size, 69, none⟩ = some (.int .i64 oT) ∧ V.cell? ⟨w.heap.size, 70, none⟩ = some (.bool oF) ∧
    V.cell? ⟨w.heap.size, 71, none⟩ = some (.int .u16 (nH xS)) ∧ V.cell? ⟨w.heap.size, 72, none⟩ = some (.int .u16 (nH xI)) ∧ V.cell? ⟨w.heap.size, 73, none⟩ = some (.int .i64 xT) ∧ V.cell? ⟨w.heap.size, 74, none⟩ = some (.bool xF) := by
  have c := (h.rules _ (List.mem_of_getElem? hk)).1
  exact ⟨(c 66).trans (ask_rest 0), (c 67).trans (ask_rest 1), (c 68).trans (ask_rest 2), (c 69).trans (ask_rest 3), (c 70).trans (ask_rest 4), (c 71).trans (ask_rest 5), (c 72).trans (ask_rest 6), (c 73).trans (ask_rest 7), (c 74).trans (ask_rest 8)⟩
theorem s4_cells {V w : World} {g : Nat} {S I : BitVec 16} {t : Int} {f : Bool} {T : TypeId} {L : List (Nat × List Value × TypeId)} {k : Nat} (h : At w L V) (hk : L[k]? = some (g, sideC S I t f, T)) :
    V.cell? ⟨g, 0, none⟩ = some (.int .u16 (nH S)) ∧ V.cell? ⟨g, 1, none⟩ = some (.int .u16 (nH I)) ∧ V.cell? ⟨g, 2, none⟩ = some (.int .i64 t) ∧ V.cell? ⟨g, 3, none⟩ = some (.bool f) := by
  have c := (h.rules _ (List.mem_of_getElem? hk)).1
  exact ⟨c 0, c 1, c 2, c 3⟩
/-- What the laws hold: the two sides, the mended policy, the argument. -/
abbrev LL (w : World) (P : Pol) (r : Int) (oS oI : BitVec 16) (oT : Int) (oF : Bool) (xS xI : BitVec 16) (xT : Int) (xF : Bool) (Q : Pol) (gp g1 g2 : Nat) : List (Nat × List Value × TypeId) :=
  [(g2, sideC xS xI xT xF, 35), (g1, sideC oS oI oT oF, 35), (gp, polC Q, 29), (w.heap.size, askC P r oS oI oT oF xS xI xT xF, 33)]
/-- The events of a way, as a list of flows. -/
def evL (Q : Pol) (r : Int) (oS oI : BitVec 16) (oT : Int) (oF : Bool) (xS xI : BitVec 16) (xT : Int) (xF : Bool) (way : Int) : List Fl :=
  if (mayF Q r oS oI oT oF xS xI xT xF way).2 = 0 then flowsL way oS oI xS xI else []
theorem may_way {Q : Pol} {r : Int} {oS oI : BitVec 16} {oT : Int} {oF : Bool} {xS xI : BitVec 16} {xT : Int} {xF : Bool} {way : Int} (h : (mayF Q r oS oI oT oF xS xI xT xF way).2 = 0) : way = 1 ∨ way = 2 ∨ way = 3 := by
  unfold mayF at h
  split at h
  · cases h
  · omega
theorem evL_len (Q : Pol) (r : Int) (oS oI : BitVec 16) (oT : Int) (oF : Bool) (xS xI : BitVec 16) (xT : Int) (xF : Bool) (way : Int) : evN (mayF Q r oS oI oT oF xS xI xT xF way).2 way = (evL Q r oS oI oT oF xS xI xT xF way).length := by
  unfold evN evL
  split
  · rename_i h
    rw [flowsL_length (may_way h)]
  · rfl
theorem evL_evs (Q : Pol) (r : Int) (oS oI : BitVec 16) (oT : Int) (oF : Bool) (xS xI : BitVec 16) (xT : Int) (xF : Bool) (way : Int) : (if (mayF Q r oS oI oT oF xS xI xT xF way).2 = 0 then evs oT r oS oI (flowsL way oS oI xS xI) else []) = evs oT r oS oI (evL Q r oS oI oT oF xS xI xT xF way) := by
  unfold evL
  split <;> rfl
theorem evL_two (Q : Pol) (r : Int) (oS oI : BitVec 16) (oT : Int) (oF : Bool) (xS xI : BitVec 16) (xT : Int) (xF : Bool) (way : Int) : (evL Q r oS oI oT oF xS xI xT xF way).length ≤ 2 := by
  rw [← evL_len]
  unfold evN flowsN
  split <;> (try split) <;> decide
theorem Event_is (P : Pol) (r : Int) (oS oI : BitVec 16) (oT : Int) (oF : Bool) (xS xI : BitVec 16) (xT : Int) (xF : Bool) (way : Int) (w : World) (hT : Table w) (hw1 : 1 ≤ w.heap.size) :
    Calls Tryd.prog 9 #[.agg ⟨polC P⟩, .int .i64 r, sideV oS oI oT oF, sideV xS xI xT xF, .int .i64 way] w fun e w' => ∃ (A : Option Addr) (g c : Nat), e = .returned (.slice A (evL P r oS oI oT oF xS xI xT xF way).length c) ∧ ((evL P r oS oI oT oF xS xI xT xF way).length ≠ 0 → A = some ⟨g, 0, none⟩ ∧ EvAt w' g oT r oS oI (evL P r oS oI oT oF xS xI xT xF way)) ∧ Below w.heap.size w w' := by
  refine (Event_calls P r oS oI oT oF xS xI xT xF way w hT hw1).mono ?_
  rintro e w' ⟨v, rfl, hv, hb⟩
  rw [evL_len, evL_evs] at hv
  obtain ⟨A, g, c, rfl, hc, h⟩ := ev_at rfl hv
  exact ⟨A, g, c, rfl, h, hb⟩
theorem REvent_is (P : Pol) (r : Int) (oS oI : BitVec 16) (oT : Int) (oF : Bool) (xS xI : BitVec 16) (xT : Int) (xF : Bool) (way : Int) (w : World) :
    Calls Tryd.prog 10 #[.agg ⟨polC P⟩, .int .i64 r, sideV oS oI oT oF, sideV xS xI xT xF, .int .i64 way] w fun e w' => ∃ (A : Option Addr) (g c : Nat), e = .returned (.slice A (evL P r oS oI oT oF xS xI xT xF way).length c) ∧ ((evL P r oS oI oT oF xS xI xT xF way).length ≠ 0 → A = some ⟨g, 0, none⟩ ∧ EvAt w' g oT r oS oI (evL P r oS oI oT oF xS xI xT xF way)) ∧ Below w.heap.size w w' := by
  refine (REvent_calls P r oS oI oT oF xS xI xT xF way w).mono ?_
  rintro e w' ⟨v, rfl, hv, hb⟩
  rw [evL_len, evL_evs] at hv
  obtain ⟨A, g, c, rfl, hc, h⟩ := ev_at rfl hv
  exact ⟨A, g, c, rfl, h, hb⟩
section
variable {P : Program} {ops : Array Oper} {cc : Nat → Bool} {I : World → Prop}
theorem seq_load_row {Q : Act → World → Prop} {a : Act} {w : World} {i : Nat} {l : List Nat} (g : Nat) (t : TypeId) (cs : Array Value) (fr : Nat × Nat) (d : TypeDesc) (ty : TypeId) (hg : ∀ w, I w → w.heap[g]? = some (.cells cs t fr))
    (hu : P.underlying ty = some d) (hd : (match d with | .struct _ | .array _ _ => true | _ => false) = true) (hi : (P.info? ty).map (·.size) = some cs.size)
    (o : Oper) (ho : ops[i]? = some o) (hc : cc i = false) (hw : Region.wanted o (yielded ops a.tmps) = true) (x : Operand) (hop : o.op = .load ty x) (hx : a.eval x = .pointer (some ⟨g, 0, none⟩))
    (a' : Act) (ha : a.put o.dst (.agg cs) = a') (k : Turn.wpSeq P ops cc I Q l a' w) : Turn.wpSeq P ops cc I Q (i :: l) a w :=
  Turn.seq_yes o ho hc hw (.agg cs) (fun w h => by rw [run_load_row ty x hop g hx t cs fr d (hg w h) hu hd hi]; exact ⟨rfl, rfl, h⟩) a' ha k
end
end Go.Proofs.YtohdldlagkmcnaaDoor.Mv
