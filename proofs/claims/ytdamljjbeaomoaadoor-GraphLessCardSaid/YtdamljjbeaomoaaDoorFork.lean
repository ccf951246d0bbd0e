/- XTurn once more: one place of the region where two operations that turn the world are ready together. -/
import Derived.Test.YtdamljjbeaomoaaDoorTurn
import Derived.Test.YtdamljjbeaomoaaDoorOn
namespace Go.Proofs.YtdamljjbeaomoaaDoor.Turn
open Go.RowKit
open _root_.Go.Proofs.YtdamljjbeaomoaaDoor.Own (At run_loadVar_part)
section
variable {P : Program} {ops : Array Oper} {md : Region.Mode} {c : Nat → Bool} {I : World → Prop}
/-- The order serves as far as it goes; what is listed behind it. -/
def seqL : List Nat → Array Bool → Array Bool
  | [], listed => listed
  | i :: l, listed => seqL l (listed.setIfInBounds i true)
def seqBK (md : Region.Mode) (ops : Array Oper) (c : Nat → Bool) : List Nat → Array Bool → Bool
  | [], _ => true
  | i :: l, listed => (Region.ready md ops listed).contains i && (match ops[i]? with | some _ => if c i then Region.ready md ops listed == [i] else Region.free md ops listed i | none => false) && seqBK md ops c l (listed.setIfInBounds i true)
attribute [local semireducible] wpSeq
theorem wpAnyR_seqK {Q K : Act → World → Prop} (hs : Region.noSelect ops = true) (n : Nat) : ∀ (l : List Nat) (listed : Array Bool) (a : Act) (w : World), I w →
    seqBK md ops c l listed = true → (∀ a w, I w → K a w → wpAnyR P md ops c I Q n (seqL l listed) a w) → wpSeq P ops c I K l a w → wpAnyR P md ops c I Q (l.length + n) listed a w
  | [], listed, a, w, hI, _, hK, h => by
    rw [List.length_nil, Nat.zero_add]
    exact hK a w hI h
  | i :: l, listed, a, w, hI, hB, hK, h => by
    simp only [seqBK, Bool.and_eq_true] at hB
    obtain ⟨⟨hr, hf⟩, hB'⟩ := hB
    have hr' : i ∈ Region.ready md ops listed := by simpa using hr
    rw [show (i :: l).length + n = (l.length + n) + 1 by simp; omega]
    cases h0 : ops[i]? with
    | none => simp [h0] at hf
    | some o =>
      simp only [h0] at hf
      cases hc : c i with
      | true =>
        rw [hc, if_pos rfl] at hf
        have he : Region.ready md ops listed = [i] := by simpa using hf
        refine ⟨fun h9 => (by rw [h9] at he; cases he), fun j hj => ?_⟩
        rw [he] at hj
        obtain rfl := List.mem_singleton.1 hj
        exact opR_mono (fun a' w' h1 h2 => wpAnyR_seqK hs n l _ a' w' h1 hB' hK h2) hI h
      | false =>
        rw [hc, if_neg (by decide)] at hf
        obtain ⟨v, hy, hQ⟩ := yieldsR_of_opR h0 hc h
        exact wpAnyR_first h0 hc (Region.noSelect_spec hs) (l.length + n) listed a w hI (Region.free_spec h0 hf) hr' hy (wpAnyR_seqK hs n l _ _ _ hI hB' hK hQ)
/-- A region that draws its order, with one fork: behind 'pre' both i and j are ready, and nothing else. -/
theorem region_fork {id : Nat} {Q : Exit → Act → World → Prop} {a : Act} {w : World} {l : List Oper} (pre : List Nat) (i j : Nat) (pi pj : List Nat) (c : Nat → Bool) (I : World → Prop) (hm : P.follows .mixedOrders = true)
    (hB : (Region.noSelect l.toArray && seqBK .any l.toArray c pre (Array.replicate l.toArray.size false) && Region.ready .any l.toArray (seqL pre (Array.replicate l.toArray.size false)) == [i, j] &&
      seqB .any l.toArray c pi ((seqL pre (Array.replicate l.toArray.size false)).setIfInBounds i true) && seqB .any l.toArray c pj ((seqL pre (Array.replicate l.toArray.size false)).setIfInBounds j true) &&
      pre.length + (pi.length + 1) == l.toArray.size && pj.length == pi.length) = true) (hI : I w.drew)
    (h : wpSeq P l.toArray c I (fun a' w' => opR P l.toArray c I i (wpSeq P l.toArray c I (fun a' w' => Q .normal a' w') pi) a' w' ∧ opR P l.toArray c I j (wpSeq P l.toArray c I (fun a' w' => Q .normal a' w') pj) a' w') pre a w.drew) : (Code.region id l.toArray true).wp P Q a w := by
  simp only [Bool.and_eq_true, beq_iff_eq] at hB
  obtain ⟨⟨⟨⟨⟨⟨h1, h2⟩, h3⟩, h4⟩, h5⟩, h6⟩, h7⟩ := hB
  refine wp_region_any hm (wpAny_of_R (c := c) (I := I) (Q := fun a' w' => Q .normal a' w') (fun _ _ _ h => h) _ _ _ _ hI ?_)
  rw [← h6]
  rw [← h6] at h2 h3 h4 h5
  refine wpAnyR_seqK h1 (pi.length + 1) pre _ a _ hI h2 (fun a w hI hk => ?_) h
  refine ⟨fun h9 => (by rw [h9] at h3; cases h3), fun k hk' => ?_⟩
  rw [h3] at hk'
  simp only [List.mem_cons, List.not_mem_nil, or_false] at hk'
  rcases hk' with rfl | rfl
  · exact opR_mono (fun a' w' h1' h2' => wpAnyR_seq (md := .any) h1 pi _ a' _ h1' h4 h2') hI hk.1
  · refine opR_mono (fun a' w' h1' h2' => ?_) hI hk.2
    have := wpAnyR_seq (md := .any) h1 pj _ a' _ h1' h5 h2'
    rw [h7] at this
    exact this
theorem opR_call {Q : Act → World → Prop} {a : Act} {w : World} {i : Nat} (o : Oper) (ho : ops[i]? = some o) (hc : c i = true) (hw : Region.wanted o (yielded ops a.tmps) = true) (a' : Value → Act) (ha : ∀ v, a.put o.dst v = a' v)
    (k : takes P (fun v w' => I w' ∧ Q (a' v) w') ((execOp a.eval o).run P w)) : opR P ops c I i Q a w := by
  unfold opR
  simp only [ho]
  rw [if_pos hw, if_pos hc]
  exact takes_mono (fun v w' hk => ⟨hk.1, by rw [ha v]; exact hk.2⟩) k
/-- A part of a row, loaded. -/
theorem seq_load_part {Q : Act → World → Prop} {a : Act} {w : World} {i : Nat} {l : List Nat} (g off n : Nat) (t ty : TypeId) (cs xs : List Value) (fr : Nat × Nat) (d : TypeDesc) (hg : ∀ w, I w → w.heap[g]? = some (.cells ⟨cs⟩ t fr))
    (hu : P.underlying ty = some d) (hd : (match d with | .struct _ | .array _ _ => true | _ => false) = true) (hi : (P.info? ty).map (·.size) = some n) (hx : xs.length = n) (hcs : ∀ i, i < n → cs[off + i]? = xs[i]?)
    (o : Oper) (ho : ops[i]? = some o) (hc : c i = false) (hw : Region.wanted o (yielded ops a.tmps) = true) (x : Operand) (hop : o.op = .load ty x) (hxe : a.eval x = .pointer (some ⟨g, off, none⟩))
    (a' : Act) (ha : a.put o.dst (.agg ⟨xs⟩) = a') (k : wpSeq P ops c I Q l a' w) : wpSeq P ops c I Q (i :: l) a w :=
  seq_yes o ho hc hw (.agg ⟨xs⟩) (fun w h => by
    have hr : (execOp a.eval o).run P w = .ok (.value (.agg ⟨xs⟩)) w := by
      unfold execOp
      simp only [hop, hxe, Instr.loadAt, Instr.sureAddr, Sem.run_bind, Sem.run_pure, Result.andThen_ok, run_loadVar_part w g off n t ty cs xs fr d (hg w h) hu hd hi hx hcs]
    rw [hr]
    exact ⟨rfl, rfl, h⟩) a' ha k
end
end Go.Proofs.YtdamljjbeaomoaaDoor.Turn
