/- The iterator tagset.Each: what it hands out, for every loop body that keeps block 0 (the table). -/
import Derived.Test.YtdamljjbeaomoaaDoorGrA
import Derived.RangeFuncNested
import Derived.RangeFuncBound
import Derived.RangeFuncCalls
import Derived.RangeFuncLeaves
import Derived.Shelf.Abstract
import Derived.Shelf.RegionOpen
import Derived.OwnWalkIn
import Derived.TacticsInMore
import Derived.LoopNIn
import Derived.LoopIn
namespace Go.Proofs.YtdamljjbeaomoaaDoor
set_option linter.unusedSimpArgs false
set_option linter.unusedVariables false
open Go.RowKit Go.Shelf
open _root_.Go.Proofs.YtdamljjbeaomoaaDoor.Own
attribute [local go_sem] Oper.semAt_some
attribute [local go_sem] b16_and
def Table (w : World) : Prop := ∀ i : Nat, i < 32 → w.cell? ⟨0, i, none⟩ = some (.int .u8 (dbT.getD i 0))
theorem Table.below {w w' : World} (h : Table w) (hb : Below 1 w w') : Table w' := fun i hi => (hb.cell (p := ⟨0, i, none⟩) (by simp)).trans (h i hi)
theorem nH_pred (x : BitVec 16) : IntKind.u16.wrap (nH x - 1) = nH (x - 1#16) := by
  rw [IntKind.wrap_u16]
  have := x.isLt
  unfold nH
  rw [BitVec.toNat_sub]
  simp
  omega
theorem less1_lt (t : BitVec 16) (h : t ≠ 0#16) : (intOf (.int .u16 (nH (t &&& (t - 1#16))))).toNat < (intOf (.int .u16 (nH t))).toNat := by
  show (nH (t &&& (t - 1#16))).toNat < (nH t).toNat
  have h0 : t.toNat ≠ 0 := fun e => h (BitVec.eq_of_toNat_eq e)
  have hx := t.isLt
  have h1 : (t - 1#16).toNat = t.toNat - 1 := by
    rw [BitVec.toNat_sub]; simp; omega
  unfold nH
  rw [BitVec.toNat_and, h1]
  have := Nat.and_le_right (n := t.toNat) (m := t.toNat - 1)
  simp
  omega
set_option maxHeartbeats 2000000 in
theorem each_stops (n : Nat) (hn : 1 ≤ n) (B : Nat) (s : BitVec 16) (w : World) (h1 : 1 ≤ w.heap.size) (hB : w.cell? ⟨B, 0, none⟩ = some (.int .u16 (nH s))) (hT : Table w) :
    SeqStopsK Fence.wide n Tryd.prog 23 #[.pointer (some ⟨B, 0, none⟩)] (fun t : Fin 16 => #[.int .i64 (t.val : Int)]) (Below 1) (fun xs => xs.map Fin.val = elems s) (fun pre => pre.map Fin.val <+: elems s) 16 w := fun l J Jx W hW hJ hJx hY h0 => by
  have hBW : W.cell? ⟨B, 0, none⟩ = some (.int .u16 (nH s)) := (hW.cell (World.block_lt_of_cell? w _ hB)).trans hB
  have hTW : Table W := hT.below (hW.mono h1)
  refine callsIn_of_wp Tryd.func23 rfl trivial ?_ rfl
  simp only [Tryd.ntmps23, List.size_toArray, List.length_cons, List.length_nil, Nat.reduceAdd, Nat.reduceSub, Array.replicate_succ, Array.replicate_zero, List.push_toArray, List.append_toArray, List.nil_append, List.cons_append]
  gi_wp2
  gi_loopw [3] (fun p wr => ∃ (pre : List (Fin 16)) (t : BitVec 16), p = .int .u16 (nH t) ∧ elems s = pre.map Fin.val ++ elems t ∧ Table wr ∧ J pre wr) (fun p _ => (intOf p).toNat)
  case atStart => exact ⟨[], s, rfl, rfl, hTW, h0⟩
  case round =>
    obtain ⟨pre, t, rfl, hx, hTr, hJr⟩ := hrel
    by_cases ht : t = 0#16
    · subst ht
      have h0 : (nH (0#16) != 0) = false := by decide
      gi_wp2
      go_end0
      exact ⟨⟨_, rfl⟩, .inl ⟨pre, by rw [hx, elems_zero, List.append_nil], hJr⟩⟩
    · obtain ⟨k, hk⟩ := least_ex t ht
      have hne : (nH t != 0) = true := by
        have : (nH t == 0) = false := by rw [b16_zero]; exact beq_eq_false_iff_ne.2 ht
        simp [bne, this]
      have hec := elems_cons hk
      have hlen : pre.length < 16 := by
        have h2 : (elems s).length ≤ 16 := by unfold elems; exact Nat.le_trans (List.length_filter_le _ _) (by simp)
        rw [hx, hec] at h2
        simp at h2
        omega
      obtain ⟨fn, tmps, assign, body, hy, hR⟩ := hY pre ⟨k, hk.lt⟩ wr hJr hlen
      dsimp only at hy
      have hp := nH_pred t
      gi_wp2_with (refine ⟨trivial, ?_⟩; gi_at_call 24; refine (callsIn_wide.2 (TZ_calls t k hk _ hTr)).mono ?_; rintro e w' ⟨rfl, rfl⟩)
      refine hR.mono ?_
      rintro e W3 (⟨rfl, hJ3, hk3⟩ | ⟨rfl, hJx3⟩)
      · gi_wp2
        go_roundw
        case rel => exact ⟨pre ++ [⟨k, hk.lt⟩], less1 t, by first | rfl | (rw [hp, b16_and]; rfl), by rw [hx, hec]; simp, hTr.below hk3, hJ3⟩
        case measure =>
          exact less1_lt t ht
      · gi_wp2
        refine bodyPost_ret (results_none rfl _ _ _) rfl ?_
        exact ⟨⟨_, rfl⟩, .inr ⟨pre ++ [⟨k, hk.lt⟩], ⟨elems (less1 t), by rw [hx, hec]; simp⟩, hJx3⟩⟩
end Go.Proofs.YtdamljjbeaomoaaDoor
