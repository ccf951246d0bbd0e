/- The walk of graph.Down's inner function (visit): the branch that goes on. -/
import Derived.Test.YtdamljjbeaomoaaDoorGrC
namespace Go.Proofs.YtdamljjbeaomoaaDoor
set_option linter.unusedSimpArgs false
set_option linter.unusedVariables false
open Go.RowKit Go.Shelf
open _root_.Go.Proofs.YtdamljjbeaomoaaDoor.Own
attribute [local go_sem] Oper.semAt_some
attribute [local go_sem] b16_and b16_or
theorem Each_calls (s : BitVec 16) (w : World) : Calls Tryd.prog 18 #[.int .u16 (nH s)] w fun e w' => e = .returned (.func (.func 23) #[] #[.pointer (some ⟨w.heap.size, 0, none⟩)]) ∧ w' = w.alloc (.cells #[.int .u16 (nH s)] 22) := by
  go_enter Tryd.func18, Tryd.ntmps18
  go_wp2
  go_ret
  exact ⟨rfl, rfl⟩
set_option maxHeartbeats 2000000 in
theorem visit_node (g : Nat → BitVec 16) (Wi out : BitVec 16) (r : Nat) (hr : r < 16) (bw bo bg bv : Nat) (w : World) (hW : w.cell? ⟨bw, 0, none⟩ = some (.int .u16 (nH Wi))) (hO : Boxed w bo 22 (.int .u16 (nH out)))
    (hG : ∀ i, i < 16 → w.cell? ⟨bg, i, none⟩ = some (.int .u16 (nH (g i)))) (hV : w.cell? ⟨bv, 0, none⟩ = some (.func (.func 16) #[] #[.pointer (some ⟨bw, 0, none⟩), .pointer (some ⟨bo, 0, none⟩), .pointer (some ⟨bg, 0, none⟩), .pointer (some ⟨bv, 0, none⟩)]))
    (hT : Table w) (hb1 : 1 ≤ bo) (ih : ∀ (o2 : BitVec 16) (q : Nat) (W2 : World), q < 16 → missing o2 < missing out → W2.cell? ⟨bw, 0, none⟩ = some (.int .u16 (nH Wi)) → Boxed W2 bo 22 (.int .u16 (nH o2)) →
      (∀ i, i < 16 → W2.cell? ⟨bg, i, none⟩ = some (.int .u16 (nH (g i)))) → W2.cell? ⟨bv, 0, none⟩ = some (.func (.func 16) #[] #[.pointer (some ⟨bw, 0, none⟩), .pointer (some ⟨bo, 0, none⟩), .pointer (some ⟨bg, 0, none⟩), .pointer (some ⟨bv, 0, none⟩)]) → Table W2 →
      Calls Tryd.prog 16 #[.int .i64 q, .pointer (some ⟨bw, 0, none⟩), .pointer (some ⟨bo, 0, none⟩), .pointer (some ⟨bg, 0, none⟩), .pointer (some ⟨bv, 0, none⟩)] W2 fun e w' => e = .returned (.tuple #[]) ∧ ∃ o3, Vis g Wi [q] o2 o3 ∧ Boxed w' bo 22 (.int .u16 (nH o3)) ∧ W2.grownBy w' (some bo))
    (ne1 : bg ≠ bo) (ne2 : bw ≠ bo) (ne3 : bv ≠ bo) (h1 : has Wi r = true) (h2 : has out r = false) :
    Calls Tryd.prog 16 #[.int .i64 r, .pointer (some ⟨bw, 0, none⟩), .pointer (some ⟨bo, 0, none⟩), .pointer (some ⟨bg, 0, none⟩), .pointer (some ⟨bv, 0, none⟩)] w fun e w' => e = .returned (.tuple #[]) ∧ ∃ out', Vis g Wi [r] out out' ∧ Boxed w' bo 22 (.int .u16 (nH out')) ∧ w.grownBy w' (some bo) := by
  refine (callsIn_wide (n := 3)).1 ?_
  refine callsIn_of_wp_marks Tryd.func16 rfl trivial ?_ rfl
  simp only [Tryd.ntmps16, List.size_toArray, List.length_cons, List.length_nil, Nat.reduceAdd, Nat.reduceSub, Array.replicate_succ, Array.replicate_zero, List.push_toArray, List.append_toArray, List.nil_append, List.cons_append]
  have hOc := hO.cell
  have hOf := hO.frozen
  have hg := hG r hr
  have ne1' := ne1.symm
  have hwr : IntKind.u16.wrap (2 ^ r) = nH (bit r) := by
    rw [IntKind.wrap_u16, nH_bit r hr]
    have : (2 : Nat) ^ r < 65536 := Nat.pow_lt_pow_right (by decide : 1 < 2) hr
    have e : ((2 : Int) ^ r) = ((2 ^ r : Nat) : Int) := by simp
    rw [e]
    exact Int.emod_eq_of_lt (Int.natCast_nonneg _) (Int.ofNat_lt.2 this)
  have hor := b16_or out (bit r)
  gi_wp2_with (refine ⟨trivial, ?_⟩; gi_at_call 17; refine (callsIn_wide.2 (THas_calls _ _ hr _)).mono ?_; rintro e w' ⟨rfl, rfl⟩)
  gi_region
  all_goals gi_wp2_with (refine ⟨trivial, ?_⟩; gi_at_call 18; refine (callsIn_wide.2 (Each_calls _ _)).mono ?_; rintro e w' ⟨rfl, rfl⟩)
  obtain ⟨W0, hW0⟩ : ∃ W0, ((w.setCell ⟨bo, 0, none⟩ (.int .u16 (nH (out ||| bit r)))).alloc (.cells #[.int .u16 (nH (g r))] 22)).drew = W0 := ⟨_, rfl⟩
  have hg0 : w.grownBy W0 (some bo) := by
    rw [← hW0]
    exact ⟨rfl, rfl, rfl, by simp, fun k hk hne => (Below.heap_alloc _ _ k (by simpa using hk)).trans (Below.heap_setCell w _ _ _ (fun e => hne (by rw [e])))⟩
  have hsz : W0.heap.size = w.heap.size + 1 := by rw [← hW0]; simp
  have hbx : Boxed W0 bo 22 (.int .u16 (nH (out ||| bit r))) := by rw [← hW0]; exact (hO.set _).alloc _
  have hsb : W0.cell? ⟨w.heap.size, 0, none⟩ = some (.int .u16 (nH (g r))) := by
    rw [← hW0]
    have := (Boxed.new (w.setCell ⟨bo, 0, none⟩ (.int .u16 (nH (out ||| bit r)))) 22 (.int .u16 (nH (g r)))).cell
    simpa using this
  rw [hW0]
  have hbo : bo < W0.heap.size := hbx.lt
  have hT0 : Table W0 := fun i hi => (World.cell?_of_block (hg0.block 0 (by have := hO.lt; omega) (by simp; omega))).trans (hT i hi)
  refine wpIn_rangeFunc_ownF rfl (by omega) (gf := 23) (lb := #[.pointer (some ⟨w.heap.size, 0, none⟩)]) rfl trivial (enters_of Tryd.func23 (by kernel_rfl) rfl)
    (each_stops 2 (by omega) w.heap.size (g r) W0 (by omega) hsb hT0) belowK_t (belowK_b (by omega)) (Below.refl _ _) (fun _ => rfl)
    (fun pre W' => ∃ o2, Vis g Wi (pre.map Fin.val) (out ||| bit r) o2 ∧ Boxed W' bo 22 (.int .u16 (nH o2)) ∧ W0.grownBy W' (some bo))
    (fun _ _ _ => False) ?hI (fun _ _ _ _ _ hs _ _ => hs) ⟨_, Vis.nil _ _ _, hbx, ⟨rfl, rfl, rfl, Nat.le_refl _, fun _ _ _ => rfl⟩⟩
    (fun x => { tmps := #[.int .i64 r, .pointer (some ⟨bw, 0, none⟩), .pointer (some ⟨bo, 0, none⟩), .pointer (some ⟨bg, 0, none⟩), .pointer (some ⟨bv, 0, none⟩), undef, .int .i64 (x.val : Int), .int .u16 (nH Wi), .int .i64 r, .bool true, .bool false, .bool false, .int .u16 (nH out), .int .i64 r, .bool false, .bool false, .int .u16 (nH out), .int .i64 r, .int .u16 (nH (bit r)), .int .u16 (nH (out ||| bit r)), .int .i64 r, .pointer (some ⟨bg, r, none⟩), .int .u16 (nH (g r)), .func (.func 23) #[] #[.pointer (some ⟨w.heap.size, 0, none⟩)], .int .i64 (x.val : Int), undef, undef, undef], defers := [] }) ?assign ?body ?done ?stop
  case hI =>
    rintro pre A B row ⟨o2, hv, hb, hg'⟩ hgr hrow
    refine ⟨o2, hv, hb.kept hgr (fun e => by have := (hrow bo e.symm).1; omega), ⟨hgr.os.trans hg'.os, hgr.tape.trans hg'.tape, hgr.output.trans hg'.output, Nat.le_trans hg'.size hgr.size, fun k hk hne => (hgr.block k (by have := hg'.size; omega) (fun e => by have := (hrow k e.symm).1; omega)).trans (hg'.block k hk hne)⟩⟩
  case assign =>
    intro l x W K hK
    gi_wp2
    exact hK
  case body =>
    rintro l pre x W ⟨o2, hv, hb, hg'⟩ _
    have hgw : ∀ {a : Addr} {v : Value}, a.block ≠ bo → w.cell? a = some v → W.cell? a = some v := fun {a v} hne hc => by
      have hl := World.block_lt_of_cell? w _ hc
      rw [World.cell?_of_block (hg'.block a.block (by omega) (by simpa using hne)), World.cell?_of_block (hg0.block a.block hl (by simpa using hne)), hc]
    have hm : missing o2 < missing out := missing_lt (fun i hi => hv.sub i (by rw [has_or, hi]; rfl)) hr h2 (hv.sub r (by rw [has_or, has_bit r r hr]; simp))
    have hVW := hgw (a := ⟨bv, 0, none⟩) ne3 hV
    have hx : x.val < 16 := x.isLt
    have hI := ih o2 x.val W x.isLt hm (hgw (a := ⟨bw, 0, none⟩) ne2 hW) hb (fun i hi => hgw (a := ⟨bg, i, none⟩) ne1 (hG i hi)) hVW (fun i hi => hgw (a := ⟨0, i, none⟩) (by show 0 ≠ bo; omega) (hT i hi))
    gi_wp2_with (refine ⟨trivial, ?_⟩; gi_at_call 16; refine (CallsIn.inRound l (callsIn_wide.2 hI)).mono ?_; rintro e w' ⟨rfl, o3, hv3, hb3, hg3⟩)
    refine ⟨KeepsOthers.of_grownBy hg3 (fun j o e ho => by cases e; rw [show W.heap[bo]? = _ from hb] at ho; cases ho; rfl), ⟨hg3.os, hg3.tape, hg3.output, hg3.size, fun k hk => hg3.block k (by have := hb.lt; omega) (by simp; omega)⟩, o3, ?_, hb3, ?_⟩
    · rw [List.map_append]; exact hv.append hv3
    · exact ⟨hg3.os.trans hg'.os, hg3.tape.trans hg'.tape, hg3.output.trans hg'.output, Nat.le_trans hg'.size hg3.size, fun k hk hne => (hg3.block k (by have := hg'.size; omega) hne).trans (hg'.block k hk hne)⟩
  case done =>
    rintro D xs W hD hS ⟨o2, hv, hb, hg'⟩ hK
    have hbD : bo ≠ D := by omega
    rw [hS] at hv
    gi_wp2
    refine ⟨by simp, .inl ⟨_, _, rfl, run_takeDeferred hK, ?_⟩⟩
    refine ⟨_, results_none rfl _ _ _, ?_⟩
    refine ⟨rfl, o2, hv.node hr h1, hb.kept (grownBy_putObj' _ D (.deferred none)) (by simpa using hbD), ?_⟩
    have hgD := grownBy_putObj' W D (.deferred none)
    exact ⟨hgD.os.trans (hg'.os.trans hg0.os), hgD.tape.trans (hg'.tape.trans hg0.tape), hgD.output.trans (hg'.output.trans hg0.output), Nat.le_trans hg0.size (Nat.le_trans hg'.size hgD.size),
      fun k hk hne => (hgD.block k (by have := hg'.size; have := hg0.size; omega) (by simp; omega)).trans ((hg'.block k (by have := hg0.size; omega) hne).trans (hg0.block k hk hne))⟩
  case stop =>
    rintro D c pre W _ _ h _
    exact h.elim
end Go.Proofs.YtdamljjbeaomoaaDoor
