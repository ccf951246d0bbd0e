/- The walks of visit at every set, of graph.Down. -/
import Derived.Test.YtdamljjbeaomoaaDoorGrD
import Derived.Test.YtdamljjbeaomoaaDoorGrV
import Derived.Laws.EntriesVeiled
namespace Go.Proofs.YtdamljjbeaomoaaDoor
set_option linter.unusedSimpArgs false
set_option linter.unusedVariables false
open Go.RowKit Go.Shelf
open _root_.Go.Proofs.YtdamljjbeaomoaaDoor.Own
attribute [local go_sem] Oper.semAt_some
theorem visit_all (g : Nat → BitVec 16) (Wi : BitVec 16) (bw bo bg bv : Nat) (ne1 : bg ≠ bo) (ne2 : bw ≠ bo) (ne3 : bv ≠ bo) (hb1 : 1 ≤ bo) : ∀ (m : Nat) (out : BitVec 16) (r : Nat) (w : World), missing out < m → r < 16 → w.cell? ⟨bw, 0, none⟩ = some (.int .u16 (nH Wi)) → Boxed w bo 22 (.int .u16 (nH out)) →
      (∀ i, i < 16 → w.cell? ⟨bg, i, none⟩ = some (.int .u16 (nH (g i)))) → w.cell? ⟨bv, 0, none⟩ = some (.func (.func 16) #[] #[.pointer (some ⟨bw, 0, none⟩), .pointer (some ⟨bo, 0, none⟩), .pointer (some ⟨bg, 0, none⟩), .pointer (some ⟨bv, 0, none⟩)]) → Table w →
      Calls Tryd.prog 16 #[.int .i64 r, .pointer (some ⟨bw, 0, none⟩), .pointer (some ⟨bo, 0, none⟩), .pointer (some ⟨bg, 0, none⟩), .pointer (some ⟨bv, 0, none⟩)] w fun e w' => e = .returned (.tuple #[]) ∧ ∃ out', Vis g Wi [r] out out' ∧ Boxed w' bo 22 (.int .u16 (nH out')) ∧ w.grownBy w' (some bo) := by
  intro m
  induction m with
  | zero => intro out r w h; omega
  | succ m ih =>
    intro out r w hm hr hW hO hG hV hT
    by_cases hs : has Wi r = false ∨ has out r = true
    · refine (visit_skip [] Wi out r hr bw bo bg bv w hW hO.cell hs).mono ?_
      rintro e w' ⟨rfl, rfl⟩
      exact ⟨rfl, out, Vis.skip hs, hO, ⟨rfl, rfl, rfl, Nat.le_refl _, fun _ _ _ => rfl⟩⟩
    · have h1 : has Wi r = true := by
        cases h : has Wi r with
        | true => rfl
        | false => exact absurd (.inl h) hs
      have h2 : has out r = false := by
        cases h : has out r with
        | false => rfl
        | true => exact absurd (.inr h) hs
      exact visit_node g Wi out r hr bw bo bg bv w hW hO hG hV hT hb1 (fun o2 q W2 hq hm2 c1 c2 c3 c4 c5 => ih o2 q W2 (by omega) hq c1 c2 c3 c4 c5) ne1 ne2 ne3 h1 h2
set_option maxHeartbeats 2000000 in
theorem Down_calls (f : Nat → BitVec 16) (fr Wi : BitVec 16) (w : World) (hT : Table w) (hw1 : 1 ≤ w.heap.size) :
    Calls Tryd.prog 7 #[.agg ⟨gC f⟩, .int .u16 (nH fr), .int .u16 (nH Wi)] w fun e w' => e = .returned (.int .u16 (nH (dn f Wi fr))) ∧ Below w.heap.size w w' := by
  refine (callsIn_wide (n := 3)).1 ?_
  refine callsIn_of_wp_marks Tryd.func7 rfl trivial ?_ rfl
  simp only [Tryd.ntmps7, List.size_toArray, List.length_cons, List.length_nil, Nat.reduceAdd, Nat.reduceSub, Array.replicate_succ, Array.replicate_zero, List.push_toArray, List.append_toArray, List.nil_append, List.cons_append]
  gi_wp2_with (refine ⟨trivial, ?_⟩; gi_at_call 18; refine (callsIn_wide.2 (Each_calls _ _)).mono ?_; rintro e w' ⟨rfl, rfl⟩)
  have hA := (((((At.refl w).alloc (gC f) 23).alloc [.int .u16 (nH Wi)] 22).alloc [.int .u16 0] 22).alloc
    [.func (.func 16) #[] #[.pointer (some ⟨w.heap.size + 1, 0, none⟩), .pointer (some ⟨w.heap.size + 1 + 1, 0, none⟩), .pointer (some ⟨w.heap.size, 0, none⟩), .pointer (some ⟨w.heap.size + 1 + 1 + 1, 0, none⟩)]] 34).alloc [.int .u16 (nH fr)] 22
  simp only [World.size_alloc] at hA
  obtain ⟨W0, hW0⟩ : ∃ W0, (((((w.alloc (.cells ⟨gC f⟩ 23)).alloc (.cells #[.int .u16 (nH Wi)] 22)).alloc (.cells #[.int .u16 0] 22)).alloc
    (.cells #[.func (.func 16) #[] #[.pointer (some ⟨w.heap.size + 1, 0, none⟩), .pointer (some ⟨w.heap.size + 1 + 1, 0, none⟩), .pointer (some ⟨w.heap.size, 0, none⟩), .pointer (some ⟨w.heap.size + 1 + 1 + 1, 0, none⟩)]] 34)).alloc (.cells #[.int .u16 (nH fr)] 22)) = W0 := ⟨_, rfl⟩
  rw [hW0] at hA ⊢
  have hsz : W0.heap.size = w.heap.size + 5 := by rw [← hW0]; simp
  clear hW0
  have hR := hA.rules
  have hsb := (hR _ (List.getElem_mem (n := 0) (by simp))).1 0
  have hV0 := (hR _ (List.getElem_mem (n := 1) (by simp))).1 0
  have hbx : Boxed W0 (w.heap.size + 1 + 1) 22 (.int .u16 (nH 0#16)) := (hA.blk _ (List.getElem_mem (n := 2) (by simp))).2
  have hw0 := (hR _ (List.getElem_mem (n := 3) (by simp))).1 0
  have hg0 := (hR _ (List.getElem_mem (n := 4) (by simp))).1
  simp only [List.getElem_cons_zero, List.getElem_cons_succ, List.getElem?_cons_zero] at hsb hV0 hw0 hg0
  have hT0 : Table W0 := hT.below (hA.below.mono hw1)
  have hBel := hA.below
  clear hR hA
  refine wpIn_rangeFunc_ownF rfl (by omega) (gf := 23) (lb := #[.pointer (some ⟨w.heap.size + 1 + 1 + 1 + 1, 0, none⟩)]) rfl trivial (enters_of Tryd.func23 (by kernel_rfl) rfl)
    (each_stops 2 (by omega) (w.heap.size + 1 + 1 + 1 + 1) fr W0 (by omega) hsb hT0) belowK_t (belowK_b (by omega)) (Below.refl _ _) (fun _ => rfl)
    (fun pre W' => ∃ o2, Vis f Wi (pre.map Fin.val) 0#16 o2 ∧ Boxed W' (w.heap.size + 1 + 1) 22 (.int .u16 (nH o2)) ∧ W0.grownBy W' (some (w.heap.size + 1 + 1)))
    (fun _ _ _ => False) ?hI (fun _ _ _ _ _ hs _ _ => hs) ⟨_, Vis.nil _ _ _, hbx, ⟨rfl, rfl, rfl, Nat.le_refl _, fun _ _ _ => rfl⟩⟩
    (fun x => { tmps := #[.agg ⟨gC f⟩, .int .u16 (nH fr), .int .u16 (nH Wi), .pointer (some ⟨w.heap.size, 0, none⟩), undef, .pointer (some ⟨w.heap.size + 1, 0, none⟩), .int .u16 0, .pointer (some ⟨w.heap.size + 1 + 1, 0, none⟩), .pointer (some ⟨w.heap.size + 1 + 1 + 1, 0, none⟩), .int .i64 (x.val : Int),
      .func (.func 16) #[] #[.pointer (some ⟨w.heap.size + 1, 0, none⟩), .pointer (some ⟨w.heap.size + 1 + 1, 0, none⟩), .pointer (some ⟨w.heap.size, 0, none⟩), .pointer (some ⟨w.heap.size + 1 + 1 + 1, 0, none⟩)], .int .u16 (nH fr),
      .func (.func 23) #[] #[.pointer (some ⟨w.heap.size + 1 + 1 + 1 + 1, 0, none⟩)], .int .i64 (x.val : Int), undef, undef, undef, undef], defers := [] }) ?assign ?body ?done ?stop
  case hI =>
    rintro pre A B row ⟨o2, hv, hb, hg'⟩ hgr hrow
    refine ⟨o2, hv, hb.kept hgr (fun e => by have := (hrow _ e.symm).1; omega), ⟨hgr.os.trans hg'.os, hgr.tape.trans hg'.tape, hgr.output.trans hg'.output, Nat.le_trans hg'.size hgr.size, fun k hk hne => (hgr.block k (by have := hg'.size; omega) (fun e => by have := (hrow k e.symm).1; omega)).trans (hg'.block k hk hne)⟩⟩
  case assign =>
    intro l x W K hK
    gi_wp2
    exact hK
  case body =>
    rintro l pre x W ⟨o2, hv, hb, hg'⟩ _
    have hgw : ∀ {a : Addr} {v : Value}, a.block ≠ w.heap.size + 1 + 1 → W0.cell? a = some v → W.cell? a = some v := fun {a v} hne hc => by
      have hl := World.block_lt_of_cell? W0 _ hc
      rw [World.cell?_of_block (hg'.block a.block (by omega) (by simpa using hne)), hc]
    have hVW := hgw (a := ⟨w.heap.size + 1 + 1 + 1, 0, none⟩) (by simp) hV0
    have hx : x.val < 16 := x.isLt
    have hI := visit_all f Wi (w.heap.size + 1) (w.heap.size + 1 + 1) w.heap.size (w.heap.size + 1 + 1 + 1) (by omega) (by omega) (by omega) (by omega) 17 o2 x.val W (by
        unfold missing
        have := List.length_filter_le (fun i => !has o2 i) (List.range 16)
        simp at this
        omega) x.isLt (hgw (a := ⟨w.heap.size + 1, 0, none⟩) (by simp) hw0) hb
      (fun i hi => hgw (a := ⟨w.heap.size, i, none⟩) (by show w.heap.size ≠ _; omega) ((hg0 i).trans (gC_at f i hi))) hVW (fun i hi => hgw (a := ⟨0, i, none⟩) (by show 0 ≠ _; omega) (hT0 i hi))
    gi_wp2_with (refine ⟨trivial, ?_⟩; gi_at_call 16; refine (CallsIn.inRound l (callsIn_wide.2 hI)).mono ?_; rintro e w' ⟨rfl, o3, hv3, hb3, hg3⟩)
    refine ⟨KeepsOthers.of_grownBy hg3 (fun j o e ho => by cases e; rw [show W.heap[w.heap.size + 1 + 1]? = _ from hb] at ho; cases ho; rfl), ⟨hg3.os, hg3.tape, hg3.output, hg3.size, fun k hk => hg3.block k (by have := hb.lt; omega) (by simp; omega)⟩, o3, ?_, hb3, ?_⟩
    · rw [List.map_append]; exact hv.append hv3
    · exact ⟨hg3.os.trans hg'.os, hg3.tape.trans hg'.tape, hg3.output.trans hg'.output, Nat.le_trans hg'.size hg3.size, fun k hk hne => (hg3.block k (by have := hg'.size; omega) hne).trans (hg'.block k hk hne)⟩
  case done =>
    rintro D xs W hD hS ⟨o2, hv, hb, hg'⟩ hK
    rw [hS] at hv
    have hbc := hb.cell
    have heq := hv.eq
    subst heq
    gi_wp2
    refine ⟨by simp, .inl ⟨_, _, rfl, run_takeDeferred hK, ?_⟩⟩
    refine ⟨_, results_tmp rfl _ _ _, rfl, ?_⟩
    have hgD := grownBy_putObj' W D (.deferred none)
    exact hBel.trans ⟨hgD.os.trans hg'.os, hgD.tape.trans hg'.tape, hgD.output.trans hg'.output, Nat.le_trans (by have := hBel.size; omega) (Nat.le_trans hg'.size hgD.size),
      fun k hk => (hgD.block k (by have := hg'.size; omega) (by simp; omega)).trans (hg'.block k (by omega) (by simp; omega))⟩
  case stop =>
    rintro D c pre W _ _ h _
    exact h.elim
end Go.Proofs.YtdamljjbeaomoaaDoor
