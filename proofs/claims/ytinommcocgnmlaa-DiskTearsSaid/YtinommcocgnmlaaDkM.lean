/- Chapter 07: Copy. -/
import Derived.Test.YtinommcocgnmlaaDkK
import Derived.Handy
namespace Go.Proofs.Ytinommcocgnmlaa.Dk
open Go.RowKit _root_.Go.Proofs.Ytinommcocgnmlaa.Own
set_option linter.unusedVariables false
set_option linter.unusedSimpArgs false
set_option maxHeartbeats 1000000 in
set_option maxRecDepth 10000 in
theorem Clone_calls {r n c : Nat} {R : List Value} {all : List UInt8} {w : World} (hrow : w.heap[r]? = some (.cells ⟨bys all ++ R⟩ 81 (0, 0))) (hl : all.length = n * 128) (hn : 1 ≤ n ∧ n ≤ 1024) (hc : n ≤ c) :
    Calls Try.prog 54 #[.slice (some ⟨r, 0, none⟩) n c] w fun e w' => ∃ (r2 c2 : Nat) (R2 : List Value), e = .returned (.slice (some ⟨r2, 0, none⟩) n c2) ∧ n ≤ c2 ∧ w.heap.size ≤ r2 ∧ w'.heap[r2]? = some (.cells ⟨bys all ++ R2⟩ 81 (0, 0)) ∧ Below w.heap.size w w' := by
  obtain ⟨i, i1, i2, i3, z, z1, z2⟩ := info128
  have HZ := Lib.hid z2
  have HI2 := Lib.hid i2
  have HI3 := Lib.hid i3
  have HR := Lib.hid hrow
  have hbl : (bys all).length = n * 128 := by rw [bys_length]; exact hl
  obtain ⟨X, hX⟩ : ∃ X, bys all = X := ⟨_, rfl⟩
  have hone := bys_one all
  rw [hX] at hbl hone
  have HX := Lib.hid hX
  have HL := Lib.hid hbl
  have HO := Lib.hid hone
  clear z2 i2 i3 hrow hX hbl hone
  go_enter Try.func54, Try.ntmps54
  have he : ∀ w : World, (binOp .eql 77 (.slice (some ⟨r, 0, none⟩) n c) (.slice none 0 0)).run Try.prog w = .ok (.bool false) w := fun _ => rfl
  go_wp2_with (at_builtin; refine wpList_append_own _ rfl _ _ 77 rfl w.heap.size 81 i z 128 128 Try.underlying77 i1 z1 HI2.out HI3.out ?hzs (by decide) _ 0 [] rfl ?hown ⟨r, 0, none⟩ n c X rfl HL.out ?hnews HO.out ?h63 ?hby ?hbase ?_)
  case hzs => rw [HZ.out]; simp
  case hown => exact World.ownsRow_lit (base := w.heap.size) (e := 81) (size := 128) w #[] 0 (Nat.le_refl _) (by decide) (by simp)
  case hnews =>
    intro j u hj
    have := cell_of_row (w.alloc (.cells #[] 81)) r j _ _ _ ((Below.heap_alloc w _ r (blk_lt HR.out)).trans HR.out)
    have hadd : (⟨r, 0, none⟩ : Addr).add j = ⟨r, j, none⟩ := by unfold Addr.add; split <;> simp_all
    rw [hadd, this, HX.out]
    obtain ⟨hjl, rfl⟩ := List.getElem?_eq_some_iff.1 hj
    simp [List.getElem_append_left hjl, Nat.lt_add_right R.length hjl]
  case h63 => simp [maxLen]; omega
  case hby => omega
  case hbase => simp
  intro v' w' hv hg hnil
  have HV := Lib.hid hv
  have HG := Lib.hid hg
  clear hv hg hnil
  go_wp2_with fail
  go_ret
  obtain ⟨h1, ⟨-, h2⟩ | ⟨g, cap, cur, rfl, hb, hgr, hnn, hcm, hs, ht⟩⟩ := HV.out
  · omega
  · have hcur : cur = ⟨bys all ++ cur.toList.drop (n * 128)⟩ := by
      rw [HX.out, ← ht, List.take_append_drop]
    refine ⟨g, cap, cur.toList.drop (n * 128), rfl, hnn, hb, by rw [← hcur]; exact hgr, ?_⟩
    exact (((Below.refl w.heap.size w).alloc (Nat.le_refl _) (.cells #[] 81)).grown HG.out (by simp) (fun k e => by cases e; exact Nat.le_refl _))
set_option maxRecDepth 10000 in
set_option maxHeartbeats 1000000 in
theorem Copy_calls {g r n c : Nat} {R : List Value} {d : D} {w : World} (hI : Is g r n c R d w) (hn : 1 ≤ n ∧ n ≤ 1024) (hc : n ≤ c) :
    Calls Try.prog 43 #[.pointer (some ⟨g, 0, none⟩)] w fun e w' => ∃ (g2 r2 c2 : Nat) (R2 : List Value), e = .returned (.pointer (some ⟨g2, 0, none⟩)) ∧ n ≤ c2 ∧ w.heap.size ≤ g2 ∧ w.heap.size ≤ r2 ∧ Is g2 r2 n c2 R2 d w' ∧ Below w.heap.size w w' := by
  obtain ⟨h0, h1, h2, h3, h4, h5⟩ := hI.cells
  obtain ⟨-, hgs⟩ := hI.sets
  have HI := Lib.hid hI
  clear hI
  go_enter Try.func43, Try.ntmps43
  go_wp2_with fail
  have H1 := (At.refl w).alloc (dcells r n c d) 79
  have hI1 := HI.out.below ((Below.refl _ _).alloc (Nat.le_refl _) (.cells ⟨dcells r n c d⟩ 79 (0, 0)))
  refine (Clone_calls hI1.row hI1.len hn hc).mono ?_
  rintro e w1 ⟨r2, c2, R2, rfl, hc2, hr2, hrow2, hb2⟩
  have H2 := Lib.hid (H1.call hb2)
  have hgr : w.heap.size < r2 := by
    have : (w.alloc (.cells ⟨dcells r n c d⟩ 79 (0, 0))).heap.size = w.heap.size + 1 := by simp
    omega
  have HR := Lib.hid hrow2
  have hL := HI.out.len
  obtain ⟨y0, y1, y2, -⟩ := H2.out.rules _ (List.mem_cons_self ..)
  have z0 := y0 0
  simp only at y1 y2
  rw [dcells_is] at z0
  simp at z0
  clear hrow2 hb2 hI1 h0 h1 h2 h3 h4 h5 H1 y0
  go_wp2_with fail
  go_ret
  have H3 := H2.out.set 0 rfl 0 (.slice (some ⟨r2, 0, none⟩) n c2)
  refine ⟨w.heap.size, r2, c2, R2, rfl, hc2, Nat.le_refl _, Nat.le_of_lt hgr, ⟨H3.row 0 rfl, ?_, hL⟩, H3.below⟩
  rw [Below.heap_setCell w1 _ _ _ (by simp; omega)]
  exact HR.out
end Go.Proofs.Ytinommcocgnmlaa.Dk
