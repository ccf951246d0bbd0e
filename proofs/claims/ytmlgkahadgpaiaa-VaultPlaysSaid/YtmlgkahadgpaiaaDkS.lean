/- Chapter 07: the reference's Write. -/
import Derived.Test.YtmlgkahadgpaiaaDkR
namespace Go.Proofs.Ytmlgkahadgpaiaa.Dk
open Go.RowKit _root_.Go.Proofs.Ytmlgkahadgpaiaa.Own
set_option linter.unusedVariables false
set_option linter.unusedSimpArgs false
theorem RWriteBad_calls {h q n : Nat} {d : RD} {w : World} (hI : RIs h q n d w) (hn : n ≤ 1024) (i : Int) (A : Option Addr) (m cb : Nat) (E : Int)
    (hE : (¬ (0 ≤ i ∧ i < n) ∧ E = 8) ∨ ((0 ≤ i ∧ i < n) ∧ m ≠ 128 ∧ E = 1) ∨ ((0 ≤ i ∧ i < n) ∧ m = 128 ∧ d.off = true ∧ E = 19)) :
    Calls Try.prog 35 #[.pointer (some ⟨h, 0, none⟩), .int .i64 i, .slice A m cb] w fun e w' => e = .returned (.int .i64 E) ∧ Below w.heap.size w w' := by
  obtain ⟨h0, h1, h2, h3, h4⟩ := hI.cells
  have HI := Lib.hid hI
  clear hI
  have H0 := At.refl w
  rcases hE with ⟨z, rfl⟩ | ⟨z, zm, rfl⟩ | ⟨z, zm, zo, rfl⟩
  · have HB := Lib.hid (rHas_calls q n hn d i false (decide_eq_false z))
    rw [rcells_is] at HB
    go_enter Try.func35, Try.ntmps35
    go_wp2_with fail
    refine callAt (HB.out _) H0 ?_
    rintro e w1 rfl H1
    go_wp2_with fail
    go_ret
    exact ⟨rfl, H1.below⟩
  · have HB := Lib.hid (rHas_calls q n hn d i true (decide_eq_true z))
    rw [rcells_is] at HB
    have m1 : ((m : Int) == 128) = false := by rw [beq_eq_false_iff_ne]; omega
    go_enter Try.func35, Try.ntmps35
    go_wp2_with fail
    refine callAt (HB.out _) H0 ?_
    rintro e w1 rfl H1
    go_wp2_with fail
    go_ret
    exact ⟨rfl, H1.below⟩
  · have HB := Lib.hid (rHas_calls q n hn d i true (decide_eq_true z))
    rw [rcells_is, zo] at HB
    rw [zo] at h1
    subst zm
    go_enter Try.func35, Try.ntmps35
    go_wp2_with fail
    refine callAt (HB.out _) H0 ?_
    rintro e w1 rfl H1
    obtain ⟨k0, k1, k2, k3, k4⟩ := (HI.out.below H1.below).cells
    rw [zo] at k1
    clear h0 h1 h2 h3 h4
    go_wp2_with fail
    go_ret
    exact ⟨rfl, H1.below⟩
/-- The row while it is written: k bytes of X are there. -/
def midR (all X : List UInt8) (i k : Nat) : List UInt8 := all.take (i * 128) ++ (X.take k ++ all.drop (i * 128 + k))
theorem midR_zero (all X : List UInt8) (i : Nat) : midR all X i 0 = all := by simp [midR]
theorem midR_end (all X : List UInt8) (i : Nat) (hX : X.length = 128) : midR all X i 128 = putRow all i X := by
  unfold midR putRow
  rw [show X.take 128 = X from List.take_of_length_le (by omega), List.append_assoc]
theorem midR_length (all X : List UInt8) (n i k : Nat) (hl : all.length = n * 128) (hi : i < n) (hX : X.length = 128) (hk : k ≤ 128) : (midR all X i k).length = n * 128 := by
  unfold midR
  simp
  omega
theorem midR_set (all X : List UInt8) (n i k : Nat) (hl : all.length = n * 128) (hi : i < n) (hX : X.length = 128) (hk : k < 128) : (bys (midR all X i k)).set (128 * i + k) (.int .u8 (nB (X[k]'(by omega)))) = bys (midR all X i (k + 1)) := by
  have e1 : (all.take (i * 128)).length = i * 128 := by rw [List.length_take]; omega
  have e2 : (X.take k).length = k := by rw [List.length_take]; omega
  have e3 : all.drop (i * 128 + k) = (all[i * 128 + k]'(by omega)) :: all.drop (i * 128 + k + 1) := List.drop_eq_getElem_cons (by omega)
  have e4 : X.take (k + 1) = X.take k ++ [X[k]'(by omega)] := List.take_succ_eq_append_getElem (by omega)
  unfold midR
  rw [e4, e3, bys_append, bys_append, bys_append (all.take (i * 128)), bys_append (X.take k ++ _), bys_append (X.take k) [_]]
  rw [List.set_append_right _ _ (by rw [bys_length, e1]; omega), bys_length, e1, List.set_append_right _ _ (by rw [bys_length, e2]; omega), bys_length, e2, show 128 * i + k - i * 128 - k = 0 by omega]
  simp [bys, Nat.add_assoc]
set_option maxHeartbeats 2000000 in
set_option maxRecDepth 10000 in
theorem RWriteOk_calls {h q n : Nat} {d : RD} {w : World} (hI : RIs h q n d w) (hn : n ≤ 1024) (i : Nat) (hi : i < n) (ho : d.off = false) (ad : Addr) (cb : Nat) (b : List UInt8) (hb : b.length = 128) (hcb : 128 ≤ cb) (hR : Rd w (some ad) (bys b)) (hah : ad.block ≠ h ∧ ad.block ≠ q)
    (hw : 0 ≤ d.writes ∧ d.writes < 1099511627776) (hk : 0 ≤ d.keep ∧ d.keep ≤ 128) (hz : (d.fuse == 0) = false) (hpos : decide (d.fuse > 0) = false) :
    Calls Try.prog 35 #[.pointer (some ⟨h, 0, none⟩), .int .i64 i, .slice (some ad) 128 cb] w fun e w' => e = .returned (.int .i64 0) ∧ Only [h, q] w w' ∧ RIs h q n { d with all := putRow d.all i b, writes := d.writes + 1 } w' := by
  obtain ⟨h0, h1, h2, h3, h4⟩ := hI.cells
  have HI := Lib.hid hI
  have HRD := Lib.hid hR
  clear hI hR
  have H0 := At.refl w
  have hw1 := hw.1
  have hw2 := hw.2
  have HB := Lib.hid (rHas_calls q n hn d i true (decide_eq_true (by omega)))
  obtain ⟨m, hm⟩ : ∃ m : Nat, n * 128 = m := ⟨_, rfl⟩
  rw [rcells_is, ho, hm] at HB
  rw [ho] at h1
  rw [hm] at h0
  go_enter Try.func35, Try.ntmps35
  go_wp2_with fail
  refine callAt (HB.out _) H0 ?_
  rintro e w1 rfl H1
  have HI1 := Lib.hid (HI.out.below H1.below)
  have HR1 := Lib.hid (Rd.below HRD.out H1.below)
  obtain ⟨k0, k1, k2, k3, k4⟩ := HI1.out.cells
  obtain ⟨hf, hg⟩ := HI1.out.sets
  rw [ho] at k1
  rw [hm] at k0
  clear h0 h1 h2 h3 h4 HRD H0
  have K1 := Lib.hid (On.start (w := w1) (L := [(h, rcells q (n * 128) d, 62), (q, bys d.all, 5)]) (by intro x hx; simp at hx; rcases hx with rfl | rfl; exact HI1.out.own; exact HI1.out.row) (by simp [HI1.out.ne]))
  have K2 := Lib.hid (K1.out.set 0 rfl 4 (.int .i64 (d.writes + 1)))
  go_wp2_with fail
  go_loopw [7] (fun v7 wr => ∃ k : Nat, k ≤ 128 ∧ v7 = .int .i64 k ∧ Hid (On w1 [h, q] [(h, (rcells q (n * 128) d).set 4 (.int .i64 (d.writes + 1)), 62), (q, bys (midR d.all b i k), 5)] wr)) (fun v7 _ => 128 - (intOf v7).toNat)
  case atStart => exact ⟨0, by omega, rfl, Lib.hid (by rw [midR_zero]; exact K2.out)⟩
  case round =>
    clear k0 k1 k2 k3 k4 hf hg K1 K2
    obtain ⟨k, hk9, rfl, KL⟩ := hrel
    obtain ⟨p1, p2, p3, -⟩ := KL.out.rules _ (List.mem_cons_self ..)
    have c0 := p1 0
    have c2 := p1 2
    have c3 := p1 3
    simp [rcells_is, hm] at c0 c2 c3 p2 p3
    obtain ⟨q1, q2, q3, -⟩ := KL.out.rules _ (List.mem_cons_of_mem _ (List.mem_cons_self ..))
    simp only at q1 q2 q3
    by_cases hlt : k < 128
    · have HRw := Lib.hid (Rd.only HR1.out KL.out.only (by intro a ha; cases ha; simp; exact hah))
      obtain ⟨a', ha', hx⟩ := HRw.out k (by rw [bys_length]; omega)
      cases ha'
      have hxb : (bys b)[k]'(by rw [bys_length]; omega) = .int .u8 (nB (b[k]'(by omega))) := by simp [bys]
      rw [hxb] at hx
      have hml := midR_length d.all b n i k HI1.out.len hi hb (by omega)
      have q4 := q1 (128 * i + k)
      have hlen : 128 * i + k < (bys (midR d.all b i k)).length := by rw [bys_length, hml]; omega
      rw [List.getElem?_eq_getElem hlen] at q4
      generalize (bys (midR d.all b i k))[128 * i + k] = old at q4
      have HSET := Lib.hid (midR_set d.all b n i k HI1.out.len hi hb hlt)
      clear q1 p1 hxb hml
      go_wp2_with fail
      refine still_tail 13 (by kernel_rfl) (by kernel_rfl) ?_
      simp only [List.take_succ_cons, List.take_zero, List.drop_succ_cons, List.drop_zero]
      have f1 : IntKind.i64.wrap (128 * (i : Int)) = 128 * i := by rw [IntKind.wrap_i64]; omega
      have f2 : IntKind.i64.wrap (128 * (i : Int) + k) = 128 * i + k := by rw [IntKind.wrap_i64]; omega
      have f3 : (128 * (i : Int) + k).toNat = 128 * i + k := by omega
      have f4 : (0 : Int) ≤ 128 * (i : Int) + k := by omega
      have f5 : 128 * (i : Int) + k < m := by omega
      repeat still_step
      refine wpStill_nil ?_
      have KW := Lib.hid (KL.out.drew.set 1 rfl (128 * i + k) (.int .u8 (nB (b[k]'(by omega)))))
      rw [HSET.out] at KW
      have hne := HI1.out.ne
      have hne' : ¬ q = h := fun e => hne e.symm
      go_wp2_with fail
      go_roundw
      case rel =>
        exact ⟨k + 1, by omega, by simp, KW⟩
      case measure => simp [intOf]; omega
    · obtain rfl : k = 128 := by omega
      clear q1 p1
      go_wp2_with fail
      go_ret
      have KE := KL.out
      rw [midR_end _ _ _ hb] at KE
      exact ⟨rfl, (Only.of_below H1.below).trans KE.only, (KE.row 0 rfl).trans (by simp [rcells_is, ho]), KE.row 1 rfl, putRow_length _ _ _ _ HI1.out.len hi hb⟩
end Go.Proofs.Ytmlgkahadgpaiaa.Dk
