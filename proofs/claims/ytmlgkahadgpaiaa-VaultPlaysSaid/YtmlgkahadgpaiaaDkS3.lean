/- Chapter 07: the reference's Write, torn. -/
import Derived.Test.YtmlgkahadgpaiaaDkS2
namespace Go.Proofs.Ytmlgkahadgpaiaa.Dk
open Go.RowKit _root_.Go.Proofs.Ytmlgkahadgpaiaa.Own
set_option linter.unusedVariables false
set_option linter.unusedSimpArgs false
set_option maxHeartbeats 2000000 in
set_option maxRecDepth 10000 in
theorem RWriteTorn_calls {h q n : Nat} {d : RD} {w : World} (hI : RIs h q n d w) (hn : n ≤ 1024) (i : Nat) (hi : i < n) (ho : d.off = false) (ad : Addr) (cb : Nat) (b : List UInt8) (hb : b.length = 128) (hcb : 128 ≤ cb) (hR : Rd w (some ad) (bys b)) (hah : ad.block ≠ h ∧ ad.block ≠ q)
    (hw : 0 ≤ d.writes ∧ d.writes < 1099511627776) (hk : 0 ≤ d.keep ∧ d.keep ≤ 128) (hz : d.fuse = 0) :
    Calls Try.prog 35 #[.pointer (some ⟨h, 0, none⟩), .int .i64 i, .slice (some ad) 128 cb] w fun e w' => e = .returned (.int .i64 19) ∧ Only [h, q] w w' ∧ RIs h q n { d with all := putRow d.all i (torn d.keep.toNat b), off := true, fuse := -1, writes := d.writes + 1 } w' := by
  obtain ⟨h0, h1, h2, h3, h4⟩ := hI.cells
  have HI := Lib.hid hI
  have HRD := Lib.hid hR
  clear hI hR
  have H0 := At.refl w
  have hw1 := hw.1
  obtain ⟨z0, hz0⟩ : ∃ z0 : Nat, d.keep = z0 := ⟨d.keep.toNat, by omega⟩
  have hz1 : z0 ≤ 128 := by omega
  have htl : (torn z0 b).length = 128 := by unfold torn; rw [List.length_append, List.length_take, List.length_replicate]; omega
  have hw2 := hw.2
  have HB := Lib.hid (rHas_calls q n hn d i true (decide_eq_true (by omega)))
  obtain ⟨m, hm⟩ : ∃ m : Nat, n * 128 = m := ⟨_, rfl⟩
  rw [rcells_is, ho, hm, hz, hz0] at HB
  rw [ho] at h1
  rw [hm] at h0
  rw [hz] at h2
  rw [hz0] at h3
  go_enter Try.func35, Try.ntmps35
  go_wp2_with fail
  refine callAt (HB.out _) H0 ?_
  rintro e w1 rfl H1
  have HI1 := Lib.hid (HI.out.below H1.below)
  have HR1 := Lib.hid (Rd.below HRD.out H1.below)
  obtain ⟨k0, k1, k2, k3, k4⟩ := HI1.out.cells
  obtain ⟨hf, hg⟩ := HI1.out.sets
  rw [ho] at k1
  rw [hm] at k0
  rw [hz] at k2
  rw [hz0] at k3
  clear h0 h1 h2 h3 h4 HRD H0
  have K1 := Lib.hid (On.start (w := w1) (L := [(h, rcells q (n * 128) d, 62), (q, bys d.all, 5)]) (by intro x hx; simp at hx; rcases hx with rfl | rfl; exact HI1.out.own; exact HI1.out.row) (by simp [HI1.out.ne]))
  have K2 := Lib.hid (K1.out.set 0 rfl 4 (.int .i64 (d.writes + 1)))
  go_wp2_with fail
  go_loopw [7] (fun v7 wr => ∃ k : Nat, k ≤ 128 ∧ v7 = .int .i64 k ∧ Hid (On w1 [h, q] [(h, (rcells q (n * 128) d).set 4 (.int .i64 (d.writes + 1)), 62), (q, bys (midR d.all (torn z0 b) i k), 5)] wr)) (fun v7 _ => 128 - (intOf v7).toNat)
  case atStart => exact ⟨0, by omega, rfl, Lib.hid (by rw [midR_zero]; exact K2.out)⟩
  case round =>
    clear k0 k1 k2 k3 k4 hf hg K1 K2
    obtain ⟨k, hk9, rfl, KL⟩ := hrel
    obtain ⟨p1, p2, p3, -⟩ := KL.out.rules _ (List.mem_cons_self ..)
    have c0 := p1 0
    have c1 := p1 1
    have c2 := p1 2
    have c3 := p1 3
    simp [rcells_is, hm, hz, hz0] at c0 c1 c2 c3 p2 p3
    obtain ⟨q1, q2, q3, -⟩ := KL.out.rules _ (List.mem_cons_of_mem _ (List.mem_cons_self ..))
    simp only at q1 q2 q3
    by_cases hlt : k < 128
    · have HRw := Lib.hid (Rd.only HR1.out KL.out.only (by intro a ha; cases ha; simp; exact hah))
      obtain ⟨a', ha', hx⟩ := HRw.out k (by rw [bys_length]; omega)
      cases ha'
      have hxb : (bys b)[k]'(by rw [bys_length]; omega) = .int .u8 (nB (b[k]'(by omega))) := by simp [bys]
      rw [hxb] at hx
      have hml := midR_length d.all (torn z0 b) n i k HI1.out.len hi htl (by omega)
      have q4 := q1 (128 * i + k)
      have hlen : 128 * i + k < (bys (midR d.all (torn z0 b) i k)).length := by rw [bys_length, hml]; omega
      rw [List.getElem?_eq_getElem hlen] at q4
      generalize (bys (midR d.all (torn z0 b) i k))[128 * i + k] = old at q4
      have HSET := Lib.hid (midR_set d.all (torn z0 b) n i k HI1.out.len hi htl hlt)
      clear q1 p1 hxb hml
      go_wp2_with fail
      refine still_tail 13 (by kernel_rfl) (by kernel_rfl) ?_
      simp only [List.take_succ_cons, List.take_zero, List.drop_succ_cons, List.drop_zero]
      have f1 : IntKind.i64.wrap (128 * (i : Int)) = 128 * i := by rw [IntKind.wrap_i64]; omega
      have f2 : IntKind.i64.wrap (128 * (i : Int) + k) = 128 * i + k := by rw [IntKind.wrap_i64]; omega
      have f3 : (128 * (i : Int) + k).toNat = 128 * i + k := by omega
      have f4 : (0 : Int) ≤ 128 * (i : Int) + k := by omega
      have f5 : 128 * (i : Int) + k < m := by omega
      repeat still_step
      refine wpStill_nil ?_
      have hne := HI1.out.ne
      have hne' : ¬ q = h := fun e => hne e.symm
      by_cases hkk : k < z0
      · have m9 : decide ((k : Int) ≥ (z0 : Int)) = false := by rw [decide_eq_false_iff_not]; omega
        have KW := Lib.hid (KL.out.drew.set 1 rfl (128 * i + k) (.int .u8 (nB (b[k]'(by omega)))))
        have he : (torn z0 b)[k]'(by omega) = b[k]'(by omega) := by unfold torn; rw [List.getElem_append_left (by rw [List.length_take]; omega), List.getElem_take]
        rw [he] at HSET
        rw [HSET.out] at KW
        clear he
        go_wp2_with fail
        go_roundw
        case rel => exact ⟨k + 1, by omega, by simp, KW⟩
        case measure => simp [intOf]; omega
      · have m9 : decide ((k : Int) ≥ (z0 : Int)) = true := by rw [decide_eq_true_eq]; omega
        have KW := Lib.hid ((KL.out.drew.set 1 rfl (128 * i + k) (.int .u8 (nB (b[k]'(by omega))))).set 1 rfl (128 * i + k) (.int .u8 255))
        have he : nB ((torn z0 b)[k]'(by omega)) = 255 := by unfold torn; rw [List.getElem_append_right (by rw [List.length_take]; omega), List.getElem_replicate]; rfl
        rw [he] at HSET
        rw [List.set_set, List.set_set, HSET.out] at KW
        clear he
        go_wp2_with fail
        go_roundw
        case rel => exact ⟨k + 1, by omega, by simp, KW⟩
        case measure => simp [intOf]; omega
    · obtain rfl : k = 128 := by omega
      clear q1 p1
      go_wp2_with fail
      go_ret
      have KE := KL.out
      rw [midR_end _ _ _ htl] at KE
      replace KE := (KE.set 0 rfl 1 (.bool true)).set 0 rfl 2 (.int .i64 (-1))
      exact ⟨rfl, (Only.of_below H1.below).trans KE.only, (KE.row 0 rfl).trans (by simp [rcells_is, hz0]), (KE.row 1 rfl).trans (by simp [hz0]), by simp only [hz0, Int.toNat_natCast]; exact putRow_length _ _ _ _ HI1.out.len hi htl⟩
end Go.Proofs.Ytmlgkahadgpaiaa.Dk
