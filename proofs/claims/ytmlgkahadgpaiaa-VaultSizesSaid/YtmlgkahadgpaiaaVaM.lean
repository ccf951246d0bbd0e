/- Chapter 10: the reference's Blocks; the walk of VaultSizes. -/
import Derived.Test.YtmlgkahadgpaiaaVaI
import Derived.Deep.DeepCutAuto
namespace Go.Proofs.Ytmlgkahadgpaiaa.Va
open Go.RowKit _root_.Go.Proofs.Ytmlgkahadgpaiaa.Own
open Go.Proofs.Ytmlgkahadgpaiaa.Fr
open Go.Proofs.Ytmlgkahadgpaiaa.Dk (D Is D0 torn putRow rowB wst DOk made_all wpList_make_at rowB_length)
set_option linter.unusedVariables false
set_option linter.unusedSimpArgs false
theorem rb1 (n k : Nat) (z : Int) (hz : z = (n : Int) - 128 * k) (h : k < blkN n) (hn : n ≤ 1099511627776) : 0 < z ∧ IntKind.i64.wrap (z - 128) = z - 128 ∧ IntKind.i64.wrap ((k : Int) + 1) = ((k + 1 : Nat) : Int) ∧ z - 128 = (n : Int) - 128 * ((k + 1 : Nat) : Int) := by
  unfold blkN at h
  rw [IntKind.wrap_i64, IntKind.wrap_i64]
  omega
theorem rb2 (n k : Nat) (z : Int) (hz : z = (n : Int) - 128 * k) (h : ¬ k < blkN n) : ¬ 0 < z := by
  unfold blkN at h
  omega
theorem RBlocks_calls (n : Nat) (hn : n ≤ 1099511627776) (w : World) : Calls Try.prog 38 #[.int .i64 n] w fun e w' => e = .returned (.int .i64 (blkN n)) ∧ w = w' := by
  have HN := Lib.hid hn
  clear hn
  go_enter Try.func38, Try.ntmps38
  go_wp2_with fail
  go_loop [0, 3] (fun v0 v3 => ∃ (k : Nat) (z : Int), k ≤ blkN n ∧ v0 = .int .i64 z ∧ v3 = .int .i64 k ∧ Hid (z = (n : Int) - 128 * k)) (fun _ v3 => blkN n - (intOf v3).toNat)
  case atStart => exact ⟨0, n, Nat.zero_le _, rfl, rfl, Lib.hid (by omega)⟩
  case round =>
    obtain ⟨k, z, hk, rfl, rfl, HZ⟩ := hrel
    by_cases hlt : k < blkN n
    · obtain ⟨h1, h2, h3, h4⟩ := rb1 n k z HZ.out hlt HN.out
      have d1 : decide (z > 0) = true := decide_eq_true h1
      have H4 := Lib.hid h4
      clear h4
      go_wp2_with fail
      go_round
      case rel => exact ⟨k + 1, z - 128, by omega, rfl, by simp, H4⟩
      case measure => simp [intOf]; omega
    · have h1 := rb2 n k z HZ.out hlt
      have d1 : decide (z > 0) = false := decide_eq_false h1
      obtain rfl : k = blkN n := by omega
      go_wp2_with fail
      go_ret
      exact ⟨rfl, rfl⟩
theorem RBlocksNeg_calls (n : Int) (hn : n < 1) (w : World) : Calls Try.prog 38 #[.int .i64 n] w fun e w' => e = .returned (.int .i64 0) ∧ w = w' := by
  have h1 : ¬ 0 < n := by omega
  have d1 : decide (n > 0) = false := decide_eq_false h1
  clear hn
  go_enter Try.func38, Try.ntmps38
  go_wp2_with fail
  go_loop [0, 3] (fun v0 v3 => v0 = .int .i64 n ∧ v3 = .int .i64 0) (fun _ _ => 0)
  case atStart => exact ⟨rfl, rfl⟩
  case round =>
    obtain ⟨rfl, rfl⟩ := hrel
    go_wp2_with fail
    go_ret
    exact ⟨rfl, rfl⟩
/-- Saved as generation 0 onto an empty disk. -/
theorem save_zero {d : D} {k n f : Nat} {last b : List UInt8} (hc : Calm d k) (hk : Kept n f 0 last d.all) (hf : f + 512 ≤ n) (hb : b.length ≤ 32640) :
    (saveD d f 0 b).1 = 0 ∧ (saveD d f 0 b).2.off = false ∧ loadD (saveD d f 0 b).2.all f = some (0, b) ∧ (saveD d f 0 b).2.writes = d.writes + (blkN b.length : Nat) + 1 := by
  obtain ⟨h1, h2, h3, h4, h5, h6⟩ := saveD_ok (gen := 0) hk.len hc.dok.kp hf hb hc.off (.inl hc.armed)
  refine ⟨h1, h3, ?_, h5⟩
  have e0 : hasD (saveD d f 0 b).2.all (areaN f 0) 0 = some (0, b) := has_done _ _ 0 (by decide) b hb h2.head h2.cont
  have hrow : rowB (saveD d f 0 b).2.all (areaN f 1) = rowB d.all (areaN f 1) := h2.rest _ (by have := area_lt f 1 n hf; omega) (by unfold areaN; omega)
  have e1 : hasD (saveD d f 0 b).2.all (areaN f 1) 1 = none := hasD_none (by
    rw [hrow]
    intro q
    have := hk.low 1 q
    omega)
  unfold loadD
  rw [e0, e1]
  rfl
theorem ss1 (s : Int) (h : (Lit.int .u16 s).wf = true) : ∃ m : Nat, m < 1000 ∧ s.tmod 1000 = (m : Int) ∧ wrap64 s = s ∧ IntKind.i64.wrap (32000 + (m : Int)) = ((32000 + m : Nat) : Int) ∧ IntKind.i64.wrap s = s := by
  have h0 : 0 ≤ s ∧ s < 65536 := by
    simp [Lit.wf, IntKind.min, IntKind.max, IntKind.bits, IntKind.signed] at h
    omega
  refine ⟨(s.tmod 1000).toNat, ?_, ?_, ?_, ?_, ?_⟩
  · rw [Int.tmod_eq_emod_of_nonneg h0.1]; omega
  · rw [Int.tmod_eq_emod_of_nonneg h0.1]; omega
  · unfold wrap64; omega
  · rw [IntKind.wrap_i64, Int.tmod_eq_emod_of_nonneg h0.1]; omega
  · rw [IntKind.wrap_i64]; omega
set_option maxRecDepth 10000 in
set_option maxHeartbeats 8000000 in
theorem sizes_walk (n : Int) (s : Int) (hs : (Lit.int .u16 s).wf = true) (w : World) :
    Calls Try.prog 9 #[.int .i64 n, .int .u16 s] w fun e w' => e = .returned (.bool true) ∧ Below w.heap.size w w' := by
  obtain ⟨m, hm, f1, f2, f3, f4⟩ := ss1 s hs
  have HM := Lib.hid hm
  clear hs hm
  go_enter Try.func9, Try.ntmps9
  go_upto_region 1 with fail
  go_cut [30] (fun s30 wx => s30 = .bool false ∧ w = wx)
  case first =>
    clear f1 f2 f3 f4
    by_cases c1 : n < 1099511627776
    · have d1 := decide_eq_true c1
      by_cases c2 : n > -1099511627776
      · have d2 := decide_eq_true c2
        by_cases c3 : n < 100000
        · have d3 := decide_eq_true c3
          by_cases c4 : n < 1
          · have H1 := Lib.hid (BlocksNeg_calls n c4 w)
            have H2 := Lib.hid (RBlocksNeg_calls n c4 w)
            clear c1 c2 c3 c4
            go_wp2_with fail
            refine H1.out.mono ?_
            rintro e w1 ⟨rfl, rfl⟩
            go_wp2_with fail
            refine H2.out.mono ?_
            rintro e w1 ⟨rfl, rfl⟩
            go_wp2_with fail
            go_meet
            exact ⟨rfl, rfl⟩
          · obtain ⟨k, rfl⟩ : ∃ k : Nat, n = (k : Int) := ⟨n.toNat, by omega⟩
            have H1 := Lib.hid (Blocks_calls k (by omega) w)
            have H2 := Lib.hid (RBlocks_calls k (by omega) w)
            clear c1 c2 c3 c4
            go_wp2_with fail
            refine H1.out.mono ?_
            rintro e w1 ⟨rfl, rfl⟩
            go_wp2_with fail
            refine H2.out.mono ?_
            rintro e w1 ⟨rfl, rfl⟩
            go_wp2_with fail
            go_meet
            exact ⟨by simp, rfl⟩
        · have d3 := decide_eq_false c3
          clear c1 c2 c3
          go_wp2_with fail
          go_meet
          exact ⟨rfl, rfl⟩
      · have d2 := decide_eq_false c2
        clear c1 c2
        go_wp2_with fail
        go_meet
        exact ⟨rfl, rfl⟩
    · have d1 := decide_eq_false c1
      clear c1
      go_wp2_with fail
      go_meet
      exact ⟨rfl, rfl⟩
  case rest =>
    obtain ⟨rfl, rfl⟩ := hcut
    go_wp2_with fail
    refine (Dk.New_calls 512 (by decide) (by decide) w).mono ?_
    rintro e w1 ⟨g, r, rfl, hg, hr, hI, hb⟩
    have HI := Lib.hid hI
    have HB := Lib.hid hb
    clear hI hb
    go_wp2_with fail
    refine (New_calls HI.out 0 (by decide) (by decide)).mono ?_
    rintro e w2 ⟨v, rfl, hv, hvg, hb2⟩
    have L2 := Lib.hid (VL.start HI.out HB.out hg hr hv hb2)
    have K0 := Lib.hid (kept0 512 0 (by decide) [])
    have C0 := Lib.hid (calm0 512)
    have Z0 := Lib.hid (show (D0 512).writes = 0 from rfl)
    generalize D0 512 = d0 at *
    clear hv hb2 HI HB hvg hg hr
    obtain ⟨N, hN⟩ : ∃ N, 32000 + m = N := ⟨_, rfl⟩
    have hNb : N < 33000 := by have := HM.out; omega
    have hNl : 32000 ≤ N := by omega
    rw [hN] at f3
    obtain ⟨ti, i1, i2, i3, i4⟩ := infoU8
    have hxs : madeCells (Value.int .u8 0).cells (N * ti.size) = ⟨bys (List.replicate N 0)⟩ := by
      rw [i2, Nat.mul_one]
      refine (made_all (.int .u8 0) 1 N (by decide)).trans ?_
      simp [bys, nB]
    have mk := fun W : World => run_make (P := Try.prog) (w := W) 23 5 ti (.int .u8 0) Try.underlying23 i1 i4 .i64 .i64 (N : Int) (N : Int) (by omega) (by omega) (by rw [i3]; omega) (by omega)
    simp only [Int.toNat_natCast, hxs] at mk
    obtain ⟨Zs, hZ⟩ : ∃ Zs : List UInt8, List.replicate N 0 = Zs := ⟨_, rfl⟩
    have hZl : Zs.length = N := by rw [← hZ, List.length_replicate]
    rw [hZ] at mk
    have HZl := Lib.hid hZl
    have HNb := Lib.hid hNb
    clear hxs hZl hZ i1 i2 i3 i4 hN hNb hNl
    go_wp2_with fail
    have L3 := Lib.hid (L2.out.call ((Below.refl w2.heap.size w2).alloc (Nat.le_refl _) (.cells ⟨bys Zs⟩ 5 (0, 0))))
    have R3 := Lib.hid (Rd.put w2.heap.size (w := w2) rfl (bys Zs) 5 (0, 0))
    have hs3 : w2.heap.size ≠ g ∧ w2.heap.size ≠ r := by have h1 := blk_lt L2.out.vs.is.own; have h2 := blk_lt L2.out.vs.is.row; omega
    obtain ⟨w3, hw3⟩ : ∃ w3, w2.alloc (.cells ⟨bys Zs⟩ 5 (0, 0)) = w3 := ⟨_, rfl⟩
    obtain ⟨q, hq⟩ : ∃ q, w2.heap.size = q := ⟨_, rfl⟩
    rw [hw3] at L3 R3 ⊢
    rw [hq] at R3 hs3 ⊢
    have k1 : IntKind.i64.wrap (((blkN N : Nat) : Int) + 1) = ((blkN N : Nat) : Int) + 1 := by have := HNb.out; rw [IntKind.wrap_i64]; unfold blkN; omega
    have HBk := Lib.hid (fun W : World => Blocks_calls N (by have := HNb.out; omega) W)
    clear hw3 mk L2 hq f1 f2 f3 f4
    by_cases hbig : 32640 < N
    · have d1 : decide ((N : Int) > 32640) = true := by rw [decide_eq_true_eq]; omega
      have d2 : decide (32640 < N) = true := decide_eq_true hbig
      have HS := Lib.hid (SaveFull_calls L3.out.vs.vis 0 (by decide) (some ⟨q, 0, none⟩) N N hbig (by have := HNb.out; omega))
      clear hbig
      refine HS.out.mono ?_
      rintro e w4 ⟨rfl, rfl⟩
      go_wp2_with fail
      refine (LoadNone_calls L3.out.vs C0.out.off (by decide) (by decide) K0.out).mono ?_
      rintro e w5 ⟨rfl, hb5⟩
      have L5 := Lib.hid (L3.out.call hb5)
      clear hb5
      go_wp2_with fail
      have hW := Dk.Writes_calls L5.out.vs.is
      rw [Z0.out] at hW
      refine hW.mono ?_
      rintro e w6 ⟨rfl, hb6⟩
      have L6 := Lib.hid (L5.out.call hb6)
      clear hb6 hW
      go_wp2_with fail
      refine (alive10 _).mono ?_
      rintro e w7 ⟨rfl, hb7⟩
      have HB7 := Lib.hid (L6.out.below.trans (hb7.mono L6.out.below.size))
      clear hb7
      go_wp2_with fail
      go_ret
      exact ⟨rfl, HB7.out⟩
    · have d1 : decide ((N : Int) > 32640) = false := by rw [decide_eq_false_iff_not]; omega
      have d2 : decide (32640 < N) = false := decide_eq_false hbig
      have hS := Save_calls (VSself L3.out.vs) C0.out.dok (by decide) (by decide) (by decide) 0 (by decide) (some ⟨q, 0, none⟩) N N Zs HZl.out.symm (by omega) (Nat.le_refl _) (fun h => nomatch h) R3.out (by intro _ a ha; cases ha; exact hs3)
      obtain ⟨s1, s2, s3, s4⟩ := save_zero (b := Zs) C0.out K0.out (by decide) (by rw [HZl.out]; omega)
      rw [s1] at hS
      rw [Z0.out, HZl.out, Int.zero_add] at s4
      generalize (saveD d0 0 0 Zs).2 = d1 at *
      have HS := Lib.hid hS
      have S2 := Lib.hid s2
      have S3 := Lib.hid s3
      have S4 := Lib.hid s4
      clear hbig hS s1 s2 s3 s4
      refine HS.out.mono ?_
      rintro e w4 ⟨rfl, p4⟩
      have R4 := Lib.hid (rd_keep R3.out p4.only (by intro a ha; cases ha; simp; exact hs3))
      have L4 := Lib.hid (L3.out.set (L3.out.vs.turn p4.only p4.is))
      clear p4 HS R3 L3
      go_wp2_with fail
      have hLd := LoadOn_calls L4.out.vs S2.out (by decide) (by decide)
      rw [S3.out] at hLd
      refine hLd.mono ?_
      rintro e w5 ⟨hres, hb5⟩
      obtain ⟨A5, c5, rfl, hc5, hn5, hr5, -⟩ := hres.1 0 Zs rfl
      have L5 := Lib.hid (L4.out.call hb5)
      have kx := run_string_of (w := w5) Try.underlying23 Try.underlying5 Try.underlying9 A5 Zs.length c5 Zs rfl hn5 hr5
      have ky := run_string_of (w := w5) Try.underlying23 Try.underlying5 Try.underlying9 (some ⟨q, 0, none⟩) N N Zs HZl.out.symm (fun h => nomatch h) (R4.out.below hb5)
      have hW := Dk.Writes_calls L5.out.vs.is
      rw [S4.out] at hW
      have HW := Lib.hid hW
      clear hLd hres hc5 hn5 hr5 hb5 hW R4 L4
      go_wp2_with fail
      refine HW.out.mono ?_
      rintro e w6 ⟨rfl, hb6⟩
      have L6 := Lib.hid (L5.out.call hb6)
      clear hb6 HW kx ky
      go_wp2_with fail
      refine (HBk.out _).mono ?_
      rintro e w7 ⟨rfl, rfl⟩
      go_wp2_with fail
      refine (alive10 _).mono ?_
      rintro e w7 ⟨rfl, hb7⟩
      have HB7 := Lib.hid (L6.out.below.trans (hb7.mono L6.out.below.size))
      clear hb7
      go_wp2_with fail
      go_ret
      exact ⟨rfl, HB7.out⟩
end Go.Proofs.Ytmlgkahadgpaiaa.Va
