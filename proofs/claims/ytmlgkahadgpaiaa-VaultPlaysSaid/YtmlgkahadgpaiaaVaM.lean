/- Chapter 10: the reference's Blocks; the walk of VaultSizes. -/
import Derived.Test.YtmlgkahadgpaiaaVaI
import Derived.Deep.DeepCutAuto
import Derived.Test.YtmlgkahadgpaiaaCrcG
import Derived.Test.YtmlgkahadgpaiaaFrR
namespace Go.Proofs.Ytmlgkahadgpaiaa.Va
open Go.RowKit _root_.Go.Proofs.Ytmlgkahadgpaiaa.Own
open Go.Proofs.Ytmlgkahadgpaiaa.Fr
open Go.Proofs.Ytmlgkahadgpaiaa.Dk (D Is D0 torn putRow rowB wst DOk made_all wpList_make_at rowB_length)
set_option linter.unusedVariables false
set_option linter.unusedSimpArgs false
theorem rb1 (n k : Nat) (z : Int) (hz : z = (n : Int) - 128 * k) (h : k < blkN n) (hn : n ≤ 1099511627776) : 0 < z ∧ IntKind.i64.wrap (z - 128) = z - 128 ∧ IntKind.i64.wrap ((k : Int) + 1) = ((k + 1 : Nat) : Int) ∧ z - 128 = (n : Int) - 128 * ((k + 1 : Nat) : Int) := by
  unfold blkN at h
  rw [IntKind.wrap_i64, IntKind.wrap_i64]
  omega
theorem rb2 (n k : Nat) (z : Int) (hz : z = (n : Int) - 128 * k) (h : ¬ k < blkN n) : ¬ 0 < z := by
  unfold blkN at h
  omega
theorem RBlocks_calls (n : Nat) (hn : n ≤ 1099511627776) (w : World) : Calls Try.prog 38 #[.int .i64 n] w fun e w' => e = .returned (.int .i64 (blkN n)) ∧ w = w' := by
  have HN := Lib.hid hn
  clear hn
  go_enter Try.func38, Try.ntmps38
  go_wp2_with fail
  go_loop [0, 3] (fun v0 v3 => ∃ (k : Nat) (z : Int), k ≤ blkN n ∧ v0 = .int .i64 z ∧ v3 = .int .i64 k ∧ Hid (z = (n : Int) - 128 * k)) (fun _ v3 => blkN n - (intOf v3).toNat)
  case atStart => exact ⟨0, n, Nat.zero_le _, rfl, rfl, Lib.hid (by omega)⟩
  case round =>
    obtain ⟨k, z, hk, rfl, rfl, HZ⟩ := hrel
    by_cases hlt : k < blkN n
    · obtain ⟨h1, h2, h3, h4⟩ := rb1 n k z HZ.out hlt HN.out
      have d1 : decide (z > 0) = true := decide_eq_true h1
      have H4 := Lib.hid h4
      clear h4
      go_wp2_with fail
      go_round
      case rel => exact ⟨k + 1, z - 128, by omega, rfl, by simp, H4⟩
      case measure => simp [intOf]; omega
    · have h1 := rb2 n k z HZ.out hlt
      have d1 : decide (z > 0) = false := decide_eq_false h1
      obtain rfl : k = blkN n := by omega
      go_wp2_with fail
      go_ret
      exact ⟨rfl, rfl⟩
theorem RBlocksNeg_calls (n : Int) (hn : n < 1) (w : World) : Calls Try.prog 38 #[.int .i64 n] w fun e w' => e = .returned (.int .i64 0) ∧ w = w' := by
  have h1 : ¬ 0 < n := by omega
  have d1 : decide (n > 0) = false := decide_eq_false h1
  clear hn
  go_enter Try.func38, Try.ntmps38
  go_wp2_with fail
  go_loop [0, 3] (fun v0 v3 => v0 = .int .i64 n ∧ v3 = .int .i64 0) (fun _ _ => 0)
  case atStart => exact ⟨rfl, rfl⟩
  case round =>
    obtain ⟨rfl, rfl⟩ := hrel
    go_wp2_with fail
    go_ret
    exact ⟨rfl, rfl⟩
/-- Saved as generation 0 onto an empty disk. -/
theorem save_zero {d : D} {k n f : Nat} {last b : List UInt8} (hc : Calm d k) (hk : Kept n f 0 last d.all) (hf : f + 512 ≤ n) (hb : b.length ≤ 32640) :
    (saveD d f 0 b).1 = 0 ∧ (saveD d f 0 b).2.off = false ∧ loadD (saveD d f 0 b).2.all f = some (0, b) ∧ (saveD d f 0 b).2.writes = d.writes + (blkN b.length : Nat) + 1 := by
  obtain ⟨h1, h2, h3, h4, h5, h6⟩ := saveD_ok (gen := 0) hk.len hc.dok.kp hf hb hc.off (.inl hc.armed)
  refine ⟨h1, h3, ?_, h5⟩
  have e0 : hasD (saveD d f 0 b).2.all (areaN f 0) 0 = some (0, b) := has_done _ _ 0 (by decide) b hb h2.head h2.cont
  have hrow : rowB (saveD d f 0 b).2.all (areaN f 1) = rowB d.all (areaN f 1) := h2.rest _ (by have := area_lt f 1 n hf; omega) (by unfold areaN; omega)
  have e1 : hasD (saveD d f 0 b).2.all (areaN f 1) 1 = none := hasD_none (by
    rw [hrow]
    intro q
    have := hk.low 1 q
    omega)
  unfold loadD
  rw [e0, e1]
  rfl
theorem ss1 (s : Int) (h : (Lit.int .u16 s).wf = true) : ∃ m : Nat, m < 1000 ∧ s.tmod 1000 = (m : Int) ∧ wrap64 s = s ∧ IntKind.i64.wrap (32000 + (m : Int)) = ((32000 + m : Nat) : Int) ∧ IntKind.i64.wrap s = s := by
  have h0 : 0 ≤ s ∧ s < 65536 := by
    simp [Lit.wf, IntKind.min, IntKind.max, IntKind.bits, IntKind.signed] at h
    omega
  refine ⟨(s.tmod 1000).toNat, ?_, ?_, ?_, ?_, ?_⟩
  · rw [Int.tmod_eq_emod_of_nonneg h0.1]; omega
  · rw [Int.tmod_eq_emod_of_nonneg h0.1]; omega
  · unfold wrap64; omega
  · rw [IntKind.wrap_i64, Int.tmod_eq_emod_of_nonneg h0.1]; omega
  · rw [IntKind.wrap_i64]; omega
set_option maxRecDepth 10000 in
set_option maxHeartbeats 8000000 in
theorem sizes_walk (n : Int) (s : Int) (hs : (Lit.int .u16 s).wf = true) (w : World) :
    Calls Try.prog 9 #[.int .i64 n, .int .u16 s] w fun e w' => e = .returned (.bool true) ∧ Below w.heap.size w w' := by
  obtain ⟨m, hm, f1, f2, f3, f4⟩ := ss1 s hs
  have HM := Lib.hid hm
  clear hs hm
  go_enter Try.func9, Try.ntmps9
  go_upto_region 1 with fail
  go_cut [30] (fun s30 wx => s30 = .bool false ∧ w = wx)
  case first =>
    clear f1 f2 f3 f4
    by_cases c1 : n < 1099511627776
    · have d1 := decide_eq_true c1
      by_cases c2 : n > -1099511627776
      · have d2 := decide_eq_true c2
        by_cases c3 : n < 100000
        · have d3 := decide_eq_true c3
          by_cases c4 : n < 1
          · have H1 := Lib.hid (BlocksNeg_calls n c4 w)
            have H2 := Lib.hid (RBlocksNeg_calls n c4 w)
            clear c1 c2 c3 c4
            go_wp2_with fail
            refine H1.out.mono ?_
            rintro e w1 ⟨rfl, rfl⟩
            go_wp2_with fail
            refine H2.out.mono ?_
            rintro e w1 ⟨rfl, rfl⟩
            go_wp2_with fail
            go_meet
            exact ⟨rfl, rfl⟩
          · obtain ⟨k, rfl⟩ : ∃ k : Nat, n = (k : Int) := ⟨n.toNat, by omega⟩
            have H1 := Lib.hid (Blocks_calls k (by omega) w)
            have H2 := Lib.hid (RBlocks_calls k (by omega) w)
            clear c1 c2 c3 c4
            go_wp2_with fail
            refine H1.out.mono ?_
            rintro e w1 ⟨rfl, rfl⟩
            go_wp2_with fail
            refine H2.out.mono ?_
            rintro e w1 ⟨rfl, rfl⟩
            go_wp2_with fail
            go_meet
            exact ⟨by simp, rfl⟩
        · have d3 := decide_eq_false c3
          clear c1 c2 c3
          go_wp2_with fail
          go_meet
          exact ⟨rfl, rfl⟩
      · have d2 := decide_eq_false c2
        clear c1 c2
        go_wp2_with fail
        go_meet
        exact ⟨rfl, rfl⟩
    · have d1 := decide_eq_false c1
      clear c1
      go_wp2_with fail
      go_meet
      exact ⟨rfl, rfl⟩
  case rest =>
    obtain ⟨rfl, rfl⟩ := hcut
    go_wp2_with fail
    refine (Dk.New_calls 512 (by decide) (by decide) w).mono ?_
    rintro e w1 ⟨g, r, rfl, hg, hr, hI, hb⟩
    have HI := Lib.hid hI
    have HB := Lib.hid hb
    clear hI hb
    go_wp2_with fail
    refine (New_calls HI.out 0 (by decide) (by decide)).mono ?_
    rintro e w2 ⟨v, rfl, hv, hvg, hb2⟩
    have L2 := Lib.hid (VL.start HI.out HB.out hg hr hv hb2)
    have K0 := Lib.hid (kept0 512 0 (by decide) [])
    have C0 := Lib.hid (calm0 512)
    have Z0 := Lib.hid (show (D0 512).writes = 0 from rfl)
    generalize D0 512 = d0 at *
    clear hv hb2 HI HB hvg hg hr
    obtain ⟨N, hN⟩ : ∃ N, 32000 + m = N := ⟨_, rfl⟩
    have hNb : N < 33000 := by have := HM.out; omega
    have hNl : 32000 ≤ N := by omega
    rw [hN] at f3
    obtain ⟨ti, i1, i2, i3, i4⟩ := infoU8
    have hxs : madeCells (Value.int .u8 0).cells (N * ti.size) = ⟨bys (List.replicate N 0)⟩ := by
      rw [i2, Nat.mul_one]
      refine (made_all (.int .u8 0) 1 N (by decide)).trans ?_
      simp [bys, nB]
    have mk := fun W : World => run_make (P := Try.prog) (w := W) 23 5 ti (.int .u8 0) Try.underlying23 i1 i4 .i64 .i64 (N : Int) (N : Int) (by omega) (by omega) (by rw [i3]; omega) (by omega)
    simp only [Int.toNat_natCast, hxs] at mk
    obtain ⟨Zs, hZ⟩ : ∃ Zs : List UInt8, List.replicate N 0 = Zs := ⟨_, rfl⟩
    have hZl : Zs.length = N := by rw [← hZ, List.length_replicate]
    rw [hZ] at mk
    have HZl := Lib.hid hZl
    have HNb := Lib.hid hNb
    clear hxs hZl hZ i1 i2 i3 i4 hN hNb hNl
    go_wp2_with fail
    have L3 := Lib.hid (L2.out.call ((Below.refl w2.heap.size w2).alloc (Nat.le_refl _) (.cells ⟨bys Zs⟩ 5 (0, 0))))
    have R3 := Lib.hid (Rd.put w2.heap.size (w := w2) rfl (bys Zs) 5 (0, 0))
    have hs3 : w2.heap.size ≠ g ∧ w2.heap.size ≠ r := by have h1 := blk_lt L2.out.vs.is.own; have h2 := blk_lt L2.out.vs.is.row; omega
    obtain ⟨w3, hw3⟩ : ∃ w3, w2.alloc (.cells ⟨bys Zs⟩ 5 (0, 0)) = w3 := ⟨_, rfl⟩
    obtain ⟨q, hq⟩ : ∃ q, w2.heap.size = q := ⟨_, rfl⟩
    rw [hw3] at L3 R3 ⊢
    rw [hq] at R3 hs3 ⊢
    have k1 : IntKind.i64.wrap (((blkN N : Nat) : Int) + 1) = ((blkN N : Nat) : Int) + 1 := by have := HNb.out; rw [IntKind.wrap_i64]; unfold blkN; omega
    have HBk := Lib.hid (fun W : World => Blocks_calls N (by have := HNb.out; omega) W)
    clear hw3 mk L2 hq f1 f2 f3 f4
    by_cases hbig : 32640 < N
    · have d1 : decide ((N : Int) > 32640) = true := by rw [decide_eq_true_eq]; omega
      have d2 : decide (32640 < N) = true := decide_eq_true hbig
      have HS := Lib.hid (SaveFull_calls L3.out.vs.vis 0 (by decide) (some ⟨q, 0, none⟩) N N hbig (by have := HNb.out; omega))
      clear hbig
      refine HS.out.mono ?_
      rintro e w4 ⟨rfl, rfl⟩
      go_wp2_with fail
      refine (LoadNone_calls L3.out.vs C0.out.off (by decide) (by decide) K0.out).mono ?_
      rintro e w5 ⟨rfl, hb5⟩
      have L5 := Lib.hid (L3.out.call hb5)
      clear hb5
      go_wp2_with fail
      have hW := Dk.Writes_calls L5.out.vs.is
      rw [Z0.out] at hW
      refine hW.mono ?_
      rintro e w6 ⟨rfl, hb6⟩
      have L6 := Lib.hid (L5.out.call hb6)
      clear hb6 hW
      go_wp2_with fail
      refine (alive10 _).mono ?_
      rintro e w7 ⟨rfl, hb7⟩
      have HB7 := Lib.hid (L6.out.below.trans (hb7.mono L6.out.below.size))
      clear hb7
      go_wp2_with fail
      go_ret
      exact ⟨rfl, HB7.out⟩
    · have d1 : decide ((N : Int) > 32640) = false := by rw [decide_eq_false_iff_not]; omega
      have d2 : decide (32640 < N) = false := decide_eq_false hbig
      have hS := Save_calls (VSself L3.out.vs) C0.out.dok (by decide) (by decide) (by decide) 0 (by decide) (some ⟨q, 0, none⟩) N N Zs HZl.out.symm (by omega) (Nat.le_refl _) (fun h => nomatch h) R3.out (by intro _ a ha; cases ha; exact hs3)
      obtain ⟨s1, s2, s3, s4⟩ := save_zero (b := Zs) C0.out K0.out (by decide) (by rw [HZl.out]; omega)
      rw [s1] at hS
      rw [Z0.out, HZl.out, Int.zero_add] at s4
      generalize (saveD d0 0 0 Zs).2 = d1 at *
      have HS := Lib.hid hS
      have S2 := Lib.hid s2
      have S3 := Lib.hid s3
      have S4 := Lib.hid s4
      clear hbig hS s1 s2 s3 s4
      refine HS.out.mono ?_
      rintro e w4 ⟨rfl, p4⟩
      have R4 := Lib.hid (rd_keep R3.out p4.only (by intro a ha; cases ha; simp; exact hs3))
      have L4 := Lib.hid (L3.out.set (L3.out.vs.turn p4.only p4.is))
      clear p4 HS R3 L3
      go_wp2_with fail
      have hLd := LoadOn_calls L4.out.vs S2.out (by decide) (by decide)
      rw [S3.out] at hLd
      refine hLd.mono ?_
      rintro e w5 ⟨hres, hb5⟩
      obtain ⟨A5, c5, rfl, hc5, hn5, hr5, -⟩ := hres.1 0 Zs rfl
      have L5 := Lib.hid (L4.out.call hb5)
      have kx := run_string_of (w := w5) Try.underlying23 Try.underlying5 Try.underlying9 A5 Zs.length c5 Zs rfl hn5 hr5
      have ky := run_string_of (w := w5) Try.underlying23 Try.underlying5 Try.underlying9 (some ⟨q, 0, none⟩) N N Zs HZl.out.symm (fun h => nomatch h) (R4.out.below hb5)
      have hW := Dk.Writes_calls L5.out.vs.is
      rw [S4.out] at hW
      have HW := Lib.hid hW
      clear hLd hres hc5 hn5 hr5 hb5 hW R4 L4
      go_wp2_with fail
      refine HW.out.mono ?_
      rintro e w6 ⟨rfl, hb6⟩
      have L6 := Lib.hid (L5.out.call hb6)
      clear hb6 HW kx ky
      go_wp2_with fail
      refine (HBk.out _).mono ?_
      rintro e w7 ⟨rfl, rfl⟩
      go_wp2_with fail
      refine (alive10 _).mono ?_
      rintro e w7 ⟨rfl, hb7⟩
      have HB7 := Lib.hid (L6.out.below.trans (hb7.mono L6.out.below.size))
      clear hb7
      go_wp2_with fail
      go_ret
      exact ⟨rfl, HB7.out⟩
end Go.Proofs.Ytmlgkahadgpaiaa.Va
namespace Go.Proofs.Ytmlgkahadgpaiaa.Va
open Go.RowKit _root_.Go.Proofs.Ytmlgkahadgpaiaa.Own
open Go.Proofs.Ytmlgkahadgpaiaa.Fr
set_option linter.unusedVariables false
set_option linter.unusedSimpArgs false
theorem nm1 (n k : Nat) : ((n / 256 ^ k : Nat) : Int).tmod 256 = nB (UInt8.ofNat (n / 256 ^ k)) := by
  generalize n / 256 ^ k = q
  rw [Int.tmod_eq_emod_of_nonneg (by omega)]
  unfold nB
  rw [UInt8.toNat_ofNat']
  omega
theorem nm2 (n k : Nat) : ((n / 256 ^ k : Nat) : Int).tdiv 256 = ((n / 256 ^ (k + 1) : Nat) : Int) := by
  rw [Nat.pow_succ, ← Nat.div_div_eq_div_mul]
  generalize n / 256 ^ k = q
  rw [Int.tdiv_eq_ediv_of_nonneg (by omega)]
  omega
set_option maxRecDepth 10000 in
set_option maxHeartbeats 4000000 in
theorem RNum_calls4 (n : Nat) (hn : n < 256 ^ 4) (w : World) : Calls Try.prog 64 #[.int .i64 n, .int .i64 4] w fun e w' => ∃ v, e = .returned (.tuple #[v, .bool true]) ∧ Has w.heap.size 5 v (bys (be n 4)) w' ∧ Below w.heap.size w w' := by
  have m1 : decide ((n : Int) < 0) = false := by rw [decide_eq_false_iff_not]; omega
  have HN := Lib.hid (show n / 256 ^ 4 = 0 from Nat.div_eq_of_lt hn)
  have HNl := Lib.hid hn
  clear hn
  go_enter Try.func64, Try.ntmps64
  go_wp2_with fail
  have B0 := Lib.hid (Below.refl w.heap.size w)
  go_loopw [0, 6, 7] (fun v0 v6 v7 wr => ∃ k : Nat, k ≤ 4 ∧ v0 = .int .i64 ((n / 256 ^ k : Nat) : Int) ∧ v7 = .int .i64 k ∧ Hid (Has w.heap.size 5 v6 (bys (be n k)) wr) ∧ Hid (Below w.heap.size w wr)) (fun _ _ v7 _ => 4 - (intOf v7).toNat)
  case atStart => exact ⟨0, by decide, by simp, rfl, Lib.hid (Has.nil _ _ _), B0⟩
  case round =>
    clear B0
    obtain ⟨k, hk, rfl, rfl, HV, HB⟩ := hrel
    have f1 := nm1 n k
    have f2 := nm2 n k
    obtain ⟨b, hb⟩ : ∃ b, UInt8.ofNat (n / 256 ^ k) = b := ⟨_, rfl⟩
    rw [hb] at f1
    have HBe := Lib.hid (show be n (k + 1) = b :: be n k from by rw [← hb]; rfl)
    have hl := be_length n k
    obtain ⟨X, hX⟩ : ∃ X, be n k = X := ⟨_, rfl⟩
    rw [hX] at HV hl HBe
    by_cases hlt : k < 4
    · have d1 : decide ((k : Int) < 4) = true := by rw [decide_eq_true_eq]; omega
      obtain ⟨z, hz⟩ : ∃ z, n / 256 ^ k = z := ⟨_, rfl⟩
      obtain ⟨z', hz'⟩ : ∃ z', n / 256 ^ (k + 1) = z' := ⟨_, rfl⟩
      rw [hz] at f1 f2 ⊢
      rw [hz'] at f2
      have HZ' := Lib.hid hz'
      have f5 : wrap64 (z' : Int) = z' := by have h1 := HNl.out; have h2 := Nat.div_le_self n (256 ^ (k + 1)); rw [hz'] at h2; unfold wrap64; omega
      obtain ⟨A7, c7, rfl, hc7, hA7, hR7⟩ := HV.out.form
      rw [bys_length, hl] at hc7 HV ⊢
      have HR7 := Lib.hid hR7
      have HA7 := Lib.hid hA7
      have HL := Lib.hid hl
      have f4 : wrap64 (k : Int) = k := by unfold wrap64; omega
      have hu := nB_mod b
      clear hb hX hz hz' hR7 hA7 hl
      go_wp2_with (at_builtin; refine wpList_app rfl _ _ 23 rfl w.heap.size 5 (.int .u8 0) 1 Try.underlying23 infoB rfl _ (bys [b]) rfl ?hOwn A7 k c7 (bys X) rfl ?hLen ?hNil ?hRd (bys_one _) ?hCap ?hCap2 ?hBase ?_)
      case hOwn => exact Has.lit (base := w.heap.size) 5 wr (bys [b]) HB.out.size (by simp [bys, maxLen])
      case hLen => rw [bys_length, HL.out]
      case hNil => exact HA7.out
      case hRd => exact HR7.out.alloc _
      case hCap => rw [bys_length, bys_length, HL.out]; simp [maxLen]; omega
      case hCap2 => rw [bys_length, bys_length, HL.out]; simp; omega
      case hBase => have := HB.out.size; simp; omega
      intro v8 w8 hv8 hg8
      have hB8 := (HB.out.alloc HB.out.size (.cells #[.int .u8 (nB b)] 5)).grown hg8 (by have := HB.out.size; simp; omega) (fun k e => by cases e; exact HB.out.size)
      have HB8 := Lib.hid hB8
      rw [← bys_append, show [b] ++ X = be n (k + 1) from HBe.out.symm] at hv8
      have HV8 := Lib.hid hv8
      clear hv8 hg8 hB8 HV HB HR7 HA7 HBe f1
      go_wp2_with fail
      go_roundw
      case rel => exact ⟨k + 1, by omega, by rw [HZ'.out, f5], by simp, HV8, HB8⟩
      case measure => simp [intOf]; omega
    · obtain rfl : k = 4 := by omega
      have hz := HN.out
      obtain ⟨z, hz'⟩ : ∃ z, n / 256 ^ 4 = z := ⟨_, rfl⟩
      rw [hz'] at hz f1 f2 ⊢
      subst hz
      rw [← hX] at HV
      clear f1 f2 hX hl HBe hz'
      go_wp2_with fail
      go_ret2
      exact ⟨_, rfl, HV.out, HB.out⟩
set_option maxRecDepth 10000 in
set_option maxHeartbeats 4000000 in
theorem RHead_calls (gen : Nat) (hg : gen ≤ 2147483647) (A : Option Addr) (n c : Nat) (b : List UInt8) (hn : n = b.length) (hb : n ≤ 32640) (hA : A = none → c = 0) (w : World) (hR : Rd w A (bys b)) :
    Calls Try.prog 51 #[.int .i64 gen, .slice A n c] w fun e w' => ∃ v, e = .returned v ∧ Has w.heap.size 5 v (bys (headF gen b)) w' ∧ Below w.heap.size w w' := by
  have HR := Lib.hid hR
  have HN := Lib.hid hn
  have HA := Lib.hid hA
  have hcr : (crc b).toNat < 256 ^ 4 := (crc b).isLt
  have hnn : n < 256 ^ 4 := by omega
  have HCr := Lib.hid hcr
  have HNn := Lib.hid hnn
  have Hg := Lib.hid hg
  have hgw : wrap64 (nW (crc b)) = (((crc b).toNat : Nat) : Int) := by have := (crc b).isLt; unfold wrap64 nW; omega
  have hbn : blkN n ≤ 255 := by unfold blkN; omega
  have hbn2 : blkN n ≤ 65535 := by omega
  have HBn := Lib.hid hbn2
  have HBk := Lib.hid (fun W : World => RBlocks_calls n (by omega) W)
  have HSm := Lib.hid (show n ≤ 1000000 by omega)
  clear hR hn hcr hnn hg hbn hbn2 hA hb
  go_enter Try.func51, Try.ntmps51
  go_wp2_with fail
  refine (RNum_calls4 n HNn.out w).mono ?_
  rintro e w1 ⟨v1, rfl, hv1, hb1⟩
  have HV1 := Lib.hid hv1
  have HB1 := Lib.hid hb1
  clear hv1 hb1
  go_wp2_with fail
  refine (RSum_calls A c n b HN.out HSm.out w1 (HR.out.below HB1.out)).mono ?_
  rintro e w2 ⟨rfl, rfl⟩
  go_wp2_with fail
  have hN2 := RNum_calls4 (crc b).toNat HCr.out w1
  refine hN2.mono ?_
  rintro e w2 ⟨v2, rfl, hv2, hb2⟩
  have HV1b := Lib.hid (HV1.out.below hb2)
  have HV2 := Lib.hid (Has.base hv2 HB1.out.size)
  have HB2 := Lib.hid (HB1.out.trans (hb2.mono HB1.out.size))
  clear hN2 hv2 hb2 HV1 HB1 hgw
  obtain ⟨A1, c1, rfl, hc1, hA1, hR1⟩ := HV1b.out.form
  have HR1 := Lib.hid hR1
  have HA1 := Lib.hid hA1
  obtain ⟨A2, c2, rfl, hc2, hA2, hR2⟩ := HV2.out.form
  have HR2 := Lib.hid hR2
  have HA2 := Lib.hid hA2
  rw [bys_length, be_length] at hc1 hc2 ⊢
  rw [bys_length, be_length]
  clear hR1 hA1 hR2 hA2
  go_wp2_with (at_builtin; refine wpList_app rfl _ _ 23 rfl w.heap.size 5 (.int .u8 0) 1 Try.underlying23 infoB rfl _ [] rfl (Has.nil _ _ _) A1 4 c1 (bys (be n 4)) rfl (by rw [bys_length, be_length]) HA1.out HR1.out (bys_one _) (by rw [bys_length, be_length]; decide) (by rw [bys_length, be_length]; decide) HB2.out.size ?_)
  intro v3 w3 hv3 hg3
  have hB3 := Below.grown HB2.out hg3 HB2.out.size (fun k e => nomatch e)
  have hk3 := Below.grown (Below.refl w2.heap.size w2) hg3 (Nat.le_refl _) (fun k e => nomatch e)
  have HB3 := Lib.hid hB3
  have HV3 := Lib.hid hv3
  have HR3 := Lib.hid (HR2.out.below hk3)
  clear hv3 hg3 hB3 hk3
  go_wp2_with (at_builtin; refine wpList_app rfl _ _ 23 rfl w.heap.size 5 (.int .u8 0) 1 Try.underlying23 infoB rfl _ (bys (be n 4)) rfl HV3.out A2 4 c2 (bys (be (crc b).toNat 4)) rfl (by rw [bys_length, be_length]) HA2.out HR3.out (bys_one _) ?hCap ?hCap2 HB3.out.size ?_)
  case hCap => rw [bys_length, be_length, bys_length, be_length]; decide
  case hCap2 => rw [bys_length, be_length, bys_length, be_length]; decide
  intro v4 w4 hv4 hg4
  have HB4 := Lib.hid (Below.grown HB3.out hg4 HB3.out.size (fun k e => (HV3.out.blk k e).1))
  rw [← bys_append, show be n 4 ++ be (crc b).toNat 4 = headP b from by unfold headP; rw [← HN.out]] at hv4
  obtain ⟨A6, c6, rfl, hc6, hA6, hR6⟩ := hv4.form
  rw [bys_length, headP_length] at hc6 ⊢
  have HR6 := Lib.hid hR6
  have HA6 := Lib.hid hA6
  clear hv4 hg4 hR6 hA6
  go_wp2_with fail
  refine (HBk.out w4).mono ?_
  rintro e w6 ⟨rfl, rfl⟩
  go_wp2_with fail
  refine (RWriteOk_calls 86 gen (blkN n) Hg.out HBn.out A6 8 c6 (headP b) (headP_length b).symm (by decide) HA6.out w4 HR6.out).mono ?_
  rintro e w7 ⟨v7, rfl, hv7, b7⟩
  have hv8 := Has.base hv7 HB4.out.size
  rw [show blockF 86 gen (blkN n) (headP b) = headF gen b from by unfold headF; rw [← HN.out]] at hv8
  have HV8 := Lib.hid hv8
  have B7 := Lib.hid (HB4.out.trans (b7.mono HB4.out.size))
  clear hv7 hv8 b7
  go_wp2_with fail
  go_ret
  exact ⟨v7, rfl, HV8.out, B7.out⟩
/-- Bytes filled up to whole blocks. -/
def fillN (b : List UInt8) : List UInt8 := b ++ List.replicate (blkN b.length * 128 - b.length) 0
theorem fill_le (n : Nat) : n ≤ blkN n * 128 ∧ blkN n * 128 ≤ n + 127 := by unfold blkN; omega
set_option maxRecDepth 10000 in
set_option maxHeartbeats 4000000 in
theorem RFilled_calls (A : Option Addr) (n c : Nat) (b : List UInt8) (hn : n = b.length) (hb : n ≤ 32640) (hA : A = none → c = 0) (w : World) (hR : Rd w A (bys b)) :
    Calls Try.prog 50 #[.slice A n c] w fun e w' => ∃ v, e = .returned v ∧ Has w.heap.size 5 v (bys (fillN b)) w' ∧ Below w.heap.size w w' := by
  have HR := Lib.hid hR
  have HN := Lib.hid hn
  have HA := Lib.hid hA
  have HBk := Lib.hid (fun W : World => RBlocks_calls n (by omega) W)
  obtain ⟨q1, q2⟩ := fill_le n
  obtain ⟨B, hB⟩ : ∃ B, blkN n = B := ⟨_, rfl⟩
  rw [hB] at HBk q1 q2
  have f1 : IntKind.i64.wrap (128 * (B : Int)) = 128 * (B : Int) := by rw [IntKind.wrap_i64]; omega
  have HBB := Lib.hid hB
  clear hR hn hA hB
  go_enter Try.func50, Try.ntmps50
  go_wp2_with (at_builtin; refine wpList_app rfl _ _ 23 rfl w.heap.size 5 (.int .u8 0) 1 Try.underlying23 infoB rfl _ [] rfl (Has.lit _ w [] (Nat.le_refl _) (by simp [maxLen])) A n c (bys b) rfl (by rw [bys_length]; exact HN.out) HA.out (HR.out.alloc _) (bys_one _) (by rw [bys_length, ← HN.out]; simp [maxLen]; omega) (by rw [bys_length, ← HN.out]; simp; omega) (by simp) ?_)
  intro v1 w1 hv1 hg1
  have hb1 := ((Below.refl w.heap.size w).alloc (Nat.le_refl _) (.cells #[] 5)).grown hg1 (by simp) (fun k e => by cases e; exact Nat.le_refl _)
  have HV1 := Lib.hid hv1
  have HB1 := Lib.hid hb1
  clear hv1 hg1 hb1
  go_wp2_with fail
  go_loopw [3] (fun v3 wr => ∃ j : Nat, n + j ≤ B * 128 ∧ Hid (Has w.heap.size 5 v3 (bys (b ++ List.replicate j 0)) wr) ∧ Hid (Below w.heap.size w wr)) (fun v3 _ => B * 128 - (match v3 with | .slice _ m _ => m | _ => 0))
  case atStart => exact ⟨0, by omega, by rw [List.replicate_zero, List.append_nil]; exact HV1, HB1⟩
  case round =>
    clear HV1 HB1
    obtain ⟨j, hj, HV, HB⟩ := hrel
    obtain ⟨X, hX⟩ : ∃ X, b ++ List.replicate j 0 = X := ⟨_, rfl⟩
    rw [hX] at HV
    have hXl : X.length = n + j := by rw [← hX, List.length_append, List.length_replicate, ← HN.out]
    have HX := Lib.hid hX
    clear hX
    obtain ⟨A7, c7, rfl, hc7, hA7, hR7⟩ := HV.out.form
    rw [bys_length, hXl] at HV ⊢
    have HL7 := Lib.hid hXl
    clear hR7 hXl hc7 hA7
    by_cases hlt : n + j < B * 128
    · have hd : decide (((n + j : Nat) : Int) < 128 * (B : Int)) = true := by rw [decide_eq_true_eq]; omega
      have hd2 : decide ((n : Int) + (j : Int) < 128 * (B : Int)) = true := by rw [decide_eq_true_eq]; omega
      go_wp2_with fail
      refine (HBk.out wr).mono ?_
      rintro e w6 ⟨rfl, rfl⟩
      go_wp2_with (at_builtin; refine wpList_app rfl _ _ 23 rfl w.heap.size 5 (.int .u8 0) 1 Try.underlying23 infoB rfl _ (bys X) rfl ?hOwn _ _ _ [.int .u8 0] rfl rfl ?hNil ?hRd ?h1 ?hCap ?hCap2 ?hBase ?_)
      case hOwn => exact HV.out.below ((Below.refl _ _).alloc (Nat.le_refl _) _)
      case hNil => exact fun h => nomatch h
      case hRd => exact Rd.mark _ _ _
      case h1 => simp [Value.oneCell']
      case hCap => rw [bys_length, HL7.out]; simp [maxLen]; omega
      case hCap2 => rw [bys_length, HL7.out]; simp; omega
      case hBase => have := HB.out.size; simp; omega
      intro v8 w8 hv8 hg8
      have hB8 := (HB.out.alloc HB.out.size (.cells #[Value.int IntKind.u8 0] 5)).grown hg8 (by have := HB.out.size; simp; omega) (fun k e => (HV.out.blk k e).1)
      have HB8 := Lib.hid hB8
      have hv9 : Has w.heap.size 5 v8 (bys (b ++ List.replicate (j + 1) 0)) w8 := by
        rw [List.replicate_succ', ← List.append_assoc, HX.out, bys_append]
        exact hv8
      have HV8 := Lib.hid hv9
      obtain ⟨A9, c9, rfl, -, -, -⟩ := hv9.form
      have hl9 : (bys (b ++ List.replicate (j + 1) 0)).length = n + (j + 1) := by rw [bys_length, List.length_append, List.length_replicate, ← HN.out]
      rw [hl9] at HV8 ⊢
      clear hv8 hg8 hB8 hv9 hl9 HV HB HL7 HX
      go_wp2_with fail
      go_roundw
      case rel => exact ⟨j + 1, by omega, HV8, HB8⟩
      case measure => simp; omega
    · have hd : decide (((n + j : Nat) : Int) < 128 * (B : Int)) = false := by rw [decide_eq_false_iff_not]; omega
      have hd2 : decide ((n : Int) + (j : Int) < 128 * (B : Int)) = false := by rw [decide_eq_false_iff_not]; omega
      go_wp2_with fail
      refine (HBk.out wr).mono ?_
      rintro e w6 ⟨rfl, rfl⟩
      have hfin : X = fillN b := by
        unfold fillN
        rw [← HX.out, ← HN.out, HBB.out, show B * 128 - n = j by omega]
      rw [hfin] at HV
      clear hfin HL7
      go_wp2_with fail
      go_ret
      exact ⟨_, rfl, HV.out, HB.out⟩
end Go.Proofs.Ytmlgkahadgpaiaa.Va
