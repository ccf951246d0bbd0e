/- Chapter 10: alive. -/
import Derived.Test.YtmlgkahadgpaiaaVaG
import Derived.Test.YtmlgkahadgpaiaaVaP
namespace Go.Proofs.Ytmlgkahadgpaiaa.Va
open Go.RowKit _root_.Go.Proofs.Ytmlgkahadgpaiaa.Own
open Go.Proofs.Ytmlgkahadgpaiaa.Fr
open Go.Proofs.Ytmlgkahadgpaiaa.Dk (D Is D0 torn putRow rowB wst DOk made_all wpList_make_at rowB_length armE armD)
set_option linter.unusedVariables false
set_option linter.unusedSimpArgs false
/-- A law's own disk and vault, made behind W. -/
structure VL (W w0 : World) (v g r n f : Nat) (d : D) (w : World) : Prop where
  vs : VS w0 v g r n f d w
  base : Below W.heap.size W w0
  gr : W.heap.size ≤ g ∧ W.heap.size ≤ r
theorem VL.below {W w0 : World} {v g r n f : Nat} {d : D} {w : World} (q : VL W w0 v g r n f d w) : Below W.heap.size W w :=
  q.base.trans (q.vs.only.less (by intro k hk; simp at hk; rcases hk with rfl | rfl; exact q.gr.1; exact q.gr.2) q.base.size)
theorem VL.call {W w0 : World} {v g r n f : Nat} {d : D} {w w' : World} (q : VL W w0 v g r n f d w) (hb : Below w.heap.size w w') : VL W w0 v g r n f d w' := ⟨q.vs.call hb, q.base, q.gr⟩
theorem VL.set {W w0 : World} {v g r n f : Nat} {d d' : D} {w w' : World} (q : VL W w0 v g r n f d w) (h : VS w0 v g r n f d' w') : VL W w0 v g r n f d' w' := ⟨h, q.base, q.gr⟩
theorem VL.turn {W w0 : World} {v g r n f : Nat} {d d' : D} {w w' : World} (q : VL W w0 v g r n f d w) (ho : Only [g] w w') (hi : Is g r n n [] d' w') : VL W w0 v g r n f d' w' := q.set (q.vs.turn (ho.mono (by simp)) hi)
theorem VSself {w0 : World} {v g r n f : Nat} {d : D} {w : World} (p : VS w0 v g r n f d w) : VS w v g r n f d w := ⟨Only.refl _ _, p.is, p.vis, blk_lt p.is.own, blk_lt p.is.row, blk_lt p.vis⟩
theorem VL.start {W w1 w2 : World} {x g r n f : Nat} {d : D} (hI : Is g r n n [] d w1) (hb : Below W.heap.size W w1) (hg : W.heap.size ≤ g) (hr : W.heap.size ≤ r) (hv : VIs x g f w2) (hb2 : Below w1.heap.size w1 w2) : VL W w2 x g r n f d w2 := by
  have e1 := (hb2.block g (blk_lt hI.own)).trans hI.own
  have e2 := (hb2.block r (blk_lt hI.row)).trans hI.row
  exact ⟨⟨Only.refl _ _, ⟨e1, e2, hI.len⟩, hv, blk_lt e1, blk_lt e2, blk_lt hv⟩, hb.trans (hb2.mono hb.size), hg, hr⟩
/-- A disk that works, and has no fuse. -/
structure Calm (d : D) (k : Nat) : Prop where
  off : d.off = false
  armed : d.armed = false
  dok : DOk d k
theorem calm0 (n : Nat) : Calm (D0 n) 0 := ⟨rfl, rfl, by simp [D0], by simp [D0], by simp [D0]⟩
theorem rowB_zero (n j : Nat) (h : j < n) : rowB (D0 n).all j = List.replicate 128 0 := by
  unfold D0 Dk.rowB
  apply List.ext_getElem?
  intro i
  simp only
  rw [List.getElem?_take, List.getElem?_drop, List.getElem?_replicate, List.getElem?_replicate]
  by_cases hi : i < 128
  · rw [if_pos hi, if_pos hi, if_pos (by omega)]
  · rw [if_neg hi, if_neg hi]
theorem kept0 (n f : Nat) (hf : f + 512 ≤ n) (last : List UInt8) : Kept n f 0 last (D0 n).all := by
  refine ⟨by simp [D0], ?_, fun _ => ?_, fun h => absurd h (by decide)⟩
  · rw [rowB_zero n _ (by have := area_lt f (0 + 1) n hf; omega)]; exact lowX_zero 0
  · rw [rowB_zero n _ (by have := area_lt f 0 n hf; omega)]; exact lowX_zero 0
theorem calm_save {d : D} {k n f K : Nat} {last b : List UInt8} (hc : Calm d k) (hk : Kept n f K last d.all) (hf : f + 512 ≤ n) (hK : K < 2147483647) (hb : b.length ≤ 32640) :
    (saveD d f (K + 1) b).1 = 0 ∧ Calm (saveD d f (K + 1) b).2 (k + blkN b.length + 1) ∧ Kept n f (K + 1) b (saveD d f (K + 1) b).2.all ∧ (saveD d f (K + 1) b).2.writes = d.writes + (blkN b.length : Nat) + 1 := by
  obtain ⟨h1, h2, h3, h4, h5, h6⟩ := saveD_ok (gen := K + 1) hk.len hc.dok.kp hf hb hc.off (.inl hc.armed)
  refine ⟨h1, ⟨h3, h4.trans hc.armed, ?_⟩, hk.save hf hK hb h2, h5⟩
  have hs : DOk (saveN d (areaN f (K + 1)) b (blkN b.length)).2 (k + blkN b.length) := saveN_ok hc.dok _ _ _
  have h0 := (saveN_live hc.off (areaN f (K + 1)) b (blkN b.length) (.inl hc.armed)).1
  unfold saveD
  rw [if_pos h0]
  exact hs.wst _ _
theorem dok_save {d : D} {k f gen : Nat} {b : List UInt8} (h : DOk d k) : DOk (saveD d f gen b).2 (k + blkN b.length + 1) := by
  have hs : DOk (saveN d (areaN f gen) b (blkN b.length)).2 (k + blkN b.length) := saveN_ok h _ _ _
  unfold saveD
  split
  · exact hs.wst _ _
  · exact hs.mono (by omega)
theorem LoadTop_calls {w0 : World} {v g r n f K : Nat} {last : List UInt8} {d : D} {w : World} (p : VS w0 v g r n f d w) (ho : d.off = false) (hf : f + 512 ≤ n) (hn : n ≤ 1024) (hk : Kept n f K last d.all) (h0 : 0 < K) :
    Calls Try.prog 17 #[.pointer (some ⟨v, 0, none⟩)] w fun e w' => (∃ A c, e = .returned (.tuple #[.int .i64 (K : Nat), .slice A last.length c, .int .i64 0]) ∧ last.length ≤ c ∧ (A = none → c = 0) ∧ Rd w' A (bys last) ∧ ∀ a, A = some a → w.heap.size ≤ a.block) ∧ Below w.heap.size w w' := by
  have h := LoadOn_calls p ho hf hn
  rw [hk.load, if_neg (by omega)] at h
  exact h.mono fun e w' ⟨h1, h2⟩ => ⟨h1.1 K last rfl, h2⟩
theorem LoadNone_calls {w0 : World} {v g r n f : Nat} {last : List UInt8} {d : D} {w : World} (p : VS w0 v g r n f d w) (ho : d.off = false) (hf : f + 512 ≤ n) (hn : n ≤ 1024) (hk : Kept n f 0 last d.all) :
    Calls Try.prog 17 #[.pointer (some ⟨v, 0, none⟩)] w fun e w' => e = .returned (.tuple #[.int .i64 0, .slice none 0 0, .int .i64 6]) ∧ Below w.heap.size w w' := by
  have h := LoadOn_calls p ho hf hn
  rw [hk.load, if_pos rfl] at h
  exact h.mono fun e w' ⟨h1, h2⟩ => ⟨h1.2 rfl, h2⟩
set_option maxRecDepth 10000 in
set_option maxHeartbeats 8000000 in
theorem alive10 (w : World) : Calls Try.prog 10 #[] w fun e w' => e = .returned (.bool true) ∧ Below w.heap.size w w' := by
  have kc := conv_lit (P := Try.prog) 23 5 Try.underlying23 Try.underlying5
  go_enter Try.func10, Try.ntmps10
  go_wp2_with fail
  refine (Dk.New_calls 520 (by decide) (by decide) w).mono ?_
  rintro e w1 ⟨g, r, rfl, hg, hr, hI, hb⟩
  have HI := Lib.hid hI
  have HB := Lib.hid hb
  clear hI hb
  go_wp2_with fail
  refine (New_calls HI.out 8 (by decide) (by decide)).mono ?_
  rintro e w2 ⟨v, rfl, hv, hvg, hb2⟩
  have L2 := Lib.hid (VL.start HI.out HB.out hg hr hv hb2)
  clear hv hb2 HI HB hvg
  go_wp2_with fail
  refine (NewRange_calls L2.out.vs.is 9 (by decide) (.inr (by decide))).mono ?_
  rintro e w3 ⟨rfl, hb3⟩
  have L3 := Lib.hid (L2.out.call hb3)
  clear hb3
  have K0 := Lib.hid (kept0 520 8 (by decide) [])
  have C0 := Lib.hid (calm0 520)
  have D00 := Lib.hid (show (D0 520).off = false from rfl)
  generalize D0 520 = d0 at *
  go_wp2_with fail
  refine (LoadNone_calls L3.out.vs D00.out (by decide) (by decide) K0.out).mono ?_
  rintro e w4 ⟨rfl, hb4⟩
  have L4 := Lib.hid (L3.out.call hb4)
  clear hb4 L3 L2 D00
  go_wp2_with fail
  have hs4 : w4.heap.size ≠ g ∧ w4.heap.size ≠ r := by have h1 := blk_lt L4.out.vs.is.own; have h2 := blk_lt L4.out.vs.is.row; omega
  have h5 := Save_calls (L4.out.vs.call ((Below.refl w4.heap.size w4).alloc (Nat.le_refl _) (.cells #[.int .u8 111, .int .u8 110, .int .u8 101] 5 (3, 4)))) C0.out.dok (by decide) (by decide) (by decide) 1 (by decide) (some ⟨w4.heap.size, 0, none⟩) 3 3 [111, 110, 101] rfl (by decide) (by decide) (fun h => nomatch h) (Rd.put _ rfl (bys [111, 110, 101]) _ _) (by intro _ a ha; cases ha; exact hs4)
  obtain ⟨s1, s2, s3, s4⟩ := calm_save C0.out K0.out (by decide) (by decide) (b := [111, 110, 101]) (by decide)
  rw [s1] at h5
  generalize (saveD d0 8 1 [111, 110, 101]).2 = d1 at *
  have H5 := Lib.hid h5
  have C1 := Lib.hid s2
  have K1 := Lib.hid s3
  clear h5 s1 s2 s3 s4 C0 K0
  refine H5.out.mono ?_
  rintro e w5 ⟨rfl, p5⟩
  have L5 := Lib.hid (L4.out.set p5)
  clear p5 H5 L4 hs4
  go_wp2_with fail
  have h6 := Dk.Arm_calls L5.out.vs.is 1 127
  rw [show armE 1 127 = 0 from rfl] at h6
  refine h6.mono ?_
  rintro e w6 ⟨rfl, o6, i6⟩
  have L6 := Lib.hid (L5.out.turn o6 i6)
  have a6 : (armD d1 1 127).all = d1.all ∧ (armD d1 1 127).off = d1.off ∧ (armD d1 1 127).armed = true ∧ (armD d1 1 127).left = 1 ∧ (armD d1 1 127).keep = 127 ∧ (armD d1 1 127).writes = d1.writes := by
    rw [show armD d1 1 127 = { d1 with armed := true, left := 1, keep := 127 } from if_neg (by decide)]
    exact ⟨rfl, rfl, rfl, rfl, rfl, rfl⟩
  have A6 := Lib.hid a6
  clear a6
  clear h6 o6 i6 L5
  generalize armD d1 1 127 = e1 at *
  go_wp2_with fail
  have hs6 : w6.heap.size ≠ g ∧ w6.heap.size ≠ r := by have h1 := blk_lt L6.out.vs.is.own; have h2 := blk_lt L6.out.vs.is.row; omega
  have k6 : DOk e1 2 := ⟨by rw [A6.out.2.2.2.2.2]; exact C1.out.dok.wr, by rw [A6.out.2.2.2.1]; simp, by rw [A6.out.2.2.2.2.1]; simp⟩
  have h7 := Save_calls (L6.out.vs.call ((Below.refl w6.heap.size w6).alloc (Nat.le_refl _) (.cells #[.int .u8 116, .int .u8 119, .int .u8 111] 5 (3, 4)))) k6 (by decide) (by decide) (by decide) 2 (by decide) (some ⟨w6.heap.size, 0, none⟩) 3 3 [116, 119, 111] rfl (by decide) (by decide) (fun h => nomatch h) (Rd.put _ rfl (bys [116, 119, 111]) _ _) (by intro _ a ha; cases ha; exact hs6)
  obtain ⟨s1, -, s3⟩ := saveD_head (d := e1) (n := 520) (f := 8) (gen := 2) (b := [116, 119, 111]) (by rw [A6.out.1]; exact K1.out.len) k6.kp (by decide) (by decide) (by rw [A6.out.2.1]; exact C1.out.off) A6.out.2.2.1 (by rw [A6.out.2.2.2.1]; rfl)
  have s3 := K1.out.torn (b := [116, 119, 111]) (all' := (saveD e1 8 2 [116, 119, 111]).2.all) (by decide) (by have h := s3 (by rw [A6.out.2.2.2.2.1]; decide); rw [A6.out.1] at h; exact h)
  rw [s1] at h7
  have k7 := dok_save (f := 8) (gen := 2) (b := [116, 119, 111]) k6
  generalize (saveD e1 8 2 [116, 119, 111]).2 = d2 at *
  have H7 := Lib.hid h7
  have K2 := Lib.hid s3
  have Q2 := Lib.hid k7
  clear h7 s1 s3 k7 k6 A6 K1 C1
  refine H7.out.mono ?_
  rintro e w7 ⟨rfl, p7⟩
  have L7 := Lib.hid (L6.out.set p7)
  clear p7 H7 L6 hs6
  go_wp2_with fail
  refine (Dk.Power_calls L7.out.vs.is).mono ?_
  rintro e w8 ⟨rfl, o8, i8⟩
  have L8 := Lib.hid (L7.out.turn o8 i8)
  have C3 := Lib.hid (show Calm { d2 with off := false, armed := false } 4 from ⟨rfl, rfl, ⟨Q2.out.wr, Q2.out.lf, Q2.out.kp⟩⟩)
  have K3 := Lib.hid (show Kept 520 8 1 [111, 110, 101] ({ d2 with off := false, armed := false } : D).all from K2.out)
  generalize ({ d2 with off := false, armed := false } : D) = d3 at *
  clear o8 i8 L7 K2 Q2
  go_wp2_with fail
  refine (LoadTop_calls L8.out.vs C3.out.off (by decide) (by decide) K3.out (by decide)).mono ?_
  rintro e w9 ⟨⟨A9, c9, rfl, hc9, hn9, hr9, hf9⟩, hb9⟩
  have L9 := Lib.hid (L8.out.call hb9)
  have hg9 : ∀ a, A9 = some a → a.block ∉ [g, r] := by
    intro a ha hm
    have h1 := hf9 a ha
    have h2 := blk_lt L8.out.vs.is.own
    have h3 := blk_lt L8.out.vs.is.row
    simp at hm
    omega
  have HG9 := Lib.hid hg9
  have HR9 := Lib.hid hr9
  clear hb9 hr9 hf9 hg9 L8
  go_wp2_with fail
  have h10 := Save_calls (VSself L9.out.vs) C3.out.dok (by decide) (by decide) (by decide) 2 (by decide) none 0 0 [] rfl (by decide) (by decide) (fun _ => rfl) (Rd.nil _ _) (fun _ a ha => nomatch ha)
  obtain ⟨s1, s2, s3, s4⟩ := calm_save C3.out K3.out (by decide) (by decide) (b := []) (by decide)
  rw [s1] at h10
  generalize (saveD d3 8 2 []).2 = d4 at *
  have H10 := Lib.hid h10
  have C4 := Lib.hid s2
  have K4 := Lib.hid s3
  clear h10 s1 s2 s3 s4 C3 K3
  refine H10.out.mono ?_
  rintro e w10 ⟨rfl, p10⟩
  have HR10 := Lib.hid (rd_keep HR9.out p10.only HG9.out)
  have L10 := Lib.hid (L9.out.set (L9.out.vs.turn p10.only p10.is))
  clear p10 HR9 HG9 H10
  go_wp2_with fail
  refine (LoadTop_calls L10.out.vs C4.out.off (by decide) (by decide) K4.out (by decide)).mono ?_
  rintro e w11 ⟨⟨A11, c11, rfl, hc11, hn11, -, -⟩, hb11⟩
  have L11 := Lib.hid (L10.out.call hb11)
  have hr11 := HR10.out.below hb11
  have kx := run_string_of (w := w11) Try.underlying23 Try.underlying5 Try.underlying9 A9 3 c9 [111, 110, 101] rfl hn9 hr11
  have B11 := Lib.hid L11.out.below
  clear hr11 hb11 L11 L10 L9 C4 K4 HR10 hc11 hn11
  go_wp2_with (go_at_call 14; refine (Blocks_calls 129 (by decide) _).mono ?_; rintro e w12 ⟨rfl, rfl⟩)
  refine (NobodySave_calls (.inl rfl) 0 _).mono ?_
  rintro e w12 ⟨rfl, rfl⟩
  go_wp2_with fail
  go_ret
  exact ⟨rfl, B11.out⟩
end Go.Proofs.Ytmlgkahadgpaiaa.Va
