/- The walk of the law LexTable. -/
import Derived.Test.YtdlfdkdcnabpoaaDoorLxI
import Derived.Test.YtdlfdkdcnabpoaaDoorSets
import Derived.Test.YtdlfdkdcnabpoaaDoorFork
namespace Go.Proofs.YtdlfdkdcnabpoaaDoor.Lx
set_option linter.unusedSimpArgs false
set_option linter.unusedVariables false
open Go.RowKit
open _root_.Go.Proofs.YtdlfdkdcnabpoaaDoor.Own
attribute [local go_sem] str_size str_extract str_append str_toList
theorem At.swap {w0 w : World} {x y : Nat × List Value × TypeId} (h : At w0 [x, y] w) : At w0 [y, x] w :=
  ⟨h.below, fun z hz => h.blk z (by simp at hz ⊢; exact hz.symm), by have := h.nodup; simp at this ⊢; exact fun e => this e.symm⟩
theorem tab_at (i : Nat) (hi : i < 47) : ∃ k t n, tab[i]? = some ⟨k, t, n, 0⟩ ∧ (k, t, n) ∈ table := by
  have hl : i < tab.length := by rw [tab_len]; exact hi
  have h1 : tab[i]? = some tab[i] := List.getElem?_eq_getElem hl
  have hm := List.getElem_mem hl
  obtain ⟨x, hx, he⟩ := List.mem_map.1 hm
  exact ⟨x.1, x.2.1, x.2.2, by rw [h1, ← he], hx⟩
theorem gave_of {s : List UInt8} {w w' : World} {e : Ending} {ps : List Pc} {a r : Nat} (hp : pieces s = (ps, a, r)) (h : Gave s w e w') :
    ∃ v, e = .returned (.tuple #[v, .int .i64 a, .int .i64 r]) ∧ HasN w.heap.size 32 4 v ps.length (cells ps) w' ∧ Below w.heap.size w w' := by
  unfold Gave at h
  rw [hp] at h
  exact h
/-- The cells of an own row that a slice of pieces is, in whatever world behind. -/
theorem own_pcs {base : Nat} {e : TypeId} {v : Value} {ps : List Pc} {w : World} (h : HasN base e 4 v ps.length (cells ps) w) (hn : 0 < ps.length) : ∃ g cap, v = .slice (some ⟨g, 0, none⟩) ps.length cap ∧ ps.length ≤ cap ∧ ∀ W, Below w.heap.size w W → ∀ (i : Nat) (x : Value), (cells ps)[i]? = some x → W.cell? ⟨g, i, none⟩ = some x := by
  obtain ⟨g, cap, rfl, hc, _, hlt, hx⟩ := hasN_own h hn
  exact ⟨g, cap, rfl, hc, fun W hb i x hi => (hb.cell (show (⟨g, i, none⟩ : Addr).block < w.heap.size from hlt)).trans (hx i x hi)⟩
set_option maxRecDepth 10000 in
set_option maxHeartbeats 8000000 in
theorem table_walk (a b : BitVec 16) (w : World) (hE : Env w) : Calls Tryd.prog 5 #[.int .u16 (nH a), .int .u16 (nH b)] w fun e w' => e = .returned (.bool true) ∧ Below w.heap.size w w' := by
  obtain ⟨za, hza⟩ : ∃ za, nH a = za := ⟨_, rfl⟩
  obtain ⟨zb, hzb⟩ : ∃ zb, nH b = zb := ⟨_, rfl⟩
  have a0 : 0 ≤ za := by rw [← hza]; unfold nH; omega
  have b0 : 0 ≤ zb := by rw [← hzb]; unfold nH; omega
  have a1 : za < 65536 := by rw [← hza]; unfold nH; have := a.isLt; omega
  have b1 : zb < 65536 := by rw [← hzb]; unfold nH; have := b.isLt; omega
  rw [hza, hzb]
  obtain ⟨ia, hia, ea⟩ : ∃ ia : Nat, ia < 47 ∧ za.tmod 47 = ia := ⟨(za % 47).toNat, by omega, by rw [Int.tmod_eq_emod_of_nonneg a0]; omega⟩
  obtain ⟨ib, hib, eb⟩ : ∃ ib : Nat, ib < 47 ∧ zb.tmod 47 = ib := ⟨(zb % 47).toNat, by omega, by rw [Int.tmod_eq_emod_of_nonneg b0]; omega⟩
  obtain ⟨kx, tx, nx, hx, hmx⟩ := tab_at ia hia
  obtain ⟨ky, ty, ny, hy, hmy⟩ := tab_at ib hib
  have HT := Lib.hid (Table_calls w)
  have HE := Lib.hid hE
  have HXY := Lib.hid (And.intro (And.intro hx hmx) (And.intro hy hmy))
  clear hE hza hzb hx hy hmx hmy
  go_enter Tryd.func5, Tryd.ntmps5
  go_wp2_with fail
  refine HT.out.mono ?_
  rintro e w1 ⟨v5, rfl, hO5, hb1⟩
  clear HT
  obtain ⟨A, cap, rfl, hcap, hA, hR, _, _⟩ := hO5.form
  have HB1 := Lib.hid hb1
  obtain ⟨ad, rfl⟩ : ∃ ad, A = some ad := by
    obtain ⟨a, ha, _⟩ := hR 0 (by rw [cells_length, tab_len]; decide)
    exact ⟨a, ha⟩
  have HR := Lib.hid hR
  clear hO5 hb1 hR hA hcap
  have fa : IntKind.i64.wrap za = za := by rw [IntKind.wrap_i64]; omega
  have fb : IntKind.i64.wrap zb = zb := by rw [IntKind.wrap_i64]; omega
  have d1 : decide (ia < 47) = true := decide_eq_true hia
  have d2 : ((ia : Int) < 47) = True := by simp; omega
  have d3 : decide (ib < 47) = true := decide_eq_true hib
  have d4 : ((ib : Int) < 47) = True := by simp; omega
  go_upto_region 2 with fail
  go_cut [6, 7] (fun v6 v7 wx => ∃ g1 g2 : Nat, v6 = .pointer (some ⟨g1, 0, none⟩) ∧ v7 = .pointer (some ⟨g2, 0, none⟩) ∧ Hid (At w1 [(g1, pcC kx tx nx 0, 31), (g2, pcC ky ty ny 0, 31)] wx))
  case first =>
    obtain ⟨J, hJ⟩ : ∃ J : World → Prop, ∀ W, J W ↔ Below w1.heap.size w1 W := ⟨_, fun _ => Iff.rfl⟩
    have hj := (hJ w1.drew).2 (Below.refl _ _).drew
    have HJ := Lib.hid hJ
    have K : ∀ W, J W → W.cell? (ad.add (ia * 4)) = some (.int .i64 kx) ∧ W.cell? ⟨(ad.add (ia * 4)).block, (ad.add (ia * 4)).off + 1, none⟩ = some (.string (str tx)) ∧ W.cell? ⟨(ad.add (ia * 4)).block, (ad.add (ia * 4)).off + 2, none⟩ = some (.int .i64 nx) ∧ W.cell? ⟨(ad.add (ia * 4)).block, (ad.add (ia * 4)).off + 3, none⟩ = some (.int .i64 0) ∧
        W.cell? (ad.add (ib * 4)) = some (.int .i64 ky) ∧ W.cell? ⟨(ad.add (ib * 4)).block, (ad.add (ib * 4)).off + 1, none⟩ = some (.string (str ty)) ∧ W.cell? ⟨(ad.add (ib * 4)).block, (ad.add (ib * 4)).off + 2, none⟩ = some (.int .i64 ny) ∧ W.cell? ⟨(ad.add (ib * 4)).block, (ad.add (ib * 4)).off + 3, none⟩ = some (.int .i64 0) := fun W hW => by
      have h' := HR.out.below ((hJ W).1 hW)
      have c := cells_at tab ia _ HXY.out.1.1
      have d := cells_at tab ib _ HXY.out.2.1
      exact ⟨h'.cell ((c 0 (by decide)).trans rfl), h'.part (by decide) (c 1 (by decide)), h'.part (by decide) (c 2 (by decide)), h'.part (by decide) (c 3 (by decide)), h'.cell ((d 0 (by decide)).trans rfl), h'.part (by decide) (d 1 (by decide)), h'.part (by decide) (d 2 (by decide)), h'.part (by decide) (d 3 (by decide))⟩
    clear hJ
    refine Turn.region_fork [0, 1, 2, 3, 4, 5, 6, 7, 8, 9, 10, 11, 12, 13, 14, 15] 16 17 [17, 18, 19] [16, 18, 19] (fun i => 16 ≤ i) J (by kernel_rfl) (by kernel_rfl) hj ?_
    repeat (first | (apply Turn.seq_yes; (· simp only [List.getElem?_toArray, List.getElem?_cons_succ, List.getElem?_cons_zero]; rfl); (· rfl); (· go_simp); (· intro w1 h1; obtain ⟨zz0, zz1, zz2, zz3, yy0, yy1, yy2, yy3⟩ := K w1 h1; go_simp; exact ⟨rfl, h1⟩); (· go_simp; rfl)) | (apply Turn.seq_yes; (· simp only [List.getElem?_toArray, List.getElem?_cons_succ, List.getElem?_cons_zero]; rfl); (· rfl); (· go_simp); (· intro w1 h1; obtain ⟨zz0, zz1, zz2, zz3, yy0, yy1, yy2, yy3⟩ := K w1 h1; go_simp; exact ⟨rfl, rfl, h1⟩); (· go_simp; rfl)) | (apply Turn.seq_no; (· simp only [List.getElem?_toArray, List.getElem?_cons_succ, List.getElem?_cons_zero]; rfl); (· go_simp); (· go_simp; rfl)))
    apply Turn.seq_nil
    clear K
    refine ⟨?_, ?_⟩
    · have hq : ∀ W, Below w1.heap.size w1 W → J W := fun W h => (HJ.out W).2 h
      have HQ := Lib.hid hq
      clear hq
      refine Turn.opR_call _ (by simp only [List.getElem?_toArray, List.getElem?_cons_succ, List.getElem?_cons_zero]; rfl) rfl (by go_simp) _ (fun v => by go_simp; rfl) ?_
      go_simp
      refine ⟨HQ.out _ ?ba1, ?_⟩
      case ba1 => exact ((Below.refl _ _).alloc (Nat.le_refl _) _).drew
      apply Turn.seq_call
      · simp only [List.getElem?_toArray, List.getElem?_cons_succ, List.getElem?_cons_zero]; rfl
      · rfl
      · go_simp
      · intro v; go_simp; rfl
      go_simp
      refine ⟨HQ.out _ ?ba2, ?_⟩
      case ba2 => exact (((Below.refl _ _).alloc (Nat.le_refl _) _).alloc (by rw [World.size_alloc]; omega) _).drew
      apply Turn.seq_call
      · simp only [List.getElem?_toArray, List.getElem?_cons_succ, List.getElem?_cons_zero]; rfl
      · rfl
      · go_simp
      · intro v; go_simp; rfl
      go_simp
      refine ⟨HQ.out _ ?ba3, ?_⟩
      case ba3 => exact (((Below.refl _ _).alloc (Nat.le_refl _) _).alloc (by rw [World.size_alloc]; omega) _).drew
      apply Turn.seq_call
      · simp only [List.getElem?_toArray, List.getElem?_cons_succ, List.getElem?_cons_zero]; rfl
      · rfl
      · go_simp
      · intro v; go_simp; rfl
      go_simp
      refine ⟨HQ.out _ ?ba4, ?_⟩
      case ba4 => exact (((Below.refl _ _).alloc (Nat.le_refl _) _).alloc (by rw [World.size_alloc]; omega) _).drew
      apply Turn.seq_nil
      go_wp2_with fail
      go_meet
      refine ⟨w1.heap.size, w1.heap.size + 1, rfl, rfl, Lib.hid (At.swap ?_)⟩
      have := (((At.refl w1).alloc (pcC kx tx nx 0) 31).alloc (pcC ky ty ny 0) 31).drew
      rw [World.size_alloc] at this
      exact this
    · have hq : ∀ W, Below w1.heap.size w1 W → J W := fun W h => (HJ.out W).2 h
      have HQ := Lib.hid hq
      clear hq
      refine Turn.opR_call _ (by simp only [List.getElem?_toArray, List.getElem?_cons_succ, List.getElem?_cons_zero]; rfl) rfl (by go_simp) _ (fun v => by go_simp; rfl) ?_
      go_simp
      refine ⟨HQ.out _ ?ba1, ?_⟩
      case ba1 => exact ((Below.refl _ _).alloc (Nat.le_refl _) _).drew
      apply Turn.seq_call
      · simp only [List.getElem?_toArray, List.getElem?_cons_succ, List.getElem?_cons_zero]; rfl
      · rfl
      · go_simp
      · intro v; go_simp; rfl
      go_simp
      refine ⟨HQ.out _ ?ba2, ?_⟩
      case ba2 => exact (((Below.refl _ _).alloc (Nat.le_refl _) _).alloc (by rw [World.size_alloc]; omega) _).drew
      apply Turn.seq_call
      · simp only [List.getElem?_toArray, List.getElem?_cons_succ, List.getElem?_cons_zero]; rfl
      · rfl
      · go_simp
      · intro v; go_simp; rfl
      go_simp
      refine ⟨HQ.out _ ?ba3, ?_⟩
      case ba3 => exact (((Below.refl _ _).alloc (Nat.le_refl _) _).alloc (by rw [World.size_alloc]; omega) _).drew
      apply Turn.seq_call
      · simp only [List.getElem?_toArray, List.getElem?_cons_succ, List.getElem?_cons_zero]; rfl
      · rfl
      · go_simp
      · intro v; go_simp; rfl
      go_simp
      refine ⟨HQ.out _ ?ba4, ?_⟩
      case ba4 => exact (((Below.refl _ _).alloc (Nat.le_refl _) _).alloc (by rw [World.size_alloc]; omega) _).drew
      apply Turn.seq_nil
      go_wp2_with fail
      go_meet
      refine ⟨w1.heap.size + 1, w1.heap.size, rfl, rfl, Lib.hid ?_⟩
      have := (((At.refl w1).alloc (pcC ky ty ny 0) 31).alloc (pcC kx tx nx 0) 31).drew
      rw [World.size_alloc] at this
      exact this
  case rest =>
  obtain ⟨g1, g2, rfl, rfl, HA⟩ := hcut
  have lx := table_short _ HXY.out.1.2
  have ly := table_short _ HXY.out.2.2
  simp only at lx ly
  have HL := Lib.hid (And.intro lx ly)
  obtain ⟨y1, hz1, z1, z1'⟩ := HA.out.rules _ (List.mem_cons_self ..)
  obtain ⟨y2, hz2, z2, z2'⟩ := HA.out.rules _ (List.mem_cons_of_mem _ (List.mem_cons_self ..))
  have HX : Hid (∀ W, Below wc.heap.size wc W → W.cell? ⟨g1, 0, none⟩ = some (.int .i64 kx) ∧ W.cell? ⟨g1, 1, none⟩ = some (.string (str tx)) ∧ W.cell? ⟨g1, 2, none⟩ = some (.int .i64 nx) ∧ W.cell? ⟨g1, 3, none⟩ = some (.int .i64 0) ∧
      W.cell? ⟨g2, 0, none⟩ = some (.int .i64 ky) ∧ W.cell? ⟨g2, 1, none⟩ = some (.string (str ty)) ∧ W.cell? ⟨g2, 2, none⟩ = some (.int .i64 ny) ∧ W.cell? ⟨g2, 3, none⟩ = some (.int .i64 0)) := Lib.hid fun W hb =>
    ⟨(hb.cell (p := ⟨g1, 0, none⟩) z1).trans (y1 0), (hb.cell (p := ⟨g1, 1, none⟩) z1).trans (y1 1), (hb.cell (p := ⟨g1, 2, none⟩) z1).trans (y1 2), (hb.cell (p := ⟨g1, 3, none⟩) z1).trans (y1 3),
      (hb.cell (p := ⟨g2, 0, none⟩) z2).trans (y2 0), (hb.cell (p := ⟨g2, 1, none⟩) z2).trans (y2 1), (hb.cell (p := ⟨g2, 2, none⟩) z2).trans (y2 2), (hb.cell (p := ⟨g2, 3, none⟩) z2).trans (y2 3)⟩
  have HBc := Lib.hid (HB1.out.trans (HA.out.below.mono HB1.out.size))
  have hE0 := HE.out.below HBc.out
  have hP1 := alone HXY.out.1.2
  obtain ⟨qa, qb, hP2⟩ := apart HXY.out.1.2 HXY.out.2.2
  simp only at hP1 hP2
  have HC1 := Lib.hid ((Pieces_calls tx wc hE0).mono fun e w' h => gave_of hP1 h)
  have HC2 := Lib.hid (fun w hE => (Pieces_calls (tx ++ 32 :: ty) w hE).mono fun e w' h => gave_of hP2 h)
  have HC3 := Lib.hid (fun w hE => Pieces_calls (tx ++ ty) w hE)
  have ha1 : ∀ w, (Op.stringOp .add (str tx) ⟨#[32]⟩).run Tryd.prog w = .ok (.string (str (tx ++ [32]))) w := fun w => run_string_add_lists w tx [32] (by omega) (by decide)
  have ha2 : ∀ w, (Op.stringOp .add (str (tx ++ [32])) (str ty)).run Tryd.prog w = .ok (.string (str (tx ++ 32 :: ty))) w := fun w => by
    have := run_string_add_lists (P := Tryd.prog) w (tx ++ [32]) ty (by rw [List.length_append]; simp; omega) (by omega)
    rw [show (tx ++ [32]) ++ ty = tx ++ 32 :: ty by simp] at this
    exact this
  have ha3 : ∀ w, (Op.stringOp .add (str tx) (str ty)).run Tryd.prog w = .ok (.string (str (tx ++ ty))) w := fun w => run_string_add_lists w tx ty (by omega) (by omega)
  have HAl := Lib.hid (fun w hE => alive16 w hE)
  obtain ⟨x0, x1, x2, x3, v0, v1, v2, v3⟩ := HX.out wc (Below.refl _ _)
  clear y1 hz1 z1 z1' y2 hz2 z2 z2' hE0 hP1 hP2 lx ly HA
  go_wp2_with fail
  refine HC1.out.mono ?_
  rintro e w2 ⟨u1, rfl, h1, hb1⟩
  obtain ⟨g3, c3, rfl, hc3, X3⟩ := own_pcs h1 (by simp)
  have HX3 := Lib.hid X3
  have HB2 := Lib.hid hb1
  clear x0 x1 x2 x3 v0 v1 v2 v3 h1 X3 hb1 HC1
  obtain ⟨x0, x1, x2, x3, v0, v1, v2, v3⟩ := HX.out w2 HB2.out
  go_wp2_with fail
  refine (HC2.out w2 (HE.out.below (HBc.out.trans (HB2.out.mono HBc.out.size)))).mono ?_
  rintro e w3 ⟨u2, rfl, h2, hb2⟩
  obtain ⟨g4, c4, rfl, hc4, X4⟩ := own_pcs h2 (by simp)
  have HX4 := Lib.hid X4
  have HB23 := Lib.hid hb2
  have HB3 := Lib.hid (HB2.out.trans (hb2.mono HB2.out.size))
  clear x0 x1 x2 x3 v0 v1 v2 v3 h2 X4 hb2 HC2 HB2
  obtain ⟨x0, x1, x2, x3, v0, v1, v2, v3⟩ := HX.out w3 HB3.out
  go_wp2_with fail
  refine (HC3.out w3 (HE.out.below (HBc.out.trans (HB3.out.mono HBc.out.size)))).mono ?_
  intro e w4 hG
  obtain ⟨qs, a5, e5, hq⟩ : ∃ qs a5 e5, pieces (tx ++ ty) = (qs, a5, e5) := ⟨_, _, _, rfl⟩
  obtain ⟨u5, rfl, h5, hb5⟩ := gave_of hq hG
  have HQ := Lib.hid hq
  have H5 := Lib.hid h5
  have HB4 := Lib.hid (HBc.out.trans ((HB3.out.trans (hb5.mono HB3.out.size)).mono HBc.out.size))
  have K : ∀ W, Below w4.heap.size w4 W → W.cell? ⟨g1, 0, none⟩ = some (.int .i64 kx) ∧ W.cell? ⟨g1, 1, none⟩ = some (.string (str tx)) ∧ W.cell? ⟨g1, 2, none⟩ = some (.int .i64 nx) ∧ W.cell? ⟨g1, 3, none⟩ = some (.int .i64 0) ∧
      W.cell? ⟨g2, 0, none⟩ = some (.int .i64 ky) ∧ W.cell? ⟨g2, 1, none⟩ = some (.string (str ty)) ∧ W.cell? ⟨g2, 2, none⟩ = some (.int .i64 ny) ∧ W.cell? ⟨g2, 3, none⟩ = some (.int .i64 0) ∧
      W.cell? ⟨g3, 0, none⟩ = some (.int .i64 kx) ∧ W.cell? ⟨g3, 1, none⟩ = some (.string (str tx)) ∧ W.cell? ⟨g3, 2, none⟩ = some (.int .i64 nx) ∧ W.cell? ⟨g3, 3, none⟩ = some (.int .i64 0) ∧ W.cell? ⟨g3, 4, none⟩ = some (.int .i64 5) ∧
      W.cell? ⟨g4, 5, none⟩ = some (.string (str ty)) ∧ W.cell? ⟨g4, 6, none⟩ = some (.int .i64 ny) := fun W hW => by
    have b34 := hb5.trans (hW.mono hb5.size)
    obtain ⟨i0, i1, i2, i3, j0, j1, j2, j3⟩ := HX.out W (HB3.out.trans (b34.mono HB3.out.size))
    have k3 := HX3.out W (HB23.out.trans (b34.mono HB23.out.size))
    have k4 := HX4.out W b34
    exact ⟨i0, i1, i2, i3, j0, j1, j2, j3, k3 0 _ rfl, k3 1 _ rfl, k3 2 _ rfl, k3 3 _ rfl, k3 4 _ rfl, k4 5 _ rfl, k4 6 _ rfl⟩
  have HK := Lib.hid K
  clear x0 x1 x2 x3 v0 v1 v2 v3 hq hG h5 hb5 HC3 K HX3 HX4 HX
  go_upto_region 6 with fail
  go_cut [109] (fun v109 wx => v109 = .bool false ∧ wx = w4.drew)
  case first =>
    obtain ⟨J, hJ⟩ : ∃ J : World → Prop, ∀ W, J W ↔ Below w4.heap.size w4 W := ⟨_, fun _ => Iff.rfl⟩
    have hj := (hJ w4.drew).2 (Below.refl _ _).drew
    have K := fun w1 h1 => HK.out w1 ((hJ w1).1 h1)
    clear hJ
    go_wp2_with fail
    refine Turn.region_seq [0, 1, 2, 3, 4, 5, 6, 7, 8, 9, 10, 11, 12, 13, 14, 15, 16, 17, 18, 19, 20, 21, 22, 23, 24, 25, 26, 27, 28, 29, 30, 31, 32, 33, 34, 35, 36, 37, 38, 39, 40, 41, 42, 43, 44, 45, 46, 47] (fun _ => false) J (by kernel_rfl) (by kernel_rfl) hj ?_
    repeat (first | (apply Turn.seq_yes; (· simp only [List.getElem?_toArray, List.getElem?_cons_succ, List.getElem?_cons_zero]; rfl); (· rfl); (· go_simp); (· intro w1 h1; obtain ⟨xx0, xx1, xx2, xx3, vv0, vv1, vv2, vv3, ll0, ll1, ll2, ll3, ll4, mm5, mm6⟩ := K w1 h1; go_simp; exact ⟨rfl, h1⟩); (· go_simp; rfl)) | (apply Turn.seq_yes; (· simp only [List.getElem?_toArray, List.getElem?_cons_succ, List.getElem?_cons_zero]; rfl); (· rfl); (· go_simp); (· intro w1 h1; obtain ⟨xx0, xx1, xx2, xx3, vv0, vv1, vv2, vv3, ll0, ll1, ll2, ll3, ll4, mm5, mm6⟩ := K w1 h1; go_simp; exact ⟨rfl, rfl, h1⟩); (· go_simp; rfl)) | (apply Turn.seq_no; (· simp only [List.getElem?_toArray, List.getElem?_cons_succ, List.getElem?_cons_zero]; rfl); (· go_simp); (· go_simp; rfl)))
    apply Turn.seq_nil
    clear K
    go_wp2_with fail
    go_meet
    exact ⟨rfl, rfl⟩
  case rest =>
    obtain ⟨rfl, rfl⟩ := hcut
    obtain ⟨x0, x1, x2, x3, v0, v1, v2, v3, l0, l1, l2, l3, l4, m5, m6⟩ := HK.out w4 (Below.refl _ _)
    obtain ⟨bx, hbx⟩ : ∃ bx, (kx == 4) = bx := ⟨_, rfl⟩
    obtain ⟨by_, hby⟩ : ∃ bb, (ky == 4) = bb := ⟨_, rfl⟩
    have fx1 : ((kx : Int) == 4) = bx := by rw [← hbx]; apply Bool.eq_iff_iff.2; rw [beq_iff_eq, beq_iff_eq]; omega
    have fy1 : ((ky : Int) == 4) = by_ := by rw [← hby]; apply Bool.eq_iff_iff.2; rw [beq_iff_eq, beq_iff_eq]; omega
    have HXb := Lib.hid (show bx = true ↔ kx = 4 from by rw [← hbx, beq_iff_eq])
    have HYb := Lib.hid (show by_ = true ↔ ky = 4 from by rw [← hby, beq_iff_eq])
    clear hbx hby
    have hsp : bx = true ∨ bx = false ∧ by_ = true ∨ bx = false ∧ by_ = false := by cases bx <;> cases by_ <;> simp
    rcases hsp with rfl | ⟨rfl, rfl⟩ | ⟨rfl, rfl⟩
    · have hjn := joined HXY.out.1.2 HXY.out.2.2 (.inl (HXb.out.1 rfl))
      obtain ⟨ra, rb, hjn⟩ := hjn
      simp only at hjn
      rw [HQ.out] at hjn
      cases hjn
      obtain ⟨g5, c5, rfl, hc5, X5⟩ := own_pcs H5.out (by simp)
      have HX5 := Lib.hid X5
      obtain ⟨J, hJ⟩ : ∃ J : World → Prop, ∀ W, J W ↔ Below w4.heap.size w4 W := ⟨_, fun _ => Iff.rfl⟩
      have hj := (hJ w4.drew.drew).2 (Below.refl _ _).drew.drew
      have K : ∀ W, J W → W.cell? ⟨g2, 1, none⟩ = some (.string (str ty)) ∧ W.cell? ⟨g5, 5, none⟩ = some (.string (str ty)) := fun W h => ⟨(HK.out W ((hJ W).1 h)).2.2.2.2.2.1, HX5.out W ((hJ W).1 h) 5 _ rfl⟩
      have HJ := Lib.hid hJ
      clear hJ X5
      go_wp2_with fail
      refine Turn.region_seq [0, 1, 2, 3, 4, 5, 6, 7, 8, 9, 10, 11, 12, 13, 14, 15, 16, 17, 18, 19] (fun i => i == 17) J (by kernel_rfl) (by kernel_rfl) hj ?_
      repeat (first | (apply Turn.seq_yes; (· simp only [List.getElem?_toArray, List.getElem?_cons_succ, List.getElem?_cons_zero]; rfl); (· rfl); (· go_simp); (· intro w1 h1; obtain ⟨kk0, kk1⟩ := K w1 h1; go_simp; exact ⟨rfl, h1⟩); (· go_simp; rfl)) | (apply Turn.seq_yes; (· simp only [List.getElem?_toArray, List.getElem?_cons_succ, List.getElem?_cons_zero]; rfl); (· rfl); (· go_simp); (· intro w1 h1; obtain ⟨kk0, kk1⟩ := K w1 h1; go_simp; exact ⟨rfl, rfl, h1⟩); (· go_simp; rfl)) | (apply Turn.seq_no; (· simp only [List.getElem?_toArray, List.getElem?_cons_succ, List.getElem?_cons_zero]; rfl); (· go_simp); (· go_simp; rfl)))
      apply Turn.seq_call
      · simp only [List.getElem?_toArray, List.getElem?_cons_succ, List.getElem?_cons_zero]; rfl
      · rfl
      · go_simp
      · intro v; go_simp; rfl
      go_simp
      refine (HAl.out _ (HE.out.below (HB4.out.trans ((((Below.refl _ _).drew.drew).mono HB4.out.size))))).mono ?_
      rintro e w6 ⟨rfl, hb6⟩
      have hb6' : Below w4.heap.size w4 w6 := (((Below.refl w4.heap.size w4).drew).drew).trans hb6
      refine ⟨_, rfl, (HJ.out _).2 hb6', ?_⟩
      repeat (first | (apply Turn.seq_yes; (· simp only [List.getElem?_toArray, List.getElem?_cons_succ, List.getElem?_cons_zero]; rfl); (· rfl); (· go_simp); (· intro w1 h1; obtain ⟨kk0, kk1⟩ := K w1 h1; go_simp; exact ⟨rfl, h1⟩); (· go_simp; rfl)) | (apply Turn.seq_yes; (· simp only [List.getElem?_toArray, List.getElem?_cons_succ, List.getElem?_cons_zero]; rfl); (· rfl); (· go_simp); (· intro w1 h1; obtain ⟨kk0, kk1⟩ := K w1 h1; go_simp; exact ⟨rfl, rfl, h1⟩); (· go_simp; rfl)) | (apply Turn.seq_no; (· simp only [List.getElem?_toArray, List.getElem?_cons_succ, List.getElem?_cons_zero]; rfl); (· go_simp); (· go_simp; rfl)))
      apply Turn.seq_nil
      clear K
      go_wp2_with fail
      go_ret
      exact ⟨rfl, HB4.out.trans (hb6'.mono HB4.out.size)⟩
    · have hjn := joined HXY.out.1.2 HXY.out.2.2 (.inr (HYb.out.1 rfl))
      obtain ⟨ra, rb, hjn⟩ := hjn
      simp only at hjn
      rw [HQ.out] at hjn
      cases hjn
      obtain ⟨g5, c5, rfl, hc5, X5⟩ := own_pcs H5.out (by simp)
      have HX5 := Lib.hid X5
      obtain ⟨J, hJ⟩ : ∃ J : World → Prop, ∀ W, J W ↔ Below w4.heap.size w4 W := ⟨_, fun _ => Iff.rfl⟩
      have hj := (hJ w4.drew.drew).2 (Below.refl _ _).drew.drew
      have K : ∀ W, J W → W.cell? ⟨g2, 1, none⟩ = some (.string (str ty)) ∧ W.cell? ⟨g5, 5, none⟩ = some (.string (str ty)) := fun W h => ⟨(HK.out W ((hJ W).1 h)).2.2.2.2.2.1, HX5.out W ((hJ W).1 h) 5 _ rfl⟩
      have HJ := Lib.hid hJ
      clear hJ X5
      go_wp2_with fail
      refine Turn.region_seq [0, 1, 2, 3, 4, 5, 6, 7, 8, 9, 10, 11, 12, 13, 14, 15, 16, 17, 18, 19] (fun i => i == 17) J (by kernel_rfl) (by kernel_rfl) hj ?_
      repeat (first | (apply Turn.seq_yes; (· simp only [List.getElem?_toArray, List.getElem?_cons_succ, List.getElem?_cons_zero]; rfl); (· rfl); (· go_simp); (· intro w1 h1; obtain ⟨kk0, kk1⟩ := K w1 h1; go_simp; exact ⟨rfl, h1⟩); (· go_simp; rfl)) | (apply Turn.seq_yes; (· simp only [List.getElem?_toArray, List.getElem?_cons_succ, List.getElem?_cons_zero]; rfl); (· rfl); (· go_simp); (· intro w1 h1; obtain ⟨kk0, kk1⟩ := K w1 h1; go_simp; exact ⟨rfl, rfl, h1⟩); (· go_simp; rfl)) | (apply Turn.seq_no; (· simp only [List.getElem?_toArray, List.getElem?_cons_succ, List.getElem?_cons_zero]; rfl); (· go_simp); (· go_simp; rfl)))
      apply Turn.seq_call
      · simp only [List.getElem?_toArray, List.getElem?_cons_succ, List.getElem?_cons_zero]; rfl
      · rfl
      · go_simp
      · intro v; go_simp; rfl
      go_simp
      refine (HAl.out _ (HE.out.below (HB4.out.trans ((((Below.refl _ _).drew.drew).mono HB4.out.size))))).mono ?_
      rintro e w6 ⟨rfl, hb6⟩
      have hb6' : Below w4.heap.size w4 w6 := (((Below.refl w4.heap.size w4).drew).drew).trans hb6
      refine ⟨_, rfl, (HJ.out _).2 hb6', ?_⟩
      repeat (first | (apply Turn.seq_yes; (· simp only [List.getElem?_toArray, List.getElem?_cons_succ, List.getElem?_cons_zero]; rfl); (· rfl); (· go_simp); (· intro w1 h1; obtain ⟨kk0, kk1⟩ := K w1 h1; go_simp; exact ⟨rfl, h1⟩); (· go_simp; rfl)) | (apply Turn.seq_yes; (· simp only [List.getElem?_toArray, List.getElem?_cons_succ, List.getElem?_cons_zero]; rfl); (· rfl); (· go_simp); (· intro w1 h1; obtain ⟨kk0, kk1⟩ := K w1 h1; go_simp; exact ⟨rfl, rfl, h1⟩); (· go_simp; rfl)) | (apply Turn.seq_no; (· simp only [List.getElem?_toArray, List.getElem?_cons_succ, List.getElem?_cons_zero]; rfl); (· go_simp); (· go_simp; rfl)))
      apply Turn.seq_nil
      clear K
      go_wp2_with fail
      go_ret
      exact ⟨rfl, HB4.out.trans (hb6'.mono HB4.out.size)⟩
    · have hrn := run_on HXY.out.1.2 HXY.out.2.2 (fun h => by have := HXb.out.2 h; cases this) (fun h => by have := HYb.out.2 h; cases this)
      obtain ⟨ps', a', e', he, h2⟩ := hrn
      simp only at he
      rw [HQ.out] at he
      cases he
      obtain ⟨B, c5, rfl, hc5, _, _, _, _⟩ := H5.out.form
      by_cases h0 : e5 = 0
      · have hl2 := h2 h0
        subst h0
        rw [hl2]
        clear h2 hl2
        go_wp2_with fail
        refine (HAl.out _ (HE.out.below (HB4.out.trans ((((Below.refl _ _).drew).mono HB4.out.size))))).mono ?_
        rintro e w6 ⟨rfl, hb6⟩
        have hb6' : Below w4.heap.size w4 w6 := ((Below.refl w4.heap.size w4).drew).trans hb6
        go_wp2_with fail
        go_ret
        exact ⟨rfl, HB4.out.trans (hb6'.mono HB4.out.size)⟩
      · have f1 : (e5 == 0) = false := beq_eq_false_iff_ne.2 h0
        have f2 : ((e5 : Int) == 0) = false := by rw [beq_eq_false_iff_ne]; omega
        clear h2
        go_wp2_with fail
        refine (HAl.out _ (HE.out.below (HB4.out.trans ((((Below.refl _ _).drew).mono HB4.out.size))))).mono ?_
        rintro e w6 ⟨rfl, hb6⟩
        have hb6' : Below w4.heap.size w4 w6 := ((Below.refl w4.heap.size w4).drew).trans hb6
        go_wp2_with fail
        go_ret
        exact ⟨rfl, HB4.out.trans (hb6'.mono HB4.out.size)⟩
end Go.Proofs.YtdlfdkdcnabpoaaDoor.Lx
