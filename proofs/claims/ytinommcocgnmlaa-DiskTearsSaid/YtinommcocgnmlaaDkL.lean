/- Chapter 07: the walk of DiskKeeps. -/
import Derived.Test.YtinommcocgnmlaaDkK
import Derived.Deep.DeepCutAuto
namespace Go.Proofs.Ytinommcocgnmlaa.Dk
open Go.RowKit _root_.Go.Proofs.Ytinommcocgnmlaa.Own
set_option linter.unusedVariables false
set_option linter.unusedSimpArgs false
theorem keeps_long (A : Option Addr) (N c : Nat) (h : N > 60) (w : World) : Calls Try.prog 4 #[.slice A N c] w fun e w' => e = .returned (.bool true) ∧ Below w.heap.size w w' := by
  have m1 : decide ((N : Int) > 60) = true := by rw [decide_eq_true_eq]; omega
  go_enter Try.func4, Try.ntmps4
  go_wp2_with fail
  refine (alive07 w).mono ?_
  rintro e w1 ⟨rfl, hb⟩
  go_wp2_with fail
  go_ret
  exact ⟨rfl, hb⟩
theorem Only.frozen {bs : List Nat} {w w' : World} (h : Only bs w w') {a : Addr} (hb : a.block ∉ bs) (hl : a.block < w.heap.size) : w'.frozen? a = w.frozen? a := by
  unfold World.frozen?
  rw [h.keep a.block hl hb]
def PairsRd (w : World) (A : Option Addr) (l : List (UInt8 × UInt8)) : Prop := ∀ j (h : j < l.length), ∃ a, A = some a ∧ w.cell? (a.add (j * 2)) = some (.int .u8 (nB l[j].1)) ∧ w.cell? (a.add (j * 2 + 1)) = some (.int .u8 (nB l[j].2))
theorem ups_zero (b : UInt8) : (bys (ups b 128))[0]? = some (.int .u8 (nB b)) := by
  unfold bys
  rw [List.getElem?_map, show (ups b 128)[0]? = some (b + UInt8.ofNat 0) from by unfold ups; rw [List.getElem?_map]; rfl]
  simp
theorem ups_get (b : UInt8) (k : Nat) (hk : k < 128) : (bys (ups b 128))[k]? = some (.int .u8 (nB (b + UInt8.ofNat k))) := by
  unfold bys
  rw [List.getElem?_map, show (ups b 128)[k]? = some (b + UInt8.ofNat k) from by unfold ups; rw [List.getElem?_map, List.getElem?_range hk]; rfl]
  rfl
theorem zero16 : ∃ zs : List Value, (Try.prog.info? 49).map (·.zero) = some (some (.agg ⟨zs⟩)) ∧ zs = bys (List.replicate 16 0) := ⟨List.replicate 16 (.int .u8 0), by kernel_rfl, rfl⟩
theorem false16 : ∃ zs : List Value, (Try.prog.info? 50).map (·.zero) = some (some (.agg ⟨zs⟩)) ∧ zs = bos (List.replicate 16 false) := ⟨List.replicate 16 (.bool false), by kernel_rfl, rfl⟩
set_option maxRecDepth 10000 in
set_option maxHeartbeats 8000000 in
theorem keeps_walk (A : Option Addr) (c : Nat) (l : List (UInt8 × UInt8)) (hl : l.length ≤ 60) (hc : l.length ≤ c) (w : World) (hR : PairsRd w A l) : Calls Try.prog 4 #[.slice A l.length c] w fun e w' => e = .returned (.bool true) ∧ Below w.heap.size w w' := by
  have m1 : decide ((l.length : Int) > 60) = false := by rw [decide_eq_false_iff_not]; omega
  have HR := Lib.hid hR
  clear hR
  obtain ⟨z1, i1, e1⟩ := zero16
  obtain ⟨z2, i2, e2⟩ := false16
  have I1 := Lib.hid i1
  have I2 := Lib.hid i2
  have E1 := Lib.hid e1
  have E2 := Lib.hid e2
  clear i1 i2 e1 e2
  go_enter Try.func4, Try.ntmps4
  go_wp2_with fail
  refine (New_calls 16 (by decide) (by decide) w).mono ?_
  rintro e w1 ⟨g, r, rfl, hg, hr, hI, hb⟩
  have HI := Lib.hid hI
  have HB := Lib.hid hb
  clear hI hb
  go_wp2_with (first | (refine wpList_alloc_arr rfl 49 rfl z1 I1.out ?_) | (refine wpList_alloc_arr rfl 50 rfl z2 I2.out ?_))
  have HK0 : KS w g r w1.heap.size (w1.heap.size + 1) (D0 16) (List.replicate 16 0) (List.replicate 16 false) ((w1.alloc (.cells ⟨z1⟩ 49 (0, 0))).alloc (.cells ⟨z2⟩ 50 (0, 0))) := by
    have b1 : Below w1.heap.size w1 ((w1.alloc (.cells ⟨z1⟩ 49 (0, 0))).alloc (.cells ⟨z2⟩ 50 (0, 0))) := ((Below.refl _ _).alloc (Nat.le_refl _) _).alloc (by simp) _
    have hs := HB.out.size
    refine ⟨HB.out.trans (b1.mono hs), HI.out.below b1, ?_, ?_, hg, hr, hs, by omega⟩
    · rw [← E1.out]
      exact (Below.heap_alloc _ _ _ (blk_lt (heap_alloc_new w1 _))).trans (heap_alloc_new w1 _)
    · rw [← E2.out]
      have := heap_alloc_new (w1.alloc (.cells ⟨z1⟩ 49 (0, 0))) (.cells ⟨z2⟩ 50 (0, 0))
      rwa [show (w1.alloc (.cells ⟨z1⟩ 49 (0, 0))).heap.size = w1.heap.size + 1 by simp] at this
  have HK := Lib.hid HK0
  go_loopw [7] (fun v7 wr => ∃ (j : Nat) (d : D) (la : List UInt8) (ha : List Bool), j ≤ l.length ∧ v7 = .int .i64 j ∧ Hid (KI d la ha j) ∧ Hid (KS w g r w1.heap.size (w1.heap.size + 1) d la ha wr)) (fun v7 _ => l.length - (intOf v7).toNat)
  case atStart => exact ⟨0, _, _, _, Nat.zero_le _, rfl, Lib.hid KI.new, HK⟩
  case round =>
    clear HK0 HK HI HB E1 E2 I1 I2
    obtain ⟨j, d, la, ha, hj, rfl, HL, HP⟩ := hrel
    by_cases hlt : j < l.length
    · have hd : decide ((j : Int) < (l.length : Int)) = true := by rw [decide_eq_true_eq]; omega
      obtain ⟨ad, rfl, hc1, hc2⟩ := HR.out j hlt
      obtain ⟨⟨p, b⟩, hx⟩ : ∃ x, l[j] = x := ⟨_, rfl⟩
      rw [hx] at hc1 hc2
      simp only at hc1 hc2
      have x0 := (HP.out.below.cell (World.block_lt_of_cell? w _ hc1)).trans hc1
      have x1 := (HP.out.below.cell (World.block_lt_of_cell? w _ hc2)).trans hc2
      rw [← add_add', add_pos _ 1 (by decide)] at x1
      have hk : (nB p).tmod 16 = ((p.toNat % 16 : Nat) : Int) := by rw [nB_tmod]; unfold nB; omega
      have hk16 : p.toNat % 16 < 16 := Nat.mod_lt _ (by decide)
      obtain ⟨k, hkk⟩ : ∃ k, p.toNat % 16 = k := ⟨_, rfl⟩
      rw [hkk] at hk hk16
      have hadw : (ad.add (j * 2)).block < w.heap.size := World.block_lt_of_cell? _ _ hc1
      go_wp2_with fail
      refine (Bytes_calls 0 0 0 b 0 (by decide) _).mono ?_
      rintro e w2 ⟨v, rfl, hv, hb2⟩
      rw [show actLen 0 = 128 from rfl] at hv
      obtain ⟨bg, bc, rfl, hbc, hbg, hbcell, hbf, hbR⟩ := Has.row hv 127 (ups_length _ _)
      have HP2 := Lib.hid (HP.out.call hb2)
      have hbn : bg ≠ g ∧ bg ≠ r ∧ bg ≠ w1.heap.size ∧ bg ≠ w1.heap.size + 1 := by
        have q1 := blk_lt HP.out.is.own; have q2 := blk_lt HP.out.is.row; have q3 := blk_lt HP.out.xs; have q4 := blk_lt HP.out.ys
        omega
      have hbw : w.heap.size ≤ bg := Nat.le_trans HP.out.below.size hbg
      have x1' := (hb2.cell (World.block_lt_of_cell? _ _ x1)).trans x1
      have HBc := Lib.hid (hbcell 0 (by omega))
      have HBf := Lib.hid (hbf 0)
      have HBR := Lib.hid hbR
      clear hb2 hv x0 x1 hbcell hbf hbR
      have x1 := x1'
      clear x1'
      go_wp2_with fail
      have hwr := HL.out.wr
      have hlb := HL.out.lb
      refine (WriteAll_calls HP2.out.is k hk16 (Nat.le_refl 16) HL.out.off ⟨bg, 0, none⟩ bc (ups b 128) (ups_length _ _) hbc HBR.out hbn.1 (by omega) (by omega) (.inl HL.out.arm)).mono ?_
      rintro e w3 ⟨rfl, ho3, hi3⟩
      have HP3 := Lib.hid (HP2.out.turn ho3 hi3)
      have y0 : w3.cell? ⟨bg, 0, none⟩ = some (.int .u8 (nB b)) := Only.cell ho3 (by simp; exact ⟨hbn.1, hbn.2.1⟩) (by rw [HBc.out]; exact ups_zero b)
      have y1 : w3.frozen? ⟨bg, 0, none⟩ = false := (Only.frozen ho3 (by simp; exact ⟨hbn.1, hbn.2.1⟩) (World.block_lt_of_cell? _ _ (HBc.out.trans (ups_zero b)))).trans HBf.out
      have x1' := Only.cell ho3 (by simp; omega) x1
      clear x1 ho3 hi3 HBR HBc HBf
      have x1 := x1'
      clear x1'
      go_wp2_with fail
      have HP4 := Lib.hid (HP3.out.other (only_setCell w3 bg 0 (.int .u8 ((nB b + 1) % 256))) hbw hbn)
      have x1' := Only.cell (only_setCell w3 bg 0 (.int .u8 ((nB b + 1) % 256))) (by simp; omega) x1
      clear x1 y0 y1
      have x1 := x1'
      clear x1'
      have hrw : rowB (putRow d.all k (ups b 128)) k = ups b 128 := by rw [rowB_put _ _ 16 k k HL.out.len hk16 hk16 (ups_length _ _), if_pos rfl]
      refine (ReadOk_calls HP4.out.is k hk16 (Nat.le_refl 16) HL.out.off).mono ?_
      rintro e w5 ⟨x, rfl, hx5, hxr, hb5⟩
      simp only at hxr
      rw [hrw] at hxr
      have HP5 := Lib.hid (HP4.out.call hb5)
      have x1' := (hb5.cell (World.block_lt_of_cell? _ _ x1)).trans x1
      clear x1
      have x1 := x1'
      clear x1'
      have hxn : x ≠ g ∧ x ≠ r ∧ x ≠ w1.heap.size ∧ x ≠ w1.heap.size + 1 := by
        have q1 := blk_lt HP4.out.is.own; have q2 := blk_lt HP4.out.is.row; have q3 := blk_lt HP4.out.xs; have q4 := blk_lt HP4.out.ys
        omega
      have hxw : w.heap.size ≤ x := Nat.le_trans HP4.out.below.size hx5
      have y5 : ∀ i, w5.cell? ⟨x, i, none⟩ = (bys (ups b 128))[i]? := fun i => by rw [cell_of_row w5 x i _ _ _ hxr]; simp
      have y50 : w5.cell? ⟨x, 0, none⟩ = some (.int .u8 (nB b)) := (y5 0).trans (ups_zero b)
      have y55 : w5.cell? ⟨x, 5, none⟩ = some (.int .u8 (nB (b + 5))) := (y5 5).trans (ups_get b 5 (by decide))
      have y5f : w5.frozen? ⟨x, 5, none⟩ = false := frozen_of_row w5 x 5 _ _ hxr
      clear y5 hb5
      obtain ⟨J, hJ⟩ : ∃ J : World → Prop, ∀ W, J W ↔ Below w5.heap.size w5 W := ⟨_, fun _ => Iff.rfl⟩
      have K := fun w6 h6 => And.intro ((((hJ w6).1 h6).cell (World.block_lt_of_cell? _ _ y50)).trans y50) ((((hJ w6).1 h6).cell (World.block_lt_of_cell? _ _ x1)).trans x1)
      have HJ := Lib.hid hJ
      have hj6 := (HJ.out w5.drew).2 ((Below.refl _ _).drew)
      clear hJ
      go_wp2
      refine region_inv J (by kernel_rfl) (by kernel_rfl) hj6 ?_
      repeat (first | (apply inv_yes; (· go_simp); (· intro w6 h6; obtain ⟨z0, z1⟩ := K w6 h6; go_simp; exact ⟨rfl, h6⟩); (· go_simp; rfl)) | (apply inv_no; (· go_simp); (· go_simp; rfl)))
      refine wpInv_nil (fun w6 h6 => ?_)
      have hb6 := (HJ.out w6).1 h6
      have HP6 := Lib.hid (HP5.out.call hb6)
      have x6 := (hb6.cell (World.block_lt_of_cell? _ _ x1)).trans x1
      have y65 := (hb6.cell (World.block_lt_of_cell? _ _ y55)).trans y55
      have y6f : w6.frozen? ⟨x, 5, none⟩ = false := frozen_of_row w6 x 5 _ _ ((hb6.block x (blk_lt hxr)).trans hxr)
      clear K HJ hj6 h6 x1 y50 y55 y5f hxr hb6
      go_upto_region 20 with fail
      have HP7 := HP6.out.other (only_setCell w6 x 5 (.int .u8 ((nB (b + 5) + 1) % 256))) hxw hxn
      have x7 := Only.cell (only_setCell w6 x 5 (.int .u8 ((nB (b + 5) + 1) % 256))) (by simp; omega) x6
      generalize w6.setCell ⟨x, 5, none⟩ (.int .u8 ((nB (b + 5) + 1) % 256)) = w7 at HP7 x7 ⊢
      have X1 : ∀ i, w7.frozen? ⟨w1.heap.size, i, none⟩ = false := fun i => frozen_of_row w7 _ i _ _ HP7.xs
      have X2 := blk_lt HP7.xs
      have Y1 : ∀ i, w7.frozen? ⟨w1.heap.size + 1, i, none⟩ = false := fun i => frozen_of_row w7 _ i _ _ HP7.ys
      have Y2 := blk_lt HP7.ys
      have hkl : k < la.length := by rw [HL.out.lal]; exact hk16
      have hkh : k < ha.length := by rw [HL.out.hal]; exact hk16
      have X3 : w7.cell? ⟨w1.heap.size, k, none⟩ = some (.int .u8 (nB la[k])) := by rw [cell_of_row w7 _ k _ _ _ HP7.xs]; simp [bys, hkl]
      have Y3 : w7.cell? ⟨w1.heap.size + 1, k, none⟩ = some (.bool ha[k]) := by rw [cell_of_row w7 _ k _ _ _ HP7.ys]; simp [bos, hkh]
      have HP7 := Lib.hid HP7
      clear HP6 HP5 HP4 HP3 HP2 x6 y65 y6f
      have f9 : IntKind.i64.wrap ((j : Int) + 1) = ((j + 1 : Nat) : Int) := by rw [IntKind.wrap_i64]; omega
      go_wp2_with fail
      go_roundw
      case rel => exact ⟨j + 1, _, _, _, by omega, by simp, Lib.hid (HL.out.write k hk16 b), Lib.hid ((HP7.out.setX k b).setY k true)⟩
      case measure => simp [intOf]; omega
    · have hd : decide ((j : Int) < (l.length : Int)) = false := by rw [decide_eq_false_iff_not]; omega
      obtain rfl : j = l.length := by omega
      go_wp2_with fail
      go_loopw [12] (fun v12 wr2 => ∃ (m : Nat), m ≤ 16 ∧ v12 = .int .i64 m ∧ Hid (KS w g r w1.heap.size (w1.heap.size + 1) d la ha wr2)) (fun v12 _ => 16 - (intOf v12).toNat)
      case atStart => exact ⟨0, by omega, rfl, HP⟩
      case round =>
        clear HP
        obtain ⟨m, hm, rfl, HP⟩ := hrel
        by_cases hlt2 : m < 16
        · have hd2 : decide ((m : Int) < 16) = true := by rw [decide_eq_true_eq]; omega
          go_wp2_with fail
          refine (ReadOk_calls HP.out.is m hlt2 (Nat.le_refl 16) HL.out.off).mono ?_
          rintro e w5 ⟨x, rfl, hx5, hxr, hb5⟩
          have HP5 := Lib.hid (HP.out.call hb5)
          have hrl := rowB_length d.all 16 m HL.out.len hlt2
          have hkl : m < la.length := by rw [HL.out.lal]; exact hlt2
          have hkh : m < ha.length := by rw [HL.out.hal]; exact hlt2
          have hrow := HL.out.row m hlt2
          simp only [List.getD_eq_getElem?_getD, List.getElem?_eq_getElem hkl, List.getElem?_eq_getElem hkh, Option.getD_some] at hrow
          have k1 := fun W (hb : Below w5.heap.size w5 W) => run_string_of (w := W) Try.underlying29 Try.underlying5 Try.underlying9 (some ⟨x, 0, none⟩) 128 128 (rowB d.all m) hrl.symm (fun h => nomatch h) ((Rd.of_row hxr).below hb)
          have k2 := fun W (hb : Below w5.heap.size w5 W) => show W.cell? ⟨w1.heap.size, m, none⟩ = some (.int .u8 (nB la[m])) by rw [cell_of_row W _ m _ _ _ (HP5.out.call hb).xs]; simp [bys, hkl]
          have k3 := fun W (hb : Below w5.heap.size w5 W) => show W.cell? ⟨w1.heap.size + 1, m, none⟩ = some (.bool ha[m]) by rw [cell_of_row W _ m _ _ _ (HP5.out.call hb).ys]; simp [bos, hkh]
          obtain ⟨J, hJ⟩ : ∃ J : World → Prop, ∀ W, J W ↔ Below w5.heap.size w5 W := ⟨_, fun _ => Iff.rfl⟩
          have hm2 : (m : Int) < 16 := by omega
          cases hh : ha[m] with
          | true =>
            rw [hh, if_pos rfl] at hrow
            rw [hrow] at k1
            rw [hh] at k3
            have K := fun w6 h6 => And.intro (k1 w6 ((hJ w6).1 h6)) (And.intro (k2 w6 ((hJ w6).1 h6)) (k3 w6 ((hJ w6).1 h6)))
            have HJ := Lib.hid hJ
            have hj6 := (HJ.out w5.drew).2 ((Below.refl _ _).drew)
            clear hJ k1 k2 k3 hxr hb5 hrow
            go_wp2
            refine Turn.region_seq [0, 1, 2, 3, 4, 5, 6, 7, 8, 9, 10, 11, 12, 13, 14, 15, 16, 17, 18, 19, 20, 21, 22, 23, 24, 25, 26, 27, 28, 29, 30] (fun i => i == 13 || i == 14 || i == 26 || i == 27) J (by kernel_rfl) (by kernel_rfl) hj6 ?_
            repeat (first | (apply Turn.seq_yes; (· simp only [List.getElem?_toArray, List.getElem?_cons_succ, List.getElem?_cons_zero]; rfl); (· rfl); (· go_simp); (· intro w6 h6; obtain ⟨z0, z1, z2⟩ := K w6 h6; go_simp; exact ⟨rfl, h6⟩); (· go_simp; rfl)) | (apply Turn.seq_no; (· simp only [List.getElem?_toArray, List.getElem?_cons_succ, List.getElem?_cons_zero]; rfl); (· go_simp); (· go_simp; rfl)))
            apply Turn.seq_call
            · simp only [List.getElem?_toArray, List.getElem?_cons_succ, List.getElem?_cons_zero]; rfl
            · rfl
            · go_simp
            · intro v; go_simp; rfl
            go_simp
            refine (Bytes_sl 0 0 0 la[m] 0 (by decide) 128 rfl _).mono ?_
            rintro e w7 ⟨A7, c7, rfl, hc7, hA7, hR7, -, hb7⟩
            have hj7 := (HJ.out _).2 (((HJ.out _).1 hj6).trans (hb7.mono ((HJ.out _).1 hj6).size))
            have ky := run_string_of (w := w7) Try.underlying29 Try.underlying5 Try.underlying9 A7 128 c7 (ups la[m] 128) (ups_length _ _).symm hA7 hR7
            clear hb7 hR7
            refine ⟨_, rfl, hj7, ?_⟩
            repeat (first | (apply Turn.seq_yes; (· simp only [List.getElem?_toArray, List.getElem?_cons_succ, List.getElem?_cons_zero]; rfl); (· rfl); (· go_simp); (· intro w6 h6; obtain ⟨z0, z1, z2⟩ := K w6 h6; go_simp; exact ⟨rfl, h6⟩); (· go_simp; rfl)) | (apply Turn.seq_no; (· simp only [List.getElem?_toArray, List.getElem?_cons_succ, List.getElem?_cons_zero]; rfl); (· go_simp); (· go_simp; rfl)))
            apply Turn.seq_call
            · simp only [List.getElem?_toArray, List.getElem?_cons_succ, List.getElem?_cons_zero]; rfl
            · rfl
            · go_simp
            · intro v; go_simp; rfl
            go_simp
            refine ⟨hj7, ?_⟩
            clear ky
            have hj9 := hj7
            repeat (first | (apply Turn.seq_yes; (· simp only [List.getElem?_toArray, List.getElem?_cons_succ, List.getElem?_cons_zero]; rfl); (· rfl); (· go_simp); (· intro w6 h6; obtain ⟨z0, z1, z2⟩ := K w6 h6; go_simp; exact ⟨rfl, h6⟩); (· go_simp; rfl)) | (apply Turn.seq_no; (· simp only [List.getElem?_toArray, List.getElem?_cons_succ, List.getElem?_cons_zero]; rfl); (· go_simp); (· go_simp; rfl)))
            apply Turn.seq_nil
            have HP9 := Lib.hid (HP5.out.call ((HJ.out _).1 hj9))
            clear K HJ hj9 hj6
            have f9 : IntKind.i64.wrap ((m : Int) + 1) = ((m + 1 : Nat) : Int) := by rw [IntKind.wrap_i64]; omega
            go_wp2_with fail
            go_roundw
            case rel => exact ⟨m + 1, by omega, by simp, HP9⟩
            case measure => simp [intOf]; omega
          | false =>
            rw [hh, if_neg (by decide)] at hrow
            rw [hrow] at k1
            rw [hh] at k3
            have K := fun w6 h6 => And.intro (k1 w6 ((hJ w6).1 h6)) (And.intro (k2 w6 ((hJ w6).1 h6)) (k3 w6 ((hJ w6).1 h6)))
            have HJ := Lib.hid hJ
            have hj6 := (HJ.out w5.drew).2 ((Below.refl _ _).drew)
            clear hJ k1 k2 k3 hxr hb5 hrow
            obtain ⟨i, i1, i2, i3, i4⟩ := infoU8
            have hxs : madeCells (Value.int .u8 0).cells (128 * i.size) = ⟨bys (List.replicate 128 0)⟩ := by
              rw [i2, Nat.mul_one]
              refine (made_all (.int .u8 0) 1 128 (by decide)).trans ?_
              simp [bys, nB]
            have mk := fun W : World => run_make (P := Try.prog) (w := W) 29 5 i (.int .u8 0) Try.underlying29 i1 i4 .i64 .i64 128 128 (by decide) (by decide) (by rw [i3]; decide) (by decide)
            rw [show (128 : Int).toNat = 128 from rfl, hxs] at mk
            obtain ⟨Z, hZ⟩ : ∃ Z, bys (List.replicate 128 (0 : UInt8)) = Z := ⟨_, rfl⟩
            rw [hZ] at mk
            have HZ := Lib.hid hZ
            clear hZ hxs i1 i2 i3 i4
            go_wp2
            refine Turn.region_seq [0, 1, 2, 3, 4, 5, 6, 7, 8, 9, 10, 11, 12, 13, 14, 15, 16, 17, 18, 19, 20, 21, 22, 23, 24, 25, 26, 27, 28, 29, 30] (fun i => i == 13 || i == 14 || i == 26 || i == 27) J (by kernel_rfl) (by kernel_rfl) hj6 ?_
            repeat (first | (apply Turn.seq_yes; (· simp only [List.getElem?_toArray, List.getElem?_cons_succ, List.getElem?_cons_zero]; rfl); (· rfl); (· go_simp); (· intro w6 h6; obtain ⟨z0, z1, z2⟩ := K w6 h6; go_simp; exact ⟨rfl, h6⟩); (· go_simp; rfl)) | (apply Turn.seq_no; (· simp only [List.getElem?_toArray, List.getElem?_cons_succ, List.getElem?_cons_zero]; rfl); (· go_simp); (· go_simp; rfl)))
            apply Turn.seq_call
            · simp only [List.getElem?_toArray, List.getElem?_cons_succ, List.getElem?_cons_zero]; rfl
            · rfl
            · go_simp
            · intro v; go_simp; rfl
            go_simp
            have hj7 := (HJ.out _).2 (((HJ.out _).1 hj6).alloc ((HJ.out _).1 hj6).size (.cells ⟨Z⟩ 5 (0, 0)))
            refine ⟨hj7, ?_⟩
            have hz7 : Rd (w5.alloc (.cells ⟨Z⟩ 5 (0, 0))).drew (some ⟨w5.heap.size, 0, none⟩) (bys (List.replicate 128 0)) := by rw [HZ.out]; exact Rd.put (w := w5) _ rfl Z _ _
            have ky := run_string_of (w := (w5.alloc (.cells ⟨Z⟩ 5 (0, 0))).drew) Try.underlying29 Try.underlying5 Try.underlying9 (some ⟨w5.heap.size, 0, none⟩) 128 128 (List.replicate 128 0) List.length_replicate.symm (fun h => nomatch h) hz7
            clear hz7
            repeat (first | (apply Turn.seq_yes; (· simp only [List.getElem?_toArray, List.getElem?_cons_succ, List.getElem?_cons_zero]; rfl); (· rfl); (· go_simp); (· intro w6 h6; obtain ⟨z0, z1, z2⟩ := K w6 h6; go_simp; exact ⟨rfl, h6⟩); (· go_simp; rfl)) | (apply Turn.seq_no; (· simp only [List.getElem?_toArray, List.getElem?_cons_succ, List.getElem?_cons_zero]; rfl); (· go_simp); (· go_simp; rfl)))
            apply Turn.seq_call
            · simp only [List.getElem?_toArray, List.getElem?_cons_succ, List.getElem?_cons_zero]; rfl
            · rfl
            · go_simp
            · intro v; go_simp; rfl
            go_simp
            refine ⟨hj7, ?_⟩
            clear ky
            have hj9 := hj7
            repeat (first | (apply Turn.seq_yes; (· simp only [List.getElem?_toArray, List.getElem?_cons_succ, List.getElem?_cons_zero]; rfl); (· rfl); (· go_simp); (· intro w6 h6; obtain ⟨z0, z1, z2⟩ := K w6 h6; go_simp; exact ⟨rfl, h6⟩); (· go_simp; rfl)) | (apply Turn.seq_no; (· simp only [List.getElem?_toArray, List.getElem?_cons_succ, List.getElem?_cons_zero]; rfl); (· go_simp); (· go_simp; rfl)))
            apply Turn.seq_nil
            have HP9 := Lib.hid (HP5.out.call ((HJ.out _).1 hj9))
            clear K HJ hj9 hj6
            have f9 : IntKind.i64.wrap ((m : Int) + 1) = ((m + 1 : Nat) : Int) := by rw [IntKind.wrap_i64]; omega
            go_wp2_with fail
            go_roundw
            case rel => exact ⟨m + 1, by omega, by simp, HP9⟩
            case measure => simp [intOf]; omega
        · have hd2 : decide ((m : Int) < 16) = false := by rw [decide_eq_false_iff_not]; omega
          go_wp2_with fail
          refine (Writes_calls HP.out.is).mono ?_
          rintro e w5 ⟨rfl, hb5⟩
          have HP5 := Lib.hid (HP.out.call hb5)
          have hwr := HL.out.wr
          go_wp2_with fail
          refine (alive07 w5).mono ?_
          rintro e w6 ⟨rfl, hb6⟩
          have HP6 := HP5.out.call hb6
          go_wp2_with fail
          go_ret
          exact ⟨rfl, HP6.below⟩
end Go.Proofs.Ytinommcocgnmlaa.Dk
