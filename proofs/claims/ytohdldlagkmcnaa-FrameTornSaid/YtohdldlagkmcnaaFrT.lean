/- Chapter 08: the walk of FrameTorn. -/
import Derived.Test.YtohdldlagkmcnaaFrA
import Derived.Test.YtohdldlagkmcnaaDkN
namespace Go.Proofs.Ytohdldlagkmcnaa.Fr
open Go.RowKit _root_.Go.Proofs.Ytohdldlagkmcnaa.Own
open Go.Proofs.Ytohdldlagkmcnaa.Dk (D Is D0 torn putRow rowB armE armD rowB_length)
set_option linter.unusedVariables false
set_option linter.unusedSimpArgs false
theorem putRow_get (all x : List UInt8) (n i p : Nat) (hl : all.length = n * 128) (hi : i < n) (hx : x.length = 128) : (putRow all i x)[p]? = if p < i * 128 then all[p]? else if p < i * 128 + 128 then x[p - i * 128]? else all[p]? := by
  unfold putRow
  have e1 : (all.take (i * 128)).length = i * 128 := by rw [List.length_take]; omega
  rw [List.getElem?_append, List.length_append, e1, hx]
  by_cases h1 : p < i * 128
  · rw [if_pos (by omega), List.getElem?_append, e1, if_pos h1, if_pos h1, List.getElem?_take, if_pos h1]
  · rw [if_neg h1]
    by_cases h2 : p < i * 128 + 128
    · rw [if_pos h2, if_pos h2, List.getElem?_append, e1, if_neg h1]
    · rw [if_neg h2, if_neg h2, List.getElem?_drop, show i * 128 + 128 + (p - (i * 128 + 128)) = p by omega]
theorem rowB_get (all : List UInt8) (j q : Nat) : (rowB all j)[q]? = if q < 128 then all[j * 128 + q]? else none := by
  unfold rowB
  rw [List.getElem?_take]
  split
  · rw [List.getElem?_drop]
  · rfl
theorem rowB_put (all x : List UInt8) (n i j : Nat) (hl : all.length = n * 128) (hi : i < n) (hj : j < n) (hx : x.length = 128) : rowB (putRow all i x) j = if j = i then x else rowB all j := by
  apply List.ext_getElem?
  intro q
  rw [rowB_get]
  by_cases h1 : q < 128
  · rw [if_pos h1, putRow_get all x n i _ hl hi hx]
    by_cases h2 : j = i
    · subst h2
      rw [if_pos rfl, if_neg (by omega), if_pos (by omega), show j * 128 + q - j * 128 = q by omega]
    · rw [if_neg h2, rowB_get, if_pos h1]
      by_cases h3 : j < i
      · rw [if_pos (by omega)]
      · rw [if_neg (by omega), if_neg (by omega)]
  · rw [if_neg h1]
    split
    · rw [List.getElem?_eq_none (by omega)]
    · rw [rowB_get, if_neg h1]
theorem torn_len (k : Nat) (b : List UInt8) (hb : b.length = 128) (hk : k ≤ 128) : (torn k b).length = 128 := by
  unfold torn
  rw [List.length_append, List.length_take, List.length_replicate]
  omega
theorem torn_all (b : List UInt8) (hb : b.length = 128) : torn 128 b = b := by
  unfold torn
  rw [List.take_of_length_le (by omega)]
  simp
theorem torn_not (k : Nat) (b : List UInt8) (hb : b.length = 128) (hk : k < 128) (kind : UInt8) : ¬ formB kind (torn k b) := by
  intro h
  have h1 := h.2.2.2.2
  unfold torn at h1
  rw [List.getElem?_append, List.length_take, if_neg (by omega), List.getElem?_replicate, if_pos (by omega)] at h1
  exact absurd (Option.some.inj h1) (by decide)
theorem torn_long (g s : Int) (A : Option Addr) (n c : Nat) (h : n > 112) (kp : UInt8) (w : World) : Calls Try.prog 5 #[.int .u32 g, .int .u16 s, .slice A n c, .int .u8 (nB kp)] w fun e w' => e = .returned (.bool true) ∧ Below w.heap.size w w' := by
  have m1 : decide ((n : Int) > 112) = true := by rw [decide_eq_true_eq]; omega
  go_enter Try.func5, Try.ntmps5
  go_wp2_with fail
  refine (alive08 w).mono ?_
  rintro e w1 ⟨rfl, hb⟩
  go_wp2_with fail
  go_ret
  exact ⟨rfl, hb⟩
/-- Where only the disk has turned. -/
theorem below_only {w0 w w' : World} {g r : Nat} (h : Below w0.heap.size w0 w) (ho : Only [g, r] w w') (hg : w0.heap.size ≤ g) (hr : w0.heap.size ≤ r) : Below w0.heap.size w0 w' :=
  h.trans (ho.less (by intro k hk; simp at hk; rcases hk with rfl | rfl; exact hg; exact hr) h.size)
theorem rd_only2 {bs : List Nat} {w w' : World} {A : Option Addr} {xs : List Value} (h : Rd w A xs) (ho : Only bs w w') (hg : ∀ a, A = some a → a.block ∉ bs) : Rd w' A xs := by
  intro i hi
  obtain ⟨a, ha, hc⟩ := h i hi
  refine ⟨a, ha, (World.cell?_of_block (w := w) (ho.keep _ (World.block_lt_of_cell? w _ hc) ?_)).trans hc⟩
  rw [block_add]; exact hg a ha
theorem tt1 (g : Nat) : ((g : Int)).tdiv 2 = ((g / 2 : Nat) : Int) := by rw [Int.tdiv_eq_ediv_of_nonneg (by omega)]; omega
theorem tt2 (g : Nat) : (g : Int) / 2 = ((g / 2 : Nat) : Int) := by omega
theorem tt3 (G : Nat) (h : G ≤ 2147483647) : wrap64 (G : Int) = (G : Int) := by unfold wrap64; omega
theorem tt4 (G : Nat) (h : G ≤ 2147483647) : IntKind.i64.wrap (G : Int) = (G : Int) := by rw [IntKind.wrap_i64]; omega
theorem tt7 (G : Nat) (h : G ≤ 2147483647) : (G : Int) % 4294967296 = (G : Int) := by omega
theorem tt8 (kp : UInt8) : (nB kp).tmod 129 = ((kp.toNat % 129 : Nat) : Int) := by rw [nB_tmod]; unfold nB; omega
theorem tt9 (k : Nat) : k % 129 ≤ 128 := by have := Nat.mod_lt k (show 0 < 129 by decide); omega
theorem tt10 (kp : UInt8) : wrap64 (nB kp) = nB kp := by have := u8_lo kp; have := u8_hi kp; unfold wrap64; omega
theorem tt11 (g : Nat) (h : g < 4294967296) : g / 2 ≤ 2147483647 := by omega
set_option maxRecDepth 10000 in
set_option maxHeartbeats 8000000 in
theorem torn_walk (g s : Nat) (hg : g < 4294967296) (hs : s ≤ 65535) (A : Option Addr) (n c : Nat) (b : List UInt8) (hn : n = b.length) (hb : n ≤ 112) (hA : A = none → c = 0) (kp : UInt8) (w : World) (hR : Rd w A (bys b)) : Calls Try.prog 5 #[.int .u32 g, .int .u16 s, .slice A n c, .int .u8 (nB kp)] w fun e w' => e = .returned (.bool true) ∧ Below w.heap.size w w' := by
  have m1 : decide ((n : Int) > 112) = false := by rw [decide_eq_false_iff_not]; omega
  have HR := Lib.hid hR
  have HN := Lib.hid hn
  have e1 := tt1 g
  have e2 := tt2 g
  have hg2 := tt11 g hg
  obtain ⟨G, hG⟩ : ∃ G, g / 2 = G := ⟨_, rfl⟩
  rw [hG] at e1 e2 hg2
  have e3 := tt3 G hg2
  have e4 := tt4 G hg2
  have e7 := tt7 G hg2
  have e5 := tt3 s (Nat.le_trans hs (by decide))
  have e6 := tt4 s (Nat.le_trans hs (by decide))
  have hkk := tt8 kp
  have hp129 := tt9 kp.toNat
  have hwk := tt10 kp
  obtain ⟨K, hK⟩ : ∃ k, kp.toNat % 129 = k := ⟨_, rfl⟩
  rw [hK] at hkk hp129
  have hro := read_of 82 G s b hg2 hs (by omega)
  rw [← hn] at hro
  obtain ⟨BK, hBK⟩ : ∃ BK, blockF 82 G s b = BK := ⟨_, rfl⟩
  rw [hBK] at hro
  have HBK := Lib.hid hBK
  have HRO := Lib.hid hro
  have Hg := Lib.hid hg2
  have Hs := Lib.hid hs
  clear hR hn hro hBK hg hs hg2 hK hG
  go_enter Try.func5, Try.ntmps5
  go_wp2_with fail
  refine (WriteOk_calls 82 G s Hg.out Hs.out A n c b HN.out hb hA w HR.out).mono ?_
  rintro e w1 ⟨v1, rfl, hv1, hb1⟩
  rw [HBK.out] at hv1
  have H1 := Lib.hid hb1
  obtain ⟨g1, c1, rfl, hc1, -, -, hg1l, hr1⟩ := Has.row hv1 127 HRO.out.1
  have HX1 := Lib.hid hr1
  clear hb1 hv1 hr1
  go_wp2_with fail
  refine (Dk.New_calls 1 (by decide) (by decide) w1).mono ?_
  rintro e w2 ⟨d, r, rfl, hd, hr, hI, hb2⟩
  have H2 := Lib.hid (H1.out.trans (hb2.mono H1.out.size))
  have HI2 := Lib.hid hI
  have HX2 := Lib.hid (HX1.out.below hb2)
  have hdw : w.heap.size ≤ d := Nat.le_trans H1.out.size hd
  have hrw : w.heap.size ≤ r := Nat.le_trans H1.out.size hr
  have hne : g1 ≠ d ∧ g1 ≠ r := by omega
  clear hI hb2 HX1 hd hr
  have hAE : armE 0 K = 0 := if_neg (by omega)
  have hAD : armD (D0 1) 0 K = { D0 1 with armed := true, left := 0, keep := K } := if_neg (by omega)
  go_wp2_with fail
  have hArm := Dk.Arm_calls HI2.out 0 K
  rw [hAE, hAD] at hArm
  refine hArm.mono ?_
  rintro e w3 ⟨rfl, ho3, hi3⟩
  have ho3' : Only [d, r] w2 w3 := ho3.mono (by simp)
  have H3 := Lib.hid (below_only H2.out ho3' hdw hrw)
  have HI3 := Lib.hid hi3
  have HX3 := Lib.hid (rd_only2 HX2.out ho3' (by intro a ha; cases ha; simp; exact hne))
  clear hArm ho3 ho3' hi3 hAE hAD HX2 HI2
  go_wp2_with fail
  have hWT := Dk.WriteTorn_calls HI3.out 0 (by decide) (by decide) rfl ⟨g1, 0, none⟩ c1 BK HRO.out.1 hc1 HX3.out hne.1 (show (0 : Int) ≤ 0 ∧ (0 : Int) < 1099511627776 by decide) (show (0 : Int) ≤ (K : Int) ∧ (K : Int) ≤ 128 by omega) rfl rfl
  refine hWT.mono ?_
  rintro e w4 ⟨rfl, ho4, hi4⟩
  have H4 := Lib.hid (below_only H3.out ho4 hdw hrw)
  have HI4 := Lib.hid hi4
  clear hWT ho4 hi4 HX3 HI3
  go_wp2_with fail
  refine (Dk.Power_calls HI4.out).mono ?_
  rintro e w5 ⟨rfl, ho5, hi5⟩
  have H5 := Lib.hid (below_only H4.out (ho5.mono (by simp)) hdw hrw)
  have HI5 := Lib.hid hi5
  clear ho5 hi5 HI4
  go_wp2_with fail
  have hrow : rowB (putRow (D0 1).all 0 (torn (K : Int).toNat BK)) 0 = torn K BK := by
    rw [Int.toNat_natCast, rowB_put (D0 1).all (torn K BK) 1 0 0 (show (D0 1).all.length = 1 * 128 from List.length_replicate) (by decide) (by decide) (torn_len K BK HRO.out.1 hp129), if_pos rfl]
  refine (Dk.ReadOk_calls HI5.out 0 (by decide) (by decide) rfl).mono ?_
  rintro e w6 ⟨x, rfl, hx6, hxr, hb6⟩
  have hxr' : w6.heap[x]? = some (.cells ⟨bys (torn K BK)⟩ 57 (0, 0)) := by rw [← hrow]; exact hxr
  have H6 := Lib.hid (H5.out.trans (hb6.mono H5.out.size))
  have hRx : Rd w6 (some ⟨x, 0, none⟩) (bys (torn K BK)) := by
    intro i hi
    refine ⟨_, rfl, ?_⟩
    rw [show (⟨x, 0, none⟩ : Addr).add i = ⟨x, i, none⟩ from by unfold Addr.add; split <;> simp_all, cell_of_row w6 x i _ _ _ hxr']
    simp [hi]
  have HRx := Lib.hid hRx
  clear hxr hxr' hb6 hRx hrow HI5
  have HT := Lib.hid (torn_len K BK HRO.out.1 hp129)
  by_cases hK : K = 128
  · subst hK
    have hta := torn_all BK HRO.out.1
    rw [hta] at HRx
    clear hta HT
    have f1 : decide ((128 : Nat) = 128) = true := rfl
    go_wp2_with fail
    have hok := ReadOk_calls 82 ⟨x, 0, none⟩ 128 BK HRO.out.1 (Nat.le_refl _) w6 HRx.out HRO.out.2.1 HRO.out.2.2.1 ⟨by rw [HRO.out.2.2.2.1]; exact Hg.out, by rw [HRO.out.2.2.2.2.2.1]; exact hb, HRO.out.2.2.2.2.2.2.2⟩
    rw [HRO.out.2.2.2.1, HRO.out.2.2.2.2.1, HRO.out.2.2.2.2.2.1, HRO.out.2.2.2.2.2.2.1] at hok
    refine hok.mono ?_
    rintro e w7 ⟨⟨A3, c3, rfl, hc3, hA3, hr3, -⟩, hb7⟩
    have H7 := Lib.hid (H6.out.trans (hb7.mono H6.out.size))
    have kz := run_string_of (w := w7) Try.underlying22 Try.underlying5 Try.underlying9 A3 n c3 b HN.out hA3 hr3
    have kw := run_string_of (w := w7) Try.underlying22 Try.underlying5 Try.underlying9 A n c b HN.out hA (HR.out.below H7.out)
    clear hb7 hr3 hok
    go_wp2_with fail
    refine (alive08 _).mono ?_
    rintro e wz ⟨rfl, hbz⟩
    have Hz := H7.out.trans (hbz.mono H7.out.size)
    go_wp2_with fail
    go_ret
    exact ⟨rfl, Hz⟩
  · have hK2 : ((K : Int) == 128) = false := by rw [beq_eq_false_iff_ne]; omega
    have hK3 : ¬ (K : Int) = 128 := by omega
    have hnf := torn_not K BK HRO.out.1 (by omega) 82
    have HNF := Lib.hid hnf
    clear hnf
    go_wp2_with fail
    refine (ReadForm_calls 82 ⟨x, 0, none⟩ 128 (torn K BK) HT.out (Nat.le_refl _) w6 HRx.out HNF.out).mono ?_
    rintro e w7 ⟨rfl, hb7⟩
    have H7 := Lib.hid (H6.out.trans (hb7.mono H6.out.size))
    clear hb7
    go_wp2_with fail
    refine (alive08 _).mono ?_
    rintro e wz ⟨rfl, hbz⟩
    have Hz := H7.out.trans (hbz.mono H7.out.size)
    go_wp2_with fail
    go_ret
    exact ⟨rfl, Hz⟩
/-- FrameTorn, whatever comes in. -/
theorem torn_all_walk (g : Int) (hg : (Lit.int .u32 g).wf = true) (s : Int) (hs : (Lit.int .u16 s).wf = true) (A : Option Addr) (c : Nat) (b : List UInt8) (hc : b.length ≤ c) (hA : A = none → c = 0) (kp : UInt8) (w : World) (hR : Rd w A (bys b)) :
    Calls Try.prog 5 #[.int .u32 g, .int .u16 s, .slice A b.length c, .int .u8 (nB kp)] w fun e w' => e = .returned (.bool true) ∧ Below w.heap.size w w' := by
  by_cases h1 : b.length > 112
  · exact torn_long g s A b.length c h1 kp w
  · have h2 : 0 ≤ g ∧ g < 4294967296 := by simp [Lit.wf, IntKind.min, IntKind.max, IntKind.bits, IntKind.signed] at hg; omega
    have h3 : 0 ≤ s ∧ s < 65536 := by simp [Lit.wf, IntKind.min, IntKind.max, IntKind.bits, IntKind.signed] at hs; omega
    obtain ⟨G, rfl⟩ : ∃ G : Nat, g = G := ⟨g.toNat, by omega⟩
    obtain ⟨S, rfl⟩ : ∃ S : Nat, s = S := ⟨s.toNat, by omega⟩
    exact torn_walk G S (by omega) (by omega) A b.length c b rfl (by omega) hA kp w hR
end Go.Proofs.Ytohdldlagkmcnaa.Fr
