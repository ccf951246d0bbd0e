/- Chapter 07: the walk of DiskPlays. -/
import Derived.Test.YtinommcocgnmlaaDkF
import Derived.Test.YtinommcocgnmlaaDkNo
import Derived.Test.YtinommcocgnmlaaTurn
namespace Go.Proofs.Ytinommcocgnmlaa.Dk
open Go.RowKit _root_.Go.Proofs.Ytinommcocgnmlaa.Own
set_option linter.unusedVariables false
set_option linter.unusedSimpArgs false
structure Ac where
  k : Int
  i : Int
  p : Int
  b : UInt8
  s : Int
  hk : 0 ≤ k ∧ k < 256
  hi : i ≤ 9223372036854775807
  hs : -128 ≤ s ∧ s ≤ 127
def Ac.cells (a : Ac) : List Value := [.int .u8 a.k, .int .i64 a.i, .int .i64 a.p, .int .u8 (nB a.b), .int .i8 a.s]
def ActsRd (w : World) (A : Option Addr) (l : List Ac) : Prop := ∀ j (h : j < l.length), ∃ a, A = some a ∧ ∀ f v, (l[j].cells)[f]? = some v → w.cell? (a.add (j * 5 + f)) = some v
theorem add_pos (a : Addr) (k : Nat) (hk : 0 < k) : a.add k = ⟨a.block, a.off + k, none⟩ := by unfold Addr.add; rw [if_neg (by omega)]
theorem act_row {w : World} {x : Nat} {k i p b s : Value} {t : TypeId} {fr : Nat × Nat} (h : w.heap[x]? = some (.cells ⟨[k, i, p, b, s]⟩ t fr)) : w.cell? ⟨x, 0, none⟩ = some k ∧ w.cell? ⟨x, 1, none⟩ = some i ∧ w.cell? ⟨x, 2, none⟩ = some p ∧ w.cell? ⟨x, 3, none⟩ = some b ∧ w.cell? ⟨x, 4, none⟩ = some s := by
  have k := fun i => cell_of_row w x i _ _ _ h
  exact ⟨k 0, k 1, k 2, k 3, k 4⟩
theorem Bytes_sl (k i p : Int) (b : UInt8) (s : Int) (hs : -128 ≤ s ∧ s ≤ 127) (N : Nat) (hN : actLen s = N) (w : World) :
    Calls Try.prog 17 #[.agg #[.int .u8 k, .int .i64 i, .int .i64 p, .int .u8 (nB b), .int .i8 s]] w fun e w' => ∃ A c, e = .returned (.slice A N c) ∧ N ≤ c ∧ (A = none → c = 0) ∧ Rd w' A (bys (ups b N)) ∧ (∀ a, A = some a → w.heap.size ≤ a.block) ∧ Below w.heap.size w w' := by
  subst hN
  refine (Bytes_calls k i p b s hs w).mono ?_
  rintro e w' ⟨v, rfl, hv, hb⟩
  obtain ⟨A, c, rfl, hc, hA, hR⟩ := hv.form
  rw [bys_length, ups_length] at hc ⊢
  exact ⟨A, c, rfl, hc, hA, hR, fun a ha => (hv.blk a.block (by subst ha; rfl)).1, hb⟩
theorem plays_bad (m : Int) (hm : m < 1 ∨ m > 1024) (A : Option Addr) (N c : Nat) (w : World) : Calls Try.prog 3 #[.int .i64 m, .slice A N c] w fun e w' => e = .returned (.bool true) ∧ Below w.heap.size w w' := by
  have H0 := At.refl w
  by_cases h1 : m < 1
  · have m1 := decide_eq_true h1
    go_enter Try.func3, Try.ntmps3
    go_wp2_with fail
    refine callAt (NewBad_calls m hm w) H0 ?_
    rintro e w1 rfl H1
    go_wp2_with fail
    refine callAt (alive07 w1) H1 ?_
    rintro e w2 rfl H2
    go_wp2_with fail
    go_ret
    exact ⟨rfl, H2.below⟩
  · have m1 := decide_eq_false h1
    have m2 : decide (m > 1024) = true := by rw [decide_eq_true_eq]; omega
    go_enter Try.func3, Try.ntmps3
    go_wp2_with fail
    refine callAt (NewBad_calls m hm w) H0 ?_
    rintro e w1 rfl H1
    go_wp2_with fail
    refine callAt (alive07 w1) H1 ?_
    rintro e w2 rfl H2
    go_wp2_with fail
    go_ret
    exact ⟨rfl, H2.below⟩
theorem plays_long (n : Nat) (hn : 1 ≤ n ∧ n ≤ 1024) (A : Option Addr) (N c : Nat) (h : N > 30 ∨ n > 40) (w : World) : Calls Try.prog 3 #[.int .i64 n, .slice A N c] w fun e w' => e = .returned (.bool true) ∧ Below w.heap.size w w' := by
  have m1 : decide ((n : Int) < 1) = false := by rw [decide_eq_false_iff_not]; omega
  have m2 : decide ((n : Int) > 1024) = false := by rw [decide_eq_false_iff_not]; omega
  by_cases h1 : N > 30
  · have m3 : decide ((N : Int) > 30) = true := by rw [decide_eq_true_eq]; omega
    go_enter Try.func3, Try.ntmps3
    go_wp2_with fail
    refine (New_calls n hn.1 hn.2 w).mono ?_
    rintro e w1 ⟨g, r, rfl, hg, hr, hI, hb⟩
    have S1 : St w g r n n [] (D0 n) w1 := ⟨hb, hI, hg, hr⟩
    clear hI hb
    go_wp2_with fail
    refine callSt (Len_calls S1.is) S1 ?_
    rintro e w2 rfl S2
    go_wp2_with fail
    refine callSt (alive07 w2) S2 ?_
    rintro e w3 rfl S3
    go_wp2_with fail
    go_ret
    exact ⟨rfl, S3.below⟩
  · have m3 : decide ((N : Int) > 30) = false := by rw [decide_eq_false_iff_not]; omega
    have m4 : decide ((n : Int) > 40) = true := by rw [decide_eq_true_eq]; omega
    go_enter Try.func3, Try.ntmps3
    go_wp2_with fail
    refine (New_calls n hn.1 hn.2 w).mono ?_
    rintro e w1 ⟨g, r, rfl, hg, hr, hI, hb⟩
    have S1 : St w g r n n [] (D0 n) w1 := ⟨hb, hI, hg, hr⟩
    clear hI hb
    go_wp2_with fail
    refine callSt (Len_calls S1.is) S1 ?_
    rintro e w2 rfl S2
    go_wp2_with fail
    refine callSt (alive07 w2) S2 ?_
    rintro e w3 rfl S3
    go_wp2_with fail
    go_ret
    exact ⟨rfl, S3.below⟩
set_option maxRecDepth 10000 in
set_option maxHeartbeats 8000000 in
theorem plays_walk (n : Nat) (hn : 1 ≤ n ∧ n ≤ 40) (A : Option Addr) (c : Nat) (l : List Ac) (hl : l.length ≤ 30) (hc : l.length ≤ c) (w : World) (hR : ActsRd w A l) : Calls Try.prog 3 #[.int .i64 n, .slice A l.length c] w fun e w' => e = .returned (.bool true) ∧ Below w.heap.size w w' := by
  have m1 : decide ((n : Int) < 1) = false := by rw [decide_eq_false_iff_not]; omega
  have m2 : decide ((n : Int) > 1024) = false := by rw [decide_eq_false_iff_not]; omega
  have m3 : decide ((n : Int) > 40) = false := by rw [decide_eq_false_iff_not]; omega
  have m4 : decide ((l.length : Int) > 30) = false := by rw [decide_eq_false_iff_not]; omega
  have HR := Lib.hid hR
  clear hR
  go_enter Try.func3, Try.ntmps3
  go_wp2_with fail
  refine (New_calls n hn.1 (by omega) w).mono ?_
  rintro e w1 ⟨g, r, rfl, hg, hr, hI, hb⟩
  have S1 : St w g r n n [] (D0 n) w1 := ⟨hb, hI, hg, hr⟩
  clear hI hb
  go_wp2_with fail
  refine (RNew_calls n (by omega) w1).mono ?_
  rintro e w2 ⟨q, rfl, hq, hqr, hb2⟩
  have S2 := S1.call hb2
  have S1s := S1.below.size
  clear S1
  have HI2 : RIs w2.heap.size q n (RD0 n) (w2.alloc (.cells ⟨rcells q (n * 128) (RD0 n)⟩ 31 (0, 0))) := ⟨heap_alloc_new w2 _, (Below.heap_alloc w2 _ q (blk_lt hqr)).trans hqr, by simp [RD0]⟩
  have P0 : PS w g r n w2.heap.size q (D0 n) (RD0 n) (w2.alloc (.cells ⟨rcells q (n * 128) (RD0 n)⟩ 31 (0, 0))) :=
    ⟨S2.below.alloc S2.below.size _, S2.is.below ((Below.refl _ _).alloc (Nat.le_refl _) _), HI2, S2.own.1, S2.own.2, S2.below.size, by omega⟩
  have HP0 := Lib.hid P0
  clear P0 HI2 S2 hqr hb2
  rw [rcells_is]
  go_wp2_with fail
  go_loopw [8] (fun v8 wr => ∃ (j : Nat) (d : D) (rd : RD), j ≤ l.length ∧ v8 = .int .i64 j ∧ Hid (Rel d rd j) ∧ Hid (PS w g r n w2.heap.size q d rd wr)) (fun v8 _ => l.length - (intOf v8).toNat)
  case atStart => exact ⟨0, D0 n, RD0 n, Nat.zero_le _, rfl, Lib.hid (Rel.new n), HP0⟩
  case round =>
    clear HP0
    obtain ⟨j, d, rd, hj, rfl, HL, HP⟩ := hrel
    by_cases hlt : j < l.length
    · have hd : decide ((j : Int) < (l.length : Int)) = true := by rw [decide_eq_true_eq]; omega
      obtain ⟨ad, rfl, hcell⟩ := HR.out j hlt
      obtain ⟨⟨ak, ai, ap, ab, sz, hk, hi, hs⟩, hx⟩ : ∃ x, l[j] = x := ⟨_, rfl⟩
      rw [hx] at hcell
      have hlow : ∀ f v, ([Value.int .u8 ak, .int .i64 ai, .int .i64 ap, .int .u8 (nB ab), .int .i8 sz] : List Value)[f]? = some v → wr.cell? (ad.add (j * 5 + f)) = some v := fun f v hf => (HP.out.below.cell (World.block_lt_of_cell? w _ (hcell f v hf))).trans (hcell f v hf)
      have x0 : wr.cell? (ad.add (j * 5)) = _ := hlow 0 _ rfl
      have x1 := hlow 1 _ rfl
      rw [← add_add', add_pos _ 1 (by decide)] at x1
      have x2 := hlow 2 _ rfl
      rw [← add_add', add_pos _ 2 (by decide)] at x2
      have x3 := hlow 3 _ rfl
      rw [← add_add', add_pos _ 3 (by decide)] at x3
      have x4 := hlow 4 _ rfl
      rw [← add_add', add_pos _ 4 (by decide)] at x4
      clear hlow hcell hx
      -- the round
      have HP1 := Lib.hid (HP.out.call ((Below.refl _ _).alloc (Nat.le_refl _) (.cells ⟨[Value.int .u8 ak, .int .i64 ai, .int .i64 ap, .int .u8 (nB ab), .int .i8 sz]⟩ 35 (0, 0))))
      have hm : ak.tmod 4 = 0 ∨ ak.tmod 4 = 1 ∨ ak.tmod 4 = 2 ∨ ak.tmod 4 = 3 := by
        rw [Int.tmod_eq_emod_of_nonneg hk.1]; omega
      rcases hm with hm | hm | hm | hm
      · -- Write
        obtain ⟨J, hJ⟩ : ∃ J : World → Prop, ∀ W, J W ↔ W.heap[wr.heap.size]? = some (.cells ⟨[Value.int .u8 ak, .int .i64 ai, .int .i64 ap, .int .u8 (nB ab), .int .i8 sz]⟩ 35 (0, 0)) := ⟨_, fun _ => Iff.rfl⟩
        have K := fun w1 h1 => act_row ((hJ w1).1 h1)
        have HJ := Lib.hid hJ
        have hj1 := (HJ.out (World.drew (wr.alloc (.cells ⟨[Value.int .u8 ak, .int .i64 ai, .int .i64 ap, .int .u8 (nB ab), .int .i8 sz]⟩ 35 (0, 0))))).2 (heap_alloc_new wr _)
        clear hJ
        obtain ⟨N, hN⟩ : ∃ N, actLen sz = N := ⟨_, rfl⟩
        obtain ⟨E, d', rd', hrel', hW, hRW⟩ := write_step HL.out (by omega) ai N (ups ab N) (ups_length _ _) (by omega : n ≤ 1024)
        have HW := Lib.hid hW
        have HRW := Lib.hid hRW
        have HL' := Lib.hid hrel'
        clear hW hRW hrel'
        go_wp2
        clear x0 x1 x2 x3 x4
        refine Turn.region_seq [0, 1, 2, 3, 6, 7, 8, 4, 5, 9, 10, 11, 12] (fun i => i == 4 || i == 5 || i == 9 || i == 10) J (by kernel_rfl) (by kernel_rfl) hj1 ?_
        have HP2 := Lib.hid (HP1.out.call ((Below.refl _ _).drew))
        have HB2 := hj1
        clear HP1 hj1
        repeat (first | (apply Turn.seq_yes; (· simp only [List.getElem?_toArray, List.getElem?_cons_succ, List.getElem?_cons_zero]; rfl); (· rfl); (· go_simp); (· intro w1 h1; obtain ⟨z0, z1, z2, z3, z4⟩ := K w1 h1; go_simp; exact ⟨rfl, h1⟩); (· go_simp; rfl)) | (apply Turn.seq_no; (· simp only [List.getElem?_toArray, List.getElem?_cons_succ, List.getElem?_cons_zero]; rfl); (· go_simp); (· go_simp; rfl)))
        apply Turn.seq_call
        · simp only [List.getElem?_toArray, List.getElem?_cons_succ, List.getElem?_cons_zero]; rfl
        · rfl
        · go_simp
        · intro v; go_simp; rfl
        go_simp
        refine (Bytes_sl ak ai ap ab sz hs N hN _).mono ?_
        rintro e w3 ⟨A3, c3, rfl, hc3, hA3, hR3, hn3, hb3⟩
        have HP3 := Lib.hid (HP2.out.call hb3)
        have HB3 := (HJ.out _).2 ((hb3.block _ (blk_lt ((HJ.out _).1 HB2))).trans ((HJ.out _).1 HB2))
        refine ⟨_, rfl, HB3, ?_⟩
        repeat (first | (apply Turn.seq_yes; (· simp only [List.getElem?_toArray, List.getElem?_cons_succ, List.getElem?_cons_zero]; rfl); (· rfl); (· go_simp); (· intro w1 h1; obtain ⟨z0, z1, z2, z3, z4⟩ := K w1 h1; go_simp; exact ⟨rfl, h1⟩); (· go_simp; rfl)) | (apply Turn.seq_no; (· simp only [List.getElem?_toArray, List.getElem?_cons_succ, List.getElem?_cons_zero]; rfl); (· go_simp); (· go_simp; rfl)))
        apply Turn.seq_call
        · simp only [List.getElem?_toArray, List.getElem?_cons_succ, List.getElem?_cons_zero]; rfl
        · rfl
        · go_simp
        · intro v; go_simp; rfl
        go_simp
        refine (HW.out g r n [] A3 c3 _ (Nat.le_refl n) HP3.out.is hA3 hc3 hR3 ?_).mono ?_
        · intro a ha; exact Ne.symm (Nat.ne_of_lt (Nat.lt_of_lt_of_le (blk_lt HP2.out.is.own) (hn3 a ha)))
        rintro e w4 ⟨rfl, ho4, hi4⟩
        have HP4 := Lib.hid (HP3.out.turn ho4 hi4)
        have HB4 := (HJ.out _).2 ((ho4.keep _ (blk_lt ((HJ.out _).1 HB3)) (HP3.out.other ((HJ.out _).1 HB3)).1).trans ((HJ.out _).1 HB3))
        clear ho4 hi4 hR3 hn3 hb3 HB3 HP3
        refine ⟨_, rfl, HB4, ?_⟩
        repeat (first | (apply Turn.seq_yes; (· simp only [List.getElem?_toArray, List.getElem?_cons_succ, List.getElem?_cons_zero]; rfl); (· rfl); (· go_simp); (· intro w1 h1; obtain ⟨z0, z1, z2, z3, z4⟩ := K w1 h1; go_simp; exact ⟨rfl, h1⟩); (· go_simp; rfl)) | (apply Turn.seq_no; (· simp only [List.getElem?_toArray, List.getElem?_cons_succ, List.getElem?_cons_zero]; rfl); (· go_simp); (· go_simp; rfl)))
        apply Turn.seq_call
        · simp only [List.getElem?_toArray, List.getElem?_cons_succ, List.getElem?_cons_zero]; rfl
        · rfl
        · go_simp
        · intro v; go_simp; rfl
        go_simp
        refine (Bytes_sl ak ai ap ab sz hs N hN _).mono ?_
        rintro e w5 ⟨A5, c5, rfl, hc5, hA5, hR5, hn5, hb5⟩
        have HP5 := Lib.hid (HP4.out.call hb5)
        have HB5 := (HJ.out _).2 ((hb5.block _ (blk_lt ((HJ.out _).1 HB4))).trans ((HJ.out _).1 HB4))
        refine ⟨_, rfl, HB5, ?_⟩
        repeat (first | (apply Turn.seq_yes; (· simp only [List.getElem?_toArray, List.getElem?_cons_succ, List.getElem?_cons_zero]; rfl); (· rfl); (· go_simp); (· intro w1 h1; obtain ⟨z0, z1, z2, z3, z4⟩ := K w1 h1; go_simp; exact ⟨rfl, h1⟩); (· go_simp; rfl)) | (apply Turn.seq_no; (· simp only [List.getElem?_toArray, List.getElem?_cons_succ, List.getElem?_cons_zero]; rfl); (· go_simp); (· go_simp; rfl)))
        apply Turn.seq_call
        · simp only [List.getElem?_toArray, List.getElem?_cons_succ, List.getElem?_cons_zero]; rfl
        · rfl
        · go_simp
        · intro v; go_simp; rfl
        go_simp
        refine (HRW.out w2.heap.size q A5 c5 _ HP5.out.ris hA5 hc5 hR5 ?_).mono ?_
        · intro a ha; have := hn5 a ha; have := blk_lt HP4.out.ris.own; have := blk_lt HP4.out.ris.row; omega
        rintro e w6 ⟨rfl, ho6, hi6⟩
        have HP6 := Lib.hid (HP5.out.rturn ho6 hi6)
        have HB6 := (HJ.out _).2 ((ho6.keep _ (blk_lt ((HJ.out _).1 HB5)) (HP5.out.other ((HJ.out _).1 HB5)).2).trans ((HJ.out _).1 HB5))
        clear ho6 hi6 hR5 hn5 hb5 HB5 HP5
        refine ⟨_, rfl, HB6, ?_⟩
        repeat (first | (apply Turn.seq_yes; (· simp only [List.getElem?_toArray, List.getElem?_cons_succ, List.getElem?_cons_zero]; rfl); (· rfl); (· go_simp); (· intro w1 h1; obtain ⟨z0, z1, z2, z3, z4⟩ := K w1 h1; go_simp; exact ⟨rfl, h1⟩); (· go_simp; rfl)) | (apply Turn.seq_no; (· simp only [List.getElem?_toArray, List.getElem?_cons_succ, List.getElem?_cons_zero]; rfl); (· go_simp); (· go_simp; rfl)))
        apply Turn.seq_nil
        clear K HJ HB6 HB4
        have HP9 := Lib.hid (HP6.out)
        have HL9 := Lib.hid (HL'.out)
        clear HP HL
        obtain ⟨y0, y1, y2, y3, y4⟩ := HP9.out.ris.cells
        have f9 : IntKind.i64.wrap ((j : Int) + 1) = ((j + 1 : Nat) : Int) := by rw [IntKind.wrap_i64]; omega
        go_wp2_with fail
        have hS := same_calls HP9.out.is HP9.out.ris.row HL9.out.all HL9.out.off HL9.out.wr (by omega) (Nat.le_refl n)
        rw [rcells_is] at hS
        refine hS.mono ?_
        rintro e w9 ⟨rfl, hb9⟩
        have HP10 := Lib.hid (HP9.out.call hb9)
        clear hS hb9 y0 y1 y2 y3 y4 HP9
        go_wp2_with fail
        go_roundw
        case rel => exact ⟨j + 1, _, _, by omega, by simp, HL9, HP10⟩
        case measure => simp [intOf]; omega
      · -- Read
        by_cases c1 : 0 ≤ ai ∧ ai < n
        · cases c2 : d.off with
          | true =>
            have hE : (¬ (0 ≤ ai ∧ ai < n) ∧ (19 : Int) = 8) ∨ ((0 ≤ ai ∧ ai < n) ∧ d.off = true ∧ (19 : Int) = 19) := (.inr ⟨c1, c2, rfl⟩)
            have hE' : (¬ (0 ≤ ai ∧ ai < n) ∧ (19 : Int) = 8) ∨ ((0 ≤ ai ∧ ai < n) ∧ rd.off = true ∧ (19 : Int) = 19) := (by rw [HL.out.off]; exact hE)
            have hRB := Lib.hid (ReadBad_calls HP1.out.is ai 19 hE)
            have hRR := Lib.hid (fun (W : World) (hr : RIs w2.heap.size q n rd W) => RReadBad_calls hr (by omega) ai 19 hE')
            clear hE hE'
            go_wp2_with fail
            refine hRB.out.mono ?_
            rintro e w3 ⟨rfl, hb3⟩
            have HP3 := Lib.hid (HP1.out.call hb3)
            have z1 := (hb3.cell (blk_lt (heap_alloc_new wr _))).trans (act_row (heap_alloc_new wr _)).2.1
            clear hb3 x0 x1 x2 x3 x4
            go_wp2_with fail
            refine (hRR.out _ HP3.out.ris).mono ?_
            rintro e w4 ⟨rfl, hb4⟩
            have HP4 := Lib.hid (HP3.out.call hb4)
            have kx := run_string_of (w := w4) Try.underlying29 Try.underlying5 Try.underlying9 none 0 0 [] rfl (fun _ => rfl) (Rd.nil _ _)
            clear hb4 z1
            have HP9 := Lib.hid (HP4.out)
            have HL9 := Lib.hid (HL.out.mono (Nat.le_succ j))
            clear HP HL
            obtain ⟨y0, y1, y2, y3, y4⟩ := HP9.out.ris.cells
            have f9 : IntKind.i64.wrap ((j : Int) + 1) = ((j + 1 : Nat) : Int) := by rw [IntKind.wrap_i64]; omega
            go_wp2_with fail
            have hS := same_calls HP9.out.is HP9.out.ris.row HL9.out.all HL9.out.off HL9.out.wr (by omega) (Nat.le_refl n)
            rw [rcells_is] at hS
            refine hS.mono ?_
            rintro e w9 ⟨rfl, hb9⟩
            have HP10 := Lib.hid (HP9.out.call hb9)
            clear hS hb9 y0 y1 y2 y3 y4 HP9
            go_wp2_with fail
            go_roundw
            case rel => exact ⟨j + 1, _, _, by omega, by simp, HL9, HP10⟩
            case measure => simp [intOf]; omega
          | false =>
            obtain ⟨i, rfl⟩ : ∃ i : Nat, ai = i := ⟨ai.toNat, by omega⟩
            have hin : i < n := by omega
            go_wp2_with fail
            refine (ReadOk_calls HP1.out.is i hin (Nat.le_refl n) c2).mono ?_
            rintro e w3 ⟨x, rfl, hx, hxr, hb3⟩
            have HP3 := Lib.hid (HP1.out.call hb3)
            have z1 := (hb3.cell (blk_lt (heap_alloc_new wr _))).trans (act_row (heap_alloc_new wr _)).2.1
            clear hb3 x0 x1 x2 x3 x4
            go_wp2_with fail
            refine (RReadOk_calls HP3.out.ris (by omega) i hin (by rw [HL.out.off]; exact c2)).mono ?_
            rintro e w4 ⟨v, rfl, hv, hb4⟩
            have HP4 := Lib.hid (HP3.out.call hb4)
            obtain ⟨A4, c4, rfl, hc4, hA4, hR4⟩ := hv.form
            have hl4 : (bys (rowB rd.all i)).length = 128 := by rw [bys_length]; exact rowB_length _ _ _ HP3.out.ris.len hin
            rw [hl4] at hc4 ⊢
            rw [HL.out.all] at hR4 hl4
            have hlr : (rowB d.all i).length = 128 := by rw [bys_length] at hl4; exact hl4
            have kx := run_string_of (w := w4) Try.underlying29 Try.underlying5 Try.underlying9 (some ⟨x, 0, none⟩) 128 128 (rowB d.all i) hlr.symm (fun h => nomatch h) ((Rd.of_row hxr).below hb4)
            have ky := run_string_of (w := w4) Try.underlying29 Try.underlying5 Try.underlying9 A4 128 c4 (rowB d.all i) hlr.symm hA4 hR4
            clear hb4 z1 hxr hR4 hl4 hlr hv
            have HP9 := Lib.hid (HP4.out)
            have HL9 := Lib.hid (HL.out.mono (Nat.le_succ j))
            clear HP HL
            obtain ⟨y0, y1, y2, y3, y4⟩ := HP9.out.ris.cells
            have f9 : IntKind.i64.wrap ((j : Int) + 1) = ((j + 1 : Nat) : Int) := by rw [IntKind.wrap_i64]; omega
            go_wp2_with fail
            have hS := same_calls HP9.out.is HP9.out.ris.row HL9.out.all HL9.out.off HL9.out.wr (by omega) (Nat.le_refl n)
            rw [rcells_is] at hS
            refine hS.mono ?_
            rintro e w9 ⟨rfl, hb9⟩
            have HP10 := Lib.hid (HP9.out.call hb9)
            clear hS hb9 y0 y1 y2 y3 y4 HP9
            go_wp2_with fail
            go_roundw
            case rel => exact ⟨j + 1, _, _, by omega, by simp, HL9, HP10⟩
            case measure => simp [intOf]; omega
        · have hE : (¬ (0 ≤ ai ∧ ai < n) ∧ (8 : Int) = 8) ∨ ((0 ≤ ai ∧ ai < n) ∧ d.off = true ∧ (8 : Int) = 19) := (.inl ⟨c1, rfl⟩)
          have hE' : (¬ (0 ≤ ai ∧ ai < n) ∧ (8 : Int) = 8) ∨ ((0 ≤ ai ∧ ai < n) ∧ rd.off = true ∧ (8 : Int) = 19) := (by rw [HL.out.off]; exact hE)
          have hRB := Lib.hid (ReadBad_calls HP1.out.is ai 8 hE)
          have hRR := Lib.hid (fun (W : World) (hr : RIs w2.heap.size q n rd W) => RReadBad_calls hr (by omega) ai 8 hE')
          clear hE hE'
          go_wp2_with fail
          refine hRB.out.mono ?_
          rintro e w3 ⟨rfl, hb3⟩
          have HP3 := Lib.hid (HP1.out.call hb3)
          have z1 := (hb3.cell (blk_lt (heap_alloc_new wr _))).trans (act_row (heap_alloc_new wr _)).2.1
          clear hb3 x0 x1 x2 x3 x4
          go_wp2_with fail
          refine (hRR.out _ HP3.out.ris).mono ?_
          rintro e w4 ⟨rfl, hb4⟩
          have HP4 := Lib.hid (HP3.out.call hb4)
          have kx := run_string_of (w := w4) Try.underlying29 Try.underlying5 Try.underlying9 none 0 0 [] rfl (fun _ => rfl) (Rd.nil _ _)
          clear hb4 z1
          have HP9 := Lib.hid (HP4.out)
          have HL9 := Lib.hid (HL.out.mono (Nat.le_succ j))
          clear HP HL
          obtain ⟨y0, y1, y2, y3, y4⟩ := HP9.out.ris.cells
          have f9 : IntKind.i64.wrap ((j : Int) + 1) = ((j + 1 : Nat) : Int) := by rw [IntKind.wrap_i64]; omega
          go_wp2_with fail
          have hS := same_calls HP9.out.is HP9.out.ris.row HL9.out.all HL9.out.off HL9.out.wr (by omega) (Nat.le_refl n)
          rw [rcells_is] at hS
          refine hS.mono ?_
          rintro e w9 ⟨rfl, hb9⟩
          have HP10 := Lib.hid (HP9.out.call hb9)
          clear hS hb9 y0 y1 y2 y3 y4 HP9
          go_wp2_with fail
          go_roundw
          case rel => exact ⟨j + 1, _, _, by omega, by simp, HL9, HP10⟩
          case measure => simp [intOf]; omega
      · -- Arm
        obtain ⟨J, hJ⟩ : ∃ J : World → Prop, ∀ W, J W ↔ W.heap[wr.heap.size]? = some (.cells ⟨[Value.int .u8 ak, .int .i64 ai, .int .i64 ap, .int .u8 (nB ab), .int .i8 sz]⟩ 35 (0, 0)) := ⟨_, fun _ => Iff.rfl⟩
        have K := fun w1 h1 => act_row ((hJ w1).1 h1)
        have HJ := Lib.hid hJ
        have hj1 := (HJ.out (World.drew (wr.alloc (.cells ⟨[Value.int .u8 ak, .int .i64 ai, .int .i64 ap, .int .u8 (nB ab), .int .i8 sz]⟩ 35 (0, 0))))).2 (heap_alloc_new wr _)
        clear hJ
        go_wp2
        clear x0 x1 x2 x3 x4
        refine Turn.region_seq [0, 1, 2, 3, 4, 6, 7, 8, 9, 5, 10, 11, 12] (fun i => i == 5 || i == 10) J (by kernel_rfl) (by kernel_rfl) hj1 ?_
        have HP2 := Lib.hid (HP1.out.call ((Below.refl _ _).drew))
        have HB2 := hj1
        clear HP1 hj1
        repeat (first | (apply Turn.seq_yes; (· simp only [List.getElem?_toArray, List.getElem?_cons_succ, List.getElem?_cons_zero]; rfl); (· rfl); (· go_simp); (· intro w1 h1; obtain ⟨z0, z1, z2, z3, z4⟩ := K w1 h1; go_simp; exact ⟨rfl, h1⟩); (· go_simp; rfl)) | (apply Turn.seq_no; (· simp only [List.getElem?_toArray, List.getElem?_cons_succ, List.getElem?_cons_zero]; rfl); (· go_simp); (· go_simp; rfl)))
        apply Turn.seq_call
        · simp only [List.getElem?_toArray, List.getElem?_cons_succ, List.getElem?_cons_zero]; rfl
        · rfl
        · go_simp
        · intro v; go_simp; rfl
        go_simp
        refine (Arm_calls HP2.out.is ai ap).mono ?_
        rintro e w3 ⟨rfl, ho3, hi3⟩
        replace ho3 : Only [g, r] _ w3 := ho3.mono (by simp)
        have HP3 := Lib.hid (HP2.out.turn ho3 hi3)
        have HB3 := (HJ.out _).2 ((ho3.keep _ (blk_lt ((HJ.out _).1 HB2)) (HP2.out.other ((HJ.out _).1 HB2)).1).trans ((HJ.out _).1 HB2))
        clear ho3 hi3
        refine ⟨_, rfl, HB3, ?_⟩
        repeat (first | (apply Turn.seq_yes; (· simp only [List.getElem?_toArray, List.getElem?_cons_succ, List.getElem?_cons_zero]; rfl); (· rfl); (· go_simp); (· intro w1 h1; obtain ⟨z0, z1, z2, z3, z4⟩ := K w1 h1; go_simp; exact ⟨rfl, h1⟩); (· go_simp; rfl)) | (apply Turn.seq_no; (· simp only [List.getElem?_toArray, List.getElem?_cons_succ, List.getElem?_cons_zero]; rfl); (· go_simp); (· go_simp; rfl)))
        apply Turn.seq_call
        · simp only [List.getElem?_toArray, List.getElem?_cons_succ, List.getElem?_cons_zero]; rfl
        · rfl
        · go_simp
        · intro v; go_simp; rfl
        go_simp
        refine (RArm_calls HP3.out.ris ai ap).mono ?_
        rintro e w4 ⟨rfl, ho4, hi4⟩
        replace ho4 : Only [w2.heap.size, q] _ w4 := ho4.mono (by simp)
        have HP4 := Lib.hid (HP3.out.rturn ho4 hi4)
        have HB4 := (HJ.out _).2 ((ho4.keep _ (blk_lt ((HJ.out _).1 HB3)) (HP3.out.other ((HJ.out _).1 HB3)).2).trans ((HJ.out _).1 HB3))
        clear ho4 hi4
        refine ⟨_, rfl, HB4, ?_⟩
        repeat (first | (apply Turn.seq_yes; (· simp only [List.getElem?_toArray, List.getElem?_cons_succ, List.getElem?_cons_zero]; rfl); (· rfl); (· go_simp); (· intro w1 h1; obtain ⟨z0, z1, z2, z3, z4⟩ := K w1 h1; go_simp; exact ⟨rfl, h1⟩); (· go_simp; rfl)) | (apply Turn.seq_no; (· simp only [List.getElem?_toArray, List.getElem?_cons_succ, List.getElem?_cons_zero]; rfl); (· go_simp); (· go_simp; rfl)))
        apply Turn.seq_nil
        clear K HJ HB4 HB3 HB2
        have HP9 := Lib.hid (HP4.out)
        have HL9 := Lib.hid ((HL.out.arm ai ap hi).mono (Nat.le_succ j))
        clear HP HL
        obtain ⟨y0, y1, y2, y3, y4⟩ := HP9.out.ris.cells
        have f9 : IntKind.i64.wrap ((j : Int) + 1) = ((j + 1 : Nat) : Int) := by rw [IntKind.wrap_i64]; omega
        go_wp2_with fail
        have hS := same_calls HP9.out.is HP9.out.ris.row HL9.out.all HL9.out.off HL9.out.wr (by omega) (Nat.le_refl n)
        rw [rcells_is] at hS
        refine hS.mono ?_
        rintro e w9 ⟨rfl, hb9⟩
        have HP10 := Lib.hid (HP9.out.call hb9)
        clear hS hb9 y0 y1 y2 y3 y4 HP9
        go_wp2_with fail
        go_roundw
        case rel => exact ⟨j + 1, _, _, by omega, by simp, HL9, HP10⟩
        case measure => simp [intOf]; omega
      · -- Power
        go_wp2_with fail
        refine (Power_calls HP1.out.is).mono ?_
        rintro e w3 ⟨rfl, ho3, hi3⟩
        replace ho3 : Only [g, r] _ w3 := ho3.mono (by simp)
        have HP3 := Lib.hid (HP1.out.turn ho3 hi3)
        clear ho3 hi3 x0 x1 x2 x3 x4
        go_wp2_with fail
        refine (RPower_calls HP3.out.ris).mono ?_
        rintro e w4 ⟨rfl, ho4, hi4⟩
        replace ho4 : Only [w2.heap.size, q] _ w4 := ho4.mono (by simp)
        have HP4 := Lib.hid (HP3.out.rturn ho4 hi4)
        clear ho4 hi4
        have HP9 := Lib.hid (HP4.out)
        have HL9 := Lib.hid (HL.out.power.mono (Nat.le_succ j))
        clear HP HL
        obtain ⟨y0, y1, y2, y3, y4⟩ := HP9.out.ris.cells
        have f9 : IntKind.i64.wrap ((j : Int) + 1) = ((j + 1 : Nat) : Int) := by rw [IntKind.wrap_i64]; omega
        go_wp2_with fail
        have hS := same_calls HP9.out.is HP9.out.ris.row HL9.out.all HL9.out.off HL9.out.wr (by omega) (Nat.le_refl n)
        rw [rcells_is] at hS
        refine hS.mono ?_
        rintro e w9 ⟨rfl, hb9⟩
        have HP10 := Lib.hid (HP9.out.call hb9)
        clear hS hb9 y0 y1 y2 y3 y4 HP9
        go_wp2_with fail
        go_roundw
        case rel => exact ⟨j + 1, _, _, by omega, by simp, HL9, HP10⟩
        case measure => simp [intOf]; omega
    · have hd : decide ((j : Int) < (l.length : Int)) = false := by rw [decide_eq_false_iff_not]; omega
      go_wp2_with fail
      refine (alive07 wr).mono ?_
      rintro e w9 ⟨rfl, hb9⟩
      have HP9 := HP.out.call hb9
      go_wp2_with fail
      go_ret
      exact ⟨rfl, HP9.below⟩
end Go.Proofs.Ytinommcocgnmlaa.Dk
