/- Chapter 07: same: a disk has what the document's has. -/
import Derived.Test.YtinommcocgnmlaaDkT
import Derived.Test.YtinommcocgnmlaaInv
namespace Go.Proofs.Ytinommcocgnmlaa.Dk
open Go.RowKit _root_.Go.Proofs.Ytinommcocgnmlaa.Own
set_option linter.unusedVariables false
set_option linter.unusedSimpArgs false
theorem rbox_cells {w0 w : World} {g : Nat} {a b c d e : Value} {t : TypeId} (h : At w0 [(g, [a, b, c, d, e], t)] w) : w.cell? ⟨g, 0, none⟩ = some a ∧ w.cell? ⟨g, 1, none⟩ = some b ∧ w.cell? ⟨g, 2, none⟩ = some c ∧ w.cell? ⟨g, 3, none⟩ = some d ∧ w.cell? ⟨g, 4, none⟩ = some e := by
  have hR := (h.rules _ (List.mem_cons_self ..)).1
  exact ⟨hR 0, hR 1, hR 2, hR 3, hR 4⟩
theorem On_v {g r n c : Nat} {R : List Value} {d : D} {w : World} (h : Is g r n c R d w) {o : Bool} (ho : d.off = o) : Calls Try.prog 44 #[.pointer (some ⟨g, 0, none⟩)] w fun e w' => e = .returned (.bool (!o)) ∧ Below w.heap.size w w' := by
  subst ho; exact On_calls h
theorem Rd.of_row {w : World} {x : Nat} {xs : List UInt8} {t : TypeId} {fr : Nat × Nat} (h : w.heap[x]? = some (.cells ⟨bys xs⟩ t fr)) : Rd w (some ⟨x, 0, none⟩) (bys xs) := by
  have := row_rd h 0 xs.length
  rwa [List.drop_zero, List.take_of_length_le (Nat.le_refl _)] at this
theorem Writes_v {g r n c : Nat} {R : List Value} {d : D} {w : World} (h : Is g r n c R d w) {o : Int} (ho : d.writes = o) : Calls Try.prog 26 #[.pointer (some ⟨g, 0, none⟩)] w fun e w' => e = .returned (.int .i64 o) ∧ Below w.heap.size w w' := by
  subst ho; exact Writes_calls h
set_option maxRecDepth 10000 in
set_option maxHeartbeats 4000000 in
theorem same_calls {g r n c q : Nat} {R : List Value} {d : D} {rd : RD} {w : World} (hI : Is g r n c R d w) (hq : w.heap[q]? = some (.cells ⟨bys rd.all⟩ 5 (0, 0)))
    (hall : rd.all = d.all) (hoff : rd.off = d.off) (hwr : rd.writes = d.writes) (hn : n ≤ 1024) (hc : n ≤ c) :
    Calls Try.prog 25 #[.pointer (some ⟨g, 0, none⟩), .agg ⟨rcells q (n * 128) rd⟩] w fun e w' => e = .returned (.bool true) ∧ Below w.heap.size w w' := by
  have H0 := (At.refl w).alloc (rcells q (n * 128) rd) 31
  rw [rcells_is, hoff, hwr] at H0 ⊢
  rw [hall] at hq
  obtain ⟨m, hm⟩ : ∃ m : Nat, n * 128 = m := ⟨_, rfl⟩
  have hq8 : (m : Int).tdiv 128 = n := by rw [Int.tdiv_eq_ediv_of_nonneg (by omega)]; omega
  rw [hm] at H0 ⊢
  have hwn : IntKind.i64.wrap (n : Int) = n := by rw [IntKind.wrap_i64]; omega
  have HI := Lib.hid hI
  have HQ := Lib.hid hq
  clear hI hq hoff hwr hall
  obtain ⟨W0, hW0⟩ : ∃ x, d.writes = x := ⟨_, rfl⟩
  obtain ⟨F, hF⟩ : ∃ x, rd.fuse = x := ⟨_, rfl⟩
  obtain ⟨Kp, hK⟩ : ∃ x, rd.keep = x := ⟨_, rfl⟩
  rw [hW0, hF, hK] at H0 ⊢
  cases ho : d.off with
  | true =>
    rw [ho] at H0
    have HO := Lib.hid ho
    have HW := Lib.hid hW0
    clear ho hW0 hF hK
    have H1 := H0.drew
    obtain ⟨J, hJ⟩ : ∃ J : World → Prop, ∀ W, J W ↔ At w [(w.heap.size, [.slice (some ⟨q, 0, none⟩) m m, .bool true, .int .i64 F, .int .i64 Kp, .int .i64 W0], 31)] W := ⟨_, fun _ => Iff.rfl⟩
    have K := fun w1 h1 => rbox_cells ((hJ w1).1 h1)
    have HJ := Lib.hid hJ
    clear hJ
    go_enter Try.func25, Try.ntmps25
    go_wp2
    refine region_inv J (by kernel_rfl) (by kernel_rfl) ((HJ.out _).2 H1) ?_
    repeat (first | (apply inv_yes; (· go_simp); (· intro w1 h1; obtain ⟨y0, y1, y2, y3, y4⟩ := K w1 h1; go_simp; exact ⟨rfl, h1⟩); (· go_simp; rfl)) | (apply inv_no; (· go_simp); (· go_simp; rfl)) | (apply inv_yes; (· go_simp); (· intro w1 h1; go_simp; first | exact callI (fun _ h => (HJ.out _).1 h) (fun _ h => (HJ.out _).2 h) (On_v (HI.out.below ((HJ.out _).1 h1).below) HO.out) h1 | exact callI (fun _ h => (HJ.out _).1 h) (fun _ h => (HJ.out _).2 h) (Writes_v (HI.out.below ((HJ.out _).1 h1).below) HW.out) h1 | exact callI (fun _ h => (HJ.out _).1 h) (fun _ h => (HJ.out _).2 h) (Len_calls (HI.out.below ((HJ.out _).1 h1).below)) h1); (· go_simp; rfl)))
    refine wpInv_nil (fun w5 h5 => ?_)
    have H5 := (HJ.out _).1 h5
    clear K HJ h5 H0 H1
    obtain ⟨y0, y1, y2, y3, y4⟩ := rbox_cells H5
    go_wp2_with fail
    go_loopw [5] (fun v5 wr => v5 = .int .i64 0 ∧ Hid (At w [(w.heap.size, [.slice (some ⟨q, 0, none⟩) m m, .bool true, .int .i64 F, .int .i64 Kp, .int .i64 W0], 31)] wr)) (fun _ _ => 0)
    case atStart => exact ⟨rfl, Lib.hid H5⟩
    case round =>
      obtain ⟨rfl, HA⟩ := hrel
      clear H5 y0 y1 y2 y3 y4
      obtain ⟨y0, y1, y2, y3, y4⟩ := rbox_cells HA.out
      go_wp2_with fail
      refine callAt (Len_calls (HI.out.below HA.out.below)) HA.out ?_
      rintro e w6 rfl H6
      clear y0 y1 y2 y3 y4
      obtain ⟨y0, y1, y2, y3, y4⟩ := rbox_cells H6
      by_cases h0 : (0 : Int) < n
      · have hd : decide ((0 : Int) < n) = true := decide_eq_true h0
        go_wp2_with fail
        go_ret
        exact ⟨rfl, H6.below⟩
      · have hd : decide ((0 : Int) < n) = false := decide_eq_false h0
        go_wp2_with fail
        go_ret
        exact ⟨rfl, H6.below⟩
  | false =>
    rw [ho] at H0
    have HO := Lib.hid ho
    have HW := Lib.hid hW0
    clear ho hW0 hF hK
    have H1 := H0.drew
    obtain ⟨J, hJ⟩ : ∃ J : World → Prop, ∀ W, J W ↔ At w [(w.heap.size, [.slice (some ⟨q, 0, none⟩) m m, .bool false, .int .i64 F, .int .i64 Kp, .int .i64 W0], 31)] W := ⟨_, fun _ => Iff.rfl⟩
    have K := fun w1 h1 => rbox_cells ((hJ w1).1 h1)
    have HJ := Lib.hid hJ
    clear hJ
    go_enter Try.func25, Try.ntmps25
    go_wp2
    refine region_inv J (by kernel_rfl) (by kernel_rfl) ((HJ.out _).2 H1) ?_
    repeat (first | (apply inv_yes; (· go_simp); (· intro w1 h1; obtain ⟨y0, y1, y2, y3, y4⟩ := K w1 h1; go_simp; exact ⟨rfl, h1⟩); (· go_simp; rfl)) | (apply inv_no; (· go_simp); (· go_simp; rfl)) | (apply inv_yes; (· go_simp); (· intro w1 h1; go_simp; first | exact callI (fun _ h => (HJ.out _).1 h) (fun _ h => (HJ.out _).2 h) (On_v (HI.out.below ((HJ.out _).1 h1).below) HO.out) h1 | exact callI (fun _ h => (HJ.out _).1 h) (fun _ h => (HJ.out _).2 h) (Writes_v (HI.out.below ((HJ.out _).1 h1).below) HW.out) h1 | exact callI (fun _ h => (HJ.out _).1 h) (fun _ h => (HJ.out _).2 h) (Len_calls (HI.out.below ((HJ.out _).1 h1).below)) h1); (· go_simp; rfl)))
    refine wpInv_nil (fun w5 h5 => ?_)
    have H5 := (HJ.out _).1 h5
    clear K HJ h5 H0 H1
    go_wp2_with fail
    go_loopw [5] (fun v5 wr => ∃ j : Nat, j ≤ n ∧ v5 = .int .i64 j ∧ Hid (At w [(w.heap.size, [.slice (some ⟨q, 0, none⟩) m m, .bool false, .int .i64 F, .int .i64 Kp, .int .i64 W0], 31)] wr)) (fun v5 _ => n - (intOf v5).toNat)
    case atStart => exact ⟨0, Nat.zero_le _, rfl, Lib.hid H5⟩
    case round =>
      clear H5
      obtain ⟨j, hj, rfl, HA⟩ := hrel
      obtain ⟨y0, y1, y2, y3, y4⟩ := rbox_cells HA.out
      go_wp2_with fail
      refine callAt (Len_calls (HI.out.below HA.out.below)) HA.out ?_
      rintro e w6 rfl H6
      clear y0 y1 y2 y3 y4
      obtain ⟨y0, y1, y2, y3, y4⟩ := rbox_cells H6
      by_cases h0 : (j : Int) < n
      · have hd : decide ((j : Int) < n) = true := decide_eq_true h0
        have hjn : j < n := by omega
        go_wp2_with fail
        refine (ReadOk_calls (HI.out.below H6.below) j hjn hc HO.out).mono ?_
        rintro e w7 ⟨x, rfl, hx, hxr, hb7⟩
        have H7 := H6.call hb7
        have hrow := rowB_length d.all n j HI.out.len hjn
        have hqrow := (H7.below.block q (blk_lt HQ.out)).trans HQ.out
        have hb8 : Below w7.heap.size w7 w7.drew := (Below.refl _ _).drew
        have kx := fun W (hb : Below w7.heap.size w7 W) => run_string_of (w := W) Try.underlying29 Try.underlying5 Try.underlying9 (some ⟨x, 0, none⟩) 128 128 (rowB d.all j) hrow.symm (fun h => nomatch h) ((Rd.of_row hxr).below hb)
        have ky := fun W (hb : Below w7.heap.size w7 W) => run_string_of (w := W) Try.underlying29 Try.underlying5 Try.underlying9 (some ⟨q, j * 128, none⟩) 128 (m - j * 128) (rowB d.all j) hrow.symm (fun h => nomatch h) ((row_rd hqrow (j * 128) 128).below hb)
        have kz := fun W (hb : Below w7.heap.size w7 W) => rbox_cells (H7.call hb)
        obtain ⟨J2, hJ2⟩ : ∃ J : World → Prop, ∀ W, J W ↔ Below w7.heap.size w7 W := ⟨_, fun _ => Iff.rfl⟩
        have K2 := fun W (hb : J2 W) => And.intro (kx W ((hJ2 W).1 hb)) (And.intro (ky W ((hJ2 W).1 hb)) (kz W ((hJ2 W).1 hb)))
        have HJ2 := Lib.hid hJ2
        have H7' := Lib.hid H7
        clear kx ky kz hJ2 hxr hqrow hb7 hx y0 y1 y2 y3 y4 H7 H6 hrow
        have f1 : IntKind.i64.wrap (128 * (j : Int)) = 128 * j := by rw [IntKind.wrap_i64]; omega
        have f2 : IntKind.i64.wrap (128 * (j : Int) + 128) = 128 * j + 128 := by rw [IntKind.wrap_i64]; omega
        have f3 : (128 * (j : Int)).toNat = j * 128 := by omega
        have f4 : (128 * (j : Int) + 128).toNat = j * 128 + 128 := by omega
        have f5 : j * 128 + 128 - j * 128 = 128 := by omega
        have f6 : ¬ m = j * 128 := by omega
        have f7 : 0 ≤ 128 * (j : Int) + 128 ∧ 128 * (j : Int) + 128 ≤ m := by omega
        have f8 : 0 ≤ 128 * (j : Int) ∧ 128 * (j : Int) ≤ max (128 * (j : Int) + 128) 0 := by omega
        have f10 : 128 * (j : Int) ≤ (j : Int) * 128 + 128 := by omega
        go_wp2
        refine region_inv J2 (by kernel_rfl) (by kernel_rfl) ((HJ2.out _).2 hb8) ?_
        repeat (first | (apply inv_yes; (· go_simp); (· intro w1 h1; obtain ⟨k1, k2, y0, y1, y2, y3, y4⟩ := K2 w1 h1; go_simp; exact ⟨rfl, h1⟩); (· go_simp; rfl)) | (apply inv_no; (· go_simp); (· go_simp; rfl)))
        refine wpInv_nil (fun w8 h8 => ?_)
        have H8 := H7'.out.call ((HJ2.out _).1 h8)
        clear K2 HJ2 h8 f3 f4 f5 f6 f7 f8 f1 f2
        have f9 : IntKind.i64.wrap ((j : Int) + 1) = ((j + 1 : Nat) : Int) := by rw [IntKind.wrap_i64]; omega
        go_wp2_with fail
        go_roundw
        case rel => exact ⟨j + 1, by omega, by simp, Lib.hid H8⟩
        case measure => simp [intOf]; omega
      · have hd : decide ((j : Int) < n) = false := decide_eq_false h0
        go_wp2_with fail
        go_ret
        exact ⟨rfl, H6.below⟩
end Go.Proofs.Ytinommcocgnmlaa.Dk
