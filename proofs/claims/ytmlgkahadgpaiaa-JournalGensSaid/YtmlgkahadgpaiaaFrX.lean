/- Chapter 08: frame.Read. -/
import Derived.Test.YtmlgkahadgpaiaaFrW
import Derived.Test.YtmlgkahadgpaiaaRd
import Derived.Test.YtmlgkahadgpaiaaCrcF
import Derived.Test.YtmlgkahadgpaiaaInv
import Derived.Laws.BitsAllLaws
namespace Go.Proofs.Ytmlgkahadgpaiaa.Fr
open Go.RowKit _root_.Go.Proofs.Ytmlgkahadgpaiaa.Own
set_option linter.unusedVariables false
set_option linter.unusedSimpArgs false
theorem Has.row {base : Nat} {v : Value} {xs : List UInt8} {w : World} (h : Has base 5 v (bys xs) w) (n : Nat) (hn : xs.length = n + 1) : ∃ g cap, v = .slice (some ⟨g, 0, none⟩) (n + 1) cap ∧ n + 1 ≤ cap ∧ cap ≤ maxLen ∧ base ≤ g ∧ g < w.heap.size ∧ Rd w (some ⟨g, 0, none⟩) (bys xs) := by
  have h0 := h
  obtain ⟨h1, ⟨rfl, h2⟩ | ⟨g, cap, cur, rfl, hb, hg, hnn, hc, hs, ht⟩⟩ := h
  · rw [bys_length] at h2; omega
  · have hlen : (bys xs).length = n + 1 := by rw [bys_length]; exact hn
    obtain ⟨A, c, e1, hc', hA', hR⟩ := h0.form
    cases e1
    rw [hlen] at hc' ⊢
    exact ⟨g, cap, rfl, hc', hc, hb, blk_lt hg, hR⟩
theorem results_tmp4 {fn : Func} {t u v x : Tmp} (h : fn.results = #[.tmp t, .tmp u, .tmp v, .tmp x]) (tmps : Array Value) (P : Program) (w : World) :
    (results fn tmps).run P w = .ok (.tuple #[tmps.getD t undef, tmps.getD u undef, tmps.getD v undef, tmps.getD x undef]) w := by
  simp [results, h]
theorem Open_bad_m (a : Addr) (c m : Nat) (xs : List UInt8) (n : Nat) (hm : m = n + 4) (hn : n + 4 = xs.length) (hl : m ≤ 10000) (hc : m ≤ c) (w : World) (hR : Rd w (some a) (bys xs)) (hne : (lowB (crc (xs.take n)) == xs.drop n) = false) :
    Calls Try.prog 73 #[.slice (some a) m c] w fun e w' => e = .returned (.tuple #[.slice none 0 0, .int .i64 18]) ∧ Below w.heap.size w w' := by
  subst hm; rw [hn]; exact Open_bad a c xs n hn (by omega) (by omega) w hR hne
theorem Open_good_m (a : Addr) (c m : Nat) (xs : List UInt8) (n : Nat) (hm : m = n + 4) (hn : n + 4 = xs.length) (hl : m ≤ 10000) (hc : m ≤ c) (w : World) (hR : Rd w (some a) (bys xs)) (hne : (lowB (crc (xs.take n)) == xs.drop n) = true) :
    Calls Try.prog 73 #[.slice (some a) m c] w fun e w' => ∃ v, e = .returned (.tuple #[v, .int .i64 0]) ∧ Has w.heap.size 5 v (bys (xs.take n)) w' ∧ Below w.heap.size w w' := by
  subst hm; rw [hn]; exact Open_good a c xs n hn (by omega) (by omega) w hR hne
theorem add_pos (a : Addr) (k : Nat) (hk : 0 < k) : a.add k = ⟨a.block, a.off + k, none⟩ := by unfold Addr.add; rw [if_neg (by omega)]
theorem ReadArg_calls (kind : UInt8) (A : Option Addr) (n c : Nat) (hn : n ≠ 128) (w : World) :
    Calls Try.prog 59 #[.int .u8 (nB kind), .slice A n c] w fun e w' => e = .returned (.tuple #[.int .i64 0, .int .i64 0, .slice none 0 0, .int .i64 1]) ∧ Below w.heap.size w w' := by
  have m1 : ((n : Int) == 128) = false := by rw [beq_eq_false_iff_ne]; omega
  go_enter Try.func59, Try.ntmps59
  go_wp2_with fail
  (try simp only [Exit.inBlock, Exit.then])
  refine bodyPost_ret (results_tmp4 rfl _ _ _) rfl ?_
  exact ⟨rfl, Below.refl _ _⟩
/-- The bytes that a frame's block must have. -/
def formB (kind : UInt8) (blk : List UInt8) : Prop := blk[0]? = some kind ∧ blk[124]? = some 0 ∧ blk[125]? = some 0 ∧ blk[126]? = some 0 ∧ blk[127]? = some 69
theorem or3 (x y z : UInt8) : (bits .or .u8 (bits .or .u8 (nB x) (nB y)) (nB z) == 0) = decide (x = 0 ∧ y = 0 ∧ z = 0) := by
  have h0 : ∀ x y : UInt8, bits .or .u8 (nB x) (nB y) = nB (x ||| y) := by
    intro x y
    show bits .or .u8 (x.toNat : Int) (y.toNat : Int) = ((x ||| y).toNat : Int)
    rw [u8_or_nat _ _ x.toNat_lt y.toNat_lt, UInt8.toNat_or]
  rw [h0, h0, Bool.eq_iff_iff, beq_iff_eq, decide_eq_true_eq]
  constructor
  · intro h
    have h3 : (x ||| y ||| z) = 0 := UInt8.toNat_inj.1 (by unfold nB at h; simpa using h)
    rw [UInt8.or_eq_zero_iff, UInt8.or_eq_zero_iff] at h3
    exact ⟨h3.1.1, h3.1.2, h3.2⟩
  · rintro ⟨rfl, rfl, rfl⟩; rfl
/-- The cells at which the form is seen. -/
theorem form_cells {w : World} {a : Addr} {blk : List UInt8} (hb : blk.length = 128) (hR : Rd w (some a) (bys blk)) :
    ∃ b0 e0 e1 e2 e3 : UInt8, blk[0]? = some b0 ∧ blk[124]? = some e0 ∧ blk[125]? = some e1 ∧ blk[126]? = some e2 ∧ blk[127]? = some e3 ∧
      w.cell? a = some (.int .u8 (nB b0)) ∧ w.cell? ⟨a.block, a.off + 124, none⟩ = some (.int .u8 (nB e0)) ∧ w.cell? ⟨a.block, a.off + 124 + 1, none⟩ = some (.int .u8 (nB e1)) ∧ w.cell? ⟨a.block, a.off + 124 + 2, none⟩ = some (.int .u8 (nB e2)) ∧ w.cell? ⟨a.block, a.off + 124 + 3, none⟩ = some (.int .u8 (nB e3)) := by
  have k : ∀ i (h : i < 128), ∃ b, blk[i]? = some b ∧ w.cell? (a.add i) = some (.int .u8 (nB b)) := by
    intro i h
    obtain ⟨a', ha, hc⟩ := hR.byte (k := i) (by omega)
    cases ha
    exact ⟨blk[i], List.getElem?_eq_getElem (by omega), hc⟩
  obtain ⟨b0, p0, q0⟩ := k 0 (by decide)
  obtain ⟨e0, p1, q1⟩ := k 124 (by decide)
  obtain ⟨e1, p2, q2⟩ := k 125 (by decide)
  obtain ⟨e2, p3, q3⟩ := k 126 (by decide)
  obtain ⟨e3, p4, q4⟩ := k 127 (by decide)
  rw [add_pos _ _ (by decide)] at q1 q2 q3 q4
  rw [show a.add 0 = a from by unfold Addr.add; simp] at q0
  exact ⟨b0, e0, e1, e2, e3, p0, p1, p2, p3, p4, q0, q1, q2, q3, q4⟩
theorem form_below {w W : World} {a : Addr} {v : Value} (hb : Below w.heap.size w W) (h : w.cell? a = some v) : W.cell? a = some v := (hb.cell (World.block_lt_of_cell? w _ h)).trans h
theorem nB_beq (x y : UInt8) : (nB x == nB y) = decide (x = y) := by
  rw [Bool.eq_iff_iff, beq_iff_eq, decide_eq_true_eq]
  exact ⟨u8_inj, fun h => by rw [h]⟩
set_option maxRecDepth 10000 in
set_option maxHeartbeats 4000000 in
theorem ReadForm_calls (kind : UInt8) (a : Addr) (c : Nat) (blk : List UInt8) (hb : blk.length = 128) (hc : 128 ≤ c) (w : World) (hR : Rd w (some a) (bys blk)) (hf : ¬ formB kind blk) :
    Calls Try.prog 59 #[.int .u8 (nB kind), .slice (some a) 128 c] w fun e w' => e = .returned (.tuple #[.int .i64 0, .int .i64 0, .slice none 0 0, .int .i64 3]) ∧ Below w.heap.size w w' := by
  obtain ⟨b0, e0, e1, e2, e3, p0, p1, p2, p3, p4, q0, q1, q2, q3, q4⟩ := form_cells hb hR
  unfold formB at hf
  rw [p0, p1, p2, p3, p4] at hf
  simp only [Option.some.injEq] at hf
  have hcase : (nB b0 == nB kind) = false ∨ (b0 = kind ∧ (bits .or .u8 (bits .or .u8 (nB e0) (nB e1)) (nB e2) == 0) = false) ∨ (b0 = kind ∧ (bits .or .u8 (bits .or .u8 (nB e0) (nB e1)) (nB e2) == 0) = true ∧ (nB e3 == 69) = false) := by
    rw [or3, nB_beq, show (69 : Int) = nB 69 from rfl, nB_beq]
    simp only [decide_eq_false_iff_not, decide_eq_true_eq]
    by_cases h1 : b0 = kind
    · by_cases h2 : e0 = 0 ∧ e1 = 0 ∧ e2 = 0
      · exact .inr (.inr ⟨h1, h2, fun h3 => hf ⟨h1, h2.1, h2.2.1, h2.2.2, h3⟩⟩)
      · exact .inr (.inl ⟨h1, h2⟩)
    · exact .inl h1
  clear hf p0 p1 p2 p3 p4 hR
  have K := fun (W : World) (h : Below w.heap.size w W) => And.intro (form_below h q0) (And.intro (form_below h q1) (And.intro (form_below h q2) (And.intro (form_below h q3) (form_below h q4))))
  obtain ⟨J, hJ⟩ : ∃ J : World → Prop, ∀ W, J W ↔ Below w.heap.size w W := ⟨_, fun _ => Iff.rfl⟩
  have K := fun W h => K W ((hJ W).1 h)
  have HJ := Lib.hid hJ
  have hj := (HJ.out w.drew).2 ((Below.refl _ _).drew)
  clear hJ q0 q1 q2 q3 q4
  have hc2 : ¬ c = 124 := by omega
  have hc3 : 124 ≤ c := by omega
  rcases hcase with h1 | ⟨rfl, h2⟩ | ⟨rfl, h2, h3⟩
  all_goals
    try (have h2 := beq_iff_eq.1 h2)
    try (have h1' := beq_eq_false_iff_ne.1 h1)
    try (have h2' := beq_eq_false_iff_ne.1 h2)
    try (have h3' := beq_eq_false_iff_ne.1 h3)
    go_enter Try.func59, Try.ntmps59
    go_wp2
    refine region_inv J (by kernel_rfl) (by kernel_rfl) hj ?_
    repeat (first | (apply inv_yes; (· go_simp); (· intro w1 h1; obtain ⟨z0, z1, z2, z3, z4⟩ := K w1 h1; go_simp; exact ⟨rfl, h1⟩); (· go_simp; rfl)) | (apply inv_no; (· go_simp); (· go_simp; rfl)))
    refine wpInv_nil (fun w5 h5 => ?_)
    have H5 := (HJ.out _).1 h5
    clear K h5 hj HJ
    go_wp2_with fail
    (try simp only [Exit.inBlock, Exit.then])
    refine bodyPost_ret (results_tmp4 rfl _ _ _) rfl ?_
    exact ⟨rfl, H5⟩
end Go.Proofs.Ytmlgkahadgpaiaa.Fr
