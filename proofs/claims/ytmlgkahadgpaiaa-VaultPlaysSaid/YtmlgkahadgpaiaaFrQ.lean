/- Chapter 08: the reference's Read. -/
import Derived.Test.YtmlgkahadgpaiaaFrL
import Derived.Test.YtmlgkahadgpaiaaFrR
import Derived.Test.YtmlgkahadgpaiaaTurn
namespace Go.Proofs.Ytmlgkahadgpaiaa.Fr
open Go.RowKit _root_.Go.Proofs.Ytmlgkahadgpaiaa.Own
set_option linter.unusedVariables false
set_option linter.unusedSimpArgs false
theorem RReadArg_calls (kind : UInt8) (A : Option Addr) (n c : Nat) (hn : n ≠ 128) (w : World) :
    Calls Try.prog 67 #[.int .u8 (nB kind), .slice A n c] w fun e w' => e = .returned (.tuple #[.int .i64 0, .int .i64 0, .slice none 0 0, .int .i64 1]) ∧ Below w.heap.size w w' := by
  have m1 : ((n : Int) == 128) = false := by rw [beq_eq_false_iff_ne]; omega
  go_enter Try.func67, Try.ntmps67
  go_wp2_with fail
  (try simp only [Exit.inBlock, Exit.then])
  refine bodyPost_ret (results_tmp4 rfl _ _ _) rfl ?_
  exact ⟨rfl, Below.refl _ _⟩
theorem form_cells2 {w : World} {a : Addr} {blk : List UInt8} (hb : blk.length = 128) (hR : Rd w (some a) (bys blk)) :
    ∃ b0 e0 e1 e2 e3 : UInt8, blk[0]? = some b0 ∧ blk[124]? = some e0 ∧ blk[125]? = some e1 ∧ blk[126]? = some e2 ∧ blk[127]? = some e3 ∧
      w.cell? a = some (.int .u8 (nB b0)) ∧ w.cell? ⟨a.block, a.off + 124, none⟩ = some (.int .u8 (nB e0)) ∧ w.cell? ⟨a.block, a.off + 125, none⟩ = some (.int .u8 (nB e1)) ∧ w.cell? ⟨a.block, a.off + 126, none⟩ = some (.int .u8 (nB e2)) ∧ w.cell? ⟨a.block, a.off + 127, none⟩ = some (.int .u8 (nB e3)) := by
  obtain ⟨b0, e0, e1, e2, e3, p0, p1, p2, p3, p4, q0, q1, q2, q3, q4⟩ := form_cells hb hR
  exact ⟨b0, e0, e1, e2, e3, p0, p1, p2, p3, p4, q0, q1, q2, q3, q4⟩
set_option maxRecDepth 10000 in
set_option maxHeartbeats 4000000 in
theorem RReadForm_calls (kind : UInt8) (a : Addr) (c : Nat) (blk : List UInt8) (hb : blk.length = 128) (hc : 128 ≤ c) (w : World) (hR : Rd w (some a) (bys blk)) (hf : ¬ formB kind blk) :
    Calls Try.prog 67 #[.int .u8 (nB kind), .slice (some a) 128 c] w fun e w' => e = .returned (.tuple #[.int .i64 0, .int .i64 0, .slice none 0 0, .int .i64 3]) ∧ Below w.heap.size w w' := by
  obtain ⟨b0, e0, e1, e2, e3, p0, p1, p2, p3, p4, q0, q1, q2, q3, q4⟩ := form_cells2 hb hR
  unfold formB at hf
  rw [p0, p1, p2, p3, p4] at hf
  simp only [Option.some.injEq] at hf
  have hcase : ¬ b0 = kind ∨ (b0 = kind ∧ ¬ e0 = 0) ∨ (b0 = kind ∧ e0 = 0 ∧ ¬ e1 = 0) ∨ (b0 = kind ∧ e0 = 0 ∧ e1 = 0 ∧ ¬ e2 = 0) ∨ (b0 = kind ∧ e0 = 0 ∧ e1 = 0 ∧ e2 = 0 ∧ ¬ e3 = 69) := by
    by_cases h1 : b0 = kind
    · by_cases h2 : e0 = 0
      · by_cases h3 : e1 = 0
        · by_cases h4 : e2 = 0
          · exact .inr (.inr (.inr (.inr ⟨h1, h2, h3, h4, fun h5 => hf ⟨h1, h2, h3, h4, h5⟩⟩)))
          · exact .inr (.inr (.inr (.inl ⟨h1, h2, h3, h4⟩)))
        · exact .inr (.inr (.inl ⟨h1, h2, h3⟩))
      · exact .inr (.inl ⟨h1, h2⟩)
    · exact .inl h1
  clear hf p0 p1 p2 p3 p4 hR
  have ne0 : ∀ x : UInt8, ¬ x = 0 → ¬ nB x = 0 := fun x h e => h (u8_inj (e.trans (show (0 : Int) = nB 0 from rfl)))
  have ne69 : ∀ x : UInt8, ¬ x = 69 → ¬ nB x = 69 := fun x h e => h (u8_inj (e.trans (show (69 : Int) = nB 69 from rfl)))
  rcases hcase with h1 | ⟨rfl, h1⟩ | ⟨rfl, rfl, h1⟩ | ⟨rfl, rfl, rfl, h1⟩ | ⟨rfl, rfl, rfl, rfl, h1⟩
  case inl => have h2 : ¬ nB b0 = nB kind := fun e => h1 (u8_inj e)
              have h3 : (nB b0 == nB kind) = false := beq_eq_false_iff_ne.2 h2
              clear ne0 ne69
              go_enter Try.func67, Try.ntmps67
              go_wp2_with fail
              (try simp only [Exit.inBlock, Exit.then])
              refine bodyPost_ret (results_tmp4 rfl _ _ _) rfl ?_
              exact ⟨rfl, Below.refl _ _⟩
  all_goals
    first | have h2 := ne69 _ h1 | have h2 := ne0 _ h1
    have h3 := beq_eq_false_iff_ne.2 h2
    clear ne0 ne69
    try rw [show nB 0 = 0 from rfl] at q1
    try rw [show nB 0 = 0 from rfl] at q2
    try rw [show nB 0 = 0 from rfl] at q3
    go_enter Try.func67, Try.ntmps67
    go_wp2_with fail
    (try simp only [Exit.inBlock, Exit.then])
    refine bodyPost_ret (results_tmp4 rfl _ _ _) rfl ?_
    exact ⟨rfl, Below.refl _ _⟩
theorem ck_eq (blk : List UInt8) (hb : blk.length = 128) : (blk.take 120 ++ lowB (crc (blk.take 120)) == blk.take 124) = ckB blk := by
  unfold ckB
  have h : (blk.take 124).take 120 = blk.take 120 := by rw [List.take_take]; rfl
  rw [h, Bool.eq_iff_iff, beq_iff_eq, beq_iff_eq]
  have h2 : blk.take 124 = blk.take 120 ++ (blk.take 124).drop 120 := by rw [← h, List.take_append_drop]
  constructor
  · intro e; rw [h2] at e; exact List.append_cancel_left e
  · intro e; rw [e, ← h2]
set_option maxRecDepth 10000 in
set_option maxHeartbeats 4000000 in
theorem RReadSum_calls (kind : UInt8) (a : Addr) (c : Nat) (blk : List UInt8) (hb : blk.length = 128) (hc : 128 ≤ c) (w : World) (hR : Rd w (some a) (bys blk)) (hf : formB kind blk) (hk : ckB blk = false) :
    Calls Try.prog 67 #[.int .u8 (nB kind), .slice (some a) 128 c] w fun e w' => e = .returned (.tuple #[.int .i64 0, .int .i64 0, .slice none 0 0, .int .i64 18]) ∧ Below w.heap.size w w' := by
  have HK := Lib.hid ((ck_eq blk hb).trans hk)
  clear hk
  have HF := Lib.hid hf
  obtain ⟨b0, e0, e1, e2, e3, p0, p1, p2, p3, p4, q0, q1, q2, q3, q4⟩ := form_cells2 hb hR
  unfold formB at hf
  rw [p0, p1, p2, p3, p4] at hf
  simp only [Option.some.injEq] at hf
  obtain ⟨rfl, rfl, rfl, rfl, rfl⟩ := hf
  rw [show nB 0 = 0 from rfl] at q1 q2 q3
  rw [show nB 69 = 69 from rfl] at q4
  have HR := Lib.hid hR
  have hl120 : (blk.take 120).length = 120 := by rw [List.length_take]; omega
  have hl124 : (blk.take 124).length = 124 := by rw [List.length_take]; omega
  have HL := Lib.hid (And.intro hl120 hl124)
  clear p0 p1 p2 p3 p4 hR hl120 hl124
  have hc2 : 120 ≤ c := by omega
  have hc3 : 124 ≤ c := by omega
  have hc4 : ¬ c = 0 := by omega
  have hc5 : (120 : Int) ≤ (c : Int) := by omega
  have hc6 : (124 : Int) ≤ (c : Int) := by omega
  go_enter Try.func67, Try.ntmps67
  go_wp2
  have K := fun (W : World) (hb' : Below w.heap.size w W) => run_string_of (w := W) Try.underlying23 Try.underlying5 Try.underlying9 (some a) 124 c (blk.take 124) HL.out.2.symm (fun h => nomatch h) ((HR.out.at_take 124).below hb')
  obtain ⟨J, hJ⟩ : ∃ J : World → Prop, ∀ W, J W ↔ Below w.heap.size w W := ⟨_, fun _ => Iff.rfl⟩
  have K := fun W h => K W ((hJ W).1 h)
  have HJ := Lib.hid hJ
  have hj := (HJ.out w.drew).2 ((Below.refl _ _).drew)
  clear hJ q0 q1 q2 q3 q4
  refine Turn.region_seq [0, 1, 4, 5, 6, 2, 3, 7] (fun i => i == 2 || i == 3) J (by kernel_rfl) (by kernel_rfl) hj ?_
  repeat (first | (apply Turn.seq_yes; (· simp only [List.getElem?_toArray, List.getElem?_cons_succ, List.getElem?_cons_zero]; rfl); (· rfl); (· go_simp); (· intro w1 h1; have K1 := K w1 h1; go_simp; exact ⟨rfl, h1⟩); (· go_simp; rfl)) | (apply Turn.seq_no; (· simp only [List.getElem?_toArray, List.getElem?_cons_succ, List.getElem?_cons_zero]; rfl); (· go_simp); (· go_simp; rfl)))
  apply Turn.seq_call
  · simp only [List.getElem?_toArray, List.getElem?_cons_succ, List.getElem?_cons_zero]; rfl
  · rfl
  · go_simp
  · intro v; go_simp; rfl
  go_simp
  refine (RSeal_calls (some a) c 120 (blk.take 120) HL.out.1.symm (by decide) (fun h => nomatch h) _ ((HR.out.at_take 120).below ((HJ.out _).1 hj))).mono ?_
  rintro e w3 ⟨v3, rfl, hv3, hb3⟩
  have hj3 := (HJ.out _).2 (((HJ.out _).1 hj).trans (hb3.mono ((HJ.out _).1 hj).size))
  have hll : (blk.take 120 ++ lowB (crc (blk.take 120))).length = 124 := by rw [List.length_append, HL.out.1]; rfl
  obtain ⟨g3, c3, rfl, hc3', -, -, -, hr3⟩ := Has.row hv3 123 hll
  have kx := run_string_of (w := w3) Try.underlying23 Try.underlying5 Try.underlying9 (some ⟨g3, 0, none⟩) 124 c3 (blk.take 120 ++ lowB (crc (blk.take 120))) hll.symm (fun h => nomatch h) hr3
  clear hv3 hb3 hr3 hll hj
  refine ⟨_, rfl, hj3, ?_⟩
  repeat (first | (apply Turn.seq_yes; (· simp only [List.getElem?_toArray, List.getElem?_cons_succ, List.getElem?_cons_zero]; rfl); (· rfl); (· go_simp); (· intro w1 h1; have K1 := K w1 h1; go_simp; exact ⟨rfl, h1⟩); (· go_simp; rfl)) | (apply Turn.seq_no; (· simp only [List.getElem?_toArray, List.getElem?_cons_succ, List.getElem?_cons_zero]; rfl); (· go_simp); (· go_simp; rfl)))
  apply Turn.seq_call
  · simp only [List.getElem?_toArray, List.getElem?_cons_succ, List.getElem?_cons_zero]; rfl
  · rfl
  · go_simp
  · intro v; go_simp; rfl
  go_simp
  refine ⟨hj3, ?_⟩
  clear kx
  have heq : (blk.take 120 ++ lowB (crc (blk.take 120)) == blk.take 124) = false := HK.out
  have heq2 : ¬ (blk.take 120 ++ lowB (crc (blk.take 120)) = blk.take 124) := beq_eq_false_iff_ne.1 heq
  repeat (first | (apply Turn.seq_yes; (· simp only [List.getElem?_toArray, List.getElem?_cons_succ, List.getElem?_cons_zero]; rfl); (· rfl); (· go_simp); (· intro w1 h1; have K1 := K w1 h1; go_simp; exact ⟨rfl, h1⟩); (· go_simp; rfl)) | (apply Turn.seq_no; (· simp only [List.getElem?_toArray, List.getElem?_cons_succ, List.getElem?_cons_zero]; rfl); (· go_simp); (· go_simp; rfl)))
  apply Turn.seq_nil
  have H3 := Lib.hid ((HJ.out _).1 hj3)
  clear K HJ hj3 heq heq2
  go_wp2_with fail
  (try simp only [Exit.inBlock, Exit.then])
  refine bodyPost_ret (results_tmp4 rfl _ _ _) rfl ?_
  exact ⟨rfl, H3.out⟩
end Go.Proofs.Ytmlgkahadgpaiaa.Fr
