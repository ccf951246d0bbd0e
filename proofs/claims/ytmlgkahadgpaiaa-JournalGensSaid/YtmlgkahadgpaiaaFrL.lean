/- Chapter 08: what is written is read, and the other way round (no program in sight). -/
import Derived.Test.YtmlgkahadgpaiaaFrZ
namespace Go.Proofs.Ytmlgkahadgpaiaa.Fr
open Go.RowKit _root_.Go.Proofs.Ytmlgkahadgpaiaa.Own
set_option linter.unusedVariables false
set_option linter.unusedSimpArgs false
theorem be_snoc (n k : Nat) : be n (k + 1) = be (n / 256) k ++ [UInt8.ofNat n] := by
  induction k with
  | zero => simp [be]
  | succ k ih =>
    rw [be, ih]
    show _ = be (n / 256) (k + 1) ++ _
    rw [be, Nat.div_div_eq_div_mul, List.cons_append, Nat.pow_succ, Nat.mul_comm]
theorem val_be (k : Nat) : ∀ n, n < 256 ^ k → val (be n k) = n := by
  induction k with
  | zero => intro n h; have : n = 0 := by simpa using h
            subst this; rfl
  | succ k ih =>
    intro n h
    rw [be_snoc, val_snoc, ih _ (by rw [Nat.pow_succ] at h; omega), UInt8.toNat_ofNat']
    omega
theorem be_val (xs : List UInt8) : be (val xs) xs.length = xs := by
  induction h : xs.length generalizing xs with
  | zero => rw [List.eq_nil_of_length_eq_zero h]; rfl
  | succ k ih =>
    obtain ⟨ys, c, rfl⟩ : ∃ ys c, xs = ys ++ [c] := by
      rcases List.eq_nil_or_concat xs with rfl | ⟨ys, c, rfl⟩
      · simp at h
      · exact ⟨ys, c, by simp⟩
    have hk : ys.length = k := by simpa using h
    have hc := c.toNat_lt
    have hi := ih ys hk
    have e1 : (val ys * 256 + c.toNat) / 256 = val ys := by omega
    have e2 : UInt8.ofNat (val ys * 256 + c.toNat) = c := UInt8.toNat_inj.1 (by rw [UInt8.toNat_ofNat']; omega)
    rw [val_snoc, be_snoc, e1, e2, hi]
theorem parts (X : List UInt8) (hX : X.length = 120) : X = X.take 1 ++ ((X.drop 1).take 4 ++ (((X.drop 1).drop 4).take 2 ++ (((((X.drop 1).drop 4).drop 2).take 1) ++ X.drop 8))) := by
  have e : X.drop 8 = (((X.drop 1).drop 4).drop 2).drop 1 := by simp [List.drop_drop]
  rw [e, List.take_append_drop, List.take_append_drop, List.take_append_drop, List.take_append_drop]
theorem hdr_of (kind : UInt8) (X : List UInt8) (hX : X.length = 120) (h0 : X[0]? = some kind) : hdr kind (genF X) (seqF X) (lenF X) = X.take 8 := by
  have l1 : ((X.drop 1).take 4).length = 4 := by rw [List.length_take, List.length_drop]; omega
  have l2 : (((X.drop 1).drop 4).take 2).length = 2 := by rw [List.length_take, List.length_drop, List.length_drop]; omega
  have l3 : ((((X.drop 1).drop 4).drop 2).take 1).length = 1 := by rw [List.length_take, List.length_drop, List.length_drop, List.length_drop]; omega
  have e1 : be (genF X) 4 = (X.drop 1).take 4 := by have := be_val ((X.drop 1).take 4); rwa [l1] at this
  have e2 : be (seqF X) 2 = ((X.drop 1).drop 4).take 2 := by have := be_val (((X.drop 1).drop 4).take 2); rwa [l2] at this
  have e3 : be (lenF X) 1 = (((X.drop 1).drop 4).drop 2).take 1 := by have := be_val ((((X.drop 1).drop 4).drop 2).take 1); rwa [l3] at this
  have e0 : be kind.toNat 1 = X.take 1 := by
    have : X.take 1 = [kind] := by
      cases X with
      | nil => simp at hX
      | cons x xs => simp at h0; simp [h0]
    rw [this]
    simp [be]
  unfold hdr
  rw [e0, e1, e2, e3]
  have := congrArg (List.take 8) (parts X hX)
  rw [this]
  have l0 : (X.take 1).length = 1 := by rw [List.length_take]; omega
  rw [← List.append_assoc, ← List.append_assoc, ← List.append_assoc, List.take_left' (by simp only [List.length_append, l0, l1, l2, l3])]
/-- What is read right is written as it was. -/
theorem write_of (kind : UInt8) (blk : List UInt8) (hb : blk.length = 128) (hf : formB kind blk) (hk : ckB blk = true) (hn : lenF (blk.take 120) ≤ 112) :
    padZ (blk.take 120) ↔ blockF kind (genF (blk.take 120)) (seqF (blk.take 120)) (((blk.take 120).drop 8).take (lenF (blk.take 120))) = blk := by
  obtain ⟨f0, f1, f2, f3, f4⟩ := hf
  obtain ⟨X, hX⟩ : ∃ X, blk.take 120 = X := ⟨_, rfl⟩
  have hXl : X.length = 120 := by rw [← hX, List.length_take]; omega
  have h0 : X[0]? = some kind := by rw [← hX, List.getElem?_take, if_pos (by decide)]; exact f0
  have hh := hdr_of kind X hXl h0
  have hck : lowB (crc X) = (blk.drop 120).take 4 := by
    unfold ckB at hk
    have := beq_iff_eq.1 hk
    rw [List.take_take, show min 120 124 = 120 from rfl, hX, List.drop_take] at this
    exact this
  have htl : blk.drop 124 = [0, 0, 0, 69] := by
    apply List.ext_getElem?
    intro i
    rw [List.getElem?_drop]
    match i with
    | 0 => exact f1
    | 1 => exact f2
    | 2 => exact f3
    | 3 => exact f4
    | i + 4 => rw [List.getElem?_eq_none (by omega)]; simp
  have hblk : blk = sealF X := by
    unfold sealF
    rw [hck, ← htl]
    have : blk.drop 124 = (blk.drop 120).drop 4 := by rw [List.drop_drop]
    rw [this, List.append_assoc, List.take_append_drop, ← hX, List.take_append_drop]
  rw [hX] at hn ⊢
  obtain ⟨N, hN⟩ : ∃ N, lenF X = N := ⟨_, rfl⟩
  have hbl : ((X.drop 8).take N).length = N := by rw [List.length_take, List.length_drop]; omega
  have hbody : bodyF kind (genF X) (seqF X) ((X.drop 8).take N) = X.take 8 ++ (X.drop 8).take N ++ List.replicate (112 - N) 0 := by
    unfold bodyF
    rw [hbl, ← hN, hh]
  have hsplit : X = X.take 8 ++ (X.drop 8).take N ++ X.drop (8 + N) := by
    rw [List.append_assoc, ← List.drop_drop, List.take_append_drop, List.take_append_drop]
  have hpad : padZ X ↔ X.drop (8 + N) = List.replicate (112 - N) 0 := by
    unfold padZ
    rw [hN]
    constructor
    · intro h
      apply List.ext_getElem?
      intro i
      rw [List.getElem?_drop, List.getElem?_replicate]
      by_cases hi : 8 + N + i < 120
      · rw [h i hi, if_pos (by omega)]
      · rw [List.getElem?_eq_none (by omega), if_neg (by omega)]
    · intro h i hi
      have := congrArg (fun l => l[i]?) h
      simp only [List.getElem?_drop, List.getElem?_replicate] at this
      rw [this, if_pos (by omega)]
  rw [hN] at hn ⊢
  rw [hpad]
  constructor
  · intro h
    unfold blockF
    rw [hbody, ← h, ← hsplit, ← hblk]
  · intro h
    have h2 := congrArg (List.take 120) h
    unfold blockF sealF at h2
    rw [hX, List.append_assoc, List.take_left' (by rw [bodyF_length _ _ _ _ (by omega)]), hbody] at h2
    exact List.append_cancel_left ((h2.trans hsplit).symm)
/-- What is written is read right. -/
theorem read_of (kind : UInt8) (gen seq : Nat) (b : List UInt8) (hg : gen ≤ 2147483647) (hs : seq ≤ 65535) (hb : b.length ≤ 112) :
    (blockF kind gen seq b).length = 128 ∧ formB kind (blockF kind gen seq b) ∧ ckB (blockF kind gen seq b) = true ∧ genF ((blockF kind gen seq b).take 120) = gen ∧ seqF ((blockF kind gen seq b).take 120) = seq ∧ lenF ((blockF kind gen seq b).take 120) = b.length ∧ (((blockF kind gen seq b).take 120).drop 8).take b.length = b ∧ padZ ((blockF kind gen seq b).take 120) := by
  have hbl := bodyF_length kind gen seq b hb
  obtain ⟨B, hB⟩ : ∃ B, bodyF kind gen seq b = B := ⟨_, rfl⟩
  have h120 : (blockF kind gen seq b).take 120 = B := by
    unfold blockF sealF
    rw [hB, List.append_assoc, List.take_left' (by rw [← hB, hbl])]
  have hBl : B.length = 120 := by rw [← hB, hbl]
  have hlow : (lowB (crc B)).length = 4 := rfl
  have h128 : (blockF kind gen seq b).length = 128 := by
    unfold blockF sealF
    rw [hB, List.length_append, List.length_append, hBl, hlow]; rfl
  have hk1 := kind.toNat_lt
  have hB1 : B = be kind.toNat 1 ++ (be gen 4 ++ (be seq 2 ++ (be b.length 1 ++ (b ++ List.replicate (112 - b.length) 0)))) := by
    rw [← hB]; unfold bodyF hdr; simp only [List.append_assoc]
  have d1 : B.drop 1 = be gen 4 ++ (be seq 2 ++ (be b.length 1 ++ (b ++ List.replicate (112 - b.length) 0))) := by rw [hB1, List.drop_left' (by rw [be_length])]
  have d2 : (B.drop 1).drop 4 = be seq 2 ++ (be b.length 1 ++ (b ++ List.replicate (112 - b.length) 0)) := by rw [d1, List.drop_left' (by rw [be_length])]
  have d3 : ((B.drop 1).drop 4).drop 2 = be b.length 1 ++ (b ++ List.replicate (112 - b.length) 0) := by rw [d2, List.drop_left' (by rw [be_length])]
  have d4 : B.drop 8 = b ++ List.replicate (112 - b.length) 0 := by
    have : B.drop 8 = (((B.drop 1).drop 4).drop 2).drop 1 := by simp [List.drop_drop]
    rw [this, d3, List.drop_left' (by rw [be_length])]
  have g1 : genF B = gen := by unfold genF; rw [d1, List.take_left' (by rw [be_length]), val_be _ _ (by omega)]
  have g2 : seqF B = seq := by unfold seqF; rw [d2, List.take_left' (by rw [be_length]), val_be _ _ (by omega)]
  have g3 : lenF B = b.length := by unfold lenF; rw [d3, List.take_left' (by rw [be_length]), val_be _ _ (by omega)]
  have hget : ∀ i, 120 ≤ i → (blockF kind gen seq b)[i]? = (lowB (crc B) ++ [0, 0, 0, 69])[i - 120]? := by
    intro i hi
    unfold blockF sealF
    rw [hB, List.append_assoc, List.getElem?_append, if_neg (by omega), hBl]
  rw [h120]
  refine ⟨h128, ⟨?_, ?_, ?_, ?_, ?_⟩, ?_, g1, g2, g3, by rw [d4, List.take_left' rfl], ?_⟩
  · unfold blockF sealF
    rw [hB, List.append_assoc, List.getElem?_append, if_pos (by omega), hB1]
    simp [be]
  · rw [hget 124 (by decide)]; rfl
  · rw [hget 125 (by decide)]; rfl
  · rw [hget 126 (by decide)]; rfl
  · rw [hget 127 (by decide)]; rfl
  · unfold ckB
    rw [List.take_take, show min 120 124 = 120 from rfl, h120, beq_iff_eq, List.drop_take]
    unfold blockF sealF
    rw [hB, List.append_assoc, List.drop_left' hBl]
    exact (List.take_left' hlow).symm
  · intro i hi
    rw [g3] at hi ⊢
    have : B[8 + b.length + i]? = (B.drop 8)[b.length + i]? := by rw [List.getElem?_drop]; congr 1; omega
    rw [this, d4, List.getElem?_append, if_neg (by omega), List.getElem?_replicate, if_pos (by omega)]
end Go.Proofs.Ytmlgkahadgpaiaa.Fr
