/- The checksum bit by bit (the reference): plain lemmas. -/
import Derived.Test.YtmlgkahadgpaiaaCrcP
namespace Go.Proofs.Ytmlgkahadgpaiaa.Own
def oddB (c : UInt8) : Bool := c.toBitVec.getLsbD 0
theorem oddB_walk (c : UInt8) : (nB c % 2 == 1) = oddB c := by
  unfold oddB nB
  have h := Nat.testBit_zero c.toNat
  have e : c.toBitVec.getLsbD 0 = c.toNat.testBit 0 := rfl
  rw [e, h]
  by_cases h2 : c.toNat % 2 = 1
  · rw [beq_iff_eq.2 (by omega), decide_eq_true h2]
  · rw [beq_eq_false_iff_ne.2 (by omega), decide_eq_false h2]
theorem oddW_walk (r : BitVec 32) : (nW r % 2 == 1) = odd r := by
  unfold odd nW
  have h := Nat.testBit_zero r.toNat
  have e : r.getLsbD 0 = r.toNat.testBit 0 := rfl
  rw [e, h]
  by_cases h2 : r.toNat % 2 = 1
  · rw [beq_iff_eq.2 (by omega), decide_eq_true h2]
  · rw [beq_eq_false_iff_ne.2 (by omega), decide_eq_false h2]
def half (c : UInt8) : UInt8 := ⟨c.toBitVec >>> 1⟩
theorem nB_half (c : UInt8) : nB c / (2 : Int) = nB (half c) := by
  unfold nB half
  show _ = (((c.toBitVec >>> 1).toNat : Nat) : Int)
  rw [BitVec.toNat_ushiftRight, Nat.shiftRight_eq_div_pow]
  have : c.toBitVec.toNat = c.toNat := rfl
  omega
theorem nB_tdiv (c : UInt8) : (nB c).tdiv 2 = nB (half c) := by rw [Int.tdiv_eq_ediv_of_nonneg (u8_lo c), nB_half]
/-- The byte, and the register, behind m bits. -/
def rfC (c : UInt8) : Nat → UInt8
  | 0 => c
  | m + 1 => half (rfC c m)
def rfR (r : BitVec 32) (c : UInt8) : Nat → BitVec 32
  | 0 => r
  | m + 1 => if (odd (rfR r c m) != oddB (rfC c m)) = true then (rfR r c m >>> 1) ^^^ poly else rfR r c m >>> 1
theorem rfR_yes {r : BitVec 32} {c : UInt8} {m : Nat} (h : (odd (rfR r c m) != oddB (rfC c m)) = true) : rfR r c (m + 1) = (rfR r c m >>> 1) ^^^ poly := by rw [rfR, if_pos h]
theorem rfR_no {r : BitVec 32} {c : UInt8} {m : Nat} (h : (odd (rfR r c m) != oddB (rfC c m)) = false) : rfR r c (m + 1) = rfR r c m >>> 1 := by rw [rfR, if_neg (by rw [h]; decide)]
def zx (c : UInt8) : BitVec 32 := c.toBitVec.setWidth 32
theorem st_eq (x : BitVec 32) : st x = (x >>> 1) ^^^ (if odd x = true then poly else 0#32) := by
  unfold st odd; split <;> simp
theorem odd_xor (x y : BitVec 32) : odd (x ^^^ y) = (odd x != odd y) := by
  unfold odd; rw [BitVec.getLsbD_xor]
theorem st_xor (x y : BitVec 32) : st (x ^^^ y) = st x ^^^ st y := by
  rw [st_eq, st_eq, st_eq, odd_xor, BitVec.ushiftRight_xor_distrib]
  cases odd x <;> cases odd y <;> simp
  · rw [← BitVec.xor_assoc]
  · rw [BitVec.xor_assoc, BitVec.xor_assoc, BitVec.xor_comm poly]
  · rw [BitVec.xor_assoc, BitVec.xor_comm poly, BitVec.xor_assoc, BitVec.xor_self, BitVec.xor_zero]
theorem sts_xor (k : Nat) (x y : BitVec 32) : sts k (x ^^^ y) = sts k x ^^^ sts k y := by
  induction k with
  | zero => rfl
  | succ k ih => show st (sts k _) = st _ ^^^ st _; rw [ih, st_xor]
theorem zx_half (c : UInt8) : zx (half c) = zx c >>> 1 := by
  unfold zx half
  apply BitVec.eq_of_getLsbD_eq
  intro i hi
  simp [BitVec.getLsbD_setWidth, BitVec.getLsbD_ushiftRight]
theorem odd_zx (c : UInt8) : odd (zx c) = oddB c := by unfold odd zx oddB; simp
theorem rf_sts (r : BitVec 32) (c : UInt8) (m : Nat) : rfR r c m ^^^ zx (rfC c m) = sts m (r ^^^ zx c) := by
  induction m with
  | zero => rfl
  | succ m ih =>
    show _ = st (sts m (r ^^^ zx c))
    rw [← ih, st_eq, odd_xor, odd_zx, BitVec.ushiftRight_xor_distrib, rfC, zx_half, rfR]
    cases (odd (rfR r c m) != oddB (rfC c m)) <;> simp
    · rw [BitVec.xor_assoc, BitVec.xor_comm poly, ← BitVec.xor_assoc]
theorem rfC_eight (c : UInt8) : zx (rfC c 8) = 0#32 := by
  show zx (half (half (half (half (half (half (half (half c)))))))) = _
  simp only [zx_half]
  apply BitVec.eq_of_getLsbD_eq
  intro i hi
  simp only [BitVec.getLsbD_ushiftRight, zx, BitVec.getLsbD_setWidth, BitVec.getLsbD_zero]
  rw [BitVec.getLsbD_of_ge _ _ (by omega)]
  simp
theorem sts_low (k : Nat) (x : BitVec 32) (h : ∀ i, i < k → x.getLsbD i = false) : sts k x = x >>> k := by
  induction k with
  | zero => simp [sts]
  | succ k ih =>
    show st (sts k x) = _
    rw [ih (fun i hi => h i (by omega)), st_eq]
    have h0 : odd (x >>> k) = false := by unfold odd; rw [BitVec.getLsbD_ushiftRight]; simpa using h k (by omega)
    rw [h0]
    simp [BitVec.shiftRight_add]
theorem byte_split (y : BitVec 32) : sts 8 y = sts 8 (y &&& 255#32) ^^^ (y >>> 8) := by
  have e : y = (y &&& 255#32) ^^^ (y &&& ~~~255#32) := by
    apply BitVec.eq_of_getLsbD_eq
    intro i hi
    simp only [BitVec.getLsbD_xor, BitVec.getLsbD_and, BitVec.getLsbD_not, hi]
    cases y.getLsbD i <;> cases (255#32).getLsbD i <;> rfl
  have h255 : ∀ i, (255#32 : BitVec 32).getLsbD i = decide (i < 8) := by
    intro i
    rw [show (255#32 : BitVec 32) = BitVec.ofNat 32 (2 ^ 8 - 1) from rfl, BitVec.getLsbD_ofNat, Nat.testBit_two_pow_sub_one]
    by_cases h : i < 8
    · simp [h]; omega
    · simp [h]
  have hl : sts 8 (y &&& ~~~255#32) = (y &&& ~~~255#32) >>> 8 := by
    refine sts_low 8 _ fun i hi => ?_
    rw [BitVec.getLsbD_and, BitVec.getLsbD_not, h255]
    simp [hi]
  have hs : (y &&& ~~~255#32) >>> 8 = y >>> 8 := by
    apply BitVec.eq_of_getLsbD_eq
    intro i hi
    rw [BitVec.getLsbD_ushiftRight, BitVec.getLsbD_ushiftRight, BitVec.getLsbD_and, BitVec.getLsbD_not, h255]
    by_cases h : 8 + i < 32
    · simp [h]
    · rw [BitVec.getLsbD_of_ge y (8 + i) (by omega)]; simp
  conv => lhs; rw [e, sts_xor, hl, hs]
theorem upd_sts (r : BitVec 32) (c : UInt8) : upd r c = sts 8 (r ^^^ zx c) := by
  rw [byte_split]
  unfold upd tab
  congr 1
  · congr 1
    apply BitVec.eq_of_toNat_eq
    rw [BitVec.toNat_ofNat, BitVec.toNat_and, BitVec.toNat_xor, Nat.mod_eq_of_lt (Nat.lt_trans (ix_lt r c) (by decide))]
    unfold ix
    have h1 : (zx c).toNat = c.toNat := by
      unfold zx; rw [BitVec.toNat_setWidth]; exact Nat.mod_eq_of_lt (Nat.lt_trans c.toNat_lt (by decide))
    rw [h1, show (255#32 : BitVec 32).toNat = 2 ^ 8 - 1 from rfl, Nat.and_two_pow_sub_one_eq_mod, show (256 : Nat) = 2 ^ 8 from rfl]
    apply Nat.eq_of_testBit_eq
    intro i
    rw [Nat.testBit_xor, Nat.testBit_mod_two_pow, Nat.testBit_mod_two_pow, Nat.testBit_xor]
    by_cases h : i < 8
    · simp [h]
    · have := Nat.testBit_lt_two_pow (x := c.toNat) (i := i) (Nat.lt_of_lt_of_le c.toNat_lt (Nat.pow_le_pow_right (by decide) (by omega)))
      simp [h, this]
  · apply BitVec.eq_of_getLsbD_eq
    intro i hi
    rw [BitVec.getLsbD_ushiftRight, BitVec.getLsbD_ushiftRight, BitVec.getLsbD_xor]
    have : (zx c).getLsbD (8 + i) = false := by unfold zx; rw [BitVec.getLsbD_setWidth, BitVec.getLsbD_of_ge _ _ (by omega)]; simp
    rw [this]; simp
theorem rf_upd (r : BitVec 32) (c : UInt8) : rfR r c 8 = upd r c := by
  have h := rf_sts r c 8
  rw [rfC_eight, BitVec.xor_zero] at h
  rw [h, upd_sts]
end Go.Proofs.Ytmlgkahadgpaiaa.Own
