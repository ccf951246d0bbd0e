/- The checksum as a function of numbers of 32 bits: plain lemmas, no program in sight. -/
import Derived.Test.YtmlgkahadgpaiaaMem
import Derived.Laws.BitsAllLaws
import Derived.Laws.Wrap64
import Derived.IntWalk
namespace Go.Proofs.Ytmlgkahadgpaiaa.Own
def nW (x : BitVec 32) : Int := x.toNat
theorem u32_lo (x : BitVec 32) : 0 ≤ nW x := Int.natCast_nonneg _
theorem u32_hi (x : BitVec 32) : nW x < 4294967296 := by have := x.isLt; unfold nW; omega
theorem u32_inj {x y : BitVec 32} (h : nW x = nW y) : x = y := BitVec.eq_of_toNat_eq (by unfold nW at h; omega)
theorem u32_eq (x y : BitVec 32) : (nW x == nW y) = (x == y) := by
  by_cases h : x = y
  · subst h; simp
  · rw [beq_eq_false_iff_ne.2 h, beq_eq_false_iff_ne.2 (fun e => h (u32_inj e))]
theorem b32_and (x y : BitVec 32) : bits .and .u32 (nW x) (nW y) = nW (x &&& y) := by
  unfold nW; rw [u32_and_nat _ _ x.isLt y.isLt, BitVec.toNat_and]
theorem b32_xor (x y : BitVec 32) : bits .xor .u32 (nW x) (nW y) = nW (x ^^^ y) := by
  unfold nW; rw [u32_xor_nat _ _ x.isLt y.isLt, BitVec.toNat_xor]
theorem nW_mod (x : BitVec 32) : nW x % 4294967296 = nW x := Int.emod_eq_of_lt (u32_lo x) (u32_hi x)
theorem nW_tdiv (x : BitVec 32) : (nW x).tdiv 2 = nW (x >>> 1) := by
  unfold nW; rw [BitVec.toNat_ushiftRight, Nat.shiftRight_eq_div_pow, Int.tdiv_eq_ediv_of_nonneg (Int.natCast_nonneg _)]; omega
theorem nW_tdiv8 (x : BitVec 32) : (nW x).tdiv 256 = nW (x >>> 8) := by
  unfold nW; rw [BitVec.toNat_ushiftRight, Nat.shiftRight_eq_div_pow, Int.tdiv_eq_ediv_of_nonneg (Int.natCast_nonneg _)]; omega
theorem nW_tmod (x : BitVec 32) (k : Int) : (nW x).tmod k = nW x % k := Int.tmod_eq_emod_of_nonneg (u32_lo x)
theorem b32_shr (x : BitVec 32) (k : Nat) : nW x / ((2 ^ k : Nat) : Int) = nW (x >>> k) := by
  unfold nW; rw [BitVec.toNat_ushiftRight, Nat.shiftRight_eq_div_pow]; omega
theorem b32_half (x : BitVec 32) : nW x / (2 : Int) = nW (x >>> 1) := b32_shr x 1
theorem b32_byte (x : BitVec 32) : nW x / (256 : Int) = nW (x >>> 8) := b32_shr x 8
theorem b32_two (x : BitVec 32) : nW x / (65536 : Int) = nW (x >>> 16) := b32_shr x 16
theorem b32_three (x : BitVec 32) : nW x / (16777216 : Int) = nW (x >>> 24) := b32_shr x 24
theorem nW_sub (x : BitVec 32) : (4294967295 - nW x) % 4294967296 = nW (~~~x) := by
  have := x.isLt
  unfold nW
  rw [BitVec.toNat_not]
  omega
theorem b32_not (x : BitVec 32) : bits .xor .u32 IntKind.u32.max (nW x) = nW (~~~x) := by
  rw [show IntKind.u32.max = nW 4294967295#32 from by decide, b32_xor]
  rw [show (4294967295#32 : BitVec 32) = BitVec.allOnes 32 from rfl, BitVec.allOnes_xor]
def poly : BitVec 32 := 3988292384#32
/-- One bit goes out. -/
def st (r : BitVec 32) : BitVec 32 := if r.getLsbD 0 then (r >>> 1) ^^^ poly else r >>> 1
def sts : Nat → BitVec 32 → BitVec 32
  | 0, r => r
  | k + 1, r => st (sts k r)
/-- What becomes of the register for a byte: the table's entry. -/
def tab (i : Nat) : BitVec 32 := sts 8 (BitVec.ofNat 32 i)
/-- Which entry. -/
def ix (r : BitVec 32) (c : UInt8) : Nat := (r.toNat % 256) ^^^ c.toNat
theorem ix_lt (r : BitVec 32) (c : UInt8) : ix r c < 256 := Nat.xor_lt_two_pow (n := 8) (Nat.mod_lt _ (by decide)) c.toNat_lt
theorem ix_walk (r : BitVec 32) (c : UInt8) : bits .xor .u8 (nW r % 256) (nB c) = (ix r c : Nat) := by
  unfold ix nB nW
  have h := u8_xor_nat (r.toNat % 256) c.toNat (Nat.mod_lt _ (by decide)) c.toNat_lt
  rw [← h]; simp
def upd (r : BitVec 32) (c : UInt8) : BitVec 32 := tab (ix r c) ^^^ (r >>> 8)
def reg (r : BitVec 32) (xs : List UInt8) : BitVec 32 := xs.foldl upd r
theorem reg_snoc (r : BitVec 32) (xs : List UInt8) (c : UInt8) : reg r (xs ++ [c]) = upd (reg r xs) c := by simp [reg]
theorem reg_append (r : BitVec 32) (xs ys : List UInt8) : reg r (xs ++ ys) = reg (reg r xs) ys := by simp [reg]
theorem reg_take (r : BitVec 32) (xs : List UInt8) (k : Nat) (h : k < xs.length) : reg r (xs.take (k + 1)) = upd (reg r (xs.take k)) xs[k] := by
  rw [List.take_succ_eq_append_getElem h, reg_snoc]
/-- The register at the begin. -/
def ini : BitVec 32 := ~~~ 0#32
/-- The state behind bytes; the sum of bytes. -/
def crc (xs : List UInt8) : BitVec 32 := ~~~ (reg ini xs)
theorem crc_nil : nW (crc []) = 0 := rfl
theorem crc_add (xs ys : List UInt8) : ~~~ (reg (~~~ (crc xs)) ys) = crc (xs ++ ys) := by
  unfold crc; rw [BitVec.not_not, reg_append]
theorem u32_of_nat (k : Nat) (h : k < 4294967296) : ((k : Nat) : Int) = nW (BitVec.ofNat 32 k) := by
  unfold nW
  rw [BitVec.toNat_ofNat, Nat.mod_eq_of_lt h]
/-- Does a bit of 1 go out? -/
def odd (r : BitVec 32) : Bool := r.getLsbD 0
theorem odd_test (r : BitVec 32) : (nW (r &&& 1#32) == 1) = odd r := by
  rw [show (1 : Int) = nW 1#32 from rfl, u32_eq]
  unfold odd
  cases h : r.getLsbD 0
  · rw [beq_eq_false_iff_ne]
    intro e
    have h2 := congrArg (fun x : BitVec 32 => x.getLsbD 0) e
    simp only [BitVec.getLsbD_and, h, Bool.false_and] at h2
    exact absurd h2 (by decide)
  · rw [beq_iff_eq]
    apply BitVec.eq_of_getLsbD_eq
    intro i hi
    rw [BitVec.getLsbD_and]
    by_cases e : i = 0
    · subst e; simp [h]
    · rw [show (1#32 : BitVec 32).getLsbD i = false from by simp [BitVec.getLsbD_one, e]]; simp
theorem odd_walk (r : BitVec 32) : (bits .and .u32 (nW r) 1 == 1) = odd r := by
  rw [show bits .and .u32 (nW r) 1 = nW (r &&& 1#32) from b32_and r 1#32]; exact odd_test r
theorem b32_poly (x : BitVec 32) : bits .xor .u32 (nW x) 3988292384 = nW (x ^^^ poly) := b32_xor x poly
theorem sts_odd {r : BitVec 32} {m : Nat} (h : odd (sts m r) = true) : sts (m + 1) r = (sts m r >>> 1) ^^^ poly := by
  show st (sts m r) = _
  unfold st; unfold odd at h; rw [if_pos h]
theorem sts_even {r : BitVec 32} {m : Nat} (h : odd (sts m r) = false) : sts (m + 1) r = sts m r >>> 1 := by
  show st (sts m r) = _
  unfold st; unfold odd at h; rw [if_neg (by rw [h]; decide)]
end Go.Proofs.Ytmlgkahadgpaiaa.Own
