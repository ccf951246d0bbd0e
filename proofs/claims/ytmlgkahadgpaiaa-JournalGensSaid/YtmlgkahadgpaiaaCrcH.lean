/- The walk of the reference of layer 6: Seal. -/
import Derived.Test.YtmlgkahadgpaiaaCrcG
import Derived.Test.YtmlgkahadgpaiaaCrcF
namespace Go.Proofs.Ytmlgkahadgpaiaa
set_option linter.unusedSimpArgs false
set_option linter.unusedVariables false
open Go.RowKit Own
attribute [local go_sem] b32_byte nW_mod nW_tdiv8 nW_tmod nW_byte nB_mod
def sh (c : BitVec 32) : Nat → BitVec 32
  | 0 => c
  | k + 1 => sh c k >>> 8
def lowTo (c : BitVec 32) : Nat → List UInt8
  | 0 => []
  | k + 1 => lowTo c k ++ [⟨(sh c k).setWidth 8⟩]
theorem lowTo_four (c : BitVec 32) : lowTo c 4 = lowB c := by
  simp [lowTo, lowB, sh, ← BitVec.shiftRight_add]
theorem lowTo_length (c : BitVec 32) (k : Nat) : (lowTo c k).length = k := by
  induction k with
  | zero => rfl
  | succ k ih => simp [lowTo, ih]
set_option maxRecDepth 10000 in
set_option maxHeartbeats 600000 in
theorem RSeal_calls (A : Option Addr) (c n : Nat) (xs : List UInt8) (hn : n = xs.length) (hl : n ≤ 10000) (hA : A = none → c = 0) (w : World) (hR : Rd w A (bys xs)) :
    Calls Try.prog 77 #[.slice A n c] w fun e w' => ∃ v, e = .returned v ∧ Has w.heap.size 5 v (bys (xs ++ lowB (crc xs))) w' ∧ Below w.heap.size w w' := by
  subst hn
  have HR := Lib.hid hR
  clear hR
  have HA := Lib.hid hA
  clear hA
  go_enter Try.func77, Try.ntmps77
  go_wp2_with (first | (go_at_call 65; refine (RSum_calls A c _ xs rfl (by omega) _ HR.out).mono ?_; rintro e w' ⟨rfl, rfl⟩) | (at_builtin; refine wpList_app rfl _ _ 23 rfl w.heap.size 5 (.int .u8 0) 1 Try.underlying23 infoB rfl _ [] rfl (Has.lit _ w [] (Nat.le_refl _) (by simp [maxLen])) _ _ _ (bys xs) rfl (bys_length xs).symm HA.out (HR.out.below ((Below.refl _ _).alloc (Nat.le_refl _) _)) (bys_one xs) (by rw [bys_length]; simp [maxLen]; omega) (by rw [bys_length]; simp; omega) (by simp) ?_; intro v1 w1 hv1 hg1; have HB1 := Lib.hid (show Below w.heap.size w w1 from ((Below.refl _ w).alloc (Nat.le_refl _) _).grown hg1 (by simp) (fun k e => by cases e; exact Nat.le_refl _)); have HV1 := Lib.hid hv1; clear hv1 hg1))
  go_loopw [3, 4, 5] (fun m v i wr => ∃ k : Nat, k ≤ 4 ∧ m = .int .u32 (nW (sh (crc xs) k)) ∧ i = .int .i64 k ∧ Has w.heap.size 5 v (bys (xs ++ lowTo (crc xs) k)) wr ∧ Below w.heap.size w wr) (fun _ _ i _ => 4 - (intOf i).toNat)
  case atStart => exact ⟨0, Nat.zero_le _, rfl, rfl, by rw [show xs ++ lowTo (crc xs) 0 = xs from List.append_nil xs]; exact HV1.out, HB1.out⟩
  case round =>
    obtain ⟨k, hk, rfl, rfl, hv, hB⟩ := hrel
    have HV := Lib.hid hv
    have HB := Lib.hid hB
    clear hv hB HV1 HB1
    by_cases hlt : k < 4
    · go_wp2_with (at_builtin; refine wpList_app rfl _ _ 23 rfl w.heap.size 5 (.int .u8 0) 1 Try.underlying23 infoB rfl _ (bys (xs ++ lowTo (crc xs) k)) rfl (HV.out.below (below_alloc' _ (Below.refl _ _))) _ _ _ (bys [⟨(sh (crc xs) k).setWidth 8⟩]) rfl rfl (fun h => nomatch h) (Rd.new (bys [⟨(sh (crc xs) k).setWidth 8⟩]) 5) (bys_one _) ?hCap ?hCap2 ?hBase ?_)
      case hCap => rw [bys_length, bys_length, List.length_append, lowTo_length]; simp [maxLen]; omega
      case hCap2 => rw [bys_length, bys_length, List.length_append, lowTo_length]; simp; omega
      case hBase => have := HB.out.size; simp only [World.size_alloc]; omega
      intro v' w4 hv hg
      rw [← bys_append, List.append_assoc] at hv
      have HV4 := Lib.hid hv
      have HB4 := Lib.hid (show Below w.heap.size w w4 from (below_alloc' _ HB.out).grown hg (by have := HB.out.size; simp only [World.size_alloc]; omega) (fun q e => (HV.out.blk q e).1))
      clear hg hv
      go_wp2
      go_roundw
      case rel => exact ⟨k + 1, by omega, by rw [nW_mod]; rfl, by go_num, HV4.out, HB4.out⟩
      case measure => simp [intOf]; omega
    · obtain rfl : k = 4 := by omega
      rw [lowTo_four] at HV
      go_wp2
      go_ret
      exact ⟨_, rfl, HV.out, HB.out⟩
end Go.Proofs.Ytmlgkahadgpaiaa
