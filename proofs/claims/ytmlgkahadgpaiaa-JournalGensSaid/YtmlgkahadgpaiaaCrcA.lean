/- The walk of crc.table. -/
import Derived.Test.YtmlgkahadgpaiaaMem
import Derived.Test.YtmlgkahadgpaiaaCrcP
import Derived.Test.YtmlgkahadgpaiaaProg
import Derived.WalkKit
import Derived.WalkSpells
import Derived.WalkLawsBesides
import Derived.Lib.Hide
namespace Go.Proofs.Ytmlgkahadgpaiaa
set_option linter.unusedSimpArgs false
set_option linter.unusedVariables false
open Go.RowKit Own
attribute [local go_sem] b32_and b32_xor b32_half b32_byte b32_poly
def tabZ : List Value := List.replicate 256 (.int .u32 0)
def tabTo (k : Nat) : List Value := (List.range 256).map fun j => if j < k then .int .u32 (nW (tab j)) else .int .u32 0
theorem tab_zero : (Try.prog.info? 122).map (·.zero) = some (some (.agg ⟨tabZ⟩)) := by kernel_rfl
theorem tabTo_zero : tabTo 0 = tabZ := by
  refine List.eq_replicate_iff.2 ⟨by rw [tabTo, List.length_map, List.length_range], fun x hx => ?_⟩
  obtain ⟨j, _, rfl⟩ := List.mem_map.1 hx
  rw [if_neg (by omega)]
theorem tabTo_length (k : Nat) : (tabTo k).length = 256 := by rw [tabTo, List.length_map, List.length_range]
theorem tab_old {k : Nat} : (Array.mk tabZ).size = (Array.mk (tabTo k)).size := by
  show tabZ.length = (tabTo k).length
  rw [tabTo_length, tabZ, List.length_replicate]
theorem tab_one {k : Nat} : (Array.mk (tabTo k)).all (·.oneCell') = true := by
  rw [Array.all_eq_true_iff_forall_mem]
  intro x hx
  have hx' : x ∈ tabTo k := by simpa using hx
  obtain ⟨j, _, rfl⟩ := List.mem_map.1 hx'
  split <;> rfl
theorem tab_size {k : Nat} : (Try.prog.info? 122).map (·.size) = some (Array.mk (tabTo k)).size := by
  have h : (Try.prog.info? 122).map (·.size) = some 256 := by kernel_rfl
  rw [h]; show some 256 = some (tabTo k).length; rw [tabTo_length]
theorem tabTo_at (k : Nat) (h : k < 256) : (tabTo k)[k]? = some (.int .u32 0) := by simp [tabTo, h]
theorem tabTo_set (k : Nat) (h : k < 256) : (tabTo k).set k (.int .u32 (nW (tab k))) = tabTo (k + 1) := by
  apply List.ext_getElem (by simp [tabTo])
  intro i h1 h2
  rw [List.getElem_set]
  simp only [tabTo, List.getElem_map, List.getElem_range]
  by_cases e : k = i
  · subst e; simp
  · rw [if_neg e]
    by_cases e2 : i < k
    · rw [if_pos e2, if_pos (by omega)]
    · rw [if_neg e2, if_neg (by omega)]
set_option maxRecDepth 10000 in
set_option maxHeartbeats 400000 in
theorem table_calls (w : World) : Calls Try.prog 78 #[] w fun e w' => e = .returned (.agg ⟨tabTo 256⟩) ∧ Below w.heap.size w w' := by
  go_enter Try.func78, Try.ntmps78
  have H0 := At.refl w
  go_wp2_with (refine wpList_alloc_arr rfl 122 rfl tabZ tab_zero ?_)
  have H1 := (H0.alloc tabZ 122).alloc tabZ 122
  rw [World.size_alloc] at H1
  clear H0
  go_loopw [4] (fun i wr => ∃ k : Nat, k ≤ 256 ∧ i = .int .i64 k ∧ At w [(w.heap.size + 1, tabTo k, 122), (w.heap.size, tabZ, 122)] wr) (fun i _ => 256 - (intOf i).toNat)
  case atStart => exact ⟨0, Nat.zero_le _, rfl, by rw [tabTo_zero]; exact H1⟩
  case round =>
    clear H1
    obtain ⟨k, hk, rfl, H⟩ := hrel
    by_cases hlt : k < 256
    · have K := H.rules
      simp only [List.forall_mem_cons] at K
      have ha := tabTo_at k hlt
      go_wp2
      go_loop [3, 9] (fun r i => ∃ m : Nat, m ≤ 8 ∧ r = .int .u32 (nW (sts m (BitVec.ofNat 32 k))) ∧ i = .int .i64 m) (fun _ i => 8 - (intOf i).toNat)
      case atStart => exact ⟨0, Nat.zero_le _, by rw [u32_of_nat k (by omega)]; rfl, rfl⟩
      case round =>
        obtain ⟨m, hm, rfl, rfl⟩ := hrel
        by_cases hlt2 : m < 8
        · cases hb : odd (sts m (BitVec.ofNat 32 k))
          · have E := Lib.hid (sts_even hb)
            have ht := (odd_walk (sts m (BitVec.ofNat 32 k))).trans hb
            go_wp2
            go_round
            case rel => exact ⟨m + 1, by omega, by rw [E.out], by go_num⟩
            case measure => simp [intOf]; omega
          · have E := Lib.hid (sts_odd hb)
            have ht := (odd_walk (sts m (BitVec.ofNat 32 k))).trans hb
            go_wp2
            go_round
            case rel => exact ⟨m + 1, by omega, by rw [E.out], by go_num⟩
            case measure => simp [intOf]; omega
        · obtain rfl : m = 8 := by omega
          go_wp2
          go_roundw
          case rel =>
            have h := H.set 0 rfl k (.int .u32 (nW (tab k)))
            rw [tabTo_set k hlt] at h
            exact ⟨k + 1, by omega, by go_num, h⟩
          case measure => simp [intOf]; omega
    · go_wp2_with (first | (refine wpList_store_row rfl 122 _ _ rfl _ _ rfl rfl 122 _ (H.row 1 rfl) tab_size tab_old tab_one ?_) | refine wpList_load_row rfl 122 _ rfl _ rfl 122 _ (0, 0) _ (H.row 0 rfl) Try.underlying122 rfl tab_size ?_)
      obtain rfl : k = 256 := by omega
      have H2 := H.setRow 1 rfl ⟨tabTo 256⟩
      exact bodyPost_ret (v := .agg ⟨tabTo 256⟩) (results_cell_row rfl _ _ w.heap.size 122 _ (0, 0) _ rfl (H2.row 1 rfl) Try.underlying122 rfl tab_size) rfl ⟨rfl, H2.below⟩
end Go.Proofs.Ytmlgkahadgpaiaa
