/- The walk of crc.State.Add. -/
import Derived.Test.YtmlgkahadgpaiaaCrcA
namespace Go.Proofs.Ytmlgkahadgpaiaa
set_option linter.unusedSimpArgs false
set_option linter.unusedVariables false
open Go.RowKit Own
attribute [local go_sem] b32_and b32_xor b32_half b32_byte b32_not
theorem tabTo_256 (i : Nat) (h : i < 256) : (tabTo 256)[i]? = some (.int .u32 (nW (tab i))) := by simp [tabTo, h]
set_option maxRecDepth 10000 in
set_option maxHeartbeats 400000 in
theorem Add_calls (s : BitVec 32) (A : Option Addr) (c : Nat) (xs : List UInt8) (hl : xs.length ≤ 1000000) (w : World) (hR : Rd w A (bys xs)) :
    Calls Try.prog 70 #[.agg #[.int .u32 (nW s)], .slice A xs.length c] w fun e w' => e = .returned (.agg #[.int .u32 (nW (~~~ (reg (~~~ s) xs)))]) ∧ Below w.heap.size w w' := by
  have HR := Lib.hid hR
  clear hR
  go_enter Try.func70, Try.ntmps70
  have H0 := At.refl w
  go_wp2_with fail
  refine callAt (table_calls _) (by repeat (first | with_reducible exact H0 | apply At.alloc)) ?_
  rintro e w1 rfl H1
  go_wp2_with (first | (refine wpList_alloc_arr rfl 122 rfl tabZ tab_zero ?_) | (refine wpList_store_row rfl 122 _ _ rfl _ _ rfl rfl 122 _ (heap_alloc_new _ _) tab_size tab_old tab_one ?_; have H2 := (H1.alloc tabZ 122).setRow 0 rfl ⟨tabTo 256⟩; generalize World.setRow _ _ _ = w2 at H2 ⊢; have K2 := H2.rules; simp only [List.set_cons_zero, List.forall_mem_cons, World.size_alloc] at K2))
  have hn : 0 ≤ xs.length := Nat.zero_le _
  go_loop [6, 15] (fun r i => ∃ k : Nat, k ≤ xs.length ∧ r = .int .u32 (nW (reg (~~~ s) (xs.take k))) ∧ i = .int .i64 k) (fun _ i => xs.length - (intOf i).toNat)
  case atStart => exact ⟨0, Nat.zero_le _, rfl, rfl⟩
  case round =>
    obtain ⟨k, hk, rfl, rfl⟩ := hrel
    by_cases hlt : k < xs.length
    · obtain ⟨a, rfl, hc0⟩ := HR.out.byte hlt
      have hc : w2.cell? (a.add k) = some (.int .u8 (nB xs[k])) := (H2.below.cell (World.block_lt_of_cell? w _ hc0)).trans hc0
      clear hc0
      have h1 := ix_walk (reg (~~~ s) (xs.take k)) xs[k]
      have h2 := ix_lt (reg (~~~ s) (xs.take k)) xs[k]
      have h3 := tabTo_256 _ h2
      have E := Lib.hid (reg_take (~~~ s) xs k hlt)
      go_wp2
      go_round
      case rel => exact ⟨k + 1, by omega, by rw [E.out]; rfl, by go_num⟩
      case measure => simp [intOf]; omega
    · obtain rfl : k = xs.length := by omega
      rw [List.take_length]
      go_wp2
      exact bodyPost_ret (v := .agg #[.int .u32 (nW (~~~ (reg (~~~ s) xs)))]) (by simp [results, Try.results70, go_sem, K2]) rfl ⟨rfl, H2.below.setCell (by simp only [World.size_alloc]; omega) _⟩
end Go.Proofs.Ytmlgkahadgpaiaa
