/- The walks of crc.State.Sum, crc.Sum over any parts, crc.low. -/
import Derived.Test.YtmlgkahadgpaiaaCrcB
namespace Go.Proofs.Ytmlgkahadgpaiaa
set_option linter.unusedSimpArgs false
set_option linter.unusedVariables false
open Go.RowKit Own
attribute [local go_sem] b32_and b32_xor b32_byte b32_two b32_three b32_not
/-- Parts: slices of bytes, as the values that they are. -/
def sls (ps : List (Option Addr × Nat × List UInt8)) : List Value := ps.map fun p => .slice p.1 p.2.2.length p.2.1
theorem sls_length (ps : List (Option Addr × Nat × List UInt8)) : (sls ps).length = ps.length := by simp [sls]
def flat (ps : List (Option Addr × Nat × List UInt8)) : List UInt8 := ps.flatMap fun p => p.2.2
theorem flat_take (ps : List (Option Addr × Nat × List UInt8)) (k : Nat) (h : k < ps.length) : flat (ps.take (k + 1)) = flat (ps.take k) ++ ps[k].2.2 := by
  unfold flat; rw [List.take_succ_eq_append_getElem h, List.flatMap_append]; simp
theorem Own.Rd.part {w : World} {A : Option Addr} {ps : List (Option Addr × Nat × List UInt8)} (h : Rd w A (sls ps)) {k : Nat} (hk : k < ps.length) : ∃ a, A = some a ∧ w.cell? (a.add k) = some (.slice (ps[k]'hk).1 (ps[k]'hk).2.2.length (ps[k]'hk).2.1) := by
  obtain ⟨a, ha, hc⟩ := h k (by rw [sls_length]; exact hk)
  exact ⟨a, ha, by rw [hc]; simp [sls]⟩
set_option maxHeartbeats 400000 in
theorem StSum_calls (s : BitVec 32) (w : World) : Calls Try.prog 71 #[.agg #[.int .u32 (nW s)]] w fun e w' => e = .returned (.int .u32 (nW s)) ∧ Below w.heap.size w w' := by
  go_enter Try.func71, Try.ntmps71
  go_wp2
  go_ret
  exact ⟨rfl, (Below.refl _ _).alloc (Nat.le_refl _) _⟩
set_option maxRecDepth 10000 in
set_option maxHeartbeats 400000 in
theorem Sum_calls (A : Option Addr) (c : Nat) (ps : List (Option Addr × Nat × List UInt8)) (hl : ps.length ≤ 1000000) (w : World) (hR : Rd w A (sls ps)) (hps : ∀ p ∈ ps, p.2.2.length ≤ 1000000 ∧ Rd w p.1 (bys p.2.2)) :
    Calls Try.prog 56 #[.slice A ps.length c] w fun e w' => e = .returned (.int .u32 (nW (crc (flat ps)))) ∧ Below w.heap.size w w' := by
  have HR := Lib.hid hR
  have HP := Lib.hid hps
  clear hR hps
  go_enter Try.func56, Try.ntmps56
  have H0 := At.refl w
  go_wp2
  have H1 := H0.alloc [.int .u32 0] 113
  rw [← crc_nil] at H1
  go_loopw [8] (fun i wr => ∃ k : Nat, k ≤ ps.length ∧ i = .int .i64 k ∧ At w [(w.heap.size, [.int .u32 (nW (crc (flat (ps.take k))))], 113)] wr) (fun i _ => ps.length - (intOf i).toNat)
  case atStart => exact ⟨0, Nat.zero_le _, rfl, H1⟩
  case round =>
    clear H1 H0
    obtain ⟨k, hk, rfl, H⟩ := hrel
    have K := H.rules
    simp only [List.forall_mem_cons] at K
    by_cases hlt : k < ps.length
    · obtain ⟨a, rfl, hc0⟩ := HR.out.part hlt
      have hc := (H.below.cell (World.block_lt_of_cell? w _ hc0)).trans hc0
      clear hc0
      obtain ⟨hpl, hpr⟩ := HP.out ps[k] (List.getElem_mem hlt)
      have E := Lib.hid (flat_take ps k hlt)
      have hR2 := Lib.hid (hpr.below H.below)
      clear hpr
      go_wp2_with fail
      refine callAt (Add_calls _ _ _ _ hpl _ hR2.out) (by repeat (first | with_reducible exact H | apply At.alloc)) ?_
      rintro e w1 rfl H1
      have K1 := H1.rules
      simp only [List.forall_mem_cons] at K1
      go_wp2
      go_roundw
      case rel =>
        have h := H1.set 0 rfl 0 (.int .u32 (nW (~~~ (reg (~~~ (crc (flat (ps.take k)))) ps[k].2.2))))
        rw [crc_add, ← E.out] at h
        exact ⟨k + 1, by omega, by go_num, by rw [crc_add, ← E.out]; exact h⟩
      case measure => simp [intOf]; omega
    · obtain rfl : k = ps.length := by omega
      rw [List.take_length] at H K
      go_wp2_with fail
      refine callAt (StSum_calls _ _) (by repeat (first | with_reducible exact H | apply At.alloc)) ?_
      rintro e w1 rfl H1
      go_wp2
      go_ret
      exact ⟨rfl, H1.below⟩
/-- A number as four bytes, the lowest one first. -/
def lowB (n : BitVec 32) : List UInt8 := [⟨n.setWidth 8⟩, ⟨(n >>> 8).setWidth 8⟩, ⟨(n >>> 16).setWidth 8⟩, ⟨(n >>> 24).setWidth 8⟩]
theorem nW_byte (n : BitVec 32) : nW n % 256 = nB ⟨n.setWidth 8⟩ := by
  unfold nW nB
  show _ = (((n.setWidth 8).toNat : Nat) : Int)
  rw [BitVec.toNat_setWidth]
  omega
set_option maxHeartbeats 400000 in
theorem low_calls (n : BitVec 32) (w : World) : Calls Try.prog 76 #[.int .u32 (nW n)] w fun e w' => e = .returned (.slice (some ⟨w.heap.size, 0, none⟩) 4 4) ∧ w' = w.alloc (.cells ⟨bys (lowB n)⟩ 5) := by
  have e1 := nW_byte n
  have e2 := nW_byte (n >>> 8)
  have e3 := nW_byte (n >>> 16)
  have e4 := nW_byte (n >>> 24)
  go_enter Try.func76, Try.ntmps76
  go_wp2
  go_goals
  go_ret
  exact ⟨rfl, rfl⟩
end Go.Proofs.Ytmlgkahadgpaiaa
