/- The walk of the reference of layer 6: Turn. -/
import Derived.Test.YtdamljjbeaomoaaTurnQ
import Derived.Test.YtdamljjbeaomoaaCrcH
namespace Go.Proofs.Ytdamljjbeaomoaa
set_option linter.unusedSimpArgs false
set_option linter.unusedVariables false
open Go.RowKit Own
theorem Own.Has.own {base : Nat} {e : TypeId} {v : Value} {xs : List Value} {w : World} (h : Has base e v xs w) (hx : 0 < xs.length) : ∃ g cap, v = .slice (some ⟨g, 0, none⟩) xs.length cap ∧ xs.length ≤ cap ∧ base ≤ g := by
  obtain ⟨h1, ⟨rfl, h2⟩ | ⟨g, cap, cur, rfl, hb, hg, hn, hc, hs, ht⟩⟩ := h
  · omega
  · exact ⟨g, cap, rfl, hn, hb⟩
def bitB (j : Nat) : UInt8 := ⟨1#8 <<< j⟩
theorem bitB_twice (j : Nat) (h : j < 7) : nB (bitB j) * 2 % 256 = nB (bitB (j + 1)) := by
  have : ∀ j : Fin 7, nB (bitB j) * 2 % 256 = nB (bitB (j + 1)) := by decide
  exact this ⟨j, h⟩
def xorB (x y : UInt8) : UInt8 := ⟨x.toBitVec ^^^ y.toBitVec⟩
theorem b8_xor (x y : UInt8) : bits .xor .u8 (nB x) (nB y) = nB (xorB x y) := by
  unfold nB
  rw [u8_xor_nat _ _ x.toNat_lt y.toNat_lt]
  show ((x.toBitVec.toNat ^^^ y.toBitVec.toNat : Nat) : Int) = ((x.toBitVec ^^^ y.toBitVec).toNat : Nat)
  rw [BitVec.toNat_xor]
theorem bitAt_set (xs : List UInt8) (q : Nat) (h : q / 8 < xs.length) (i : Nat) (hi : i ≠ q) : bitAt (xs.set (q / 8) (xorB xs[q / 8] (bitB (q % 8)))) i = bitAt xs i := by
  by_cases hl : i / 8 < xs.length
  · rw [bitAt_eq xs i hl, bitAt_eq _ i (by rw [List.length_set]; exact hl), List.getElem_set]
    split
    · rename_i he
      unfold xorB bitB
      show (_ ^^^ (1#8 <<< (q % 8)) : BitVec 8).getLsbD _ = _
      rw [BitVec.getLsbD_xor, BitVec.getLsbD_shiftLeft]
      have : ¬ (i % 8 - q % 8 = 0 ∧ ¬ i % 8 < q % 8) := by omega
      simp only [he]
      by_cases h1 : i % 8 < q % 8
      · simp [h1]
      · simp [h1, BitVec.getLsbD_one, show ¬ i % 8 - q % 8 = 0 by omega]
    · rfl
  · rw [bitAt_over xs i (by omega), bitAt_over _ i (by rw [List.length_set]; omega)]
theorem bys_set (ys : List UInt8) (i : Nat) (x : UInt8) : bys (ys.set i x) = (bys ys).set i (.int .u8 (nB x)) := by simp [bys, List.map_set]
attribute [local go_sem] nW_tdiv b32_half nW_tmod nW_mod nB_mod b8_xor
set_option maxRecDepth 10000 in
set_option maxHeartbeats 2000000 in
theorem RTurn_calls (a : Addr) (c n : Nat) (xs : List UInt8) (hn : n = xs.length) (h0 : 0 < n) (hl : n ≤ 10000) (p : Int) (hp1 : -40 ≤ p) (hp2 : p ≤ 10000) (m : BitVec 32) (w : World) (hR : Rd w (some a) (bys xs)) :
    Calls Try.prog 31 #[.slice (some a) n c, .int .i64 p, .int .u32 (nW m)] w fun e w' => ∃ v ys, e = .returned v ∧ ys.length = n ∧ (∀ i : Nat, (i : Int) < p ∨ p + 32 ≤ i → bitAt xs i = bitAt ys i) ∧ Has w.heap.size 5 v (bys ys) w' ∧ Below w.heap.size w w' := by
  subst hn
  have HR := Lib.hid hR
  clear hR
  go_enter Try.func31, Try.ntmps31
  go_wp2_with (at_builtin; refine wpList_app rfl _ _ 37 rfl w.heap.size 5 (.int .u8 0) 1 Try.underlying37 infoB rfl _ [] rfl (Has.lit _ w [] (Nat.le_refl _) (by simp [maxLen])) _ _ _ (bys xs) rfl (bys_length xs).symm (fun h => nomatch h) (HR.out.below ((Below.refl _ _).alloc (Nat.le_refl _) _)) (bys_one xs) (by rw [bys_length]; simp [maxLen]; omega) (by rw [bys_length]; simp; omega) (by simp) ?_; intro v1 w1 hv1 hg1; have HB1 := Lib.hid (show Below w.heap.size w w1 from ((Below.refl _ w).alloc (Nat.le_refl _) _).grown hg1 (by simp) (fun k e => by cases e; exact Nat.le_refl _)); have HV1 := Lib.hid hv1; clear hv1 hg1)
  obtain ⟨g, cap, hv, hcap, hg⟩ := HV1.out.own (by rw [List.nil_append, bys_length]; exact h0)
  rw [List.nil_append] at HV1 hv hcap
  rw [bys_length] at hv hcap
  subst hv
  go_loopw [2, 8] (fun m i wr => ∃ k : Nat, k ≤ 32 ∧ i = .int .i64 k ∧ (∃ mk : BitVec 32, m = .int .u32 (nW mk)) ∧ ∃ ys : List UInt8, ys.length = xs.length ∧ (∀ i : Nat, (i : Int) < p ∨ p + k ≤ i → bitAt xs i = bitAt ys i) ∧ Has w.heap.size 5 (.slice (some ⟨g, 0, none⟩) xs.length cap) (bys ys) wr ∧ Below w.heap.size w wr) (fun _ i _ => 32 - (intOf i).toNat)
  case atStart => exact ⟨0, Nat.zero_le _, rfl, ⟨m, rfl⟩, xs, rfl, fun _ _ => rfl, HV1.out, HB1.out⟩
  case round =>
    obtain ⟨k, hk, rfl, ⟨mk, rfl⟩, ys, hyl, hys, hv, hB⟩ := hrel
    have HV := Lib.hid hv
    have HB := Lib.hid hB
    have HY := Lib.hid hys
    clear hv hB hys HV1 HB1
    by_cases hlt : k < 32
    · have HS := Lib.hid (fun i : Nat => fun (h : (i : Int) < p ∨ p + ((k + 1 : Nat) : Int) ≤ i) => HY.out i (by omega))
      by_cases hq0 : p + k < 0
      · have hq1 : ¬ (0 ≤ p + (k : Int)) := by omega
        go_wp2
        go_roundw
        case rel => exact ⟨k + 1, by omega, by go_num, ⟨mk >>> 1, by first | rfl | rw [nW_mod]⟩, ys, hyl, HS.out, HV.out, HB.out⟩
        case measure => simp [intOf]; omega
      · obtain ⟨q, hq⟩ : ∃ q : Nat, p + (k : Int) = q := ⟨(p + k).toNat, by omega⟩
        by_cases hq8 : q < 8 * xs.length
        · cases ho : odd mk
          · have t1 := (oddW_walk mk).trans ho
            go_wp2
            go_roundw
            case rel => exact ⟨k + 1, by omega, by go_num, ⟨mk >>> 1, by first | rfl | rw [nW_mod]⟩, ys, hyl, HS.out, HV.out, HB.out⟩
            case measure => simp [intOf]; omega
          · have t1 := (oddW_walk mk).trans ho
            go_wp2
            go_loop [10, 11] (fun b i => ∃ j : Nat, j ≤ q % 8 ∧ b = .int .u8 (nB (bitB j)) ∧ i = .int .i64 j) (fun _ i => 8 - (intOf i).toNat)
            case atStart => exact ⟨0, Nat.zero_le _, rfl, rfl⟩
            case round =>
              obtain ⟨j, hj, rfl, rfl⟩ := hrel
              have hq7 : q % 8 < 8 := Nat.mod_lt _ (by decide)
              by_cases hj8 : j < q % 8
              · have e2 := bitB_twice j (by omega)
                go_wp2
                go_round
                case rel => exact ⟨j + 1, by omega, by rw [e2], by go_num⟩
                case measure => simp [intOf]; omega
              · obtain rfl : j = q % 8 := by omega
                have hqy : q / 8 < ys.length := by omega
                have hV2 := HV.out
                rw [← hyl, ← bys_length ys] at hV2
                have hc : wr.cell? ⟨g, q / 8, none⟩ = some (.int .u8 (nB (ys[q / 8]'hqy))) := by
                  rw [World.ownsRow.cellAt hV2 (q / 8) (by rw [bys_length]; omega)]
                  simp [bys, hqy]
                have hf : wr.frozen? ⟨g, q / 8, none⟩ = false := World.ownsRow.frozenAt hV2 (q / 8)
                obtain ⟨hs1, hs2⟩ := World.ownsRow.stored hV2 (q / 8) (.int .u8 (nB (xorB (ys[q / 8]'hqy) (bitB (q % 8)))))
                have HS1 := Lib.hid hs1
                have HS2 := Lib.hid hs2
                have HX := Lib.hid (bitAt_set ys q hqy)
                clear hV2 hs1 hs2
                go_wp2
                go_roundw
                case rel =>
                  refine ⟨k + 1, by omega, by go_num, ⟨mk >>> 1, by first | rfl | rw [nW_mod]⟩, ys.set (q / 8) (xorB (ys[q / 8]'hqy) (bitB (q % 8))), by rw [List.length_set]; exact hyl, ?_, ?_, ?_⟩
                  · intro i hi
                    rw [HX.out i (by omega)]
                    exact HS.out i hi
                  · have h := HS1.out
                    rw [bys_length, hyl] at h
                    show World.ownsRow _ _ _ 1 _ (bys (ys.set (q / 8) (xorB (ys[q / 8]'hqy) (bitB (q % 8))))).length _
                    rw [bys_length, List.length_set, hyl, bys_set]
                    exact h
                  · exact HB.out.grown HS2.out HB.out.size (fun q e => by cases e; exact hg)
                case measure => simp [intOf]; omega
        · go_wp2
          go_roundw
          case rel => exact ⟨k + 1, by omega, by go_num, ⟨mk >>> 1, by first | rfl | rw [nW_mod]⟩, ys, hyl, HS.out, HV.out, HB.out⟩
          case measure => simp [intOf]; omega
    · obtain rfl : k = 32 := by omega
      go_wp2
      go_ret
      exact ⟨_, ys, rfl, hyl, HY.out, HV.out, HB.out⟩
end Go.Proofs.Ytdamljjbeaomoaa
