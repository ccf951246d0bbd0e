/- The walks of the law CrcSeals. -/
import Derived.Test.YtdamljjbeaomoaaAlive6
import Derived.Test.YtdamljjbeaomoaaCrcH
namespace Go.Proofs.Ytdamljjbeaomoaa
set_option linter.unusedSimpArgs false
set_option linter.unusedVariables false
open Go.RowKit Own
set_option maxHeartbeats 400000 in
theorem seals_long (A : Option Addr) (c : Nat) (xs : List UInt8) (hl : 1000 < xs.length) (hm : xs.length ≤ maxLen) (w : World) :
    Calls Try.prog 8 #[.slice A xs.length c] w fun e w' => e = .returned (.bool true) ∧ Below w.heap.size w w' := by
  unfold maxLen at hm
  go_enter Try.func8, Try.ntmps8
  go_wp2_with fail
  refine (alive6 _).mono ?_
  rintro e w1 ⟨rfl, hb1⟩
  go_wp2
  go_ret
  exact ⟨rfl, hb1⟩
theorem below_drew' {w W : World} (h : Below w.heap.size w W) : Below w.heap.size w W.drew := h.drew
set_option maxRecDepth 10000 in
set_option maxHeartbeats 2000000 in
theorem seals_short (A : Option Addr) (c : Nat) (xs : List UInt8) (hA : A = none → c = 0) (hl : xs.length < 4) (w : World) (hR : Rd w A (bys xs)) :
    Calls Try.prog 8 #[.slice A xs.length c] w fun e w' => e = .returned (.bool true) ∧ Below w.heap.size w w' := by
  have HR := Lib.hid hR
  have HA := Lib.hid hA
  clear hR hA
  go_enter Try.func8, Try.ntmps8
  go_wp2_with fail
  refine (Seal_calls A c xs (by omega) HA.out _ HR.out).mono ?_
  rintro e w1 ⟨v1, rfl, hv1, hb1⟩
  obtain ⟨a1, c1, rfl, hc1, hR1⟩ := hv1.some_ (xs.length + 3) (by simp [lowB])
  have ks := fun W (hb : Below w1.heap.size w1 W) => run_string_of (w := W) Try.underlying37 Try.underlying5 Try.underlying9 (some a1) (xs.length + 3 + 1) c1 (xs ++ lowB (crc xs)) (by simp [lowB]) (fun h => nomatch h) (hR1.below hb)
  have HB1 := Lib.hid hb1
  clear hv1 hb1 hR1
  go_wp2_with fail
  refine (Open_short A c xs hl _).mono ?_
  rintro e w2 ⟨rfl, rfl⟩
  have b1 : Below w1.heap.size w1 w1.drew := (Below.refl _ _).drew
  go_wp2
  go_region_with (first | (go_at_call 30; refine (RSeal_calls A c xs.length xs rfl (by omega) HA.out _ (HR.out.below (below_drew' HB1.out))).mono ?_; rintro e w3 ⟨v3, rfl, hv3, hb3⟩; have b3 : Below w1.heap.size w1 w3 := below_then' (w1 := w1.drew) (Below.refl _ _).drew hb3; obtain ⟨a3, c3, rfl, hc3, hR3⟩ := hv3.some_ (xs.length + 3) (by simp [lowB]); have ks3 := run_string_of (w := w3) Try.underlying37 Try.underlying5 Try.underlying9 (some a3) (xs.length + 3 + 1) c3 (xs ++ lowB (crc xs)) (by simp [lowB]) (fun h => nomatch h) hR3; clear hv3 hR3))
  all_goals
    go_wp2_with fail
    refine (alive6 _).mono ?_
    rintro e w4 ⟨rfl, hb4⟩
    go_wp2
    go_ret
    exact ⟨rfl, below_then' (below_then' HB1.out b3) hb4⟩
end Go.Proofs.Ytdamljjbeaomoaa
