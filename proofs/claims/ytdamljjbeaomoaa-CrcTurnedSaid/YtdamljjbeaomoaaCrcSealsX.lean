/- The walks of the law CrcSeals, continued: four bytes or more. -/
import Derived.Test.YtdamljjbeaomoaaCrcSealsW
import Derived.Deep.DeepCutAuto
namespace Go.Proofs.Ytdamljjbeaomoaa
set_option linter.unusedSimpArgs false
set_option linter.unusedVariables false
open Go.RowKit Own
theorem ne_bytes (n : Nat) (xs ys : List UInt8) (h : (ys == xs.drop n) = false) : (xs.take n ++ ys == xs) = false := by
  rw [beq_eq_false_iff_ne] at h ⊢
  intro e
  apply h
  have := congrArg (List.drop n) e
  rw [← this]
  by_cases hn : n ≤ xs.length
  · rw [List.drop_append_of_le_length (by rw [List.length_take]; omega), List.drop_of_length_le (by rw [List.length_take]; omega)]; simp
  · have h1 : xs.take n = xs := List.take_of_length_le (by omega)
    rw [h1] at e
    have h2 : ys = [] := by simpa using e
    subst h2
    rw [List.append_nil, List.drop_of_length_le]
    rw [h1]; omega
theorem Seal_n (A : Option Addr) (c n : Nat) (xs : List UInt8) (hn : n = xs.length) (hl : n ≤ 10000) (hA : A = none → c = 0) (w : World) (hR : Rd w A (bys xs)) :
    Calls Try.prog 28 #[.slice A n c] w fun e w' => ∃ v, e = .returned v ∧ Has w.heap.size 5 v (bys (xs ++ lowB (crc xs))) w' ∧ Below w.heap.size w w' := by
  subst hn; exact Seal_calls A c xs hl hA w hR
theorem Open_bad_n (a : Addr) (c m : Nat) (xs : List UInt8) (n : Nat) (hm : m = n + 4) (hn : n + 4 = xs.length) (hl : m ≤ 10000) (hc : m ≤ c) (w : World) (hR : Rd w (some a) (bys xs)) (hne : (lowB (crc (xs.take n)) == xs.drop n) = false) :
    Calls Try.prog 29 #[.slice (some a) m c] w fun e w' => e = .returned (.tuple #[.slice none 0 0, .int .i64 18]) ∧ Below w.heap.size w w' := by
  subst hm; rw [hn] at hl hc ⊢; exact Open_bad a c xs n hn hl hc w hR hne
theorem Open_good_n (a : Addr) (c m : Nat) (xs : List UInt8) (n : Nat) (hm : m = n + 4) (hn : n + 4 = xs.length) (hl : m ≤ 10000) (hc : m ≤ c) (w : World) (hR : Rd w (some a) (bys xs)) (hne : (lowB (crc (xs.take n)) == xs.drop n) = true) :
    Calls Try.prog 29 #[.slice (some a) m c] w fun e w' => ∃ v, e = .returned (.tuple #[v, .int .i64 0]) ∧ Has w.heap.size 5 v (bys (xs.take n)) w' ∧ Below w.heap.size w w' := by
  subst hm; rw [hn] at hl hc ⊢; exact Open_good a c xs n hn hl hc w hR hne
theorem eq_bytes (n : Nat) (xs ys : List UInt8) (h : (ys == xs.drop n) = true) : (xs.take n ++ ys == xs) = true := by
  rw [beq_iff_eq] at h ⊢
  rw [h, List.take_append_drop]
set_option maxRecDepth 10000 in
set_option maxHeartbeats 2000000 in
theorem seals_bad (a : Addr) (c n : Nat) (xs : List UInt8) (hn : n + 4 = xs.length) (hl : xs.length ≤ 1000) (hc : xs.length ≤ c) (w : World) (hR : Rd w (some a) (bys xs)) (hne : (lowB (crc (xs.take n)) == xs.drop n) = false) :
    Calls Try.prog 8 #[.slice (some a) (n + 4) c] w fun e w' => e = .returned (.bool true) ∧ Below w.heap.size w w' := by
  have HR := Lib.hid hR
  have HE := Lib.hid hn
  have HN := Lib.hid hne
  have hnb : n ≤ 996 := by omega
  have hc4 : n + 4 ≤ c := by omega
  have HT := Lib.hid (show n = (xs.take n).length from by rw [List.length_take, Nat.min_eq_left]; omega)
  have HY := Lib.hid (show Rd w (some a) (bys (xs.take n)) from by
    have h := hR.take n
    rw [show (bys xs).take n = bys (xs.take n) from by simp [bys, List.map_take]] at h
    exact h)
  have HX := Lib.hid (ne_bytes n xs _ hne)
  clear hR hne hn
  go_enter Try.func8, Try.ntmps8
  go_wp2_with fail
  refine (Seal_n (some a) c (n + 4) xs HE.out (by omega) (fun h => nomatch h) _ HR.out).mono ?_
  rintro e w1 ⟨v1, rfl, hv1, hb1⟩
  obtain ⟨a1, c1, rfl, hc1, hR1⟩ := hv1.some_ (n + 7) (by rw [List.length_append, ← HE.out]; simp [lowB])
  have HB1 := Lib.hid hb1
  have HR1 := Lib.hid hR1
  clear hv1 hb1 hR1
  go_wp2_with fail
  refine (Open_bad_n a c (n + 4) xs n rfl HE.out (by omega) hc4 _ (HR.out.below HB1.out) HN.out).mono ?_
  rintro e w2 ⟨rfl, hb2⟩
  have HB2 := Lib.hid (below_then' HB1.out hb2)
  have HR2 := Lib.hid (HR1.out.below hb2)
  clear hb2 HR1 HB1
  go_upto_region 5 with fail
  go_cut [23] (fun s wx => s = .bool false ∧ Below w2.heap.size w2 wx)
  case first =>
    have ks := fun W (hb : Below w2.heap.size w2 W) => run_string_of (w := W) Try.underlying37 Try.underlying5 Try.underlying9 (some a1) (n + 7 + 1) c1 (xs ++ lowB (crc xs)) (by rw [List.length_append, ← HE.out]; simp [lowB]) (fun h => nomatch h) (HR2.out.below hb)
    have b1 : Below w2.heap.size w2 w2.drew := (Below.refl _ _).drew
    go_region_with (first | (go_at_call 30; refine (RSeal_calls (some a) c (n + 4) xs HE.out (by omega) (fun h => nomatch h) _ (HR.out.below (below_drew' HB2.out))).mono ?_; rintro e w3 ⟨v3, rfl, hv3, hb3⟩; have b3 : Below w2.heap.size w2 w3 := below_then' (w1 := w2.drew) (Below.refl _ _).drew hb3; obtain ⟨a3, c3, rfl, hc3, hR3⟩ := hv3.some_ (n + 7) (by rw [List.length_append, ← HE.out]; simp [lowB]); have ks3 := run_string_of (w := w3) Try.underlying37 Try.underlying5 Try.underlying9 (some a3) (n + 7 + 1) c3 (xs ++ lowB (crc xs)) (by rw [List.length_append, ← HE.out]; simp [lowB]) (fun h => nomatch h) hR3; clear hv3 hR3))
    all_goals (go_wp2_with fail; go_meet; exact ⟨rfl, b3⟩)
  case rest =>
    obtain ⟨w3, rfl⟩ : ∃ x : World, x = wc := ⟨_, rfl⟩
    obtain ⟨rfl, hb3⟩ := hcut
    have HB3 := Lib.hid (below_then' HB2.out hb3)
    clear hb3
    go_upto_region 10 with fail
    go_cut [47] (fun s wx => s = .bool true ∧ Below w3.heap.size w3 wx)
    case first =>
      have kb := fun W (hb : Below w3.heap.size w3 W) => run_string_of (w := W) Try.underlying37 Try.underlying5 Try.underlying9 (some a) (n + 4) c xs HE.out (fun h => nomatch h) (HR.out.below (below_then' HB3.out hb))
      have b1 : Below w3.heap.size w3 w3.drew := (Below.refl _ _).drew
      go_region_with (first | (go_at_call 30; refine (RSeal_calls (some a) c n (xs.take n) HT.out (by omega) (fun h => nomatch h) _ (HY.out.below (below_drew' HB3.out))).mono ?_; rintro e w4 ⟨v4, rfl, hv4, hb4⟩; have b4 : Below w3.heap.size w3 w4 := below_then' (w1 := w3.drew) (Below.refl _ _).drew hb4; obtain ⟨a4, c4, rfl, hc4, hR4⟩ := hv4.some_ (n + 3) (by rw [List.length_append, ← HT.out]; simp [lowB]); have ks4 := run_string_of (w := w4) Try.underlying37 Try.underlying5 Try.underlying9 (some a4) (n + 3 + 1) c4 (xs.take n ++ lowB (crc (xs.take n))) (by rw [List.length_append, ← HT.out]; simp [lowB]) (fun h => nomatch h) hR4; clear hv4 hR4))
      all_goals (go_wp2_with fail; go_meet; exact ⟨by rw [HX.out]; rfl, b4⟩)
    case rest =>
      obtain ⟨rfl, hb4⟩ := hcut
      have HB4 := Lib.hid (below_then' HB3.out hb4)
      clear hb4
      go_wp2_with fail
      refine (alive6 _).mono ?_
      rintro e w5 ⟨rfl, hb5⟩
      go_wp2
      go_ret
      exact ⟨rfl, below_then' HB4.out hb5⟩
end Go.Proofs.Ytdamljjbeaomoaa
