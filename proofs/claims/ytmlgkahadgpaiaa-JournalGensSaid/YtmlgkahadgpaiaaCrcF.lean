/- The walk of crc.Open. -/
import Derived.Test.YtmlgkahadgpaiaaCrcE
namespace Go.Proofs.Ytmlgkahadgpaiaa
set_option linter.unusedSimpArgs false
set_option linter.unusedVariables false
open Go.RowKit Own
set_option maxHeartbeats 400000 in
theorem Open_short (A : Option Addr) (c : Nat) (xs : List UInt8) (hl : xs.length < 4) (w : World) :
    Calls Try.prog 73 #[.slice A xs.length c] w fun e w' => e = .returned (.tuple #[.slice none 0 0, .int .i64 4]) ∧ w = w' := by
  go_enter Try.func73, Try.ntmps73
  go_wp2
  go_ret2
  exact ⟨rfl, rfl⟩
set_option maxHeartbeats 3000000 in
theorem Open_bad (a : Addr) (c : Nat) (xs : List UInt8) (n : Nat) (hn : n + 4 = xs.length) (hl : xs.length ≤ 10000) (hc : xs.length ≤ c) (w : World) (hR : Rd w (some a) (bys xs)) (hne : (lowB (crc (xs.take n)) == xs.drop n) = false) :
    Calls Try.prog 73 #[.slice (some a) xs.length c] w fun e w' => e = .returned (.tuple #[.slice none 0 0, .int .i64 18]) ∧ Below w.heap.size w w' := by
  have HR := Lib.hid hR
  clear hR
  have HN := Lib.hid hne
  clear hne
  have HE := Lib.hid hn
  have hlt : 4 ≤ xs.length := by omega
  have hc2 : n < c := by omega
  rw [← hn]
  have hcn : ¬ c = n := by omega
  have hnb : n ≤ 10000 := by omega
  have hc4 : n + 4 ≤ c := by omega
  clear hn
  have HL : (xs.take n).length = n := by rw [List.length_take, Nat.min_eq_left]; have := HE.out; omega
  have HD := Lib.hid (show 4 = (xs.drop n).length from by rw [List.length_drop]; have := HE.out; omega)
  have HX := Lib.hid (show Rd w (some (a.add n)) (bys (xs.drop n)) from by
    have h := HR.out.drop n
    rw [show (bys xs).drop n = bys (xs.drop n) from by simp [bys, List.map_drop]] at h
    exact h)
  have hS : Rd ((w.alloc (.cells #[.slice (some a) n c] 23)).drew) (some ⟨w.heap.size, 0, none⟩) (sls [(some a, c, xs.take n)]) := by
    have h := Rd.one (w := w) (.slice (some a) (xs.take n).length c) 23
    rw [HL] at h
    unfold sls
    simp only [List.map_cons, List.map_nil, HL]
    exact h
  have hP : ∀ p ∈ [((some a : Option Addr), c, xs.take n)], p.2.2.length ≤ 1000000 ∧ Rd ((w.alloc (.cells #[.slice (some a) n c] 23)).drew) p.1 (bys p.2.2) := by
    intro p hp
    obtain rfl := List.mem_singleton.1 hp
    refine ⟨by simp only [HL]; omega, ?_⟩
    have h := HR.out.take n
    rw [show (bys xs).take n = bys (xs.take n) from by simp [bys, List.map_take]] at h
    exact h.below (below_alloc' _ (Below.refl _ _)).drew
  have HS := Lib.hid hS
  have HP := Lib.hid hP
  clear hS hP HL
  go_enter Try.func73, Try.ntmps73
  go_wp2
  go_region_with (first | (go_at_call 56; refine (Sum_calls (some ⟨w.heap.size, 0, none⟩) 1 [(some a, c, xs.take n)] (by simp) _ HS.out HP.out).mono ?_; rintro e w2 ⟨rfl, hb2⟩; rw [flat_one]) | (go_at_call 76; refine (low_calls (crc (xs.take n)) _).mono ?_; rintro e w3 ⟨rfl, rfl⟩) | (go_at_call 79; refine (Equal_calls (some ⟨w2.heap.size, 0, none⟩) (some (a.add n)) 4 (c - n) (lowB (crc (xs.take n))) (xs.drop n) 4 4 rfl HD.out (fun h => nomatch h) (fun h => nomatch h) _ (Rd.new _ _) (HX.out.below (below_alloc' _ (below_then' ((below_alloc' _ (Below.refl _ _)).drew) hb2)))).mono ?_; rintro e w4 ⟨rfl, rfl⟩; rw [HN.out]))
  all_goals
    go_wp2
    go_ret2
    exact ⟨rfl, below_alloc' _ (below_then' ((below_alloc' _ (Below.refl _ _)).drew) hb2)⟩
theorem World.ownsRow.lower {w : World} {b b' : Nat} {e : TypeId} {size n : Nat} {v : Value} {xs : List Value} (h : w.ownsRow b e size v n xs) (hb : b' ≤ b) : w.ownsRow b' e size v n xs := by
  obtain ⟨h1, h2 | ⟨g, cap, cur, h3, h4, h5⟩⟩ := h
  · exact ⟨h1, .inl h2⟩
  · exact ⟨h1, .inr ⟨g, cap, cur, h3, Nat.le_trans hb h4, h5⟩⟩
theorem Clone_take (A : Option Addr) (c : Nat) (xs : List UInt8) (n : Nat) (hn : n = xs.length) (hl : n ≤ 1000000) (hA : A = none → c = 0) (w : World) (hR : Rd w A (bys xs)) :
    Calls Try.prog 72 #[.slice A n c] w fun e w' => ∃ v, e = .returned v ∧ Has w.heap.size 5 v (bys xs) w' ∧ Below w.heap.size w w' := by
  subst hn; exact Clone_calls A c xs hl hA w hR
set_option maxHeartbeats 3000000 in
theorem Open_good (a : Addr) (c : Nat) (xs : List UInt8) (n : Nat) (hn : n + 4 = xs.length) (hl : xs.length ≤ 10000) (hc : xs.length ≤ c) (w : World) (hR : Rd w (some a) (bys xs)) (hne : (lowB (crc (xs.take n)) == xs.drop n) = true) :
    Calls Try.prog 73 #[.slice (some a) xs.length c] w fun e w' => ∃ v, e = .returned (.tuple #[v, .int .i64 0]) ∧ Has w.heap.size 5 v (bys (xs.take n)) w' ∧ Below w.heap.size w w' := by
  have HR := Lib.hid hR
  clear hR
  have HN := Lib.hid hne
  clear hne
  have HE := Lib.hid hn
  have hlt : 4 ≤ xs.length := by omega
  have hc2 : n < c := by omega
  rw [← hn]
  have hcn : ¬ c = n := by omega
  have hnb : n ≤ 10000 := by omega
  have hc4 : n + 4 ≤ c := by omega
  clear hn
  have HL : (xs.take n).length = n := by rw [List.length_take, Nat.min_eq_left]; have := HE.out; omega
  have HD := Lib.hid (show 4 = (xs.drop n).length from by rw [List.length_drop]; have := HE.out; omega)
  have HY := Lib.hid (show Rd w (some a) (bys (xs.take n)) from by
    have h := HR.out.take n
    rw [show (bys xs).take n = bys (xs.take n) from by simp [bys, List.map_take]] at h
    exact h)
  have HX := Lib.hid (show Rd w (some (a.add n)) (bys (xs.drop n)) from by
    have h := HR.out.drop n
    rw [show (bys xs).drop n = bys (xs.drop n) from by simp [bys, List.map_drop]] at h
    exact h)
  have hS : Rd ((w.alloc (.cells #[.slice (some a) n c] 23)).drew) (some ⟨w.heap.size, 0, none⟩) (sls [(some a, c, xs.take n)]) := by
    have h := Rd.one (w := w) (.slice (some a) (xs.take n).length c) 23
    rw [HL] at h
    unfold sls
    simp only [List.map_cons, List.map_nil, HL]
    exact h
  have hP : ∀ p ∈ [((some a : Option Addr), c, xs.take n)], p.2.2.length ≤ 1000000 ∧ Rd ((w.alloc (.cells #[.slice (some a) n c] 23)).drew) p.1 (bys p.2.2) := by
    intro p hp
    obtain rfl := List.mem_singleton.1 hp
    refine ⟨by simp only [HL]; omega, ?_⟩
    have h := HR.out.take n
    rw [show (bys xs).take n = bys (xs.take n) from by simp [bys, List.map_take]] at h
    exact h.below (below_alloc' _ (Below.refl _ _)).drew
  have HS := Lib.hid hS
  have HP := Lib.hid hP
  clear hS hP HL
  go_enter Try.func73, Try.ntmps73
  go_wp2
  go_region_with (first | (go_at_call 56; refine (Sum_calls (some ⟨w.heap.size, 0, none⟩) 1 [(some a, c, xs.take n)] (by simp) _ HS.out HP.out).mono ?_; rintro e w2 ⟨rfl, hb2⟩; rw [flat_one]) | (go_at_call 76; refine (low_calls (crc (xs.take n)) _).mono ?_; rintro e w3 ⟨rfl, rfl⟩) | (go_at_call 79; refine (Equal_calls (some ⟨w2.heap.size, 0, none⟩) (some (a.add n)) 4 (c - n) (lowB (crc (xs.take n))) (xs.drop n) 4 4 rfl HD.out (fun h => nomatch h) (fun h => nomatch h) _ (Rd.new _ _) (HX.out.below (below_alloc' _ (below_then' ((below_alloc' _ (Below.refl _ _)).drew) hb2)))).mono ?_; rintro e w4 ⟨rfl, rfl⟩; rw [HN.out]))
  all_goals
    have hb3 := below_alloc' (.cells ⟨bys (lowB (crc (xs.take n)))⟩ 5) (below_then' ((below_alloc' (.cells #[.slice (some a) n c] 23) (Below.refl w.heap.size w)).drew) hb2)
    have HT := Lib.hid (show n = (xs.take n).length from by rw [List.length_take, Nat.min_eq_left]; have := HE.out; omega)
    go_wp2_with fail
    refine (Clone_take (some a) c (xs.take n) n HT.out (by omega) (fun h => nomatch h) _ (HY.out.below hb3)).mono ?_
    rintro e w5 ⟨v, rfl, hv, hb5⟩
    have HV := Lib.hid hv
    clear hv
    go_wp2
    go_ret2
    exact ⟨_, rfl, World.ownsRow.lower HV.out hb3.size, below_then' hb3 hb5⟩
end Go.Proofs.Ytmlgkahadgpaiaa
