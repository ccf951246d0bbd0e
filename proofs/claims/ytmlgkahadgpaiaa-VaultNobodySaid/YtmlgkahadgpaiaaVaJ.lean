/- Chapter 10: the walk of VaultNobody. -/
import Derived.Test.YtmlgkahadgpaiaaVaI
namespace Go.Proofs.Ytmlgkahadgpaiaa.Va
open Go.RowKit _root_.Go.Proofs.Ytmlgkahadgpaiaa.Own
open Go.Proofs.Ytmlgkahadgpaiaa.Fr
set_option linter.unusedVariables false
set_option linter.unusedSimpArgs false
set_option maxRecDepth 10000 in
set_option maxHeartbeats 4000000 in
theorem nobody_walk (gen : Int) (A : Option Addr) (l c : Nat) (w : World) : Calls Try.prog 4 #[.int .i64 gen, .slice A l c] w fun e w' => e = .returned (.bool true) ∧ Below w.heap.size w w' := by
  have h2 := ((At.refl w).alloc [.pointer none, .int .i64 0] 39).alloc [.pointer none, .pointer (some ⟨w.heap.size, 0, none⟩)] 29
  simp only [World.size_alloc] at h2
  have H2 := Lib.hid h2
  clear h2
  go_enter Try.func4, Try.ntmps4
  go_wp2_with fail
  go_loopw [16] (fun v16 wr => ∃ j : Nat, j ≤ 2 ∧ v16 = .int .i64 j ∧ Hid (At w [(w.heap.size + 1, [.pointer none, .pointer (some ⟨w.heap.size, 0, none⟩)], 29), (w.heap.size, [.pointer none, .int .i64 0], 39)] wr)) (fun v16 _ => 2 - (intOf v16).toNat)
  case atStart => exact ⟨0, by decide, rfl, H2⟩
  case round =>
    obtain ⟨j, hj, rfl, H⟩ := hrel
    have q := fun i x (hx : ([(w.heap.size + 1, [.pointer none, .pointer (some ⟨w.heap.size, 0, none⟩)], 29), (w.heap.size, [.pointer none, .int .i64 0], 39)] : List (Nat × List Value × TypeId))[i]? = some x) => H.out.rules x (List.mem_of_getElem? hx)
    have y0 : wr.cell? ⟨w.heap.size + 1, 0, none⟩ = some (.pointer none) := (q 0 _ rfl).1 0
    have y1 : wr.cell? ⟨w.heap.size + 1, 1, none⟩ = some (.pointer (some ⟨w.heap.size, 0, none⟩)) := (q 0 _ rfl).1 1
    have y2 : wr.cell? ⟨w.heap.size, 0, none⟩ = some (.pointer none) := (q 1 _ rfl).1 0
    have Y2 := Lib.hid y2
    clear q H2 y2
    by_cases hj2 : j = 2
    · subst hj2
      clear y0 y1 Y2
      go_wp2_with fail
      refine (NewNil_calls 0 wr).mono ?_
      rintro e w3 ⟨rfl, rfl⟩
      go_wp2_with fail
      refine (alive10 wr).mono ?_
      rintro e w3 ⟨rfl, hb3⟩
      have HB := Lib.hid (H.out.below.trans (hb3.mono H.out.below.size))
      clear hb3
      go_wp2_with fail
      go_ret
      exact ⟨rfl, HB.out⟩
    · by_cases hj0 : j = 0
      · subst hj0
        go_wp2_with fail
        refine (NobodyLoad_calls none (w := wr) (.inl rfl)).mono ?_
        rintro e w3 ⟨rfl, hb3⟩
        have H3 := Lib.hid (H.out.call hb3)
        clear hb3 y0 y1
        go_wp2_with fail
        refine (NobodySave_calls (w := w3) (.inl rfl) gen _).mono ?_
        rintro e w4 ⟨rfl, rfl⟩
        go_wp2_with fail
        go_roundw
        case rel => exact ⟨1, by decide, rfl, H3⟩
        case measure => simp [intOf]
      · obtain rfl : j = 1 := by omega
        go_wp2_with fail
        refine (NobodyLoad_calls (some ⟨w.heap.size, 0, none⟩) (w := wr) (.inr ⟨_, rfl, Y2.out⟩)).mono ?_
        rintro e w3 ⟨rfl, hb3⟩
        have H3 := Lib.hid (H.out.call hb3)
        have hn3 : Nobody (.pointer (some ⟨w.heap.size, 0, none⟩)) w3 := Nobody.below (.inr ⟨_, rfl, Y2.out⟩) hb3
        have HN3 := Lib.hid hn3
        clear hb3 y0 y1 hn3
        go_wp2_with fail
        refine (NobodySave_calls HN3.out gen _).mono ?_
        rintro e w4 ⟨rfl, rfl⟩
        go_wp2_with fail
        go_roundw
        case rel => exact ⟨2, by decide, rfl, H3⟩
        case measure => simp [intOf]
theorem nobody_all (gen : Int) (A : Option Addr) (c : Nat) (xs : List UInt8) (hc : xs.length ≤ c) (w : World) : Calls Try.prog 4 #[.int .i64 gen, .slice A xs.length c] w fun e w' => e = .returned (.bool true) ∧ Below w.heap.size w w' := nobody_walk gen A xs.length c w
end Go.Proofs.Ytmlgkahadgpaiaa.Va
