/- Chapter 09: the walk of JournalNobody. -/
import Derived.Test.YtmlgkahadgpaiaaJoK
namespace Go.Proofs.Ytmlgkahadgpaiaa.Jo
open Go.RowKit _root_.Go.Proofs.Ytmlgkahadgpaiaa.Own
open Go.Proofs.Ytmlgkahadgpaiaa.Fr
set_option linter.unusedVariables false
set_option linter.unusedSimpArgs false
set_option maxRecDepth 10000 in
set_option maxHeartbeats 4000000 in
theorem nobody_walk (A : Option Addr) (l c : Nat) (gen : Int) (w : World) : Calls Try.prog 7 #[.slice A l c, .int .i64 gen] w fun e w' => e = .returned (.bool true) ∧ Below w.heap.size w w' := by
  have h2 := ((At.refl w).alloc [.pointer none, .int .i64 0, .int .i64 0, .int .i64 0, .int .i64 0] 57).alloc [.pointer none, .pointer (some ⟨w.heap.size, 0, none⟩)] 44
  simp only [World.size_alloc] at h2
  have H2 := Lib.hid h2
  clear h2
  go_enter Try.func7, Try.ntmps7
  go_wp2_with fail
  go_loopw [15] (fun v16 wr => ∃ j : Nat, j ≤ 2 ∧ v16 = .int .i64 j ∧ Hid (At w [(w.heap.size + 1, [.pointer none, .pointer (some ⟨w.heap.size, 0, none⟩)], 44), (w.heap.size, [.pointer none, .int .i64 0, .int .i64 0, .int .i64 0, .int .i64 0], 57)] wr)) (fun v16 _ => 2 - (intOf v16).toNat)
  case atStart => exact ⟨0, by decide, rfl, H2⟩
  case round =>
    obtain ⟨j, hj, rfl, H⟩ := hrel
    have q := fun i x (hx : ([(w.heap.size + 1, [.pointer none, .pointer (some ⟨w.heap.size, 0, none⟩)], 44), (w.heap.size, [.pointer none, .int .i64 0, .int .i64 0, .int .i64 0, .int .i64 0], 57)] : List (Nat × List Value × TypeId))[i]? = some x) => H.out.rules x (List.mem_of_getElem? hx)
    have y0 : wr.cell? ⟨w.heap.size + 1, 0, none⟩ = some (.pointer none) := (q 0 _ rfl).1 0
    have y1 : wr.cell? ⟨w.heap.size + 1, 1, none⟩ = some (.pointer (some ⟨w.heap.size, 0, none⟩)) := (q 0 _ rfl).1 1
    have y2 : wr.cell? ⟨w.heap.size, 0, none⟩ = some (.pointer none) := (q 1 _ rfl).1 0
    have N1 := Lib.hid (show Nobody (.pointer (some ⟨w.heap.size, 0, none⟩)) wr from .inr ⟨_, rfl, y2⟩)
    clear q H2 y2
    by_cases hj2 : j = 2
    · subst hj2
      clear y0 y1 N1
      go_wp2_with fail
      refine (NewNil_calls 0 1 wr).mono ?_
      rintro e w3 ⟨rfl, rfl⟩
      go_wp2_with fail
      refine (alive09 wr).mono ?_
      rintro e w3 ⟨rfl, hb3⟩
      have HB := Lib.hid (H.out.below.trans (hb3.mono H.out.below.size))
      clear hb3
      go_wp2_with fail
      go_ret
      exact ⟨rfl, HB.out⟩
    · by_cases hj0 : j = 0
      · subst hj0
        go_wp2_with fail
        refine (NobodyOpen_calls (.inl rfl) gen).mono ?_
        rintro e w3 ⟨rfl, rfl⟩
        go_wp2_with fail
        refine (NobodyAdd_calls (.inl rfl) _).mono ?_
        rintro e w3 ⟨rfl, rfl⟩
        go_wp2_with fail
        refine (NobodyClean_calls (.inl rfl)).mono ?_
        rintro e w3 ⟨rfl, rfl⟩
        go_wp2_with fail
        refine (NobodyLen_calls (.inl rfl)).mono ?_
        rintro e w3 ⟨rfl, rfl⟩
        go_wp2_with fail
        refine (NobodyRoom_calls (.inl rfl)).mono ?_
        rintro e w3 ⟨rfl, rfl⟩
        go_wp2_with fail
        refine (NobodyGen_calls (.inl rfl)).mono ?_
        rintro e w3 ⟨rfl, rfl⟩
        go_wp2_with fail
        go_roundw
        case rel => exact ⟨1, by decide, rfl, H⟩
        case measure => simp [intOf]
      · obtain rfl : j = 1 := by omega
        go_wp2_with fail
        refine (NobodyOpen_calls N1.out gen).mono ?_
        rintro e w3 ⟨rfl, rfl⟩
        go_wp2_with fail
        refine (NobodyAdd_calls N1.out _).mono ?_
        rintro e w3 ⟨rfl, rfl⟩
        go_wp2_with fail
        refine (NobodyClean_calls N1.out).mono ?_
        rintro e w3 ⟨rfl, rfl⟩
        go_wp2_with fail
        refine (NobodyLen_calls N1.out).mono ?_
        rintro e w3 ⟨rfl, rfl⟩
        go_wp2_with fail
        refine (NobodyRoom_calls N1.out).mono ?_
        rintro e w3 ⟨rfl, rfl⟩
        go_wp2_with fail
        refine (NobodyGen_calls N1.out).mono ?_
        rintro e w3 ⟨rfl, rfl⟩
        go_wp2_with fail
        go_roundw
        case rel => exact ⟨2, by decide, rfl, H⟩
        case measure => simp [intOf]
theorem nobody_all (A : Option Addr) (c : Nat) (xs : List UInt8) (hc : xs.length ≤ c) (gen : Int) (w : World) : Calls Try.prog 7 #[.slice A xs.length c, .int .i64 gen] w fun e w' => e = .returned (.bool true) ∧ Below w.heap.size w w' := nobody_walk A xs.length c gen w
end Go.Proofs.Ytmlgkahadgpaiaa.Jo
