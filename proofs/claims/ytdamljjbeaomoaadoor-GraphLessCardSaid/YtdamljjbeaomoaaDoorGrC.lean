/- The walk of graph.Down's inner function (visit). -/
import Derived.Test.YtdamljjbeaomoaaDoorGrB
import Derived.Test.YtdamljjbeaomoaaDoorGrP
namespace Go.Proofs.YtdamljjbeaomoaaDoor
set_option linter.unusedSimpArgs false
set_option linter.unusedVariables false
open Go.RowKit Go.Shelf
open _root_.Go.Proofs.YtdamljjbeaomoaaDoor.Own
attribute [local go_sem] Oper.semAt_some
attribute [local go_sem] b16_and b16_or
set_option maxHeartbeats 2000000 in
theorem visit_skip (g : List (BitVec 16)) (Wi out : BitVec 16) (r : Nat) (hr : r < 16) (bw bo bg bv : Nat) (w : World) (hW : w.cell? ⟨bw, 0, none⟩ = some (.int .u16 (nH Wi))) (hO : w.cell? ⟨bo, 0, none⟩ = some (.int .u16 (nH out)))
    (h : has Wi r = false ∨ has out r = true) :
    Calls Tryd.prog 16 #[.int .i64 r, .pointer (some ⟨bw, 0, none⟩), .pointer (some ⟨bo, 0, none⟩), .pointer (some ⟨bg, 0, none⟩), .pointer (some ⟨bv, 0, none⟩)] w fun e w' => e = .returned (.tuple #[]) ∧ w = w' := by
  cases h1 : has Wi r with
  | false =>
    go_enter Tryd.func16, Tryd.ntmps16
    go_wp2_with (go_at_call 17; refine (THas_calls _ _ hr _).mono ?_; rintro e w' ⟨rfl, rfl⟩)
    refine bodyPost_ret (results_none rfl _ _ _) rfl ?_
    exact ⟨rfl, rfl⟩
  | true =>
    have h2 : has out r = true := by
      rcases h with h | h
      · rw [h1] at h; cases h
      · exact h
    go_enter Tryd.func16, Tryd.ntmps16
    go_wp2_with (go_at_call 17; refine (THas_calls _ _ hr _).mono ?_; rintro e w' ⟨rfl, rfl⟩)
    refine bodyPost_ret (results_none rfl _ _ _) rfl ?_
    exact ⟨rfl, rfl⟩
end Go.Proofs.YtdamljjbeaomoaaDoor
