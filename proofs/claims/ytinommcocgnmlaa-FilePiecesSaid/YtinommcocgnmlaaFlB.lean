/- Chapter 24: the walks of the two laws. -/
import Derived.Test.YtinommcocgnmlaaFlA
namespace Go.Proofs.Ytinommcocgnmlaa.PFileTells
open Go.RowKit Go.Proofs.YtinommcocgnmlaaW.PrintWords Go.Proofs.YtinommcocgnmlaaW.PrintLast Go.Proofs.YtinommcocgnmlaaW.PrintMore
open _root_.Go.Proofs.Ytinommcocgnmlaa.Own
set_option linter.unusedVariables false
set_option linter.unusedSimpArgs false
theorem RTold_is {s d : ByteArray} {h : Bool} {a : ByteArray} {b : Int} (w : World) (e : toldB s h d = (a, b)) (hs : s.size ≤ 1000) (hd : d.size ≤ 1000) : Calls Try.prog 34 #[.string s, .bool h, .string d] w fun e w' => e = .returned (.tuple #[.string a, .int .i64 b]) ∧ Below w.heap.size w w' :=
  forepeakref24_Told.calls 1005 s h d a b w (by rw [told_f s d h hs hd, e])
theorem RPut_is {s d : ByteArray} {h : Bool} {a : ByteArray} {b : Int} (w : World) (e : putB s d h = (a, b)) (hs : s.size ≤ 1000) (hd : d.size ≤ 1000) : Calls Try.prog 36 #[.string s, .string d, .bool h] w fun e w' => e = .returned (.tuple #[.string a, .int .i64 b]) ∧ Below w.heap.size w w' :=
  forepeakref24_Put.calls 1005 s d h a b w (by rw [put_f s d h hs hd, e])
theorem RFirst_is {s a : ByteArray} (w : World) (e : firstB s = a) : Calls Try.prog 38 #[.string s] w fun e w' => e = .returned (.string a) ∧ Below w.heap.size w w' :=
  (forepeakref24_First.calls 40 s a w (by rw [first_f, e])).mono fun _ _ h => ⟨h.1, h.2.below⟩
set_option maxRecDepth 100000 in
set_option maxHeartbeats 4000000 in
theorem tells_walk (s d : ByteArray) (h : Bool) (w : World) : Calls Try.prog 7 #[.string s, .string d, .bool h] w fun e w' => e = .returned (.bool true) ∧ Below w.heap.size w w' := by
  have H0 := At.refl w
  by_cases h1 : (s.size : Int) > 200
  · have m1 := decide_eq_true h1
    clear h1
    go_enter Try.func7, Try.ntmps7
    go_wp2_with fail
    refine callAt (alive24 _) H0 ?_
    rintro e w1 rfl H1
    go_wp2_with fail
    go_ret
    exact ⟨rfl, H1.below⟩
  · have m1 := decide_eq_false h1
    by_cases h2 : (d.size : Int) > 200
    · have m2 := decide_eq_true h2
      clear h1 h2
      go_enter Try.func7, Try.ntmps7
      go_wp2_with fail
      refine callAt (alive24 _) H0 ?_
      rintro e w1 rfl H1
      go_wp2_with fail
      go_ret
      exact ⟨rfl, H1.below⟩
    · have m2 := decide_eq_false h2
      obtain ⟨a, b, hab⟩ : ∃ a b, toldB s h d = (a, b) := ⟨_, _, rfl⟩
      obtain ⟨a', b', hab'⟩ : ∃ a b, putB s d h = (a, b) := ⟨_, _, rfl⟩
      obtain ⟨f, hf⟩ : ∃ f, firstB s = f := ⟨_, rfl⟩
      obtain ⟨g, hg⟩ : ∃ g, decide ((s.size : Int) ≤ 64) = g := ⟨_, rfl⟩
      have mg : decide ((s.size : Int) < 65) = g := by rw [← hg, decide_eq_decide]; omega
      have C1 := Lib.hid (fun w => Told_is w hab (by omega))
      have C2 := Lib.hid (fun w => RTold_is w hab (by omega) (by omega))
      have C3 := Lib.hid (fun w => Put_is w hab' (by omega))
      have C4 := Lib.hid (fun w => RPut_is w hab' (by omega) (by omega))
      have C5 := Lib.hid (fun w => First_is w hf)
      have C6 := Lib.hid (fun w => RFirst_is w hf)
      have C7 := Lib.hid (fun w => Fine_is s w hg)
      clear h1 h2 hab hab' hf hg
      go_enter Try.func7, Try.ntmps7
      go_wp2_with fail
      refine callAt (C1.out _) H0 ?_
      rintro e w1 rfl H1
      go_wp2_with fail
      refine callAt (C2.out _) H1 ?_
      rintro e w2 rfl H2
      go_wp2_with fail
      refine callAt (C3.out _) H2 ?_
      rintro e w3 rfl H3
      go_wp2_with fail
      refine callAt (C4.out _) H3 ?_
      rintro e w4 rfl H4
      clear H0 H1 H2 H3
      go_wp2_with fail
      refine callAt (C5.out _) H4 ?_
      rintro e w5 rfl H5
      go_wp2_with fail
      refine callAt (C6.out _) H5 ?_
      rintro e w6 rfl H6
      go_wp2_with fail
      refine callAt (C7.out _) H6 ?_
      rintro e w7 rfl H7
      go_wp2_with fail
      refine callAt (alive24 _) H7 ?_
      rintro e w8 rfl H8
      go_wp2_with fail
      go_ret
      exact ⟨rfl, H8.below⟩
end Go.Proofs.Ytinommcocgnmlaa.PFileTells
