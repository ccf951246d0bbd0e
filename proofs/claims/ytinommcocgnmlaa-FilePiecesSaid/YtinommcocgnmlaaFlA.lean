/- Chapter 24: the contracts of file.joined, Told, Put. -/
import Derived.Test.YtinommcocgnmlaaFlP
import Derived.Test.YtinommcocgnmlaaShelf
import Derived.Test.YtinommcocgnmlaaMem2
import Derived.Lib.Hide
namespace Go.Proofs.Ytinommcocgnmlaa.PFileTells
open Go.RowKit Go.Proofs.YtinommcocgnmlaaW.PrintWords Go.Proofs.YtinommcocgnmlaaW.PrintLast Go.Proofs.YtinommcocgnmlaaW.PrintMore
open _root_.Go.Proofs.Ytinommcocgnmlaa.Own
set_option linter.unusedVariables false
set_option linter.unusedSimpArgs false
theorem join_two (a b : ByteArray) : (⟨(Lib.join ([a, b].map (·.data.toList)) (⟨#[]⟩ : ByteArray).data.toList).toArray⟩ : ByteArray) = a ++ b := by
  have : Lib.join [a.data.toList, b.data.toList] [] = a.data.toList ++ b.data.toList := by simp [Lib.join, List.intercalate]
  simp only [List.map_cons, List.map_nil]
  show (⟨(Lib.join [a.data.toList, b.data.toList] []).toArray⟩ : ByteArray) = a ++ b
  rw [this]
  apply ByteArray.ext
  simp [ByteArray.data_append]
theorem joined_calls (m bad : Int) (a b : ByteArray) (bk c : Nat) (w : World) (h0 : w.cell? ⟨bk, 0, none⟩ = some (.string a)) (h1 : w.cell? ⟨bk, 1, none⟩ = some (.string b)) (hs : a.size + b.size ≤ 4096) (hc : 2 ≤ c) :
    Calls Try.prog 53 #[.int .i64 m, .int .i64 bad, .slice (some ⟨bk, 0, none⟩) 2 c] w fun e w' => e = .returned (.tuple #[.string (cutB m bad (a ++ b)).1, .int .i64 (cutB m bad (a ++ b)).2]) ∧ Below w.heap.size w w' := by
  have HJ := Lib.hid (Try.strings_Join bk 0 c [a, b] ⟨#[]⟩ w (fun j x hj => by
    match j, hj with
    | 0, hj => cases hj; exact h0
    | 1, hj => cases hj; exact h1
    | j + 2, hj => simp at hj) (World.block_lt_of_cell? w _ h0) (by simp) hc (by
      have : Lib.join [a.data.toList, b.data.toList] [] = a.data.toList ++ b.data.toList := by simp [Lib.join, List.intercalate]
      show (Lib.join [a.data.toList, b.data.toList] []).length ≤ _
      rw [this, List.length_append, data_length, data_length]
      omega))
  rw [join_two] at HJ
  generalize hx : a ++ b = x at *
  have hsz : x.size = a.size + b.size := by rw [← hx, ByteArray.size_append]
  have hsz1 : x.size ≤ 4096 := by omega
  clear h0 h1 hx hs hc hsz
  have H0 := At.refl w
  unfold cutB
  by_cases h : (x.size : Int) > m
  · rw [if_pos h]
    have h' : decide ((x.size : Int) > m) = true := decide_eq_true h
    clear h
    go_enter Try.func53, Try.ntmps53
    go_wp2_with fail
    refine callAt HJ.out H0 ?_
    rintro e w1 rfl H1
    go_wp2_with fail
    go_ret2
    exact ⟨rfl, H1.below⟩
  · rw [if_neg h]
    have h' : decide ((x.size : Int) > m) = false := decide_eq_false h
    clear h
    go_enter Try.func53, Try.ntmps53
    go_wp2_with fail
    refine callAt HJ.out H0 ?_
    rintro e w1 rfl H1
    go_wp2_with fail
    go_ret2
    exact ⟨rfl, H1.below⟩
theorem cell_new (w : World) (cs : List Value) (t : TypeId) (i : Nat) : (w.alloc (.cells ⟨cs⟩ t (0, 0))).cell? ⟨w.heap.size, i, none⟩ = cs[i]? :=
  ((((At.refl w).alloc cs t).rules) _ (List.mem_cons_self ..)).1 i
theorem Told_calls (s d : ByteArray) (h : Bool) (w : World) (hs : s.size + d.size ≤ 4096) : Calls Try.prog 33 #[.string s, .bool h, .string d] w fun e w' => e = .returned (.tuple #[.string (toldB s h d).1, .int .i64 (toldB s h d).2]) ∧ Below w.heap.size w w' := by
  have H0 := At.refl w
  unfold toldB keepB
  cases h
  · rw [if_neg (by decide)]
    have HJ := Lib.hid (joined_calls 32 5 ⟨#[]⟩ d w.heap.size 2 (w.alloc (.cells #[.string ⟨#[]⟩, .string d] 9)) (cell_new w [.string ⟨#[]⟩, .string d] _ 0) (cell_new w [.string ⟨#[]⟩, .string d] _ 1) (by rw [nil_size]; omega) (by decide))
    have H1 := H0.alloc [.string ⟨#[]⟩, .string d] 9
    generalize cutB 32 5 (⟨#[]⟩ ++ d) = r at *
    go_enter Try.func33, Try.ntmps33
    go_wp2_with fail
    refine callAt HJ.out H1 ?_
    rintro e w1 rfl H2
    go_wp2_with fail
    go_ret2
    exact ⟨rfl, H2.below⟩
  · rw [if_pos rfl]
    have HJ := Lib.hid (joined_calls 32 5 s d w.heap.size 2 (w.alloc (.cells #[.string s, .string d] 9)) (cell_new w [.string s, .string d] _ 0) (cell_new w [.string s, .string d] _ 1) (by omega) (by decide))
    have H1 := H0.alloc [.string s, .string d] 9
    generalize cutB 32 5 (s ++ d) = r at *
    go_enter Try.func33, Try.ntmps33
    go_wp2_with fail
    refine callAt HJ.out H1 ?_
    rintro e w1 rfl H2
    go_wp2_with fail
    go_ret2
    exact ⟨rfl, H2.below⟩
theorem Put_calls (s d : ByteArray) (h : Bool) (w : World) (hs : s.size + d.size ≤ 4096) : Calls Try.prog 35 #[.string s, .string d, .bool h] w fun e w' => e = .returned (.tuple #[.string (putB s d h).1, .int .i64 (putB s d h).2]) ∧ Below w.heap.size w w' := by
  have H0 := At.refl w
  unfold putB keepB
  cases h
  · rw [if_neg (by decide)]
    have HJ := Lib.hid (joined_calls 64 12 ⟨#[]⟩ d w.heap.size 2 (w.alloc (.cells #[.string ⟨#[]⟩, .string d] 9)) (cell_new w [.string ⟨#[]⟩, .string d] _ 0) (cell_new w [.string ⟨#[]⟩, .string d] _ 1) (by rw [nil_size]; omega) (by decide))
    have H1 := H0.alloc [.string ⟨#[]⟩, .string d] 9
    generalize cutB 64 12 (⟨#[]⟩ ++ d) = r at *
    go_enter Try.func35, Try.ntmps35
    go_wp2_with fail
    refine callAt HJ.out H1 ?_
    rintro e w1 rfl H2
    go_wp2_with fail
    go_ret2
    exact ⟨rfl, H2.below⟩
  · rw [if_pos rfl]
    have HJ := Lib.hid (joined_calls 64 12 s d w.heap.size 2 (w.alloc (.cells #[.string s, .string d] 9)) (cell_new w [.string s, .string d] _ 0) (cell_new w [.string s, .string d] _ 1) (by omega) (by decide))
    have H1 := H0.alloc [.string s, .string d] 9
    generalize cutB 64 12 (s ++ d) = r at *
    go_enter Try.func35, Try.ntmps35
    go_wp2_with fail
    refine callAt HJ.out H1 ?_
    rintro e w1 rfl H2
    go_wp2_with fail
    go_ret2
    exact ⟨rfl, H2.below⟩
theorem Told_is {s d : ByteArray} {h : Bool} {a : ByteArray} {b : Int} (w : World) (e : toldB s h d = (a, b)) (hs : s.size + d.size ≤ 4096) : Calls Try.prog 33 #[.string s, .bool h, .string d] w fun e w' => e = .returned (.tuple #[.string a, .int .i64 b]) ∧ Below w.heap.size w w' := by
  have := Told_calls s d h w hs
  rw [e] at this
  exact this
theorem Put_is {s d : ByteArray} {h : Bool} {a : ByteArray} {b : Int} (w : World) (e : putB s d h = (a, b)) (hs : s.size + d.size ≤ 4096) : Calls Try.prog 35 #[.string s, .string d, .bool h] w fun e w' => e = .returned (.tuple #[.string a, .int .i64 b]) ∧ Below w.heap.size w w' := by
  have := Put_calls s d h w hs
  rw [e] at this
  exact this
theorem First_is {s a : ByteArray} (w : World) (e : firstB s = a) : Calls Try.prog 37 #[.string s] w fun e w' => e = .returned (.string a) ∧ Below w.heap.size w w' := file_First.calls s a w (by rw [fileFirst_f, e])
theorem Fine_is (s : ByteArray) {b : Bool} (w : World) (e : decide ((s.size : Int) ≤ 64) = b) : Calls Try.prog 39 #[.string s] w fun e w' => e = .returned (.bool b) ∧ Below w.heap.size w w' :=
  (file_Fine.calls s b w (by rw [← e]; rfl)).mono fun _ _ h => ⟨h.1, h.2.below⟩
set_option maxRecDepth 100000 in
theorem alive24 (w : World) : Calls Try.prog 32 #[] w fun e w' => e = .returned (.bool true) ∧ Below w.heap.size w w' := by
  have H0 := At.refl w
  go_enter Try.func32, Try.ntmps32
  go_wp2_with fail
  refine callAt (Put_is (a := ⟨#[97, 98]⟩) (b := 0) _ (by decide) (by decide)) H0 ?_
  rintro e w1 rfl H1
  go_wp2_with fail
  refine callAt (Put_is (a := ⟨#[98]⟩) (b := 0) _ (by decide) (by decide)) H1 ?_
  rintro e w2 rfl H2
  go_wp2_with fail
  refine callAt (Told_is (a := ⟨#[120, 121]⟩) (b := 0) _ (by decide) (by decide)) H2 ?_
  rintro e w3 rfl H3
  go_wp2_with fail
  refine callAt (Told_is (a := ⟨#[]⟩) (b := 5) _ (by decide) (by decide)) H3 ?_
  rintro e w4 rfl H4
  go_wp2_with fail
  refine callAt (Fine_is _ (b := true) _ (by decide)) H4 ?_
  rintro e w5 rfl H5
  go_wp2_with fail
  refine callAt (First_is (a := ⟨#[97, 98]⟩) _ (by decide)) H5 ?_
  rintro e w6 rfl H6
  go_wp2_with fail
  go_ret
  exact ⟨rfl, H6.below⟩
end Go.Proofs.Ytinommcocgnmlaa.PFileTells
