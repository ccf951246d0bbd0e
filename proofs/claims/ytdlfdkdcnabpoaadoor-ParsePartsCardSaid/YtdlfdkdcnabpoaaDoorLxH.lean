/- Layer 16: the row of calls at the end of each statement. -/
import Derived.Test.YtdlfdkdcnabpoaaDoorLxG
import Derived.Laws.StructEq
namespace Go.Proofs.YtdlfdkdcnabpoaaDoor.Lx
set_option linter.unusedSimpArgs false
set_option linter.unusedVariables false
open Go.RowKit
open _root_.Go.Proofs.YtdlfdkdcnabpoaaDoor.Own
attribute [local go_sem] str_size str_extract str_append str_toList
theorem hasN_own {base : Nat} {e : TypeId} {sz : Nat} {v : Value} {n : Nat} {xs : List Value} {w : World} (h : HasN base e sz v n xs w) (hn : 0 < n) : ∃ g cap, v = .slice (some ⟨g, 0, none⟩) n cap ∧ n ≤ cap ∧ base ≤ g ∧ g < w.heap.size ∧ ∀ (i : Nat) (x : Value), xs[i]? = some x → w.cell? ⟨g, i, none⟩ = some x := by
  obtain ⟨h1, ⟨rfl, rfl⟩ | ⟨g, cap, cur, rfl, hb, hg, hn', hc, hs, ht⟩⟩ := h
  · omega
  · refine ⟨g, cap, rfl, hn', hb, blk_lt hg, fun i x hx => ?_⟩
    rw [cell_of_row w g i cur e (0, 0) hg]
    have h3 : (cur.toList.take (n * sz))[i]? = xs[i]? := by rw [ht]
    have hi := (List.getElem?_eq_some_iff.1 hx).1
    rw [List.getElem?_take, if_pos (by omega), hx] at h3
    rw [← Array.getElem?_toList, h3]
set_option maxRecDepth 100000 in
theorem pieces_a1 : pieces [117, 112, 32, 114, 49, 60, 61, 97, 108, 108] = ([⟨1, [117, 112], 0, 0⟩, ⟨2, [114, 49], 1, 3⟩, ⟨4, [60, 61], 0, 5⟩, ⟨1, [97, 108, 108], 0, 7⟩, ⟨5, [], 0, 10⟩], 0, 0) := by decide
set_option maxRecDepth 100000 in
theorem pieces_a2 : pieces [117, 112, 32, 114, 49, 54] = ([], 3, 3) := by decide
set_option maxRecDepth 100000 in
theorem pieces_a3 : pieces [32, 32, 32, 32, 32, 32, 32, 32, 32, 32, 32, 32, 32, 32, 32, 32, 32, 32, 32, 32, 32, 32, 32, 32, 32, 32, 32, 32, 32, 32, 32, 32, 32, 32, 32, 32, 32, 32, 32, 32, 32, 32, 32, 32, 32, 32, 32, 32, 32] = ([], 0, 5) := by decide
theorem a1_calls (w : World) (hE : Env w) : Calls Tryd.prog 11 #[.string ⟨#[117, 112, 32, 114, 49, 60, 61, 97, 108, 108]⟩] w fun e w' => ∃ g cap, e = .returned (.tuple #[.slice (some ⟨g, 0, none⟩) 5 cap, .int .i64 0, .int .i64 0]) ∧ 5 ≤ cap ∧ g < w'.heap.size ∧
    (∀ W, Below w'.heap.size w' W → W.cell? ⟨g, 4, none⟩ = some (.int .i64 2) ∧ W.cell? ⟨g, 5, none⟩ = some (.string ⟨#[114, 49]⟩) ∧ W.cell? ⟨g, 6, none⟩ = some (.int .i64 1) ∧ W.cell? ⟨g, 7, none⟩ = some (.int .i64 3) ∧ W.cell? ⟨g, 9, none⟩ = some (.string ⟨#[60, 61]⟩) ∧
      W.cell? ⟨g, 16, none⟩ = some (.int .i64 5) ∧ W.cell? ⟨g, 17, none⟩ = some (.string ⟨#[]⟩) ∧ W.cell? ⟨g, 18, none⟩ = some (.int .i64 0) ∧ W.cell? ⟨g, 19, none⟩ = some (.int .i64 10)) ∧ Below w.heap.size w w' := by
  refine (Pieces_calls [117, 112, 32, 114, 49, 60, 61, 97, 108, 108] w hE).mono ?_
  unfold Gave
  rw [pieces_a1]
  rintro e w' ⟨v, rfl, h1, h2⟩
  obtain ⟨g, cap, rfl, hc, _, hlt, hx⟩ := hasN_own h1 (by decide)
  refine ⟨g, cap, rfl, hc, hlt, fun W hb => ?_, h2⟩
  have hx' : ∀ (i : Nat) (x : Value), (cells [⟨1, [117, 112], 0, 0⟩, ⟨2, [114, 49], 1, 3⟩, ⟨4, [60, 61], 0, 5⟩, ⟨1, [97, 108, 108], 0, 7⟩, ⟨5, [], 0, 10⟩])[i]? = some x → W.cell? ⟨g, i, none⟩ = some x := fun i x h => (hb.cell (show (⟨g, i, none⟩ : Addr).block < w'.heap.size from hlt)).trans (hx i x h)
  exact ⟨hx' 4 _ rfl, hx' 5 _ rfl, hx' 6 _ rfl, hx' 7 _ rfl, hx' 9 _ rfl, hx' 16 _ rfl, hx' 17 _ rfl, hx' 18 _ rfl, hx' 19 _ rfl⟩
theorem a2_calls (w : World) (hE : Env w) : Calls Tryd.prog 11 #[.string ⟨#[117, 112, 32, 114, 49, 54]⟩] w fun e w' => (∃ v, e = .returned (.tuple #[v, .int .i64 3, .int .i64 3])) ∧ Below w.heap.size w w' := by
  refine (Pieces_calls [117, 112, 32, 114, 49, 54] w hE).mono ?_
  unfold Gave
  rw [pieces_a2]
  rintro e w' ⟨v, rfl, h1, h2⟩
  exact ⟨⟨v, rfl⟩, h2⟩
theorem a3_calls (w : World) (hE : Env w) : Calls Tryd.prog 11 #[.string ⟨#[32, 32, 32, 32, 32, 32, 32, 32, 32, 32, 32, 32, 32, 32, 32, 32, 32, 32, 32, 32, 32, 32, 32, 32, 32, 32, 32, 32, 32, 32, 32, 32, 32, 32, 32, 32, 32, 32, 32, 32, 32, 32, 32, 32, 32, 32, 32, 32, 32]⟩] w fun e w' => (∃ v, e = .returned (.tuple #[v, .int .i64 0, .int .i64 5])) ∧ Below w.heap.size w w' := by
  refine (Pieces_calls [32, 32, 32, 32, 32, 32, 32, 32, 32, 32, 32, 32, 32, 32, 32, 32, 32, 32, 32, 32, 32, 32, 32, 32, 32, 32, 32, 32, 32, 32, 32, 32, 32, 32, 32, 32, 32, 32, 32, 32, 32, 32, 32, 32, 32, 32, 32, 32, 32] w hE).mono ?_
  unfold Gave
  rw [pieces_a3]
  rintro e w' ⟨v, rfl, h1, h2⟩
  exact ⟨⟨v, rfl⟩, h2⟩
theorem eq_pc (k n a : Int) (t : ByteArray) (w : World) : (Op.equalIn 10000 32 (.agg ⟨[.int .i64 k, .string t, .int .i64 n, .int .i64 a]⟩) (.agg ⟨[.int .i64 k, .string t, .int .i64 n, .int .i64 a]⟩)).run Tryd.prog w = .ok true w := by
  have u := Tryd.underlying32
  have u1 := Tryd.underlying3
  have u2 := Tryd.underlying9
  go_simp
set_option maxRecDepth 10000 in
set_option maxHeartbeats 4000000 in
theorem alive16 (w : World) (hE : Env w) : Calls Tryd.prog 10 #[] w fun e w' => e = .returned (.bool true) ∧ Below w.heap.size w w' := by
  have H1 := Lib.hid (a1_calls w hE)
  have H2 := Lib.hid a2_calls
  have H3 := Lib.hid a3_calls
  have HE := Lib.hid hE
  clear hE
  go_enter Tryd.func10, Tryd.ntmps10
  go_wp2_with fail
  refine H1.out.mono ?_
  rintro e w1 ⟨g, cap, rfl, hcap, hg, hx, hb1⟩
  have HX := Lib.hid hx
  have HB1 := Lib.hid hb1
  clear hx hb1 H1
  go_wp2_with fail
  refine (H2.out _ (HE.out.below HB1.out)).mono ?_
  rintro e w2 ⟨⟨v2, rfl⟩, hb2⟩
  have HB2 := Lib.hid hb2
  have HB12 := Lib.hid (HB1.out.trans (hb2.mono HB1.out.size))
  clear hb2
  go_wp2_with fail
  refine (H3.out _ (HE.out.below HB12.out)).mono ?_
  rintro e w3 ⟨⟨v3, rfl⟩, hb3⟩
  have HB3 := Lib.hid (HB12.out.trans (hb3.mono HB12.out.size))
  obtain ⟨x4, x5, x6, x7, x9, x16, x17, x18, x19⟩ := HX.out w3 (HB2.out.trans (hb3.mono HB2.out.size))
  clear hb3
  go_wp2_with fail
  go_ret
  exact ⟨rfl, HB3.out⟩
end Go.Proofs.YtdlfdkdcnabpoaaDoor.Lx
