/- The usual calls of layer 18 ('alive'), and the walks of its laws. -/
import Derived.Test.YtinommcocgnmlaaTyC
namespace Go.Proofs.Ytinommcocgnmlaa.PTypingTypes
open Go.RowKit Go.Proofs.YtinommcocgnmlaaW.PrintWords Go.Proofs.YtinommcocgnmlaaW.PrintLast Go.Proofs.YtinommcocgnmlaaW.PrintMore
open _root_.Go.Proofs.Ytinommcocgnmlaa.Own
set_option linter.unusedVariables false
set_option linter.unusedSimpArgs false
/-- Nodes as cells. -/
def flatN (l : List S73) : List Value := l.flatMap fun x => [.int .i64 x.f0, .int .i64 x.f1]
theorem flatN_get : ∀ (l : List S73) (i : Nat) (hi : i < l.length), (flatN l)[i * 2]? = some (.int .i64 l[i].f0) ∧ (flatN l)[i * 2 + 1]? = some (.int .i64 l[i].f1)
  | [], i, hi => by simp at hi
  | x :: l, 0, _ => ⟨rfl, rfl⟩
  | x :: l, i + 1, hi => by
    have h := flatN_get l i (by simpa using hi)
    have e : flatN (x :: l) = .int .i64 x.f0 :: .int .i64 x.f1 :: flatN l := rfl
    rw [e, show (i + 1) * 2 = i * 2 + 1 + 1 by omega]
    simpa using h
theorem c73_block {w : World} {g : Nat} {T : TypeId} {fr : Nat × Nat} (l : List S73) (hl : l.length ≤ 9223372036854775807) (h : w.heap[g]? = some (.cells ⟨flatN l⟩ T fr)) : Kd.C k73 w (some ⟨g, 0, none⟩) l.length l := by
  refine ⟨rfl, hl, fun _ => ⟨⟨g, 0, none⟩, rfl, fun j p hj => ?_⟩⟩
  obtain ⟨hj1, rfl⟩ := List.getElem?_eq_some_iff.1 hj
  obtain ⟨h1, h2⟩ := flatN_get l j hj1
  refine ⟨[.int .i64 l[j].f0, .int .i64 l[j].f1], rfl, k73_mk w l[j], ?_⟩
  intro i u hi
  have hadd : ∀ n, (⟨g, 0, none⟩ : Addr).add n = ⟨g, n, none⟩ := fun n => by unfold Addr.add; split <;> simp_all
  rw [hadd, cell_of_row w g _ ⟨flatN l⟩ T fr h]
  match i, hi with
  | 0, hi =>
    simp only [List.getElem?_cons_zero, Option.some.injEq] at hi
    subst hi
    rw [show k73.sz = 2 from rfl]; simpa using h1
  | 1, hi =>
    simp only [List.getElem?_cons_succ, List.getElem?_cons_zero, Option.some.injEq] at hi
    subst hi
    rw [show k73.sz = 2 from rfl]; simpa using h2
  | _ + 2, hi => simp at hi
theorem c73_put {w : World} (l : List S73) (hl : l.length ≤ 9223372036854775807) : Kd.C k73 (w.alloc (.cells ⟨flatN l⟩ 73)) (some ⟨w.heap.size, 0, none⟩) l.length l :=
  c73_block l hl (heap_alloc_new w _)
theorem Type_is {A : Option Addr} {n c : Nat} {l : List S73} {w : World} {a b d : Int} (h : typeL (nds l) = (a, b, d)) (hn : n = l.length) (hr : Kd.C k73 w A l.length l) (hc : n ≤ c) (hl : n < 1099511627776) : Calls Try.prog 30 #[.slice A n c] w fun e w' => e = .returned (.tuple #[.int .i64 a, .int .i64 b, .int .i64 d]) ∧ Below w.heap.size w w' := by
  subst hn
  have := Type_calls A c l w hr hc hl
  rw [h] at this
  exact this
theorem Node_is {x : Int} {A : Option Addr} {n c : Nat} {l : List Int} {t : Int} {b : Bool} (h : nodeT x l = t) (hb : decide (0 < t) = b) (hn : n = l.length) (hl : l.length ≤ 9223372036854775807) (hc : n ≤ c) (w : World) (hR : Rd w A (ints l)) : Calls Try.prog 28 #[.int .i64 x, .slice A n c] w fun e w' => e = .returned (.tuple #[.int .i64 t, .bool b]) ∧ Below w.heap.size w w' := by
  have := Node_calls x A n c l hn hl hc w hR
  rw [h, hb] at this
  exact this
theorem r1 : typeL (nds [⟨2, 0⟩, ⟨10, 0⟩]) = (3, 0, 0) := by decide +kernel
theorem r2 : typeL (nds [⟨4, 1⟩, ⟨5, 1⟩, ⟨13, 0⟩]) = (0, 2, 16) := by decide +kernel
theorem r3 : typeL (nds []) = (0, 0, 3) := by decide +kernel
set_option maxHeartbeats 400000 in
theorem alive18 (w : World) : Calls Try.prog 27 #[] w fun e w' => e = .returned (.bool true) ∧ Below w.heap.size w w' := by
  go_enter Try.func27, Try.ntmps27
  have H0 := At.refl w
  have k1 : Kd.C k73 (w.alloc (.cells #[.int .i64 2, .int .i64 0, .int .i64 10, .int .i64 0] 73)) (some ⟨w.heap.size, 0, none⟩) ([⟨2, 0⟩, ⟨10, 0⟩] : List S73).length [⟨2, 0⟩, ⟨10, 0⟩] := c73_put [⟨2, 0⟩, ⟨10, 0⟩] (by simp)
  go_wp2_with fail
  refine callAt (R := fun e => e = .returned (.tuple #[.int .i64 3, .int .i64 0, .int .i64 0])) (Type_is r1 rfl k1 (by simp) (by simp)) (by repeat (first | with_reducible exact H0 | apply At.other)) ?_
  rintro e w1 rfl H1
  clear H0 k1
  have k2 : Kd.C k73 (w1.alloc (.cells #[.int .i64 4, .int .i64 1, .int .i64 5, .int .i64 1, .int .i64 13, .int .i64 0] 73)) (some ⟨w1.heap.size, 0, none⟩) ([⟨4, 1⟩, ⟨5, 1⟩, ⟨13, 0⟩] : List S73).length [⟨4, 1⟩, ⟨5, 1⟩, ⟨13, 0⟩] := c73_put [⟨4, 1⟩, ⟨5, 1⟩, ⟨13, 0⟩] (by simp)
  go_wp2_with fail
  refine callAt (R := fun e => e = .returned (.tuple #[.int .i64 0, .int .i64 2, .int .i64 16])) (Type_is r2 rfl k2 (by simp) (by simp)) (by repeat (first | with_reducible exact H1 | apply At.other)) ?_
  rintro e w2 rfl H2
  clear H1 k2
  go_wp2_with fail
  refine callAt (R := fun e => e = .returned (.tuple #[.int .i64 0, .int .i64 0, .int .i64 3])) (Type_is (l := []) r3 rfl ⟨rfl, by simp, fun h => by simp at h⟩ (by simp) (by simp)) (by repeat (first | with_reducible exact H2 | apply At.other)) ?_
  rintro e w3 rfl H3
  clear H2
  go_wp2_with fail
  refine callAt (R := fun e => e = .returned (.tuple #[.int .i64 1, .bool true])) (Node_is (l := [2]) (by decide) rfl rfl (by simp) (by simp) _ (Rd.put w3.heap.size rfl (ints [2]) _ _)) (by repeat (first | with_reducible exact H3 | apply At.other)) ?_
  rintro e w4 rfl H4
  clear H3
  go_wp2_with fail
  refine callAt (R := fun e => e = .returned (.tuple #[.int .i64 0, .bool false])) (Node_is (l := [1]) (by decide) rfl rfl (by simp) (by simp) _ (Rd.put w4.heap.size rfl (ints [1]) _ _)) (by repeat (first | with_reducible exact H4 | apply At.other)) ?_
  rintro e w5 rfl H5
  clear H4
  go_wp2_with fail
  go_ret
  exact ⟨rfl, H5.below⟩
set_option maxHeartbeats 2000000 in
theorem nodes_walk (x : Int) (A : Option Addr) (c : Nat) (l : List Int) (hc : l.length ≤ c) (hl : l.length ≤ 9223372036854775807) (w : World) (hR : Rd w A (ints l)) : Calls Try.prog 5 #[.int .i64 x, .slice A l.length c] w fun e w' => e = .returned (.bool true) ∧ Below w.heap.size w w' := by
  have HR := Lib.hid hR
  clear hR
  by_cases h20 : l.length ≤ 20
  · have hp := nodeT_pos x l
    have hd : decide ((l.length : Int) > 20) = false := by simp; omega
    go_enter Try.func5, Try.ntmps5
    have H0 := At.refl w
    go_wp2_with fail
    refine callAt (Node_calls x A l.length c l rfl hl hc _ HR.out) H0 ?_
    rintro e w1 rfl H1
    go_wp2_with fail
    refine callAt (RNode_calls x A l.length c l rfl hl hc _ (HR.out.below H1.below)) H1 ?_
    rintro e w2 rfl H2
    clear H0 H1
    generalize nodeT x l = t at *
    go_wp2_with fail
    refine callAt (alive18 _) H2 ?_
    rintro e w3 rfl H3
    go_wp2_with fail
    go_ret
    exact ⟨rfl, H3.below⟩
  · have hd : decide ((l.length : Int) > 20) = true := by simp; omega
    go_enter Try.func5, Try.ntmps5
    have H0 := At.refl w
    go_wp2_with fail
    refine callAt (alive18 _) H0 ?_
    rintro e w3 rfl H3
    go_wp2_with fail
    go_ret
    exact ⟨rfl, H3.below⟩
set_option maxHeartbeats 2000000 in
theorem types_walk (A : Option Addr) (c : Nat) (l : List S73) (hc : l.length ≤ c) (w : World) (hr : Kd.C k73 w A l.length l) : Calls Try.prog 6 #[.slice A l.length c] w fun e w' => e = .returned (.bool true) ∧ Below w.heap.size w w' := by
  have HR := Lib.hid hr
  clear hr
  by_cases h60 : l.length ≤ 60
  · have hd : decide ((l.length : Int) > 60) = false := by simp; omega
    go_enter Try.func6, Try.ntmps6
    have H0 := At.refl w
    go_wp2_with fail
    refine callAt (Type_calls A c l _ HR.out hc (by omega)) H0 ?_
    rintro e w1 rfl H1
    go_wp2_with fail
    refine callAt (RType_calls A c l _ (Kd.C_below HR.out H1.below) hc (by omega)) H1 ?_
    rintro e w2 rfl H2
    clear H0 H1
    generalize (typeL (nds l)).1 = t1 at *
    generalize (typeL (nds l)).2.1 = t2 at *
    generalize (typeL (nds l)).2.2 = t3 at *
    go_wp2_with fail
    refine callAt (alive18 _) H2 ?_
    rintro e w3 rfl H3
    go_wp2_with fail
    go_ret
    exact ⟨rfl, H3.below⟩
  · have hd : decide ((l.length : Int) > 60) = true := by simp; omega
    go_enter Try.func6, Try.ntmps6
    have H0 := At.refl w
    go_wp2_with fail
    refine callAt (alive18 _) H0 ?_
    rintro e w3 rfl H3
    go_wp2_with fail
    go_ret
    exact ⟨rfl, H3.below⟩
end Go.Proofs.Ytinommcocgnmlaa.PTypingTypes
