/- Layer 17: both, sum, test. -/
import Derived.Test.YtdlfdkdcnabpoaaDoorPaC
namespace Go.Proofs.YtdlfdkdcnabpoaaDoor.Pa
set_option linter.unusedSimpArgs false
set_option linter.unusedVariables false
open Go.RowKit
open _root_.Go.Proofs.YtdlfdkdcnabpoaaDoor.Own
open Go.Proofs.YtdlfdkdcnabpoaaDoor.Lx
attribute [local go_sem] str_size str_extract str_append str_toList
theorem enter58 (xs : Array Value) (w : World) : (callFunc 58 xs).run Tryd.prog w = .ok (.enter 58 xs) w := by kernel_rfl
theorem enter49 (xs : Array Value) (w : World) : (callFunc 49 xs).run Tryd.prog w = .ok (.enter 49 xs) w := by kernel_rfl
attribute [local irreducible] RdS
theorem kinds_and : ∀ t ∈ ([[38]] : List (List UInt8)), ∃ k, (t, k) ∈ kindL := by
  intro t ht
  simp only [List.mem_cons, List.not_mem_nil, or_false] at ht
  subst ht
  exact ⟨12, by decide⟩
theorem kinds_or : ∀ t ∈ ([[124], [45]] : List (List UInt8)), ∃ k, (t, k) ∈ kindL := by
  intro t ht
  simp only [List.mem_cons, List.not_mem_nil, or_false] at ht
  rcases ht with rfl | rfl
  · exact ⟨13, by decide⟩
  · exact ⟨14, by decide⟩
theorem texts_new (w : World) (ts : List (List UInt8)) : Texts (w.alloc (.cells ⟨strs ts⟩ 9)) w.heap.size ts := heap_alloc_new w _
set_option maxRecDepth 10000 in
set_option maxHeartbeats 4000000 in
theorem both_calls {deep : Int} {g : St → St} (hF : PartC 58 deep g) (hS : Shr g) : PartC 49 deep (bothS g) := by
  intro r w s h hw hl
  have hb : Below w.heap.size w (w.alloc (.cells ⟨strs [[38]]⟩ 9)) := (Below.refl _ _).alloc (Nat.le_refl _) _
  have HC := Lib.hid (chain_calls 58 enter58 deep g hF hS w.heap.size 1 [[38]] rfl (by decide) kinds_and (h.below hb) hw hl (texts_new w [[38]]) (by have := h.lt; omega))
  have HB := Lib.hid hb
  clear hF hS h hw hl hb
  go_enter Tryd.func49, Tryd.ntmps49
  go_wp2_with fail
  refine HC.out.mono ?_
  rintro e w1 ⟨rfl, hR, hf⟩
  go_wp2_with fail
  go_returns
  exact ⟨rfl, hR, (Fr.of_below HB.out).trans hf⟩
set_option maxRecDepth 10000 in
set_option maxHeartbeats 4000000 in
theorem sum_calls {deep : Int} {g : St → St} (hF : PartC 58 deep g) (hS : Shr g) : PartC 36 deep (sumS g) := by
  intro r w s h hw hl
  have hb : Below w.heap.size w (w.alloc (.cells ⟨strs [[124], [45]]⟩ 9)) := (Below.refl _ _).alloc (Nat.le_refl _) _
  have HC := Lib.hid (chain_calls 49 enter49 deep (bothS g) (both_calls hF hS) (shr_both hS) w.heap.size 2 [[124], [45]] rfl (by decide) kinds_or (h.below hb) hw hl (texts_new w [[124], [45]]) (by have := h.lt; omega))
  have HB := Lib.hid hb
  clear hF hS h hw hl hb
  go_enter Tryd.func36, Tryd.ntmps36
  go_wp2_with fail
  refine HC.out.mono ?_
  rintro e w1 ⟨rfl, hR, hf⟩
  go_wp2_with fail
  go_returns
  exact ⟨rfl, hR, (Fr.of_below HB.out).trans hf⟩
set_option maxRecDepth 10000 in
set_option maxHeartbeats 4000000 in
theorem test_calls {deep : Int} {g : St → St} (hF : PartC 58 deep g) (hS : Shr g) : PartC 27 deep (testS g) := by
  intro r w s h hw hl
  have HSum := Lib.hid (sum_calls hF hS)
  have HC := Lib.hid (sum_calls hF hS r w s h hw hl)
  have hsh := shr_sum hS s hw
  have HSh := Lib.hid (fun (h : isS (sumS g s) [[60, 61]] = true) => shr_round (shr_sum hS) _ hsh.1 h 15)
  have HW := Lib.hid hsh.1
  have HL := Lib.hid (Nat.le_trans hsh.2.2 hl)
  have hT : testS g s = if isS (sumS g s) [[60, 61]] = true then nodeS (sumS g (takeS (sumS g s))) 15 0 else sumS g s := rfl
  rw [hT]
  obtain ⟨s1, hs1⟩ : ∃ s1, sumS g s = s1 := ⟨_, rfl⟩
  rw [hs1] at HC HSh HW HL ⊢
  obtain ⟨bi, hbi⟩ : ∃ bi, isS s1 [[60, 61]] = bi := ⟨_, rfl⟩
  have HBi := Lib.hid hbi
  rw [hbi]
  clear hF hS h hw hl hT hs1 hsh hbi
  go_enter Tryd.func27, Tryd.ntmps27
  go_wp2_with fail
  refine HC.out.mono ?_
  rintro e w1 ⟨rfl, hR1, hf1⟩
  have hb : Below w1.heap.size w1 (w1.alloc (.cells ⟨strs [[60, 61]]⟩ 9)) := (Below.refl _ _).alloc (Nat.le_refl _) _
  have HI := Lib.hid (isC (hR1.below hb) w1.heap.size 1 [[60, 61]] rfl (by decide) (texts_new w1 _))
  rw [HBi.out] at HI
  have HF1 := Lib.hid (hf1.trans (.of_below hb))
  clear hR1 hf1 hb HC
  go_wp2_with fail
  refine HI.out.mono ?_
  rintro e w2 ⟨rfl, hR2, hf2⟩
  have HR2 := Lib.hid hR2
  have HF2 := Lib.hid (HF1.out.trans hf2)
  clear hR2 hf2 HI
  cases bi with
  | false =>
    go_wp2_with fail
    go_returns
    exact ⟨rfl, HR2.out, HF2.out⟩
  | true =>
    have hsh := HSh.out HBi.out
    have HT := Lib.hid (takeC HR2.out HW.out)
    go_wp2_with fail
    refine HT.out.mono ?_
    rintro e w3 ⟨⟨p', R', hp', rfl⟩, hR3, hf3⟩
    clear hp'
    have HS2 := Lib.hid (HSum.out r w3 (takeS s1) hR3 HW.out.adv (by have := HL.out; have := adv_le s1.R; rw [take_O, take_R]; omega))
    have HF3 := Lib.hid (HF2.out.trans hf3)
    clear hR3 hf3
    go_wp2_with fail
    refine HS2.out.mono ?_
    rintro e w4 ⟨rfl, hR4, hf4⟩
    have HF4 := Lib.hid (HF3.out.trans hf4)
    have hln : (sumS g (takeS s1)).O.length ≤ 1000 := by
      have h1 := hsh.2.2
      have h2 := HL.out
      rw [node_len] at h1
      omega
    have HNo := Lib.hid (nodeC hR4 hln 15 0)
    clear hln hsh hR4 hf4
    go_wp2_with fail
    refine HNo.out.mono ?_
    rintro e w5 ⟨rfl, hR5, hf5⟩
    go_wp2_with fail
    go_returns
    exact ⟨rfl, hR5, HF4.out.trans hf5⟩
end Go.Proofs.YtdlfdkdcnabpoaaDoor.Pa
