/- The walks of crc.Seal and crc.Open. -/
import Derived.Test.YtmlgkahadgpaiaaCrcD
import Derived.Deep.RegionWith
namespace Go.Proofs.Ytmlgkahadgpaiaa
set_option linter.unusedSimpArgs false
set_option linter.unusedVariables false
open Go.RowKit Own
theorem flat_one (A : Option Addr) (c : Nat) (xs : List UInt8) : flat [(A, c, xs)] = xs := by simp [flat]
theorem Own.Rd.one {w : World} (x : Value) (T : TypeId) : Rd (w.alloc (.cells ⟨[x]⟩ T)) (some ⟨w.heap.size, 0, none⟩) [x] := by
  intro i hi
  obtain rfl : i = 0 := by simpa using hi
  exact ⟨_, rfl, by rw [show (⟨w.heap.size, 0, none⟩ : Addr).add 0 = ⟨w.heap.size, 0, none⟩ from rfl]; exact cell_of_row _ _ 0 ⟨[x]⟩ T (0, 0) (heap_alloc_new w _)⟩
theorem Own.Rd.new {w : World} (xs : List Value) (T : TypeId) : Rd (w.alloc (.cells ⟨xs⟩ T)) (some ⟨w.heap.size, 0, none⟩) xs := by
  intro i hi
  refine ⟨_, rfl, ?_⟩
  rw [show (⟨w.heap.size, 0, none⟩ : Addr).add i = ⟨w.heap.size, i, none⟩ from by unfold Addr.add; split <;> simp_all, cell_of_row _ _ i ⟨xs⟩ T (0, 0) (heap_alloc_new w _)]
  simp [hi]
theorem below_alloc' {w W : World} (o : Obj) (h : Below w.heap.size w W) : Below w.heap.size w (W.alloc o) := h.alloc h.size o
theorem below_then' {w w1 w2 : World} (h : Below w.heap.size w w1) (k : Below w1.heap.size w1 w2) : Below w.heap.size w w2 := h.trans (k.mono h.size)
set_option maxHeartbeats 400000 in
theorem Seal_calls (A : Option Addr) (c : Nat) (xs : List UInt8) (hl : xs.length ≤ 10000) (hA : A = none → c = 0) (w : World) (hR : Rd w A (bys xs)) :
    Calls Try.prog 63 #[.slice A xs.length c] w fun e w' => ∃ v, e = .returned v ∧ Has w.heap.size 5 v (bys (xs ++ lowB (crc xs))) w' ∧ Below w.heap.size w w' := by
  have HR := Lib.hid hR
  clear hR
  have HA := Lib.hid hA
  clear hA
  go_enter Try.func63, Try.ntmps63
  go_wp2_with fail
  refine (Clone_calls A c xs (by omega) HA.out w HR.out).mono ?_
  rintro e w1 ⟨v, rfl, hv, hb1⟩
  have HV := Lib.hid hv
  clear hv
  go_wp2_with fail
  refine (Sum_calls (some ⟨w1.heap.size, 0, none⟩) 1 [(A, c, xs)] (by simp) _ (Rd.one _ _) (by intro p hp; obtain rfl := List.mem_singleton.1 hp; exact ⟨by simp only; omega, HR.out.below (below_alloc' _ hb1)⟩)).mono ?_
  rintro e w2 ⟨rfl, hb2⟩
  rw [flat_one]
  go_wp2_with fail
  refine (low_calls (crc xs) w2).mono ?_
  rintro e w3 ⟨rfl, rfl⟩
  have hb3 := below_then' (below_alloc' (w := w1) _ (Below.refl _ w1)) hb2
  go_wp2_with (at_builtin; refine wpList_app rfl _ _ 23 rfl w.heap.size 5 (.int .u8 0) 1 Try.underlying23 infoB rfl _ (bys xs) rfl ?hOwn _ _ _ (bys (lowB (crc xs))) rfl ?hLen ?hNil ?hRd (bys_one _) ?hCap ?hCap2 ?hBase ?_)
  case hOwn => exact (HV.out.below hb3).below (below_alloc' _ (Below.refl _ _))
  case hLen => rfl
  case hNil => exact fun h => nomatch h
  case hRd => exact Rd.new _ _
  case hCap => rw [bys_length, bys_length]; simp [maxLen, lowB]; omega
  case hCap2 => rw [bys_length, bys_length]; simp [lowB]; omega
  case hBase => have := hb1.size; have := hb3.size; simp only [World.size_alloc]; omega
  intro v' w4 hv hg
  rw [← bys_append] at hv
  have HV4 := Lib.hid hv
  have HB : Below w.heap.size w w4 := (below_alloc' _ (below_then' hb1 hb3)).grown hg (by have := hb1.size; have := hb3.size; simp only [World.size_alloc]; omega) (fun k e => (HV.out.blk k e).1)
  clear hg hv
  go_wp2
  go_ret
  exact ⟨_, rfl, HV4.out, HB⟩
end Go.Proofs.Ytmlgkahadgpaiaa
