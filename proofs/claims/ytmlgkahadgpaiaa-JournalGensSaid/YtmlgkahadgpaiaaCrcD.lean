/- The walks of bytes.Clone, bytes.Equal, crc.Seal. -/
import Derived.Test.YtmlgkahadgpaiaaCrcC
import Derived.Deep.DeepMust
namespace Go.Proofs.Ytmlgkahadgpaiaa
set_option linter.unusedSimpArgs false
set_option linter.unusedVariables false
open Go.RowKit Own
theorem infoB : (Try.prog.info? 5).map (fun i => (i.zero, i.size, i.bytes)) = some (some (.int .u8 0), 1, 1) := by kernel_rfl
set_option maxHeartbeats 400000 in
theorem Clone_calls (A : Option Addr) (c : Nat) (xs : List UInt8) (hl : xs.length ≤ 1000000) (hA : A = none → c = 0) (w : World) (hR : Rd w A (bys xs)) :
    Calls Try.prog 72 #[.slice A xs.length c] w fun e w' => ∃ v, e = .returned v ∧ Has w.heap.size 5 v (bys xs) w' ∧ Below w.heap.size w w' := by
  have HR := Lib.hid hR
  have hnl := fun (w' : World) (a : Option Addr) (l c : Nat) => Lib.run_eql_slice_nil w' 23 5 a l c 0 0 Try.underlying23
  cases A with
  | none =>
    have hy : xs = [] := by
      cases xs with
      | nil => rfl
      | cons y ys => obtain ⟨_, h0, _⟩ := hR 0 (by simp [bys]); cases h0
    subst hy
    clear hR HR
    go_enter Try.func72, Try.ntmps72
    go_wp2
    go_ret
    exact ⟨_, rfl, Has.nil _ _ _, Below.refl _ _⟩
  | some a =>
    clear hR hA
    go_enter Try.func72, Try.ntmps72
    go_wp2_with (at_builtin; refine wpList_app rfl _ _ 23 rfl w.heap.size 5 (.int .u8 0) 1 Try.underlying23 infoB rfl _ [] rfl ?hOwn _ _ _ (bys xs) rfl ?hLen ?hNil ?hRd (bys_one xs) ?hCap ?hCap2 ?hBase ?_)
    case hOwn => exact Has.lit _ w [] (Nat.le_refl _) (by simp [maxLen])
    case hLen => exact (bys_length xs).symm
    case hNil => exact fun h => nomatch h
    case hRd => exact HR.out.below ((Below.refl _ _).alloc (Nat.le_refl _) _)
    case hCap => rw [bys_length]; simp [maxLen]; omega
    case hCap2 => rw [bys_length]; simp; omega
    case hBase => simp
    intro v' w2 hv hg
    have HV := Lib.hid hv
    have HB : Below w.heap.size w w2 := ((Below.refl _ w).alloc (Nat.le_refl _) _).grown hg (by simp) (fun k e => by cases e; exact Nat.le_refl _)
    clear hg hv
    go_wp2
    go_ret
    exact ⟨_, rfl, HV.out, HB⟩
theorem str_eq (xs ys : List UInt8) : ((⟨xs.toArray⟩ : ByteArray) == ⟨ys.toArray⟩) = (xs == ys) := by
  rw [show ((⟨xs.toArray⟩ : ByteArray) == ⟨ys.toArray⟩) = (xs.toArray == ys.toArray) from rfl]
  simp
set_option maxHeartbeats 400000 in
theorem Equal_calls (A B : Option Addr) (c d : Nat) (xs ys : List UInt8) (n m : Nat) (hn : n = xs.length) (hm : m = ys.length) (hA : A = none → c = 0) (hB : B = none → d = 0) (w : World) (hR : Rd w A (bys xs)) (hS : Rd w B (bys ys)) :
    Calls Try.prog 79 #[.slice A n c, .slice B m d] w fun e w' => e = .returned (.bool (xs == ys)) ∧ w = w' := by
  have e1 := run_string_of (w := w) Try.underlying23 Try.underlying5 Try.underlying9 A n c xs hn hA hR
  have e2 := run_string_of (w := w) Try.underlying23 Try.underlying5 Try.underlying9 B m d ys hm hB hS
  have e3 := str_eq xs ys
  clear hn hm hA hB hR hS
  go_enter Try.func79, Try.ntmps79
  go_wp2
  go_ret
  exact ⟨rfl, rfl⟩
end Go.Proofs.Ytmlgkahadgpaiaa
