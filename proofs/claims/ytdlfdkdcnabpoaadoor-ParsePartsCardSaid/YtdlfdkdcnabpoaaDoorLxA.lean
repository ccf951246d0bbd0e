/- Layer 16: strings as lists of bytes; a letter; a number's text; where a piece ends. -/
import Derived.Test.YtdlfdkdcnabpoaaDoorLxP
import Derived.Test.YtdlfdkdcnabpoaaDoorMem2
import Derived.Test.YtdlfdkdcnabpoaaDoorProg
import Derived.Laws.Strings2
import Derived.Laws.Strings3
import Derived.Laws.Concat
namespace Go.Proofs.YtdlfdkdcnabpoaaDoor.Lx
set_option linter.unusedSimpArgs false
set_option linter.unusedVariables false
open Go.RowKit
open _root_.Go.Proofs.YtdlfdkdcnabpoaaDoor.Own
/-- A string of known bytes. -/
def str (l : List UInt8) : ByteArray := ⟨l.toArray⟩
theorem str_size (l : List UInt8) : (str l).size = l.length := by simp [str, ByteArray.size]
theorem str_toList (l : List UInt8) : (str l).toList = l := by unfold str; exact ByteArray.toList_mk l
theorem str_data (l : List UInt8) : (str l).data.toList = l := by simp [str]
theorem str_extract (l : List UInt8) (a b : Nat) : (str l).extract a b = str ((l.drop a).take (b - a)) := by unfold str; exact ByteArray.extract_mk l a b
theorem str_append (a b : List UInt8) : str a ++ str b = str (a ++ b) := ByteArray.mk_append_mk a b
theorem str_of (s : ByteArray) : s = str s.data.toList := by cases s with | mk a => show ByteArray.mk a = ByteArray.mk a.toList.toArray; rw [Array.toArray_toList]
theorem str_get (l : List UInt8) (i : Nat) (h : i < (str l).size) : (str l)[i]'h = l[i]'(by rw [str_size] at h; exact h) := by
  exact List.getElem_toArray (by rw [List.size_toArray]; rw [str_size] at h; exact h)
theorem str_inj {a b : List UInt8} (h : str a = str b) : a = b := by rw [← str_toList a, h, str_toList]
/-- A byte of a string. -/
theorem run_byte {P : Program} {w : World} (t : TypeId) (h : P.underlying t = some .string) (l : List UInt8) (k : Nat) (c : UInt8) (hc : l[k]? = some c) :
    (Instr.index t (.string (str l)) (.int .i64 k)).run P w = .ok (.int .u8 (nB c)) w := by
  obtain ⟨hk, rfl⟩ := List.getElem?_eq_some_iff.1 hc
  rw [run_index_string w t (str l) .i64 k h, dif_pos ⟨Int.natCast_nonneg _, by rw [str_size]; omega⟩]
  have : ((str l)[((k : Int)).toNat]'(by rw [str_size]; omega)) = l[k] := by
    rw [str_get]
    simp
  rw [this]
  rfl
theorem run_from {P : Program} {w : World} (t : TypeId) (h : P.underlying t = some .string) (l : List UInt8) (k : Nat) (hk : k ≤ l.length) :
    (Instr.slice t (.string (str l)) (some (.int .i64 k)) none none).run P w = .ok (.string (str (l.drop k))) w := by
  rw [run_slice_string_from_if w t (str l) .i64 k h, if_pos ⟨Int.natCast_nonneg _, by rw [str_size]; omega⟩, str_extract, str_size]
  have : (l.drop ((k : Int)).toNat).take (l.length - ((k : Int)).toNat) = l.drop k := by
    rw [show ((k : Int)).toNat = k from rfl, List.take_of_length_le (by rw [List.length_drop]; omega)]
  rw [this]
theorem run_upto {P : Program} {w : World} (t : TypeId) (h : P.underlying t = some .string) (l : List UInt8) (k : Nat) (hk : k ≤ l.length) :
    (Instr.slice t (.string (str l)) none (some (.int .i64 k)) none).run P w = .ok (.string (str (l.take k))) w := by
  rw [run_slice_string_to_if w t (str l) .i64 k h, if_pos ⟨Int.natCast_nonneg _, by rw [str_size]; omega⟩, str_extract, Nat.sub_zero, List.drop_zero]
  rfl
theorem run_mid {P : Program} {w : World} (t : TypeId) (h : P.underlying t = some .string) (l : List UInt8) (a b : Nat) (hab : a ≤ b) (hb : b ≤ l.length) :
    (Instr.slice t (.string (str l)) (some (.int .i64 a)) (some (.int .i64 b)) none).run P w = .ok (.string (str ((l.drop a).take (b - a)))) w := by
  rw [run_slice_string w t (str l) .i64 .i64 a b h (Int.natCast_nonneg _) (by omega) (by rw [str_size]; omega), str_extract]
  rfl
theorem run_len {P : Program} {w : World} (t ty : TypeId) (h : P.underlying t = some .string) (l : List UInt8) : (Builtin.len_ #[t] ty #[.string (str l)]).run P w = .ok (.int .i64 l.length) w := by
  rw [run_len_string w t ty (str l) h, str_size]
  rfl
theorem nB_ge (c : UInt8) (n : Nat) : decide ((n : Int) ≤ nB c) = decide (n ≤ c.toNat) := by unfold nB; simp
theorem nB_le (c : UInt8) (n : Nat) : decide (nB c ≤ (n : Int)) = decide (c.toNat ≤ n) := by unfold nB; simp
theorem nB_eq (c d : UInt8) : (nB c == nB d) = (c == d) := by
  by_cases h : c = d
  · subst h; simp
  · have : nB c ≠ nB d := fun e => h (u8_inj e)
    rw [beq_eq_false_iff_ne.2 h, beq_eq_false_iff_ne.2 this]
set_option maxHeartbeats 2000000 in
theorem letter_calls (c : UInt8) (w : World) : Calls Tryd.prog 31 #[.int .u8 (nB c)] w fun e w' => e = .returned (.bool (letter c)) ∧ w = w' := by
  have hl : letter c = ((decide (97 ≤ nB c) && decide (nB c ≤ 122)) || (decide (48 ≤ nB c) && decide (nB c ≤ 57))) := by
    show letter c = ((decide (((97 : Nat) : Int) ≤ nB c) && decide (nB c ≤ ((122 : Nat) : Int))) || (decide (((48 : Nat) : Int) ≤ nB c) && decide (nB c ≤ ((57 : Nat) : Int))))
    rw [nB_ge, nB_le, nB_ge, nB_le]
    rfl
  rw [hl]
  generalize nB c = n
  clear hl
  go_enter Tryd.func31, Tryd.ntmps31
  by_cases h1 : 97 ≤ n <;> by_cases h2 : n ≤ 122 <;> by_cases h3 : 48 ≤ n <;> by_cases h4 : n ≤ 57 <;> (go_wp2_with fail; go_ret; simp [h1, h2, h3, h4])
set_option maxHeartbeats 2000000 in
theorem small_calls (c : UInt8) (w : World) : Calls Tryd.prog 35 #[.int .u8 (nB c)] w fun e w' => e = .returned (.bool (letter c)) ∧ w = w' := by
  have hl : letter c = ((decide (97 ≤ nB c) && decide (nB c ≤ 122)) || (decide (48 ≤ nB c) && decide (nB c ≤ 57))) := by
    show letter c = ((decide (((97 : Nat) : Int) ≤ nB c) && decide (nB c ≤ ((122 : Nat) : Int))) || (decide (((48 : Nat) : Int) ≤ nB c) && decide (nB c ≤ ((57 : Nat) : Int))))
    rw [nB_ge, nB_le, nB_ge, nB_le]
    rfl
  rw [hl]
  generalize nB c = n
  clear hl
  go_enter Tryd.func35, Tryd.ntmps35
  by_cases h1 : 97 ≤ n <;> by_cases h2 : n ≤ 122 <;> by_cases h3 : 48 ≤ n <;> by_cases h4 : n ≤ 57 <;> (go_wp2_with fail; go_ret; simp [h1, h2, h3, h4])
end Go.Proofs.YtdlfdkdcnabpoaaDoor.Lx
