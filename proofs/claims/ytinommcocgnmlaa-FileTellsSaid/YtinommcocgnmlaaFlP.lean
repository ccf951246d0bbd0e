/- Chapter 24, plain: what the reference's functions come to. -/
import Derived.Test.YtinommcocgnmlaaPFileTellsx
import Derived.Lib.LazyBuf
namespace Go.Proofs.Ytinommcocgnmlaa.PFileTells
open Go.RowKit Go.Proofs.YtinommcocgnmlaaW.PrintWords Go.Proofs.YtinommcocgnmlaaW.PrintLast Go.Proofs.YtinommcocgnmlaaW.PrintMore
set_option linter.unusedVariables false
set_option linter.unusedSimpArgs false
/-- A text, if it is not too long. -/
def cutB (m : Int) (bad : Int) (s : ByteArray) : ByteArray × Int := if (s.size : Int) > m then (⟨#[]⟩, bad) else (s, 0)
def keepB (s : ByteArray) (h : Bool) : ByteArray := if h = true then s else ⟨#[]⟩
def toldB (s : ByteArray) (h : Bool) (d : ByteArray) : ByteArray × Int := cutB 32 5 (keepB s h ++ d)
def putB (s d : ByteArray) (h : Bool) : ByteArray × Int := cutB 64 12 (keepB s h ++ d)
def firstB (s : ByteArray) : ByteArray := s.extract 0 (min s.size 32)
theorem bytesOf_app (a b : ByteArray) : bytesOf (a ++ b) = bytesOf a ++ bytesOf b := by simp [bytesOf, ByteArray.data_append]
theorem str_bytes (s : ByteArray) : strOfNums (bytesOf s) = s := by
  unfold bytesOf strOfNums
  rw [List.map_map, show ((fun n : Int => UInt8.ofNat n.toNat) ∘ fun b : UInt8 => ((b.toNat : Nat) : Int)) = id from funext fun b => by simp, List.map_id]
theorem drop_bytes (s : ByteArray) (i : Nat) (h : i < s.size) : (bytesOf s).drop i = bt s i :: (bytesOf s).drop (i + 1) := by
  have h' : i < (bytesOf s).length := by rw [bytesOf_length]; exact h
  rw [List.drop_eq_getElem_cons h', ← rd_bytesOf]
  congr 1
  unfold rd
  simp [List.getD_eq_getElem?_getD, List.getElem?_eq_getElem h']
theorem wrap_up (i : Nat) (h : i < 1099511627776) : wrap64 ((i : Int) + 1) = ((i + 1 : Nat) : Int) := by unfold wrap64; omega
def endB (m : Int) (bad : Int) (x : List Int) : ByteArray × Int := if (x.length : Int) > m then (⟨#[]⟩, bad) else (strOfNums x, 0)
theorem endB_cut (m bad : Int) (s : ByteArray) : endB m bad (bytesOf s) = cutB m bad s := by unfold endB cutB; rw [bytesOf_length, str_bytes]
theorem told_l0s (k : Nat) (x2 : ByteArray) (x8 : List Int) (x9 : Int) : forepeakref24_Told.l0 (k + 1) x2 x8 x9 = if x9 < (x2.size : Int) then (if 0 ≤ x9 then (if x8.length < 140737488355328 then (forepeakref24_Told.l0 k x2 (x8 ++ [bt x2 x9]) (wrap64 (x9 + 1))) else (none)) else (none)) else (if (x8.length : Int) > 32 then (some ((⟨#[]⟩ : ByteArray), 5)) else (some (strOfNums x8, 0))) := by rw [forepeakref24_Told.l0]
theorem put_l0s (k : Nat) (x2 : ByteArray) (x8 : List Int) (x9 : Int) : forepeakref24_Put.l0 (k + 1) x2 x8 x9 = if x9 < (x2.size : Int) then (if 0 ≤ x9 then (if x8.length < 140737488355328 then (forepeakref24_Put.l0 k x2 (x8 ++ [bt x2 x9]) (wrap64 (x9 + 1))) else (none)) else (none)) else (if (x8.length : Int) > 64 then (some ((⟨#[]⟩ : ByteArray), 12)) else (some (strOfNums x8, 0))) := by rw [forepeakref24_Put.l0]
theorem told_l0 (x2 : ByteArray) : ∀ (n k i : Nat) (x8 : List Int), i + n = x2.size → n < k → x8.length + n < 1099511627776 → x2.size < 1099511627776 → forepeakref24_Told.l0 k x2 x8 i = some (endB 32 5 (x8 ++ (bytesOf x2).drop i))
  | 0, 0, i, x8, hi, hk, hx, hl => by omega
  | 0, k + 1, i, x8, hi, hk, hx, hl => by
    rw [told_l0s, if_neg (by omega), List.drop_of_length_le (by rw [bytesOf_length]; omega), List.append_nil]
    unfold endB
    split <;> rfl
  | n + 1, 0, i, x8, hi, hk, hx, hl => by omega
  | n + 1, k + 1, i, x8, hi, hk, hx, hl => by
    rw [told_l0s, if_pos (by omega), if_pos (by omega), if_pos (by omega), wrap_up i (by omega), told_l0 x2 n k (i + 1) _ (by omega) (by omega) (by simp; omega) hl, drop_bytes x2 i (by omega), List.append_assoc]
    rfl
theorem put_l0 (x2 : ByteArray) : ∀ (n k i : Nat) (x8 : List Int), i + n = x2.size → n < k → x8.length + n < 1099511627776 → x2.size < 1099511627776 → forepeakref24_Put.l0 k x2 x8 i = some (endB 64 12 (x8 ++ (bytesOf x2).drop i))
  | 0, 0, i, x8, hi, hk, hx, hl => by omega
  | 0, k + 1, i, x8, hi, hk, hx, hl => by
    rw [put_l0s, if_neg (by omega), List.drop_of_length_le (by rw [bytesOf_length]; omega), List.append_nil]
    unfold endB
    split <;> rfl
  | n + 1, 0, i, x8, hi, hk, hx, hl => by omega
  | n + 1, k + 1, i, x8, hi, hk, hx, hl => by
    rw [put_l0s, if_pos (by omega), if_pos (by omega), if_pos (by omega), wrap_up i (by omega), put_l0 x2 n k (i + 1) _ (by omega) (by omega) (by simp; omega) hl, drop_bytes x2 i (by omega), List.append_assoc]
    rfl
theorem nil_size : (⟨#[]⟩ : ByteArray).size = 0 := rfl
theorem nil_app (s : ByteArray) : (⟨#[]⟩ : ByteArray) ++ s = s := ByteArray.empty_append
theorem told_f (s d : ByteArray) (h : Bool) (hs : s.size ≤ 1000) (hd : d.size ≤ 1000) : forepeakref24_Told.f 1005 s h d = some (toldB s h d) := by
  unfold forepeakref24_Told.f toldB keepB
  have hb := bytesOf_length s
  rw [Option.bind_some]
  cases h with
  | true =>
    rw [if_pos rfl, if_pos rfl, if_pos (by simp; omega), forepeakref24_Told.j0]
    have := told_l0 d d.size 1004 0 ([] ++ bytesOf s) (by omega) (by omega) (by simp; omega) (by omega)
    rw [List.drop_zero, List.nil_append, ← bytesOf_app, endB_cut] at this
    exact this
  | false =>
    rw [if_neg (by decide), if_neg (by decide), forepeakref24_Told.j0]
    have := told_l0 d d.size 1004 0 [] (by omega) (by omega) (by simp; omega) (by omega)
    rw [List.drop_zero, List.nil_append, endB_cut] at this
    rw [nil_app]
    exact this
theorem put_f (s d : ByteArray) (h : Bool) (hs : s.size ≤ 1000) (hd : d.size ≤ 1000) : forepeakref24_Put.f 1005 s d h = some (putB s d h) := by
  unfold forepeakref24_Put.f putB keepB
  have hb := bytesOf_length s
  rw [Option.bind_some]
  cases h with
  | true =>
    rw [if_pos rfl, if_pos rfl, if_pos (by simp; omega), forepeakref24_Put.j0]
    have := put_l0 d d.size 1004 0 ([] ++ bytesOf s) (by omega) (by omega) (by simp; omega) (by omega)
    rw [List.drop_zero, List.nil_append, ← bytesOf_app, endB_cut] at this
    exact this
  | false =>
    rw [if_neg (by decide), if_neg (by decide), forepeakref24_Put.j0]
    have := put_l0 d d.size 1004 0 [] (by omega) (by omega) (by simp; omega) (by omega)
    rw [List.drop_zero, List.nil_append, endB_cut] at this
    rw [nil_app]
    exact this
theorem first_l0s (k : Nat) (x0 x3 : ByteArray) (x4 : Int) : forepeakref24_First.l0 (k + 1) x0 x3 x4 = if x4 < (x0.size : Int) then (if x4 < 32 then (if 0 ≤ x4 then (if x4 ≤ (wrap64 (x4 + 1)) then (if (wrap64 (x4 + 1)) ≤ (x0.size : Int) then (if x3.size + (x0.extract (x4 : Int).toNat ((wrap64 (x4 + 1)) : Int).toNat).size ≤ 9223372036854775807 then (forepeakref24_First.l0 k x0 (x3 ++ (x0.extract (x4 : Int).toNat ((wrap64 (x4 + 1)) : Int).toNat)) (wrap64 (x4 + 1))) else (none)) else (none)) else (none)) else (none)) else (some x3)) else (some x3) := by rw [forepeakref24_First.l0]
theorem first_l0 (s : ByteArray) : ∀ (n k i : Nat), i + n = min s.size 32 → n < k → forepeakref24_First.l0 k s (s.extract 0 i) i = some (firstB s)
  | 0, 0, i, hi, hk => by omega
  | n + 1, 0, i, hi, hk => by omega
  | 0, k + 1, i, hi, hk => by
    rw [first_l0s]
    unfold firstB
    rw [← hi, Nat.add_zero]
    by_cases h : i < s.size
    · rw [if_pos (by omega), if_neg (by omega)]
    · rw [if_neg (by omega)]
  | n + 1, k + 1, i, hi, hk => by
    have e1 : s.extract 0 i ++ s.extract i (i + 1) = s.extract 0 (i + 1) := by
      rw [ByteArray.extract_append_extract]
      congr 1 <;> omega
    rw [first_l0s, if_pos (by omega), if_pos (by omega), if_pos (by omega), wrap_up i (by omega), if_pos (by omega), if_pos (by omega), Int.toNat_natCast, Int.toNat_natCast, e1, if_pos (by rw [ByteArray.size_extract, ByteArray.size_extract]; omega)]
    exact first_l0 s n k (i + 1) (by omega) (by omega)
theorem first_f (s : ByteArray) : forepeakref24_First.f 40 s = some (firstB s) := by
  unfold forepeakref24_First.f
  have := first_l0 s (min s.size 32) 40 0 (by omega) (by omega)
  rw [ByteArray.extract_same] at this
  exact this
theorem fileFirst_f (s : ByteArray) : file_First.f s = some (firstB s) := by
  unfold file_First.f firstB
  have e : mn (s.size : Int) 32 = ((min s.size 32 : Nat) : Int) := by unfold mn; split <;> omega
  rw [e, if_pos (by omega), if_pos (by omega), Int.toNat_natCast]
end Go.Proofs.Ytinommcocgnmlaa.PFileTells
