/- Layer 16: a number's text; where a piece ends; the document's table. -/
import Derived.Test.YtdlfdkdcnabpoaaDoorLxA
import Derived.Test.YtdlfdkdcnabpoaaDoorRowN
import Derived.Lib.Hide
import Derived.WalkKit
namespace Go.Proofs.YtdlfdkdcnabpoaaDoor.Lx
set_option linter.unusedSimpArgs false
set_option linter.unusedVariables false
open Go.RowKit
open _root_.Go.Proofs.YtdlfdkdcnabpoaaDoor.Own
attribute [local go_sem] str_size str_extract str_append str_toList
/-! ### A number's text -/
theorem digits_const : (⟨#[48, 49, 50, 51, 52, 53, 54, 55, 56, 57]⟩ : ByteArray) = str [48, 49, 50, 51, 52, 53, 54, 55, 56, 57] := rfl
set_option maxRecDepth 100000 in
theorem digit_at : ∀ n, n < 10 → (([48, 49, 50, 51, 52, 53, 54, 55, 56, 57] : List UInt8).drop n).take (n + 1 - n) = num n := by decide
set_option maxHeartbeats 2000000 in
theorem Num_small (n : Nat) (hn : n < 10) (w : World) : Calls Tryd.prog 26 #[.int .i64 n] w fun e w' => e = .returned (.string (str (num n))) ∧ w = w' := by
  have d1 : decide ((9 : Int) < n) = false := by rw [decide_eq_false_iff_not]; omega
  have hs : ∀ w, (Instr.slice 9 (.string ⟨#[48, 49, 50, 51, 52, 53, 54, 55, 56, 57]⟩) (some (.int .i64 n)) (some (.int .i64 ((n : Int) + 1))) none).run Tryd.prog w = .ok (.string (str (num n))) w := by
    intro w
    rw [digits_const, show ((n : Int) + 1) = ((n + 1 : Nat) : Int) from rfl, run_mid _ Tryd.underlying9 _ n (n + 1) (by omega) (by simp; omega), digit_at n hn]
  go_enter Tryd.func26, Tryd.ntmps26
  go_wp2_with fail
  go_ret
  exact ⟨rfl, rfl⟩
theorem num_big (n : Nat) (h1 : ¬ n < 10) (h2 : n < 16) : [49] ++ num (n - 10) = num n := by
  unfold num
  rw [if_pos (by omega), if_neg h1, show 48 + (n - 10) = 38 + n by omega]
  rfl
theorem num_len (n : Nat) : (num n).length ≤ 2 := by unfold num; split <;> simp
set_option maxHeartbeats 2000000 in
theorem Num_calls (n : Nat) (hn : n < 16) (w : World) : Calls Tryd.prog 26 #[.int .i64 n] w fun e w' => e = .returned (.string (str (num n))) ∧ w = w' := by
  by_cases h : n < 10
  · exact Num_small n h w
  · have hc := Num_small (n - 10) (by omega) w
    rw [show ((n - 10 : Nat) : Int) = (n : Int) - 10 by omega] at hc
    have HC := Lib.hid hc
    clear hc
    have d1 : decide ((9 : Int) < n) = true := by rw [decide_eq_true_eq]; omega
    have ha : ∀ w, (Op.stringOp .add ⟨#[49]⟩ (str (num (n - 10)))).run Tryd.prog w = .ok (.string (str (num n))) w := by
      intro w
      have := num_len (n - 10)
      rw [← num_big n h hn]
      exact run_string_add_lists w [49] (num (n - 10)) (by simp) (by omega)
    go_enter Tryd.func26, Tryd.ntmps26
    go_wp2_with (go_at_call 26; refine HC.out.mono ?_; rintro e w1 ⟨rfl, rfl⟩)
    go_ret
    exact ⟨rfl, rfl⟩
/-! ### Where a piece ends -/
theorem run_in : ∀ (l : List UInt8) (j : Nat), j < (l.takeWhile letter).length → ∃ c, l[j]? = some c ∧ letter c = true
  | [], j, h => by simp at h
  | a :: l, j, h => by
    cases ha : letter a with
    | false => rw [List.takeWhile_cons_of_neg (by rw [ha]; decide)] at h; simp at h
    | true =>
      rw [List.takeWhile_cons_of_pos ha, List.length_cons] at h
      cases j with
      | zero => exact ⟨a, rfl, ha⟩
      | succ j => exact run_in l j (by omega)
theorem run_end : ∀ (l : List UInt8), l[(l.takeWhile letter).length]? = none ∨ ∃ c, l[(l.takeWhile letter).length]? = some c ∧ letter c = false
  | [] => .inl rfl
  | a :: l => by
    cases ha : letter a with
    | false => rw [List.takeWhile_cons_of_neg (by rw [ha]; decide)]; exact .inr ⟨a, rfl, ha⟩
    | true => rw [List.takeWhile_cons_of_pos ha, List.length_cons]; exact run_end l
theorem run_le (l : List UInt8) : (l.takeWhile letter).length ≤ l.length := by
  obtain ⟨r, h⟩ := takeWhile_pre l
  have := congrArg List.length h
  rw [List.length_append] at this
  omega
def intOf : Value → Int | .int _ q => q | _ => 0
set_option maxRecDepth 10000 in
set_option maxHeartbeats 4000000 in
theorem cut_calls (l : List UInt8) (k : Nat) (hk : k < l.length) (hl : l.length ≤ 48) (w : World) :
    Calls Tryd.prog 25 #[.string (str l), .int .i64 k] w fun e w' => e = .returned (.int .i64 (k + (head (l.drop k)).length : Nat)) ∧ w = w' := by
  obtain ⟨n, hn⟩ : ∃ n, k + ((l.drop k).takeWhile letter).length = n := ⟨_, rfl⟩
  have hin : ∀ m, k ≤ m → m < n → ∃ c, l[m]? = some c ∧ letter c = true := fun m h1 h2 => by
    have := run_in (l.drop k) (m - k) (by omega)
    rwa [List.getElem?_drop, show k + (m - k) = m by omega] at this
  have hend : l[n]? = none ∨ ∃ c, l[n]? = some c ∧ letter c = false := by
    have := run_end (l.drop k)
    rwa [List.getElem?_drop, hn] at this
  have hle : n ≤ l.length := by
    have := run_le (l.drop k)
    rw [List.length_drop] at this
    omega
  have HIN := Lib.hid hin
  have HEND := Lib.hid hend
  clear hin hend
  obtain ⟨c0, hc0⟩ : ∃ c0, l[k]? = some c0 := ⟨_, List.getElem?_eq_getElem hk⟩
  have hhead : k + (head (l.drop k)).length = if n = k then (if Lib.hasPrefix (l.drop k) [60, 61] then k + 2 else k + 1) else n := by
    unfold head
    by_cases h0 : n = k
    · have : (l.drop k).takeWhile letter = [] := List.eq_nil_of_length_eq_zero (by omega)
      rw [if_pos this, if_pos h0]
      split
      · rfl
      · rw [List.length_take, List.length_drop]; omega
    · have : (l.drop k).takeWhile letter ≠ [] := fun e => h0 (by rw [e] at hn; simpa using hn.symm)
      rw [if_neg this, if_neg h0, hn]
  rw [hhead]
  obtain ⟨res, hres⟩ : ∃ r, (if n = k then (if Lib.hasPrefix (l.drop k) [60, 61] then k + 2 else k + 1) else n) = r := ⟨_, rfl⟩
  rw [hres]
  have HR := Lib.hid hres
  clear hres
  have hpre : Lib.hasPrefix (l.drop k) [60, 61] = (c0 == 60 && (match l[k + 1]? with | some c1 => c1 == 61 | none => false)) := by
    have e : l.drop k = c0 :: l.drop (k + 1) := by
      obtain ⟨h1, h2⟩ := List.getElem?_eq_some_iff.1 hc0
      rw [List.drop_eq_getElem_cons h1, h2]
    rw [e]
    cases h1 : l[k + 1]? with
    | none =>
      rw [List.drop_eq_nil_of_le (List.getElem?_eq_none_iff.1 h1)]
      simp [Lib.hasPrefix, List.isPrefixOf]
    | some c1 =>
      obtain ⟨h2, h3⟩ := List.getElem?_eq_some_iff.1 h1
      rw [List.drop_eq_getElem_cons h2, h3]
      simp only [Lib.hasPrefix, List.isPrefixOf, Bool.and_true]
      rw [show ((60 : UInt8) == c0) = (c0 == 60) from Bool.beq_comm .., show ((61 : UInt8) == c1) = (c1 == 61) from Bool.beq_comm ..]
  have HH := Lib.hid hhead
  have HN := Lib.hid hn
  have HP := Lib.hid hpre
  clear hhead hn hpre
  have hx0 : ∀ w, (Instr.index 9 (.string (str l)) (.int .i64 k)).run Tryd.prog w = .ok (.int .u8 (nB c0)) w := fun w => run_byte _ Tryd.underlying9 l k c0 hc0
  have HX0 := Lib.hid hx0
  clear hx0
  go_enter Tryd.func25, Tryd.ntmps25
  go_wp2_with fail
  go_loopw [5] (fun v5 wr => ∃ m : Nat, k ≤ m ∧ v5 = .int .i64 m ∧ m ≤ n ∧ wr = w) (fun v5 _ => n - (intOf v5).toNat)
  case atStart => exact ⟨k, Nat.le_refl _, rfl, by have := HN.out; omega, rfl⟩
  case round =>
    obtain ⟨m, hm, rfl, hmn, rfl⟩ := hrel
    by_cases hlt : m < n
    · obtain ⟨c, hc, hlc⟩ := HIN.out m hm hlt
      have d1 : decide (m < l.length) = true := by rw [decide_eq_true_eq]; omega
      have hx := fun w => run_byte (P := Tryd.prog) (w := w) _ Tryd.underlying9 l m c hc
      have hsm := small_calls c
      rw [hlc] at hsm
      have HS := Lib.hid hsm
      clear hsm
      go_wp2_with (go_at_call 35; refine (HS.out _).mono ?_; rintro e w1 ⟨rfl, rfl⟩)
      go_roundw
      case rel => exact ⟨m + 1, by omega, by go_num, by omega, trivial⟩
      case measure => simp only [intOf]; omega
    · obtain rfl : m = n := by omega
      by_cases hmk : k < m
      · have hne : ¬ m = k := by omega
        have d2 : decide (k < m) = true := decide_eq_true hmk
        have hr := HR.out
        rw [if_neg hne] at hr
        subst hr
        rcases HEND.out with h0 | ⟨c, hc, hlc⟩
        · have hml : m = l.length := by have := List.getElem?_eq_none_iff.1 h0; omega
          have d1 : decide (m < l.length) = false := by rw [decide_eq_false_iff_not]; omega
          clear hml h0
          go_wp2_with fail
          go_ret
          exact ⟨rfl, rfl⟩
        · have d1 : decide (m < l.length) = true := by rw [decide_eq_true_eq]; exact (List.getElem?_eq_some_iff.1 hc).1
          have hx := fun w => run_byte (P := Tryd.prog) (w := w) _ Tryd.underlying9 l m c hc
          have hsm := small_calls c
          rw [hlc] at hsm
          have HS := Lib.hid hsm
          clear hsm hc hlc
          go_wp2_with (go_at_call 35; refine (HS.out _).mono ?_; rintro e w1 ⟨rfl, rfl⟩)
          go_ret
          exact ⟨rfl, rfl⟩
      · obtain rfl : m = k := by omega
        have d2 : decide (m < m) = false := by simp
        have hr := HR.out
        rw [if_pos rfl, HP.out] at hr
        have HR2 := Lib.hid hr
        clear hr HR
        rcases HEND.out with h0 | ⟨c, hc, hlc⟩
        · rw [hc0] at h0; cases h0
        obtain rfl : c0 = c := by rw [hc0] at hc; exact Option.some.inj hc
        have d1 : decide (m < l.length) = true := decide_eq_true hk
        have hsm := small_calls c0
        rw [hlc] at hsm
        have HS := Lib.hid hsm
        have hx := HX0.out
        have e0 : (nB c0 == 60) = (c0 == 60) := nB_eq c0 60
        have HE0 := Lib.hid e0
        clear hsm hc hlc e0
        cases h1 : l[m + 1]? with
        | none =>
          have d3 : decide (m + 1 < l.length) = false := by rw [decide_eq_false_iff_not]; have := List.getElem?_eq_none_iff.1 h1; omega
          have d4 : ((m : Int) + 1 < (l.length : Int)) = False := by have := List.getElem?_eq_none_iff.1 h1; simp; omega
          have hr := HR2.out
          rw [h1] at hr
          simp only [Bool.and_false] at hr
          rw [if_neg (by decide)] at hr
          subst hr
          clear h1 HR2
          go_wp2_with (go_at_call 35; refine (HS.out _).mono ?_; rintro e w1 ⟨rfl, rfl⟩)
          go_ret
          exact ⟨rfl, rfl⟩
        | some c1 =>
          have d3 : decide (m + 1 < l.length) = true := by rw [decide_eq_true_eq]; exact (List.getElem?_eq_some_iff.1 h1).1
          have d4 : ((m : Int) + 1 < (l.length : Int)) = True := by have := (List.getElem?_eq_some_iff.1 h1).1; simp; omega
          have hx1 : ∀ w, (Instr.index 9 (.string (str l)) (.int .i64 ((m : Int) + 1))).run Tryd.prog w = .ok (.int .u8 (nB c1)) w := fun w => run_byte (P := Tryd.prog) (w := w) _ Tryd.underlying9 l (m + 1) c1 h1
          have e1 : (nB c1 == 61) = (c1 == 61) := nB_eq c1 61
          have HE1 := Lib.hid e1
          have hr := HR2.out
          rw [h1] at hr
          simp only at hr
          have HR3 := Lib.hid hr
          clear e1 h1 hr HR2
          cases h60 : c0 == 60 <;> cases h61 : c1 == 61 <;>
          · have e0 := HE0.out
            have e1 := HE1.out
            have hr := HR3.out
            rw [h60] at e0
            rw [h61] at e1
            simp only [h60, h61, Bool.true_and, Bool.false_and, Bool.and_true, Bool.and_false, if_true, Bool.false_eq_true, if_false] at hr
            subst hr
            clear h60 h61 HR3
            go_wp2_with (go_at_call 35; refine (HS.out _).mono ?_; rintro e w1 ⟨rfl, rfl⟩)
            go_ret
            exact ⟨rfl, rfl⟩
end Go.Proofs.YtdlfdkdcnabpoaaDoor.Lx
