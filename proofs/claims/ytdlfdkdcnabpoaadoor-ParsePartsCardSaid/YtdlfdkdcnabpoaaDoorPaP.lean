/- Layer 17, plain: what the program's reader does, on the pieces that are left. -/
import Derived.Test.YtdlfdkdcnabpoaaDoorPaK
namespace Go.Proofs.YtdlfdkdcnabpoaaDoor.Pa
set_option linter.unusedSimpArgs false
set_option linter.unusedVariables false
open Go.Proofs.YtdlfdkdcnabpoaaDoor.Lx
/-- The reader's contents. -/
structure St where
  R : List Pc
  O : List Nd
  a : Nat
  f : Nat
def isS (s : St) (ts : List (List UInt8)) : Bool := isT s.R s.f ts
def takeS (s : St) : St := { s with R := adv s.R }
def badS (s : St) (e : Nat) : St := { s with a := if s.f = 0 then posOf s.R else s.a, f := if s.f = 0 then e else s.f }
def nodeS (s : St) (k n : Int) : St := { s with O := s.O ++ [⟨k, n⟩] }
def headT : List Pc → List UInt8
  | p :: _ => p.text
  | [] => []
def headK : List Pc → Nat
  | p :: _ => p.kind
  | [] => 0
def headN : List Pc → Nat
  | p :: _ => p.n
  | [] => 0
def loopS (part : St → St) (ts : List (List UInt8)) : Nat → St → St
  | 0, s => s
  | n + 1, s => if isS s ts = true then loopS part ts n (nodeS (part (takeS s)) (kindOf (headT s.R)) 0) else s
def partS (part : St → St) (ts : List (List UInt8)) (s : St) : St := loopS part ts (part s).R.length (part s)
def bothS (one : St → St) (s : St) : St := partS one [[38]] s
def sumS (one : St → St) (s : St) : St := partS (bothS one) [[124], [45]] s
def testS (one : St → St) (s : St) : St := if isS (sumS one s) [[60, 61]] = true then nodeS (sumS one (takeS (sumS one s))) 15 0 else sumS one s
def closeS (s : St) : St := takeS (if isS s [[41]] = true then s else badS s 3)
/-- So many levels are left. -/
def oneS : Nat → St → St
  | 0, s => badS s 17
  | d + 1, s =>
    if s.f ≠ 0 then s
    else if headK s.R = 2 then nodeS (takeS s) 4 (headN s.R)
    else if headK s.R = 3 then nodeS (takeS s) 5 (headN s.R)
    else if isS s [[97, 108, 108], [108, 105, 118, 101], [109, 105, 110, 101]] = true then nodeS (takeS s) (kindOf (headT s.R)) 0
    else if isS s [[40]] = true then closeS (testS (oneS d) (takeS s))
    else if headK s.R = 1 then nodeS (oneS d (takeS s)) (kindOf (headT s.R)) 0
    else badS s 3
/-- Pieces of the table, and the end behind them. -/
def Wf (R : List Pc) : Prop := ∃ B e, R = B ++ [⟨5, [], 0, e⟩] ∧ ∀ p ∈ B, (p.kind, p.text, p.n) ∈ table
theorem Wf.ne {R : List Pc} (h : Wf R) : R ≠ [] := by
  obtain ⟨B, e, rfl, _⟩ := h
  simp
theorem Wf.adv {R : List Pc} (h : Wf R) : Wf (adv R) := by
  obtain ⟨B, e, rfl, hB⟩ := h
  cases B with
  | nil => exact ⟨[], e, rfl, hB⟩
  | cons p B =>
    have ht := hB p (List.mem_cons_self ..)
    have hk : p.kind ≠ 5 := fun hk => by
      rcases table_shape _ ht with ⟨_, _, h1⟩ | ⟨h1, _⟩ | ⟨h1, _⟩ <;> simp only at h1 <;> omega
    show Wf (if p.kind = 5 then p :: (B ++ _) else (B ++ _))
    rw [if_neg hk]
    exact ⟨B, e, rfl, fun q hq => hB q (List.mem_cons_of_mem _ hq)⟩
theorem Wf.more {p : Pc} {R : List Pc} (h : Wf (p :: R)) (hk : p.kind ≠ 5) : R ≠ [] := by
  obtain ⟨B, e, he, _⟩ := h
  cases B with
  | nil => rw [List.nil_append] at he; cases he; exact absurd rfl hk
  | cons q B =>
    cases he
    simp
theorem adv_le (R : List Pc) : (adv R).length ≤ R.length := by
  cases R with
  | nil => exact Nat.le_refl _
  | cons p R => show (if p.kind = 5 then p :: R else R).length ≤ _; split <;> simp
theorem adv_lt {R : List Pc} {f : Nat} {ts : List (List UInt8)} (h : isT R f ts = true) : (adv R).length + 1 = R.length := by
  cases R with
  | nil => simp [isT] at h
  | cons p R =>
    have hk : p.kind ≠ 5 := fun e => by simp [isT, e] at h
    show (if p.kind = 5 then p :: R else R).length + 1 = _
    rw [if_neg hk, List.length_cons]
theorem adv_k {R : List Pc} (h : headK R ≠ 5) (hR : R ≠ []) : (adv R).length + 1 = R.length := by
  cases R with
  | nil => exact absurd rfl hR
  | cons p R =>
    show (if p.kind = 5 then p :: R else R).length + 1 = _
    rw [if_neg (show p.kind ≠ 5 from h), List.length_cons]
/-- Never more pieces; nodes for pieces. -/
def Shr (g : St → St) : Prop := ∀ s, Wf s.R → Wf (g s).R ∧ (g s).R.length ≤ s.R.length ∧ (g s).O.length + (g s).R.length ≤ s.O.length + s.R.length
theorem node_len (s : St) (k n : Int) : (nodeS s k n).O.length = s.O.length + 1 := by simp [nodeS]
theorem node_R (s : St) (k n : Int) : (nodeS s k n).R = s.R := rfl
theorem take_R (s : St) : (takeS s).R = adv s.R := rfl
theorem take_O (s : St) : (takeS s).O = s.O := rfl
theorem shr_round {g : St → St} (hg : Shr g) (s : St) (hw : Wf s.R) {ts : List (List UInt8)} (h : isS s ts = true) (k : Int) :
    Wf (nodeS (g (takeS s)) k 0).R ∧ (nodeS (g (takeS s)) k 0).R.length + 1 ≤ s.R.length ∧ (nodeS (g (takeS s)) k 0).O.length + (nodeS (g (takeS s)) k 0).R.length ≤ s.O.length + s.R.length := by
  obtain ⟨h1, h2, h3⟩ := hg (takeS s) hw.adv
  have ha := adv_lt h
  rw [node_R, node_len]
  rw [take_R] at h2 h3
  rw [take_O] at h3
  exact ⟨h1, by omega, by omega⟩
theorem shr_loop {g : St → St} (hg : Shr g) (ts : List (List UInt8)) : ∀ n, Shr (loopS g ts n)
  | 0, s, hw => ⟨hw, Nat.le_refl _, Nat.le_refl _⟩
  | n + 1, s, hw => by
    unfold loopS
    split
    · rename_i h
      obtain ⟨h1, h2, h3⟩ := shr_round hg s hw h (kindOf (headT s.R))
      obtain ⟨k1, k2, k3⟩ := shr_loop hg ts n _ h1
      exact ⟨k1, by omega, by omega⟩
    · exact ⟨hw, Nat.le_refl _, Nat.le_refl _⟩
theorem shr_part {g : St → St} (hg : Shr g) (ts : List (List UInt8)) : Shr (partS g ts) := fun s hw => by
  obtain ⟨h1, h2, h3⟩ := hg s hw
  obtain ⟨k1, k2, k3⟩ := shr_loop hg ts (g s).R.length _ h1
  exact ⟨k1, Nat.le_trans k2 h2, Nat.le_trans k3 h3⟩
theorem shr_both {g : St → St} (hg : Shr g) : Shr (bothS g) := shr_part hg _
theorem shr_sum {g : St → St} (hg : Shr g) : Shr (sumS g) := shr_part (shr_both hg) _
theorem shr_test {g : St → St} (hg : Shr g) : Shr (testS g) := fun s hw => by
  obtain ⟨h1, h2, h3⟩ := shr_sum hg s hw
  unfold testS
  split
  · rename_i h
    obtain ⟨k1, k2, k3⟩ := shr_round (shr_sum hg) _ h1 h 15
    exact ⟨k1, by omega, by omega⟩
  · exact ⟨h1, h2, h3⟩
theorem shr_close (s : St) (hw : Wf s.R) : Wf (closeS s).R ∧ (closeS s).R.length ≤ s.R.length ∧ (closeS s).O.length = s.O.length := by
  have ha := adv_le s.R
  unfold closeS
  split
  · exact ⟨hw.adv, ha, rfl⟩
  · exact ⟨hw.adv, ha, rfl⟩
theorem shr_leaf (s : St) (hw : Wf s.R) (h : headK s.R ≠ 5) (k n : Int) : Wf (nodeS (takeS s) k n).R ∧ (nodeS (takeS s) k n).R.length ≤ s.R.length ∧ (nodeS (takeS s) k n).O.length + (nodeS (takeS s) k n).R.length ≤ s.O.length + s.R.length := by
  have ha := adv_k h hw.ne
  rw [node_R, node_len, take_R, take_O]
  exact ⟨hw.adv, by omega, by omega⟩
theorem is_k {s : St} {ts : List (List UInt8)} (h : isS s ts = true) : headK s.R ≠ 5 := by
  unfold isS isT at h
  cases hR : s.R with
  | nil => intro e; cases e
  | cons p R => intro e; rw [hR] at h; change p.kind = 5 at e; simp [e] at h
theorem shr_one : ∀ d, Shr (oneS d)
  | 0, s, hw => ⟨hw, Nat.le_refl _, Nat.le_refl _⟩
  | d + 1, s, hw => by
    unfold oneS
    split
    · exact ⟨hw, Nat.le_refl _, Nat.le_refl _⟩
    split
    · rename_i h
      exact shr_leaf s hw (by omega) _ _
    split
    · rename_i h
      exact shr_leaf s hw (by omega) _ _
    split
    · rename_i h
      exact shr_leaf s hw (is_k h) _ _
    split
    · rename_i h
      obtain ⟨h1, h2, h3⟩ := shr_test (shr_one d) (takeS s) hw.adv
      obtain ⟨k1, k2, k3⟩ := shr_close _ h1
      have ha := adv_lt h
      rw [take_R] at h2 h3
      rw [take_O] at h3
      exact ⟨k1, by omega, by omega⟩
    split
    · rename_i h
      obtain ⟨h1, h2, h3⟩ := shr_one d (takeS s) hw.adv
      have ha := adv_k (R := s.R) (by omega) hw.ne
      rw [take_R] at h2 h3
      rw [take_O] at h3
      rw [node_R, node_len]
      exact ⟨h1, by omega, by omega⟩
    · exact ⟨hw, Nat.le_refl _, Nat.le_refl _⟩
/-- The reader in memory. -/
def RdS (r : Nat) (w : Go.World) (s : St) : Prop := Rdr r w s.R s.O s.a s.f
end Go.Proofs.YtdlfdkdcnabpoaaDoor.Pa
