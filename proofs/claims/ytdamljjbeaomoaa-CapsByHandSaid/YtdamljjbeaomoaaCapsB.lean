/- The walks of package caps, of label.Flows, and of the references of layers 2 and 3. -/
import Derived.Test.YtdamljjbeaomoaaCapsA
namespace Go.Proofs.Ytdamljjbeaomoaa
set_option linter.unusedSimpArgs false
set_option linter.unusedVariables false
open Go.RowKit Own
attribute [local go_sem] b16_and b16_or b16_andNot b16_zero
set_option maxHeartbeats 400000 in
theorem Sub_calls (a b : BitVec 16) (w : World) : Calls Try.prog 35 #[.int .u16 (u16 a), .int .u16 (u16 b)] w fun e w' => e = .returned (.bool (a &&& ~~~b == 0#16)) ∧ w = w' := by
  go_enter Try.func35, Try.ntmps35
  go_wp2
  go_ret
  exact ⟨rfl, rfl⟩
set_option maxHeartbeats 400000 in
theorem CFlows_calls (aS aI bS bI c : BitVec 16) (w : World) : Calls Try.prog 12 #[.agg #[.int .u16 (u16 aS), .int .u16 (u16 aI)], .agg #[.int .u16 (u16 bS), .int .u16 (u16 bI)], .int .u16 (u16 c)] w fun e w' => e = .returned (.bool (((aS &&& ~~~bS) ||| (bI &&& ~~~aI)) &&& ~~~c == 0#16)) ∧ Below w.heap.size w w' := by
  go_enter Try.func12, Try.ntmps12
  have H0 := At.refl w
  go_wp2_with fail
  refine callAt (Used_calls aS aI bS bI _) (by repeat (first | with_reducible exact H0 | apply At.alloc)) ?_
  rintro e w1 rfl H1
  go_wp2_with (go_at_call 35; refine (Sub_calls _ _ _).mono ?_; rintro e w' ⟨rfl, rfl⟩)
  go_ret
  exact ⟨rfl, H1.below⟩
set_option maxHeartbeats 400000 in
theorem LFlows_calls (aS aI bS bI : BitVec 16) (w : World) : Calls Try.prog 22 #[.agg #[.int .u16 (u16 aS), .int .u16 (u16 aI)], .agg #[.int .u16 (u16 bS), .int .u16 (u16 bI)]] w fun e w' => e = .returned (.bool ((aS &&& ~~~bS == 0#16) && (bI &&& ~~~aI == 0#16))) ∧ Below w.heap.size w w' := by
  cases h : (aS &&& ~~~bS == 0#16)
  · go_enter Try.func22, Try.ntmps22
    go_wp2_with (go_at_call 35; refine (Sub_calls _ _ _).mono ?_; rintro e w' ⟨rfl, rfl⟩)
    go_ret
    exact ⟨rfl, by repeat (first | exact Below.refl _ _ | refine Below.alloc ?_ (by (try simp only [World.size_alloc]); omega) _)⟩
  · go_enter Try.func22, Try.ntmps22
    go_wp2_with (go_at_call 35; refine (Sub_calls _ _ _).mono ?_; rintro e w' ⟨rfl, rfl⟩)
    go_ret
    exact ⟨rfl, by repeat (first | exact Below.refl _ _ | refine Below.alloc ?_ (by (try simp only [World.size_alloc]); omega) _)⟩
/-- Does a label flow into another one? -/
def flowsB (aS aI bS bI : BitVec 16) : Bool := (aS &&& ~~~bS == 0#16) && (bI &&& ~~~aI == 0#16)
set_option maxHeartbeats 400000 in
theorem Raise_yes (aS aI bS bI : BitVec 16) (h : flowsB aS aI bS bI = true) (w : World) : Calls Try.prog 15 #[.agg #[.int .u16 (u16 aS), .int .u16 (u16 aI)], .agg #[.int .u16 (u16 bS), .int .u16 (u16 bI)]] w fun e w' => e = .returned (.tuple #[.agg #[.int .u16 (u16 bS), .int .u16 (u16 bI)], .int .i64 0]) ∧ Below w.heap.size w w' := by
  have h' : ((aS &&& ~~~bS == 0#16) && (bI &&& ~~~aI == 0#16)) = true := h
  clear h
  have H := Lib.hid h'
  clear h'
  go_enter Try.func15, Try.ntmps15
  have H0 := At.refl w
  go_wp2_with fail
  refine callAt (LFlows_calls aS aI bS bI _) (by repeat (first | with_reducible exact H0 | apply At.alloc)) ?_
  rintro e w1 rfl H1
  rw [H.out]
  have K1 := H1.rules
  simp only [List.forall_mem_cons, World.size_alloc] at K1
  go_wp2_with fail
  exact bodyPost_ret (v := .tuple #[.agg #[.int .u16 (u16 bS), .int .u16 (u16 bI)], .int .i64 0]) (by simp [results, Try.results15, go_sem, K1]) rfl ⟨rfl, by repeat (first | exact H1.below | refine Below.setCell ?_ (by (try simp only [World.size_alloc]); omega) _ | refine Below.alloc ?_ (by (try simp only [World.size_alloc]); omega) _)⟩
set_option maxHeartbeats 400000 in
theorem Raise_no (aS aI bS bI : BitVec 16) (h : flowsB aS aI bS bI = false) (w : World) : Calls Try.prog 15 #[.agg #[.int .u16 (u16 aS), .int .u16 (u16 aI)], .agg #[.int .u16 (u16 bS), .int .u16 (u16 bI)]] w fun e w' => e = .returned (.tuple #[.agg #[.int .u16 0, .int .u16 0], .int .i64 9]) ∧ Below w.heap.size w w' := by
  have h' : ((aS &&& ~~~bS == 0#16) && (bI &&& ~~~aI == 0#16)) = false := h
  clear h
  have H := Lib.hid h'
  clear h'
  go_enter Try.func15, Try.ntmps15
  have H0 := At.refl w
  go_wp2_with fail
  refine callAt (LFlows_calls aS aI bS bI _) (by repeat (first | with_reducible exact H0 | apply At.alloc)) ?_
  rintro e w1 rfl H1
  rw [H.out]
  have K1 := H1.rules
  simp only [List.forall_mem_cons, World.size_alloc] at K1
  go_wp2_with fail
  exact bodyPost_ret (v := .tuple #[.agg #[.int .u16 0, .int .u16 0], .int .i64 9]) (by simp [results, Try.results15, go_sem, K1]) rfl ⟨rfl, by repeat (first | exact H1.below | refine Below.setCell ?_ (by (try simp only [World.size_alloc]); omega) _ | refine Below.alloc ?_ (by (try simp only [World.size_alloc]); omega) _)⟩
set_option maxHeartbeats 400000 in
theorem Decl_yes (aS aI t c : BitVec 16) (h : (t &&& ~~~c == 0#16) = true) (w : World) : Calls Try.prog 16 #[.agg #[.int .u16 (u16 aS), .int .u16 (u16 aI)], .int .u16 (u16 t), .int .u16 (u16 c)] w fun e w' => e = .returned (.tuple #[.agg #[.int .u16 (u16 (aS &&& ~~~t)), .int .u16 (u16 aI)], .int .i64 0]) ∧ Below w.heap.size w w' := by
  go_enter Try.func16, Try.ntmps16
  go_wp2_with (go_at_call 35; refine (Sub_calls _ _ _).mono ?_; rintro e w' ⟨rfl, rfl⟩)
  exact bodyPost_ret (v := .tuple #[.agg #[.int .u16 (u16 (aS &&& ~~~t)), .int .u16 (u16 aI)], .int .i64 0]) (by simp [results, Try.results16, go_sem]) rfl ⟨rfl, by repeat (first | exact Below.refl _ _ | refine Below.setCell ?_ (by (try simp only [World.size_alloc]); omega) _ | refine Below.alloc ?_ (by (try simp only [World.size_alloc]); omega) _)⟩
set_option maxHeartbeats 400000 in
theorem Decl_no (aS aI t c : BitVec 16) (h : (t &&& ~~~c == 0#16) = false) (w : World) : Calls Try.prog 16 #[.agg #[.int .u16 (u16 aS), .int .u16 (u16 aI)], .int .u16 (u16 t), .int .u16 (u16 c)] w fun e w' => e = .returned (.tuple #[.agg #[.int .u16 0, .int .u16 0], .int .i64 9]) ∧ Below w.heap.size w w' := by
  go_enter Try.func16, Try.ntmps16
  go_wp2_with (go_at_call 35; refine (Sub_calls _ _ _).mono ?_; rintro e w' ⟨rfl, rfl⟩)
  exact bodyPost_ret (v := .tuple #[.agg #[.int .u16 0, .int .u16 0], .int .i64 9]) (by simp [results, Try.results16, go_sem]) rfl ⟨rfl, by repeat (first | exact Below.refl _ _ | refine Below.setCell ?_ (by (try simp only [World.size_alloc]); omega) _ | refine Below.alloc ?_ (by (try simp only [World.size_alloc]); omega) _)⟩
set_option maxHeartbeats 400000 in
theorem End_yes (aS aI t c : BitVec 16) (h : (t &&& ~~~c == 0#16) = true) (w : World) : Calls Try.prog 17 #[.agg #[.int .u16 (u16 aS), .int .u16 (u16 aI)], .int .u16 (u16 t), .int .u16 (u16 c)] w fun e w' => e = .returned (.tuple #[.agg #[.int .u16 (u16 aS), .int .u16 (u16 (aI ||| t))], .int .i64 0]) ∧ Below w.heap.size w w' := by
  go_enter Try.func17, Try.ntmps17
  go_wp2_with (go_at_call 35; refine (Sub_calls _ _ _).mono ?_; rintro e w' ⟨rfl, rfl⟩)
  exact bodyPost_ret (v := .tuple #[.agg #[.int .u16 (u16 aS), .int .u16 (u16 (aI ||| t))], .int .i64 0]) (by simp [results, Try.results17, go_sem]) rfl ⟨rfl, by repeat (first | exact Below.refl _ _ | refine Below.setCell ?_ (by (try simp only [World.size_alloc]); omega) _ | refine Below.alloc ?_ (by (try simp only [World.size_alloc]); omega) _)⟩
set_option maxHeartbeats 400000 in
theorem End_no (aS aI t c : BitVec 16) (h : (t &&& ~~~c == 0#16) = false) (w : World) : Calls Try.prog 17 #[.agg #[.int .u16 (u16 aS), .int .u16 (u16 aI)], .int .u16 (u16 t), .int .u16 (u16 c)] w fun e w' => e = .returned (.tuple #[.agg #[.int .u16 0, .int .u16 0], .int .i64 9]) ∧ Below w.heap.size w w' := by
  go_enter Try.func17, Try.ntmps17
  go_wp2_with (go_at_call 35; refine (Sub_calls _ _ _).mono ?_; rintro e w' ⟨rfl, rfl⟩)
  exact bodyPost_ret (v := .tuple #[.agg #[.int .u16 0, .int .u16 0], .int .i64 9]) (by simp [results, Try.results17, go_sem]) rfl ⟨rfl, by repeat (first | exact Below.refl _ _ | refine Below.setCell ?_ (by (try simp only [World.size_alloc]); omega) _ | refine Below.alloc ?_ (by (try simp only [World.size_alloc]); omega) _)⟩
end Go.Proofs.Ytdamljjbeaomoaa
