/- The walk of the law CrcSums. -/
import Derived.Test.YtdamljjbeaomoaaAlive6
import Derived.Test.YtdamljjbeaomoaaCrcG
namespace Go.Proofs.Ytdamljjbeaomoaa
set_option linter.unusedSimpArgs false
set_option linter.unusedVariables false
open Go.RowKit Own
theorem Own.At.grown {w0 w w' : World} {L : List (Nat × List Value × TypeId)} {row : Option Nat} (h : At w0 L w) (hg : w.grownBy w' row) (hr : ∀ k, row = some k → w0.heap.size ≤ k) (hne : ∀ k, row = some k → ∀ x ∈ L, x.1 ≠ k) : At w0 L w' := by
  refine ⟨h.below.grown hg h.below.size hr, fun x hx => ⟨(h.blk x hx).1, ?_⟩, h.nodup⟩
  obtain ⟨h1, h2⟩ := h.blk x hx
  rw [hg.block x.1 (blk_lt h2) (by cases hrow : row with | none => simp | some k => simpa using hne k hrow x hx)]
  exact h2
theorem Own.Has.setLow {base : Nat} {e : TypeId} {v : Value} {xs : List Value} {w : World} (h : Has base e v xs w) (g i : Nat) (hg : g < base) (u : Value) : Has base e v xs (w.setCell ⟨g, i, none⟩ u) := by
  refine World.ownsRow.kept h (row := some g) ⟨rfl, rfl, rfl, by simp, fun k hk hne => Below.heap_setCell w _ _ _ (by simpa using hne)⟩ ?_
  cases hv : v.ownBlock with
  | none => exact .inl rfl
  | some k => exact .inr (by have := h.blk k hv; simp; omega)
theorem flat_len (ps : List (Option Addr × Nat × List UInt8)) (k : Nat) (hk : k ≤ ps.length) (h : ∀ j (hj : j < ps.length), j < k → ps[j].2.2.length ≤ 300) : (flat (ps.take k)).length ≤ 300 * k := by
  induction k with
  | zero => simp [flat]
  | succ k ih =>
    rw [flat_take ps k (by omega), List.length_append]
    have h1 := ih (by omega) (fun j hj hjk => h j hj (by omega))
    have h2 := h k (by omega) (by omega)
    omega
theorem sums_long (A : Option Addr) (c : Nat) (ps : List (Option Addr × Nat × List UInt8)) (hl : 30 < ps.length) (hm : ps.length ≤ maxLen) (w : World) :
    Calls Try.prog 7 #[.slice A ps.length c] w fun e w' => e = .returned (.bool true) ∧ Below w.heap.size w w' := by
  unfold maxLen at hm
  go_enter Try.func7, Try.ntmps7
  go_wp2_with fail
  refine (alive6 _).mono ?_
  rintro e w1 ⟨rfl, hb1⟩
  go_wp2
  go_ret
  exact ⟨rfl, hb1⟩
set_option maxRecDepth 10000 in
set_option maxHeartbeats 2000000 in
theorem sums_short (A : Option Addr) (c : Nat) (ps : List (Option Addr × Nat × List UInt8)) (hA : A = none → c = 0) (hl : ps.length ≤ 30) (w : World) (hR : Rd w A (sls ps)) (hps : ∀ p ∈ ps, (p.1 = none → p.2.1 = 0) ∧ p.2.2.length ≤ maxLen ∧ Rd w p.1 (bys p.2.2)) :
    Calls Try.prog 7 #[.slice A ps.length c] w fun e w' => e = .returned (.bool true) ∧ Below w.heap.size w w' := by
  have HR := Lib.hid hR
  have HA := Lib.hid hA
  have HP := Lib.hid hps
  clear hR hA hps
  go_enter Try.func7, Try.ntmps7
  have H0 := At.refl w
  go_wp2
  have H1 := H0.alloc [.int .u32 0] 40
  have HV0 := Has.nil (w.heap.size + 1) 5 (w.alloc (.cells ⟨[.int .u32 0]⟩ 40 (0, 0)))
  rw [← crc_nil] at H1
  go_loopw [3, 5] (fun v i wr => ∃ k : Nat, k ≤ ps.length ∧ i = .int .i64 k ∧ (∀ j (hj : j < ps.length), j < k → ps[j].2.2.length ≤ 300) ∧ Has (w.heap.size + 1) 5 v (bys (flat (ps.take k))) wr ∧ At w [(w.heap.size, [.int .u32 (nW (crc (flat (ps.take k))))], 40)] wr) (fun _ i _ => ps.length - (intOf i).toNat)
  case atStart => exact ⟨0, Nat.zero_le _, rfl, (fun j hj h => absurd h (by omega)), HV0, H1⟩
  case round =>
    clear H1 H0 HV0
    obtain ⟨k, hk, rfl, hsm, hv, H⟩ := hrel
    have HS := Lib.hid hsm
    have HV := Lib.hid hv
    clear hsm hv
    have K := H.rules
    simp only [List.forall_mem_cons] at K
    by_cases hlt : k < ps.length
    · obtain ⟨a, rfl, hc0⟩ := HR.out.part hlt
      have hc := (H.below.cell (World.block_lt_of_cell? w _ hc0)).trans hc0
      clear hc0
      obtain ⟨hpn, hpl, hpr⟩ := HP.out ps[k] (List.getElem_mem hlt)
      have E := Lib.hid (flat_take ps k hlt)
      have HR2 := Lib.hid (hpr.below H.below)
      have HN := Lib.hid hpn
      clear hpr hpn
      by_cases hlong : 300 < ps[k].2.2.length
      · unfold maxLen at hpl
        go_wp2_with fail
        refine (alive6 _).mono ?_
        rintro e w1 ⟨rfl, hb1⟩
        have HB := H.call hb1
        go_wp2
        go_ret
        exact ⟨rfl, HB.below⟩
      · have hpl3 : ps[k].2.2.length ≤ 300 := by omega
        clear hpl hlong
        go_wp2_with (at_builtin; refine wpList_app rfl _ _ 37 rfl (w.heap.size + 1) 5 (.int .u8 0) 1 Try.underlying37 infoB rfl _ (bys (flat (ps.take k))) rfl ?hOwn _ _ _ (bys ps[k].2.2) rfl ?hLen ?hNil ?hRd (bys_one _) ?hCap ?hCap2 ?hBase ?_)
        case hOwn => exact HV.out
        case hLen => exact (bys_length _).symm
        case hNil => exact HN.out
        case hRd => exact HR2.out
        case hCap => have := flat_len ps k hk HS.out; rw [bys_length, bys_length]; simp only [maxLen]; omega
        case hCap2 => have := flat_len ps k hk HS.out; rw [bys_length, bys_length]; omega
        case hBase => have := K.1.2.2.1; omega
        intro v' w4 hv4 hg
        rw [← bys_append, ← E.out] at hv4
        have H4 := H.grown hg (fun k e => by have := (HV.out.blk k e).1; omega) (fun k e x hx => by have := (HV.out.blk k e).1; obtain rfl := List.mem_singleton.1 hx; simp only; omega)
        have hbg : ∀ {A xs}, Rd w A xs → Rd w4 A xs := fun h => h.below H4.below
        have hc4 := (H4.below.cell (World.block_lt_of_cell? w _ (HR.out.part hlt).choose_spec.2))
        have hr4 := Lib.hid (hbg (HP.out ps[k] (List.getElem_mem hlt)).2.2)
        have HV4 := Lib.hid hv4
        clear hg hv4 hbg hc4 K
        have hcx : w4.cell? (a.add k) = some (.slice ps[k].1 ps[k].2.2.length ps[k].2.1) := by
          obtain ⟨a', ha', h'⟩ := HR.out.part hlt
          cases ha'
          exact (H4.below.cell (World.block_lt_of_cell? w _ h')).trans h'
        clear hc
        have K := H4.rules
        simp only [List.forall_mem_cons] at K
        go_wp2
        go_region_with (first | (go_at_call 24; refine (Add_calls _ _ _ _ (by omega) _ (hr4.out.below (Below.refl _ _).drew)).mono ?_; rintro e w5 ⟨rfl, hb5⟩; have b5 : Below w4.heap.size w4 w5 := below_then' (w1 := w4.drew) (Below.refl _ _).drew hb5; have H5 := H4.call b5; have K5 := H5.rules; simp only [List.forall_mem_cons] at K5))
        all_goals
          go_wp2
          go_roundw
          case rel =>
            have h := H5.set 0 rfl 0 (.int .u32 (nW (~~~ (reg (~~~ (crc (flat (ps.take k)))) ps[k].2.2))))
            rw [crc_add, ← E.out] at h
            have hv := (HV4.out.below b5).setLow w.heap.size 0 (by omega) (.int .u32 (nW (~~~ (reg (~~~ (crc (flat (ps.take k)))) ps[k].2.2))))
            rw [crc_add, ← E.out] at hv
            refine ⟨k + 1, by omega, by go_num, ?_, by rw [crc_add, ← E.out]; exact hv, by rw [crc_add, ← E.out]; exact h⟩
            intro j hj hjk
            by_cases hjk' : j < k
            · exact HS.out j hj hjk'
            · obtain rfl : j = k := by omega
              exact hpl3
          case measure => simp [intOf]; omega
    · obtain rfl : k = ps.length := by omega
      have hfl := flat_len ps ps.length hk HS.out
      rw [List.take_length] at H K HV hfl
      obtain ⟨A', c', rfl, hc', hA', hR'⟩ := HV.out.form
      rw [bys_length] at hc' ⊢
      have HA' := Lib.hid hA'
      have HR' := Lib.hid hR'
      clear hA' hR' HV
      go_wp2_with fail
      refine (RSum_calls A' c' _ (flat ps) rfl (by omega) _ HR'.out).mono ?_
      rintro e w3 ⟨rfl, rfl⟩
      go_wp2_with fail
      refine (Sum_calls A c ps (by omega) _ (HR.out.below H.below) (fun p hp => ⟨by have := HS.out; obtain ⟨j, hj, rfl⟩ := List.mem_iff_getElem.1 hp; have := this j hj hj; omega, (HP.out p hp).2.2.below H.below⟩)).mono ?_
      rintro e w4 ⟨rfl, hb4⟩
      have H4 := H.call hb4
      have HR4 := Lib.hid (HR'.out.below hb4)
      have K4 := H4.rules
      simp only [List.forall_mem_cons] at K4
      clear HR' hb4 K H
      go_wp2_with fail
      refine (StSum_calls _ _).mono ?_
      rintro e w5 ⟨rfl, hb5⟩
      have H5 := H4.call hb5
      have HR5 := Lib.hid (HR4.out.below hb5)
      clear HR4 hb5 K4 H4
      go_wp2_with fail
      refine (Sum_calls (some ⟨_, 0, none⟩) 1 [(A', c', flat ps)] (by simp) _ (Rd.one _ _) (by intro p hp; obtain rfl := List.mem_singleton.1 hp; exact ⟨by simp only; omega, HR5.out.below (below_alloc' _ (Below.refl _ _))⟩)).mono ?_
      rintro e w6 ⟨rfl, hb6⟩
      rw [flat_one]
      have HB6 := Lib.hid (H5.below.trans ((below_then' (below_alloc' _ (Below.refl _ _)) hb6).mono H5.below.size))
      clear hb6 HR5 H5
      go_wp2_with fail
      refine (alive6 _).mono ?_
      rintro e w7 ⟨rfl, hb7⟩
      go_wp2
      go_ret
      exact ⟨rfl, below_then' HB6.out hb7⟩
end Go.Proofs.Ytdamljjbeaomoaa
