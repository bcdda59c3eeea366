/- For every input the call of FnExactTickOnce returns true, and each argument reads afterwards as it read before; there is no condition. -/
import Derived.Test.YtnggljioidchdaaWFnExactTickOnce
import Derived.Test.YtnggljioidchdaaSxQ
import Derived.Test.YtnggljioidchdaaRows
import Derived.WalkKit
import Derived.ProofKit
import Derived.OpenShut
import Derived.ShutString
import Derived.ChangeOld
import Derived.Below
import Derived.Carry
import Derived.HandedShaped
namespace Go.Proofs.Ytnggljioidchdaa
open Go Go.RowKit Sx
open Go.ChangeShapes Go.WideShapes Go.ChangeAt
set_option linter.unusedVariables false
set_option linter.unusedSimpArgs false
set_option maxRecDepth 100000

theorem amount_eq (x : Nat) : impl_isAmount x = spec_l03Amount x := by
  simp only [impl_isAmount, impl_isAmount.t, impl_between, impl_between.t, spec_l03Amount, spec_l03Amount.t, T.val, fge_flip]

theorem within_eq (x y z : Int) : impl_within x y z = spec_l00In x y z := by
  simp only [impl_within, impl_within.t, spec_l00In, spec_l00In.t, T.val, ge_iff_le]

-- lies in the core (SxQ)

theorem length_eq (x : Nat) : impl_IsLength x = spec_l03Length x := by
  simp only [impl_IsLength, impl_IsLength.t, impl_between, impl_between.t, spec_l03Length, spec_l03Length.t, T.val, fge_flip]

theorem vmill_eq (x0 : Int) (x1 x2 : Nat) : impl_ValidMill x0 x1 x2 = spec_l03Mill x0 x1 x2 := by
  simp only [impl_ValidMill, impl_ValidMill.t, spec_l03Mill, spec_l03Mill.t, T.val, within_eq, length_eq]
theorem length_pos {x : Nat} (h : spec_l03Length x = true) : isNaN .f32 x = false ∧ ∀ s e, FloatKind.f32.format.read x ≠ .number s 0 e := by
  simp only [spec_l03Length, spec_l03Length.t, T.val, fge_flip] at h
  cases h1 : fle .f32 1031798784 x with
  | false => rw [h1] at h; cases h
  | true => exact pos_of_le (show FloatKind.f32.format.read 1031798784 = .number false 8388608 (-27) by kernel_rfl) (by omega) h1
theorem mill_pos {x0 : Int} {x1 x2 : Nat} (h : spec_l03Mill x0 x1 x2 = true) : isNaN .f32 x1 = false ∧ ∀ s e, FloatKind.f32.format.read x1 ≠ .number s 0 e := by
  refine length_pos ?_
  simp only [spec_l03Mill, spec_l03Mill.t, T.val] at h
  generalize spec_l00In (IntKind.wrap .i64 x0) 4 48 = p at h
  generalize spec_l03Length x1 = q at h ⊢
  cases p <;> cases q <;> first | rfl | cases h

theorem gov_eq (x0 : Int) (x1 x2 x3 x4 x5 x6 x7 : Nat) : laws_toGovernor x0 x1 x2 x3 x4 x5 x6 x7 = (x0, x1, x2, x3, x4, x5, x6, x7) := rfl
theorem speed_eq (x : Nat) : impl_isSpeed x = spec_l03Speed x := by
  simp only [impl_isSpeed, impl_isSpeed.t, impl_between, impl_between.t, spec_l03Speed, spec_l03Speed.t, T.val, fge_flip]
theorem gok_eq (x0 : Int) (x1 x2 x3 x4 x5 x6 x7 : Nat) : impl_ValidGovernor x0 x1 x2 x3 x4 x5 x6 x7 = spec_l03Ok x0 x1 x2 x3 x4 x5 x6 x7 := by
  simp only [impl_ValidGovernor, impl_ValidGovernor.t, spec_l03Ok, spec_l03Ok.t, T.val, vmill_eq, length_eq]
  cases spec_l03Mill x0 x1 x2 <;> cases spec_l03Length x3 <;> cases spec_l03Length x4 <;> cases spec_l03Length x7 <;> rfl
theorem gok_mill {x0 : Int} {x1 x2 x3 x4 x5 x6 x7 : Nat} (h : spec_l03Ok x0 x1 x2 x3 x4 x5 x6 x7 = true) : spec_l03Mill x0 x1 x2 = true := by
  simp only [spec_l03Ok, spec_l03Ok.t, T.val] at h
  cases hm : spec_l03Mill x0 x1 x2 with
  | true => rfl
  | false => rw [hm] at h; cases h

theorem state_eq (x0 : Nat) (x1 : Int) : laws_toState x0 x1 = (x0, x1) := rfl
theorem vstate_eq (x0 : Nat) (x1 : Int) : impl_ValidState x0 x1 = spec_l03State x0 x1 := by
  simp only [impl_ValidState, impl_ValidState.t, spec_l03State, spec_l03State.t, T.val, speed_eq, within_eq]
theorem both_eq (x0 : Int) (x1 x2 x3 x4 x5 x6 x7 x8 : Nat) (x9 : Int) : spec_l03Both x0 x1 x2 x3 x4 x5 x6 x7 x8 x9 = bif spec_l03Ok x0 x1 x2 x3 x4 x5 x6 x7 && spec_l03State x8 x9 then 0 else 1 := by
  simp only [spec_l03Both, spec_l03Both.t, T.val]
  cases spec_l03Ok x0 x1 x2 x3 x4 x5 x6 x7 <;> cases spec_l03State x8 x9 <;> rfl

theorem bad_eq (x : Nat) : impl_governorCode_1 x = !spec_l03Amount x := by
  simp only [impl_governorCode_1, impl_governorCode_1.t, T.val, amount_eq]
/-- Whether all loads are amounts. -/
noncomputable def allAm (xs : List Nat) : Bool := !anyAt (fun i => !spec_l03Amount (xs.getD i 0)) xs.length
theorem index_r (xs : List Nat) (h : xs.length < 9223372036854775807) : slices_IndexFunc_float32_float32.l2.r (xs.length, ((xs.length : Nat) : Int), xs) 0 = some (match firstAt (fun i => !spec_l03Amount (xs.getD i 0)) xs.length 0 with | some i => (Sum.inl (i : Int) : Int ⊕ Unit) | none => Sum.inr ()) := by
  refine iter_first (fun i => !spec_l03Amount (xs.getD i 0)) (fun i => (Sum.inl (i : Int) : Int ⊕ Unit)) (.inr ()) xs.length h (fun i hi => ?_) ?_
  · simp only [slices_IndexFunc_float32_float32.l2.st, slices_IndexFunc_float32_float32.l2.s, T.get, bounds_nat, ble_decide, Int.toNat_natCast, Nat.mul_one, bad_eq]
    rw [decide_eq_true (by omega : (i : Int) < (xs.length : Int)), decide_eq_true hi, decide_eq_true (by omega : i + 1 ≤ xs.length)]
    cases spec_l03Amount (xs.getD i 0) <;> rfl
  · simp only [slices_IndexFunc_float32_float32.l2.st, slices_IndexFunc_float32_float32.l2.s, T.get]
    rw [decide_eq_false (by omega)]
    rfl
theorem contains_t (xs : List Nat) (h : xs.length < 9223372036854775807) : (slices_ContainsFunc_float32_float32.t xs.length xs).get = some (!allAm xs) := by
  have h1 : (slices_IndexFunc_float32_float32.t xs.length xs).get = some (match firstAt (fun i => !spec_l03Amount (xs.getD i 0)) xs.length 0 with | some i => (i : Int) | none => -1) := by
    simp only [slices_IndexFunc_float32_float32.t, T.get, index_r xs h, Option.isSome_some, cond_true, Option.getD_some]
    cases firstAt (fun i => !spec_l03Amount (xs.getD i 0)) xs.length 0 <;> rfl
  simp only [slices_ContainsFunc_float32_float32.t, T.get, show slices_IndexFunc_float32_float32.ok xs.length xs = true from T.ok_of_get h1, show slices_IndexFunc_float32_float32 xs.length xs = _ from T.val_of_get h1, cond_true]
  unfold allAm
  rw [← firstAt_any, Bool.not_not]
  cases firstAt (fun i => !spec_l03Amount (xs.getD i 0)) xs.length 0 with
  | none => rfl
  | some i =>
    simp only [Option.isSome_some, Option.some.injEq, decide_eq_true_eq]
    omega
theorem code_t (x0 : Int) (x1 x2 x3 x4 x5 x6 x7 x8 : Nat) (x9 : Int) (xs : List Nat) (h : xs.length < 9223372036854775807) : (impl_governorCode.t x0 x1 x2 x3 x4 x5 x6 x7 x8 x9 xs.length xs).get = some (bif spec_l03Ok x0 x1 x2 x3 x4 x5 x6 x7 && spec_l03State x8 x9 then (bif allAm xs then 0 else 2) else 1) := by
  simp only [impl_governorCode.t, T.get, gok_eq, vstate_eq, show slices_ContainsFunc_float32_float32.ok xs.length xs = true from T.ok_of_get (contains_t xs h), show slices_ContainsFunc_float32_float32 xs.length xs = _ from T.val_of_get (contains_t xs h)]
  cases spec_l03Ok x0 x1 x2 x3 x4 x5 x6 x7 <;> cases spec_l03State x8 x9 <;> cases allAm xs <;> rfl
theorem code_ok (x0 : Int) (x1 x2 x3 x4 x5 x6 x7 x8 : Nat) (x9 : Int) (xs : List Nat) (h : xs.length < 9223372036854775807) : impl_governorCode.ok x0 x1 x2 x3 x4 x5 x6 x7 x8 x9 xs.length xs = true := T.ok_of_get (code_t x0 x1 x2 x3 x4 x5 x6 x7 x8 x9 xs h)
theorem code_val (x0 : Int) (x1 x2 x3 x4 x5 x6 x7 x8 : Nat) (x9 : Int) (xs : List Nat) (h : xs.length < 9223372036854775807) : impl_governorCode x0 x1 x2 x3 x4 x5 x6 x7 x8 x9 xs.length xs = bif spec_l03Ok x0 x1 x2 x3 x4 x5 x6 x7 && spec_l03State x8 x9 then (bif allAm xs then 0 else 2) else 1 := T.val_of_get (code_t x0 x1 x2 x3 x4 x5 x6 x7 x8 x9 xs h)

-- lies in the core (SxQ)

theorem sqrt_eq (x : Nat) : math_Sqrt x = fsqrt x := rfl
theorem root_ok (x : Nat) : spec_l03Root.ok x = true := by
  simp only [spec_l03Root.ok, spec_l03Root.t, T.ok, sqrt_eq, open_wide, open_sqrt, cond_false]
theorem fast_ok (x : Nat) : spec_l03Fast.ok x = true := by
  simp only [spec_l03Fast.ok, spec_l03Fast.t, T.ok, root_ok, cond_true]
theorem speedw_ok (x : Nat) : impl_waterSpeed.ok x = true := by
  simp only [impl_waterSpeed.ok, impl_waterSpeed.t, T.ok, sqrt_eq, open_wide, open_sqrt, cond_false]
theorem speedw_eq (x : Nat) : impl_waterSpeed x = spec_l03Fast x := by
  simp only [impl_waterSpeed, impl_waterSpeed.t, spec_l03Fast, spec_l03Fast.t, spec_l03Root, spec_l03Root.t, T.val, sqrt_eq, open_wide, open_sqrt, root_ok, cond_false, cond_true]

theorem flow_ok (x0 x1 : Nat) (x2 : Int) : spec_l03Flow.ok x0 x1 x2 = true := by
  simp only [spec_l03Flow.ok, spec_l03Flow.t, T.ok, fast_ok, cond_true]
theorem through_ok (x0 x1 : Nat) (x2 : Int) : impl_flowThrough.ok x0 x1 x2 = true := by
  simp only [impl_flowThrough.ok, impl_flowThrough.t, T.ok, speedw_ok, cond_true]
theorem through_eq (x0 x1 : Nat) (x2 : Int) : impl_flowThrough x0 x1 x2 = spec_l03Flow x0 x1 x2 := by
  simp only [impl_flowThrough, impl_flowThrough.t, spec_l03Flow, spec_l03Flow.t, T.val, speedw_ok, speedw_eq, fast_ok, cond_true]

theorem gfill_eq (x0 x1 : Nat) (x2 : Int) (x3 x4 x5 x6 x7 x8 x9 : Nat) (hx : flHas .f32 x3) (h : spec_l03Mill x2 x3 x4 = true) : impl_Mill_fill x0 x1 x2 x3 x4 x5 x6 x7 x8 x9 = spec_l03Fill x2 x3 x4 x0 x1 := by
  obtain ⟨h1, h2⟩ := mill_pos h
  simp only [impl_Mill_fill, impl_Mill_fill.t, spec_l03Fill, spec_l03Fill.t, T.val, fmin_gen (fdiv_has .f32 _ _) (fun h => canon_nan h) hx h1 h2]
theorem gtorque_eq (x0 x1 : Nat) (x2 : Int) (x3 x4 x5 x6 x7 x8 x9 : Nat) (hx : flHas .f32 x3) (h : spec_l03Mill x2 x3 x4 = true) : impl_Mill_torque x0 x1 x2 x3 x4 x5 x6 x7 x8 x9 = spec_l03Torque x2 x3 x4 x0 x1 := by
  simp only [impl_Mill_torque, impl_Mill_torque.t, spec_l03Torque, spec_l03Torque.t, T.val, gfill_eq x0 x1 x2 x3 x4 x5 x6 x7 x8 x9 hx h]
theorem at_ok (x0 : Int) (x1 x2 x3 x4 x5 x6 x7 x8 : Nat) (x9 : Int) : spec_l03At.ok x0 x1 x2 x3 x4 x5 x6 x7 x8 x9 = true := by
  simp only [spec_l03At.ok, spec_l03At.t, T.ok, flow_ok, cond_true]
theorem tat_ok (x0 : Nat) (x1 x2 : Int) (x3 x4 x5 x6 x7 x8 x9 : Nat) : impl_Governor_torqueAt.ok x0 x1 x2 x3 x4 x5 x6 x7 x8 x9 = true := by
  simp only [impl_Governor_torqueAt.ok, impl_Governor_torqueAt.t, T.ok, through_ok, cond_true]
theorem tat_eq (x0 : Nat) (x1 x2 : Int) (x3 x4 x5 x6 x7 x8 x9 : Nat) (hx : flHas .f32 x3) (h : spec_l03Mill x2 x3 x4 = true) : impl_Governor_torqueAt x0 x1 x2 x3 x4 x5 x6 x7 x8 x9 = spec_l03At x2 x3 x4 x5 x6 x7 x8 x9 x0 x1 := by
  simp only [impl_Governor_torqueAt, impl_Governor_torqueAt.t, spec_l03At, spec_l03At.t, T.val, through_ok, through_eq, flow_ok, cond_true, gtorque_eq _ _ x2 x3 x4 x5 x6 x7 x8 x9 hx h]

theorem gate_eq (x0 : Nat) (x1 x2 : Int) (x3 x4 x5 x6 x7 x8 x9 : Nat) : impl_Governor_gateBehind x0 x1 x2 x3 x4 x5 x6 x7 x8 x9 = spec_l03Gate x2 x3 x4 x5 x6 x7 x8 x9 x0 x1 := by
  simp only [impl_Governor_gateBehind, impl_Governor_gateBehind.t, spec_l03Gate, spec_l03Gate.t, spec_l00Max, spec_l00Max.t, spec_l00Min, spec_l00Min.t, T.val, gt_iff_lt, Bool.cond_decide]

theorem least_eq (x : Nat) : impl_atLeast0 x = spec_l03Least x := by
  simp only [impl_atLeast0, impl_atLeast0.t, spec_l03Least, spec_l03Least.t, T.val]

-- lies in the core (SxQ)

theorem gt_up {v : Nat} (h : fgt .f32 v 1149239296 = true) : fgt .f32 v 0 = true := by
  have hr : FloatKind.f32.format.read 1149239296 = .number false 8388608 (-13) := by kernel_rfl
  have h0 : FloatKind.f32.format.read 0 = .number false 0 (-149) := by kernel_rfl
  unfold fgt Ieee.Format.order at h ⊢
  rw [hr] at h
  rw [h0]
  cases hv : FloatKind.f32.format.read v with
  | nan s t => rw [hv] at h; cases h
  | infinity s => rw [hv] at h; cases s <;> first | rfl | (cases h; done)
  | number s m e =>
    rw [hv] at h
    have h1 : (8388608 * 2 ^ ((-13 : Int) - min e (-13)).toNat : Int) < Ieee.signed s m (e - min e (-13)).toNat := by
      have h2 : Ieee.signed false 8388608 ((-13 : Int) - min e (-13)).toNat < Ieee.signed s m (e - min e (-13)).toNat := by
        simpa only [Ieee.Datum.order, beq_iff_eq, Option.some.injEq, Int.compare_eq_gt] using h
      rw [signed_f] at h2
      simpa using h2
    have hp : (0 : Int) < 8388608 * 2 ^ ((-13 : Int) - min e (-13)).toNat := by
      have : (0 : Int) < 2 ^ ((-13 : Int) - min e (-13)).toNat := Int.pow_pos (by omega)
      omega
    have h3 : s = false ∧ 0 < m := by
      cases s with
      | true =>
        rw [signed_t] at h1
        omega
      | false =>
        rw [signed_f] at h1
        refine ⟨rfl, Nat.pos_of_ne_zero ?_⟩
        rintro rfl
        simp at h1
        omega
    obtain ⟨rfl, hm⟩ := h3
    have h4 : Ieee.signed false 0 ((-149 : Int) - min e (-149)).toNat < Ieee.signed false m (e - min e (-149)).toNat := by
      rw [signed_f, signed_f]
      have : 0 < m * 2 ^ (e - min e (-149)).toNat := Nat.mul_pos hm (Nat.two_pow_pos _)
      omega
    simpa only [Ieee.Datum.order, beq_iff_eq, Option.some.injEq, Int.compare_eq_gt] using h4
theorem least_min {v : Nat} (hv : flHas .f32 v) (hc : isNaN .f32 v = true → v = nanOf .f32) : fmin .f32 (spec_l03Least v) 1149239296 = bif fgt .f32 v 1149239296 then spec_l03Least 1149239296 else spec_l03Least v := by
  have hr : FloatKind.f32.format.read 1149239296 = .number false 8388608 (-13) := by kernel_rfl
  have hn : isNaN .f32 1149239296 = false := by kernel_rfl
  have hy : flHas .f32 1149239296 := by unfold flHas; decide
  have h0 : flHas .f32 0 := by unfold flHas; decide
  have hl : spec_l03Least v = bif fgt .f32 v 0 then v else 0 := by simp only [spec_l03Least, spec_l03Least.t, T.val]
  have hm : spec_l03Least 1149239296 = 1149239296 := by kernel_rfl
  rw [hm, hl]
  cases h : fgt .f32 v 0 with
  | true =>
    simp only [cond_true]
    exact fmin_gen hv hc hy hn fun s e h => by rw [hr] at h; cases h
  | false =>
    cases h2 : fgt .f32 v 1149239296 with
    | true => rw [gt_up h2] at h; cases h
    | false =>
      show fmin .f32 0 1149239296 = 0
      kernel_rfl
theorem tick_ok (x0 : Int) (x1 x2 x3 x4 x5 x6 x7 x8 : Nat) (x9 : Int) (x10 : Nat) : spec_l03Tick.ok x0 x1 x2 x3 x4 x5 x6 x7 x8 x9 x10 = true := by
  simp only [spec_l03Tick.ok, spec_l03Tick.t, T.ok, at_ok, cond_true, Bool.cond_self]
theorem ticki_ok (x0 : Nat) (x1 : Int) (x2 : Nat) (x3 : Int) (x4 x5 x6 x7 x8 x9 x10 : Nat) : impl_Governor_tick.ok x0 x1 x2 x3 x4 x5 x6 x7 x8 x9 x10 = true := by
  simp only [impl_Governor_tick.ok, impl_Governor_tick.t, T.ok, tat_ok, cond_true]
theorem tick_eq (x0 : Nat) (x1 : Int) (x2 : Nat) (x3 : Int) (x4 x5 x6 x7 x8 x9 x10 : Nat) (hx : flHas .f32 x4) (h : spec_l03Mill x3 x4 x5 = true) : impl_Governor_tick x0 x1 x2 x3 x4 x5 x6 x7 x8 x9 x10 = spec_l03Tick x3 x4 x5 x6 x7 x8 x9 x10 x0 x1 x2 := by
  simp only [impl_Governor_tick, impl_Governor_tick.t, spec_l03Tick, spec_l03Tick.t, T.val, tat_ok, at_ok, cond_true, gate_eq, tat_eq _ _ x3 x4 x5 x6 x7 x8 x9 x10 hx h, least_eq, least_min (fadd_has .f32 _ _) (fun h => canon_nan h)]
  generalize fgt .f32 _ 1149239296 = c
  cases c <;> rfl

theorem same_refl (x : Nat) : laws_sameFloat x x = true := same_self (s := laws_sameFloat.t) (fun _ _ => rfl) x

theorem eqState_t (x0 : Nat) (x1 : Int) : (laws_eqState.t x0 x1 x0 x1).get = some true := by
  simp only [laws_eqState.t, T.get, open_wide, same_refl]
  simp

theorem all1 (x : Nat) : allAm [x] = spec_l03Amount x := by
  unfold allAm
  simp [anyAt]
theorem once_t (x0 : Int) (x1 x2 x3 x4 x5 x6 x7 x8 : Nat) (x9 : Int) (x10 : Nat) (hx : flHas .f32 x1) : ∃ r, (spec_TickOnce.t x0 x1 x2 x3 x4 x5 x6 x7 x8 x9 x10).get = some r ∧ (impl_TickOnce.t x0 x1 x2 x3 x4 x5 x6 x7 x8 x9 x10).get = some r := by
  have e1 := code_ok x0 x1 x2 x3 x4 x5 x6 x7 x8 x9 [x10] (by simp)
  have e2 := code_val x0 x1 x2 x3 x4 x5 x6 x7 x8 x9 [x10] (by simp)
  simp only [List.length_cons, List.length_nil, Nat.zero_add, all1] at e1 e2
  simp only [spec_TickOnce.t, impl_TickOnce.t, T.get, both_eq, e1, e2, tick_ok, ticki_ok]
  cases hg : spec_l03Ok x0 x1 x2 x3 x4 x5 x6 x7 with
  | false => cases spec_l03Amount x10 <;> exact ⟨_, rfl, rfl⟩
  | true =>
    rw [tick_eq _ _ _ x0 x1 x2 x3 x4 x5 x6 x7 hx (gok_mill hg)]
    cases spec_l03State x8 x9 <;> cases spec_l03Amount x10 <;> exact ⟨_, rfl, rfl⟩
/- FACTS -/
theorem law_holds (x0 : Int) (x1 x2 x3 x4 x5 x6 x7 x8 : Nat) (x9 : Int) (x10 : Nat) (f0 : IntKind.min .i16 ≤ x0 ∧ x0 ≤ IntKind.max .i16) (f1 : flHas .f32 x1) (f2 : flHas .f32 x2) (f3 : flHas .f32 x3) (f4 : flHas .f32 x4) (f5 : flHas .f32 x5) (f6 : flHas .f32 x6) (f7 : flHas .f32 x7) (f8 : flHas .f32 x8) (f9 : IntKind.min .i8 ≤ x9 ∧ x9 ≤ IntKind.max .i8) (f10 : flHas .f32 x10) : (laws_FnExactTickOnce.t x0 x1 x2 x3 x4 x5 x6 x7 x8 x9 x10).get = some true := by
  obtain ⟨r, h1, h2⟩ := once_t x0 x1 x2 x3 x4 x5 x6 x7 x8 x9 x10 f1
  simp only [laws_FnExactTickOnce.t, T.get, gov_eq, state_eq, show spec_TickOnce.ok x0 x1 x2 x3 x4 x5 x6 x7 x8 x9 x10 = true from T.ok_of_get (h1), show spec_TickOnce x0 x1 x2 x3 x4 x5 x6 x7 x8 x9 x10 = r from T.val_of_get (h1), show impl_TickOnce.ok x0 x1 x2 x3 x4 x5 x6 x7 x8 x9 x10 = true from T.ok_of_get (h2), show impl_TickOnce x0 x1 x2 x3 x4 x5 x6 x7 x8 x9 x10 = r from T.val_of_get (h2), show laws_eqState.ok r.1 r.2.1 r.1 r.2.1 = true from T.ok_of_get (eqState_t _ _), show laws_eqState r.1 r.2.1 r.1 r.2.1 = true from T.val_of_get (eqState_t _ _)]
  simp

theorem law_plain (x0_0 : Int) (x0_1 : Nat) (x0_2 : Nat) (x0_3 : Nat) (x0_4 : Nat) (x0_5 : Nat) (x0_6 : Nat) (x0_7 : Nat) (x1_0 : Nat) (x1_1 : Int) (x2 : Nat) (f0_0 : (IntKind.min .i16 ≤ x0_0 ∧ x0_0 ≤ IntKind.max .i16)) (f0_1 : flHas .f32 x0_1) (f0_2 : flHas .f32 x0_2) (f0_3 : flHas .f32 x0_3) (f0_4 : flHas .f32 x0_4) (f0_5 : flHas .f32 x0_5) (f0_6 : flHas .f32 x0_6) (f0_7 : flHas .f32 x0_7) (f1_0 : flHas .f32 x1_0) (f1_1 : (IntKind.min .i8 ≤ x1_1 ∧ x1_1 ≤ IntKind.max .i8)) (f2 : flHas .f32 x2) : (laws_FnExactTickOnce.tr (x0_0, x0_1, x0_2, x0_3, x0_4, x0_5, x0_6, x0_7, x1_0, x1_1, x2)).get = some true := law_holds x0_0 x0_1 x0_2 x0_3 x0_4 x0_5 x0_6 x0_7 x1_0 x1_1 x2 f0_0 f0_1 f0_2 f0_3 f0_4 f0_5 f0_6 f0_7 f1_0 f1_1 f2
theorem own : ownKnob Try.prog.godebug = none := by kernel_rfl
theorem laidOut : laidOutB Try.prog = true := by kernel_rfl
theorem lifted (os : Os) (started : os.Started) (H : Type) (enc : TypeId × Value → H) :
    ReturnsInHanded {} Try.checked os 11 .any (Rows.fnExactTickOnceSpec.pre6 enc Try.prog Try.f11 Rows.fnExactTickOnceRow.domain false) (Rows.fnExactTickOnceSpec.post enc Try.prog Try.f11 false true false false) := by
  refine returnsInHanded_of_change (C := Try.checked) own started (by kernel_rfl) Try.func11
    (ChangeSpec.witness6 (enc := enc) (C := Try.checked) false ⟨#[], #[.agg #[.int .i16 0, .float .f32 0, .float .f32 0, .float .f32 0, .float .f32 0, .float .f32 0, .float .f32 0, .float .f32 0], .agg #[.float .f32 0, .int .i8 0], .float .f32 0], []⟩ 8 (by kernel_rfl) (by kernel_rfl) (by kernel_rfl) (by kernel_rfl)) ?_
  intro W base args ds gs before hval0 hW hcnd _
  have hval : ∀ (j : Nat) t v, Try.f11.params[j]? = some t → args[j]? = some v → Value.okWide Try.prog W .any base t v := hval0
  have hW' := hW
  obtain ⟨p, q, hA0, hV, rfl, hfz, hnd⟩ := hW
  have hA : DataW.TrodAll enc Try.prog W 0 (fun _ => true) true Try.f11.params.toList args.toList ds p := hA0
  rw [Try.params11] at hA hval
  obtain ⟨v0, vs0, d0, ds0, p0, q0, hargs, rfl, rfl, h0, r0⟩ := trodAll_cons hA
  obtain ⟨v1, vs1, d1, ds1, p1, q1, rfl, rfl, rfl, h1, r1⟩ := trodAll_cons r0
  obtain ⟨v2, vs2, d2, ds2, p2, q2, rfl, rfl, rfl, h2, r2⟩ := trodAll_cons r1
  obtain ⟨rfl, rfl, rfl⟩ := trodAll_nil r2
  obtain rfl : args = #[v0, v1, v2] := by cases args; simp_all
  obtain ⟨rfl, rfl⟩ := trodVars_none hV
  have k0 := h0
  have lt0 : ∀ x ∈ p0, x.block < W.heap.size := by obtain ⟨m, hm⟩ := k0; exact DataW.trod_lt m _ _ _ hm
  obtain ⟨cs0, rfl, hc0⟩ := open_row (ts := [22, 23, 23, 23, 23, 23, 23, 23]) Try.underlying38 rfl (by kernel_rfl) (by kernel_rfl) (hval 0 38 v0 rfl rfl)
  obtain ⟨u0_0, m0_0, e0, g0_0, hc0⟩ := hc0
  obtain ⟨x0_0, r0_0, f0_0⟩ := sc_it Try.underlying22 g0_0
  obtain ⟨u0_1, m0_1, rfl, g0_1, hc0⟩ := hc0
  obtain ⟨x0_1, r0_1, f0_1⟩ := sc_fl Try.underlying23 g0_1
  obtain ⟨u0_2, m0_2, rfl, g0_2, hc0⟩ := hc0
  obtain ⟨x0_2, r0_2, f0_2⟩ := sc_fl Try.underlying23 g0_2
  obtain ⟨u0_3, m0_3, rfl, g0_3, hc0⟩ := hc0
  obtain ⟨x0_3, r0_3, f0_3⟩ := sc_fl Try.underlying23 g0_3
  obtain ⟨u0_4, m0_4, rfl, g0_4, hc0⟩ := hc0
  obtain ⟨x0_4, r0_4, f0_4⟩ := sc_fl Try.underlying23 g0_4
  obtain ⟨u0_5, m0_5, rfl, g0_5, hc0⟩ := hc0
  obtain ⟨x0_5, r0_5, f0_5⟩ := sc_fl Try.underlying23 g0_5
  obtain ⟨u0_6, m0_6, rfl, g0_6, hc0⟩ := hc0
  obtain ⟨x0_6, r0_6, f0_6⟩ := sc_fl Try.underlying23 g0_6
  obtain ⟨u0_7, m0_7, rfl, g0_7, hc0⟩ := hc0
  obtain ⟨x0_7, r0_7, f0_7⟩ := sc_fl Try.underlying23 g0_7
  obtain rfl := hc0
  have k1 := h1
  have lt1 : ∀ x ∈ p1, x.block < W.heap.size := by obtain ⟨m, hm⟩ := k1; exact DataW.trod_lt m _ _ _ hm
  obtain ⟨cs1, rfl, hc1⟩ := open_row (ts := [23, 39]) Try.underlying41 rfl (by kernel_rfl) (by kernel_rfl) (hval 1 41 v1 rfl rfl)
  obtain ⟨u1_0, m1_0, e1, g1_0, hc1⟩ := hc1
  obtain ⟨x1_0, r1_0, f1_0⟩ := sc_fl Try.underlying23 g1_0
  obtain ⟨u1_1, m1_1, rfl, g1_1, hc1⟩ := hc1
  obtain ⟨x1_1, r1_1, f1_1⟩ := sc_it Try.underlying39 g1_1
  obtain rfl := hc1
  have k2 := h2
  have lt2 : ∀ x ∈ p2, x.block < W.heap.size := by obtain ⟨m, hm⟩ := k2; exact DataW.trod_lt m _ _ _ hm
  obtain ⟨x2, r2, f2⟩ := sc_fl Try.underlying23 (cell_of Try.underlying23 rfl (hval 2 23 v2 rfl rfl))
  clear hA0 hval0
  refine (laws_FnExactTickOnce.walk (x0_0, x0_1, x0_2, x0_3, x0_4, x0_5, x0_6, x0_7, x1_0, x1_1, x2) (law_plain x0_0 x0_1 x0_2 x0_3 x0_4 x0_5 x0_6 x0_7 x1_0 x1_1 x2 f0_0 f0_1 f0_2 f0_3 f0_4 f0_5 f0_6 f0_7 f1_0 f1_1 f2) (ρ := fun i => (lget ([] : List (Sx.Loc × Cells)) i).map (·.1)) (Rs_cons' (agg_R (by rw [e0]; exact (Rs_cons' (r0_0 _) (Rs_cons' (r0_1 _) (Rs_cons' (r0_2 _) (Rs_cons' (r0_3 _) (Rs_cons' (r0_4 _) (Rs_cons' (r0_5 _) (Rs_cons' (r0_6 _) (Rs_cons' (r0_7 _) Rs_nil')))))))))) (Rs_cons' (agg_R (by rw [e1]; exact (Rs_cons' (r1_0 _) (Rs_cons' (r1_1 _) Rs_nil')))) (Rs_cons' (r2 _) Rs_nil'))) (HpR.ofRo [] (List.forall_mem_nil _))).mono fun e W' ⟨he, bel⟩ => ?_
  subst he
  exact ⟨_, rfl, _, _, _, [], _, [], hW', trodAll_mk1 (shut_bool Try.underlying4 _), (trodAll_cons_mk (Below.trod laidOut (by kernel_rfl) (of_decide_eq_true (by kernel_rfl)) k0 bel lt0) (trodAll_cons_mk (Below.trod laidOut (by kernel_rfl) (of_decide_eq_true (by kernel_rfl)) k1 bel lt1) (trodAll_cons_mk (Below.trod laidOut (by kernel_rfl) (of_decide_eq_true (by kernel_rfl)) k2 bel lt2) trodAll_mk0))), rfl, bel.frame _, fun h => by cases h⟩
theorem over : Rows.fnExactTickOnceRow.holds Try.pinned (OpenSpec.ofChange Rows.fnExactTickOnceSpec) :=
  OpenClaim.holds_of_wide 11 Try.f11 rfl rfl rfl rfl rfl rfl rfl ⟨rfl, rfl, rfl, rfl, rfl⟩ rfl rfl rfl rfl rfl (by kernel_rfl) Try.func11 (by kernel_rfl)
    (of_decide_eq_true (by kernel_rfl)) (by unfold Func.isWrapper; first | (rw [if_pos (by decide +kernel)]; kernel_rfl) | (rw [if_neg (by decide +kernel)]; exact ⟨rfl, rfl⟩))
    (fun os started H enc _ => lifted os started H enc)
theorem proved : Rows.FnExactTickOnceSaid := over
end Go.Proofs.Ytnggljioidchdaa
