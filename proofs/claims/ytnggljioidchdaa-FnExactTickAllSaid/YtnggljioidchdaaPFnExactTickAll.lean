/- For every input the call of FnExactTickAll returns true, and each argument reads afterwards as it read before; there is no condition. -/
import Derived.Test.YtnggljioidchdaaWFnExactTickAll
import Derived.Test.YtnggljioidchdaaSxS
import Derived.Test.YtnggljioidchdaaRows
import Derived.WalkKit
import Derived.ProofKit
import Derived.OpenShut
import Derived.ShutString
import Derived.ChangeOld
import Derived.Below
import Derived.Carry
import Derived.HandedShaped
namespace Go.Proofs.Ytnggljioidchdaa
open Go Go.RowKit Sx
open Go.ChangeShapes Go.WideShapes Go.ChangeAt
set_option linter.unusedVariables false
set_option linter.unusedSimpArgs false
set_option maxRecDepth 100000

theorem amount_eq (x : Nat) : impl_isAmount x = spec_l03Amount x := by
  simp only [impl_isAmount, impl_isAmount.t, impl_between, impl_between.t, spec_l03Amount, spec_l03Amount.t, T.val, fge_flip]

theorem within_eq (x y z : Int) : impl_within x y z = spec_l00In x y z := by
  simp only [impl_within, impl_within.t, spec_l00In, spec_l00In.t, T.val, ge_iff_le]

-- lies in the core (SxQ)

theorem length_eq (x : Nat) : impl_IsLength x = spec_l03Length x := by
  simp only [impl_IsLength, impl_IsLength.t, impl_between, impl_between.t, spec_l03Length, spec_l03Length.t, T.val, fge_flip]

theorem vmill_eq (x0 : Int) (x1 x2 : Nat) : impl_ValidMill x0 x1 x2 = spec_l03Mill x0 x1 x2 := by
  simp only [impl_ValidMill, impl_ValidMill.t, spec_l03Mill, spec_l03Mill.t, T.val, within_eq, length_eq]
theorem length_pos {x : Nat} (h : spec_l03Length x = true) : isNaN .f32 x = false ∧ ∀ s e, FloatKind.f32.format.read x ≠ .number s 0 e := by
  simp only [spec_l03Length, spec_l03Length.t, T.val, fge_flip] at h
  cases h1 : fle .f32 1031798784 x with
  | false => rw [h1] at h; cases h
  | true => exact pos_of_le (show FloatKind.f32.format.read 1031798784 = .number false 8388608 (-27) by kernel_rfl) (by omega) h1
theorem mill_pos {x0 : Int} {x1 x2 : Nat} (h : spec_l03Mill x0 x1 x2 = true) : isNaN .f32 x1 = false ∧ ∀ s e, FloatKind.f32.format.read x1 ≠ .number s 0 e := by
  refine length_pos ?_
  simp only [spec_l03Mill, spec_l03Mill.t, T.val] at h
  generalize spec_l00In (IntKind.wrap .i64 x0) 4 48 = p at h
  generalize spec_l03Length x1 = q at h ⊢
  cases p <;> cases q <;> first | rfl | cases h

theorem gov_eq (x0 : Int) (x1 x2 x3 x4 x5 x6 x7 : Nat) : laws_toGovernor x0 x1 x2 x3 x4 x5 x6 x7 = (x0, x1, x2, x3, x4, x5, x6, x7) := rfl
theorem speed_eq (x : Nat) : impl_isSpeed x = spec_l03Speed x := by
  simp only [impl_isSpeed, impl_isSpeed.t, impl_between, impl_between.t, spec_l03Speed, spec_l03Speed.t, T.val, fge_flip]
theorem gok_eq (x0 : Int) (x1 x2 x3 x4 x5 x6 x7 : Nat) : impl_ValidGovernor x0 x1 x2 x3 x4 x5 x6 x7 = spec_l03Ok x0 x1 x2 x3 x4 x5 x6 x7 := by
  simp only [impl_ValidGovernor, impl_ValidGovernor.t, spec_l03Ok, spec_l03Ok.t, T.val, vmill_eq, length_eq]
  cases spec_l03Mill x0 x1 x2 <;> cases spec_l03Length x3 <;> cases spec_l03Length x4 <;> cases spec_l03Length x7 <;> rfl
theorem gok_mill {x0 : Int} {x1 x2 x3 x4 x5 x6 x7 : Nat} (h : spec_l03Ok x0 x1 x2 x3 x4 x5 x6 x7 = true) : spec_l03Mill x0 x1 x2 = true := by
  simp only [spec_l03Ok, spec_l03Ok.t, T.val] at h
  cases hm : spec_l03Mill x0 x1 x2 with
  | true => rfl
  | false => rw [hm] at h; cases h

theorem state_eq (x0 : Nat) (x1 : Int) : laws_toState x0 x1 = (x0, x1) := rfl
theorem vstate_eq (x0 : Nat) (x1 : Int) : impl_ValidState x0 x1 = spec_l03State x0 x1 := by
  simp only [impl_ValidState, impl_ValidState.t, spec_l03State, spec_l03State.t, T.val, speed_eq, within_eq]
theorem both_eq (x0 : Int) (x1 x2 x3 x4 x5 x6 x7 x8 : Nat) (x9 : Int) : spec_l03Both x0 x1 x2 x3 x4 x5 x6 x7 x8 x9 = bif spec_l03Ok x0 x1 x2 x3 x4 x5 x6 x7 && spec_l03State x8 x9 then 0 else 1 := by
  simp only [spec_l03Both, spec_l03Both.t, T.val]
  cases spec_l03Ok x0 x1 x2 x3 x4 x5 x6 x7 <;> cases spec_l03State x8 x9 <;> rfl

theorem bad_eq (x : Nat) : impl_governorCode_1 x = !spec_l03Amount x := by
  simp only [impl_governorCode_1, impl_governorCode_1.t, T.val, amount_eq]
/-- Whether all loads are amounts. -/
noncomputable def allAm (xs : List Nat) : Bool := !anyAt (fun i => !spec_l03Amount (xs.getD i 0)) xs.length
theorem index_r (xs : List Nat) (h : xs.length < 9223372036854775807) : slices_IndexFunc_float32_float32.l2.r (xs.length, ((xs.length : Nat) : Int), xs) 0 = some (match firstAt (fun i => !spec_l03Amount (xs.getD i 0)) xs.length 0 with | some i => (Sum.inl (i : Int) : Int ⊕ Unit) | none => Sum.inr ()) := by
  refine iter_first (fun i => !spec_l03Amount (xs.getD i 0)) (fun i => (Sum.inl (i : Int) : Int ⊕ Unit)) (.inr ()) xs.length h (fun i hi => ?_) ?_
  · simp only [slices_IndexFunc_float32_float32.l2.st, slices_IndexFunc_float32_float32.l2.s, T.get, bounds_nat, ble_decide, Int.toNat_natCast, Nat.mul_one, bad_eq]
    rw [decide_eq_true (by omega : (i : Int) < (xs.length : Int)), decide_eq_true hi, decide_eq_true (by omega : i + 1 ≤ xs.length)]
    cases spec_l03Amount (xs.getD i 0) <;> rfl
  · simp only [slices_IndexFunc_float32_float32.l2.st, slices_IndexFunc_float32_float32.l2.s, T.get]
    rw [decide_eq_false (by omega)]
    rfl
theorem contains_t (xs : List Nat) (h : xs.length < 9223372036854775807) : (slices_ContainsFunc_float32_float32.t xs.length xs).get = some (!allAm xs) := by
  have h1 : (slices_IndexFunc_float32_float32.t xs.length xs).get = some (match firstAt (fun i => !spec_l03Amount (xs.getD i 0)) xs.length 0 with | some i => (i : Int) | none => -1) := by
    simp only [slices_IndexFunc_float32_float32.t, T.get, index_r xs h, Option.isSome_some, cond_true, Option.getD_some]
    cases firstAt (fun i => !spec_l03Amount (xs.getD i 0)) xs.length 0 <;> rfl
  simp only [slices_ContainsFunc_float32_float32.t, T.get, show slices_IndexFunc_float32_float32.ok xs.length xs = true from T.ok_of_get h1, show slices_IndexFunc_float32_float32 xs.length xs = _ from T.val_of_get h1, cond_true]
  unfold allAm
  rw [← firstAt_any, Bool.not_not]
  cases firstAt (fun i => !spec_l03Amount (xs.getD i 0)) xs.length 0 with
  | none => rfl
  | some i =>
    simp only [Option.isSome_some, Option.some.injEq, decide_eq_true_eq]
    omega
theorem code_t (x0 : Int) (x1 x2 x3 x4 x5 x6 x7 x8 : Nat) (x9 : Int) (xs : List Nat) (h : xs.length < 9223372036854775807) : (impl_governorCode.t x0 x1 x2 x3 x4 x5 x6 x7 x8 x9 xs.length xs).get = some (bif spec_l03Ok x0 x1 x2 x3 x4 x5 x6 x7 && spec_l03State x8 x9 then (bif allAm xs then 0 else 2) else 1) := by
  simp only [impl_governorCode.t, T.get, gok_eq, vstate_eq, show slices_ContainsFunc_float32_float32.ok xs.length xs = true from T.ok_of_get (contains_t xs h), show slices_ContainsFunc_float32_float32 xs.length xs = _ from T.val_of_get (contains_t xs h)]
  cases spec_l03Ok x0 x1 x2 x3 x4 x5 x6 x7 <;> cases spec_l03State x8 x9 <;> cases allAm xs <;> rfl
theorem code_ok (x0 : Int) (x1 x2 x3 x4 x5 x6 x7 x8 : Nat) (x9 : Int) (xs : List Nat) (h : xs.length < 9223372036854775807) : impl_governorCode.ok x0 x1 x2 x3 x4 x5 x6 x7 x8 x9 xs.length xs = true := T.ok_of_get (code_t x0 x1 x2 x3 x4 x5 x6 x7 x8 x9 xs h)
theorem code_val (x0 : Int) (x1 x2 x3 x4 x5 x6 x7 x8 : Nat) (x9 : Int) (xs : List Nat) (h : xs.length < 9223372036854775807) : impl_governorCode x0 x1 x2 x3 x4 x5 x6 x7 x8 x9 xs.length xs = bif spec_l03Ok x0 x1 x2 x3 x4 x5 x6 x7 && spec_l03State x8 x9 then (bif allAm xs then 0 else 2) else 1 := T.val_of_get (code_t x0 x1 x2 x3 x4 x5 x6 x7 x8 x9 xs h)

-- lies in the core (SxQ)

theorem sqrt_eq (x : Nat) : math_Sqrt x = fsqrt x := rfl
theorem root_ok (x : Nat) : spec_l03Root.ok x = true := by
  simp only [spec_l03Root.ok, spec_l03Root.t, T.ok, sqrt_eq, open_wide, open_sqrt, cond_false]
theorem fast_ok (x : Nat) : spec_l03Fast.ok x = true := by
  simp only [spec_l03Fast.ok, spec_l03Fast.t, T.ok, root_ok, cond_true]
theorem speedw_ok (x : Nat) : impl_waterSpeed.ok x = true := by
  simp only [impl_waterSpeed.ok, impl_waterSpeed.t, T.ok, sqrt_eq, open_wide, open_sqrt, cond_false]
theorem speedw_eq (x : Nat) : impl_waterSpeed x = spec_l03Fast x := by
  simp only [impl_waterSpeed, impl_waterSpeed.t, spec_l03Fast, spec_l03Fast.t, spec_l03Root, spec_l03Root.t, T.val, sqrt_eq, open_wide, open_sqrt, root_ok, cond_false, cond_true]

theorem flow_ok (x0 x1 : Nat) (x2 : Int) : spec_l03Flow.ok x0 x1 x2 = true := by
  simp only [spec_l03Flow.ok, spec_l03Flow.t, T.ok, fast_ok, cond_true]
theorem through_ok (x0 x1 : Nat) (x2 : Int) : impl_flowThrough.ok x0 x1 x2 = true := by
  simp only [impl_flowThrough.ok, impl_flowThrough.t, T.ok, speedw_ok, cond_true]
theorem through_eq (x0 x1 : Nat) (x2 : Int) : impl_flowThrough x0 x1 x2 = spec_l03Flow x0 x1 x2 := by
  simp only [impl_flowThrough, impl_flowThrough.t, spec_l03Flow, spec_l03Flow.t, T.val, speedw_ok, speedw_eq, fast_ok, cond_true]

theorem gfill_eq (x0 x1 : Nat) (x2 : Int) (x3 x4 x5 x6 x7 x8 x9 : Nat) (hx : flHas .f32 x3) (h : spec_l03Mill x2 x3 x4 = true) : impl_Mill_fill x0 x1 x2 x3 x4 x5 x6 x7 x8 x9 = spec_l03Fill x2 x3 x4 x0 x1 := by
  obtain ⟨h1, h2⟩ := mill_pos h
  simp only [impl_Mill_fill, impl_Mill_fill.t, spec_l03Fill, spec_l03Fill.t, T.val, fmin_gen (fdiv_has .f32 _ _) (fun h => canon_nan h) hx h1 h2]
theorem gtorque_eq (x0 x1 : Nat) (x2 : Int) (x3 x4 x5 x6 x7 x8 x9 : Nat) (hx : flHas .f32 x3) (h : spec_l03Mill x2 x3 x4 = true) : impl_Mill_torque x0 x1 x2 x3 x4 x5 x6 x7 x8 x9 = spec_l03Torque x2 x3 x4 x0 x1 := by
  simp only [impl_Mill_torque, impl_Mill_torque.t, spec_l03Torque, spec_l03Torque.t, T.val, gfill_eq x0 x1 x2 x3 x4 x5 x6 x7 x8 x9 hx h]
theorem at_ok (x0 : Int) (x1 x2 x3 x4 x5 x6 x7 x8 : Nat) (x9 : Int) : spec_l03At.ok x0 x1 x2 x3 x4 x5 x6 x7 x8 x9 = true := by
  simp only [spec_l03At.ok, spec_l03At.t, T.ok, flow_ok, cond_true]
theorem tat_ok (x0 : Nat) (x1 x2 : Int) (x3 x4 x5 x6 x7 x8 x9 : Nat) : impl_Governor_torqueAt.ok x0 x1 x2 x3 x4 x5 x6 x7 x8 x9 = true := by
  simp only [impl_Governor_torqueAt.ok, impl_Governor_torqueAt.t, T.ok, through_ok, cond_true]
theorem tat_eq (x0 : Nat) (x1 x2 : Int) (x3 x4 x5 x6 x7 x8 x9 : Nat) (hx : flHas .f32 x3) (h : spec_l03Mill x2 x3 x4 = true) : impl_Governor_torqueAt x0 x1 x2 x3 x4 x5 x6 x7 x8 x9 = spec_l03At x2 x3 x4 x5 x6 x7 x8 x9 x0 x1 := by
  simp only [impl_Governor_torqueAt, impl_Governor_torqueAt.t, spec_l03At, spec_l03At.t, T.val, through_ok, through_eq, flow_ok, cond_true, gtorque_eq _ _ x2 x3 x4 x5 x6 x7 x8 x9 hx h]

theorem gate_eq (x0 : Nat) (x1 x2 : Int) (x3 x4 x5 x6 x7 x8 x9 : Nat) : impl_Governor_gateBehind x0 x1 x2 x3 x4 x5 x6 x7 x8 x9 = spec_l03Gate x2 x3 x4 x5 x6 x7 x8 x9 x0 x1 := by
  simp only [impl_Governor_gateBehind, impl_Governor_gateBehind.t, spec_l03Gate, spec_l03Gate.t, spec_l00Max, spec_l00Max.t, spec_l00Min, spec_l00Min.t, T.val, gt_iff_lt, Bool.cond_decide]

theorem least_eq (x : Nat) : impl_atLeast0 x = spec_l03Least x := by
  simp only [impl_atLeast0, impl_atLeast0.t, spec_l03Least, spec_l03Least.t, T.val]

-- lies in the core (SxQ)

theorem gt_up {v : Nat} (h : fgt .f32 v 1149239296 = true) : fgt .f32 v 0 = true := by
  have hr : FloatKind.f32.format.read 1149239296 = .number false 8388608 (-13) := by kernel_rfl
  have h0 : FloatKind.f32.format.read 0 = .number false 0 (-149) := by kernel_rfl
  unfold fgt Ieee.Format.order at h ⊢
  rw [hr] at h
  rw [h0]
  cases hv : FloatKind.f32.format.read v with
  | nan s t => rw [hv] at h; cases h
  | infinity s => rw [hv] at h; cases s <;> first | rfl | (cases h; done)
  | number s m e =>
    rw [hv] at h
    have h1 : (8388608 * 2 ^ ((-13 : Int) - min e (-13)).toNat : Int) < Ieee.signed s m (e - min e (-13)).toNat := by
      have h2 : Ieee.signed false 8388608 ((-13 : Int) - min e (-13)).toNat < Ieee.signed s m (e - min e (-13)).toNat := by
        simpa only [Ieee.Datum.order, beq_iff_eq, Option.some.injEq, Int.compare_eq_gt] using h
      rw [signed_f] at h2
      simpa using h2
    have hp : (0 : Int) < 8388608 * 2 ^ ((-13 : Int) - min e (-13)).toNat := by
      have : (0 : Int) < 2 ^ ((-13 : Int) - min e (-13)).toNat := Int.pow_pos (by omega)
      omega
    have h3 : s = false ∧ 0 < m := by
      cases s with
      | true =>
        rw [signed_t] at h1
        omega
      | false =>
        rw [signed_f] at h1
        refine ⟨rfl, Nat.pos_of_ne_zero ?_⟩
        rintro rfl
        simp at h1
        omega
    obtain ⟨rfl, hm⟩ := h3
    have h4 : Ieee.signed false 0 ((-149 : Int) - min e (-149)).toNat < Ieee.signed false m (e - min e (-149)).toNat := by
      rw [signed_f, signed_f]
      have : 0 < m * 2 ^ (e - min e (-149)).toNat := Nat.mul_pos hm (Nat.two_pow_pos _)
      omega
    simpa only [Ieee.Datum.order, beq_iff_eq, Option.some.injEq, Int.compare_eq_gt] using h4
theorem least_min {v : Nat} (hv : flHas .f32 v) (hc : isNaN .f32 v = true → v = nanOf .f32) : fmin .f32 (spec_l03Least v) 1149239296 = bif fgt .f32 v 1149239296 then spec_l03Least 1149239296 else spec_l03Least v := by
  have hr : FloatKind.f32.format.read 1149239296 = .number false 8388608 (-13) := by kernel_rfl
  have hn : isNaN .f32 1149239296 = false := by kernel_rfl
  have hy : flHas .f32 1149239296 := by unfold flHas; decide
  have h0 : flHas .f32 0 := by unfold flHas; decide
  have hl : spec_l03Least v = bif fgt .f32 v 0 then v else 0 := by simp only [spec_l03Least, spec_l03Least.t, T.val]
  have hm : spec_l03Least 1149239296 = 1149239296 := by kernel_rfl
  rw [hm, hl]
  cases h : fgt .f32 v 0 with
  | true =>
    simp only [cond_true]
    exact fmin_gen hv hc hy hn fun s e h => by rw [hr] at h; cases h
  | false =>
    cases h2 : fgt .f32 v 1149239296 with
    | true => rw [gt_up h2] at h; cases h
    | false =>
      show fmin .f32 0 1149239296 = 0
      kernel_rfl
theorem tick_ok (x0 : Int) (x1 x2 x3 x4 x5 x6 x7 x8 : Nat) (x9 : Int) (x10 : Nat) : spec_l03Tick.ok x0 x1 x2 x3 x4 x5 x6 x7 x8 x9 x10 = true := by
  simp only [spec_l03Tick.ok, spec_l03Tick.t, T.ok, at_ok, cond_true, Bool.cond_self]
theorem ticki_ok (x0 : Nat) (x1 : Int) (x2 : Nat) (x3 : Int) (x4 x5 x6 x7 x8 x9 x10 : Nat) : impl_Governor_tick.ok x0 x1 x2 x3 x4 x5 x6 x7 x8 x9 x10 = true := by
  simp only [impl_Governor_tick.ok, impl_Governor_tick.t, T.ok, tat_ok, cond_true]
theorem tick_eq (x0 : Nat) (x1 : Int) (x2 : Nat) (x3 : Int) (x4 x5 x6 x7 x8 x9 x10 : Nat) (hx : flHas .f32 x4) (h : spec_l03Mill x3 x4 x5 = true) : impl_Governor_tick x0 x1 x2 x3 x4 x5 x6 x7 x8 x9 x10 = spec_l03Tick x3 x4 x5 x6 x7 x8 x9 x10 x0 x1 x2 := by
  simp only [impl_Governor_tick, impl_Governor_tick.t, spec_l03Tick, spec_l03Tick.t, T.val, tat_ok, at_ok, cond_true, gate_eq, tat_eq _ _ x3 x4 x5 x6 x7 x8 x9 x10 hx h, least_eq, least_min (fadd_has .f32 _ _) (fun h => canon_nan h)]
  generalize fgt .f32 _ 1149239296 = c
  cases c <;> rfl

theorem first_loads (xs : List Nat) (x0 : Int) (x1 x2 x3 x4 x5 x6 x7 x8 : Nat) (x9 : Int) (h : xs.length < 9223372036854775807) : spec_TickAll.l6.r (xs.length, 0, xs, x0, x1, x2, x3, x4, x5, x6, x7, x8, x9, []) 0 = some (bif allAm xs then (Sum.inr () : Int ⊕ Unit) else Sum.inl 2) := by
  have hf := iter_first (step := spec_TickAll.l6.st (xs.length, 0, xs, x0, x1, x2, x3, x4, x5, x6, x7, x8, x9, [])) (fun i => !spec_l03Amount (xs.getD i 0)) (fun i => (Sum.inl 2 : Int ⊕ Unit)) (.inr ()) xs.length h (fun i hi => ?_) ?_
  · unfold allAm
    rw [← firstAt_any]
    refine hf.trans ?_
    cases firstAt (fun i => !spec_l03Amount (xs.getD i 0)) xs.length 0 <;> rfl
  · simp only [spec_TickAll.l6.st, spec_TickAll.l6.s, T.get, bounds_nat, ble_decide, Int.toNat_natCast, Nat.mul_one]
    rw [decide_eq_true (by omega : (i : Int) < (xs.length : Int)), decide_eq_true hi, decide_eq_true (by omega : i + 1 ≤ xs.length)]
    cases spec_l03Amount (xs.getD i 0) <;> rfl
  · simp only [spec_TickAll.l6.st, spec_TickAll.l6.s, T.get]
    rw [decide_eq_false (by omega)]
    rfl
theorem ticks_r (xs : List Nat) (x0 : Int) (x1 x2 x3 x4 x5 x6 x7 x8 : Nat) (x9 : Int) (hx : flHas .f32 x1) (hm : spec_l03Mill x0 x1 x2 = true) (h : xs.length ≤ 100) :
    ∃ rows, rows.length = xs.length ∧ spec_TickAll.l13.r (xs.length, xs, x0, x1, x2, x3, x4, x5, x6, x7) (0, 0, x8, x9, []) = some (xs.length, rows) ∧ impl_TickAll.l8.r (xs.length, (xs.length : Int), xs, x0, x1, x2, x3, x4, x5, x6, x7) (0, 0, x8, x9, []) = some (xs.length, rows) := by
  obtain ⟨e, e', h1, h2, h3, h4, rfl⟩ := iter_two (step := spec_TickAll.l13.st (xs.length, xs, x0, x1, x2, x3, x4, x5, x6, x7)) (step' := impl_TickAll.l8.st (xs.length, (xs.length : Int), xs, x0, x1, x2, x3, x4, x5, x6, x7))
    (R := fun s t => s = t ∧ ∃ i : Nat, i ≤ xs.length ∧ s.1 = i ∧ s.2.1 = (i : Int) ∧ s.2.2.2.2.length = i) (E := fun e e' => e.1 = xs.length ∧ e.2.length = xs.length ∧ e = e') (fun s => xs.length - s.1) (by
    rintro ⟨n, c, a, b, rows⟩ _ ⟨rfl, i, hi, hn, hc, hr⟩
    dsimp only at hn hc hr
    subst hn
    subst hc
    simp only [spec_TickAll.l13.st, spec_TickAll.l13.s, impl_TickAll.l8.st, impl_TickAll.l8.s, T.get, bounds_nat, ble_decide, Int.toNat_natCast, Nat.mul_one, tick_ok, ticki_ok, tick_eq _ _ _ x0 x1 x2 x3 x4 x5 x6 x7 hx hm]
    by_cases hlt : n < xs.length
    · rw [decide_eq_true (by omega : (n : Int) < (xs.length : Int)), decide_eq_true hlt, decide_eq_true (by omega : n + 1 ≤ xs.length), wrap64_succ (by omega)]
      generalize spec_l03Tick x0 x1 x2 x3 x4 x5 x6 x7 a b (xs.getD n 0) = q
      have hcond : (Nat.beq 2 (List.length [[Sc.n q.1, Sc.i q.2]] * 2) && (Nat.beq (rows.length * 2) (n * 2) && decide ((n + 1) * 8 ≤ 35184372088832) && decide (n + 1 ≤ 35184372088832))) = true := by
        rw [hr, Nat.beq_refl, decide_eq_true (by omega), decide_eq_true (by omega)]
        rfl
      simp only [hcond, cond_true]
      exact .inl ⟨_, _, rfl, rfl, ⟨rfl, n + 1, by omega, rfl, rfl, by simp [hr]⟩, by dsimp only; omega⟩
    · rw [decide_eq_false (by omega : ¬ (n : Int) < (xs.length : Int))]
      exact .inr ⟨_, _, rfl, rfl, (by omega : n = xs.length), by dsimp only; omega, rfl⟩) manyRounds (0, 0, x8, x9, []) (0, 0, x8, x9, []) ⟨rfl, 0, by omega, rfl, rfl, rfl⟩ (many_lt (by dsimp only; omega))
  obtain ⟨n, rows⟩ := e
  dsimp only at h3 h4
  subst h3
  exact ⟨rows, h4, h1, h2⟩
theorem ticks_t (xs : List Nat) (x0 : Int) (x1 x2 x3 x4 x5 x6 x7 x8 : Nat) (x9 : Int) (hx : flHas .f32 x1) (h : xs.length < 1099511627776) :
    (∃ c, c ≠ 0 ∧ (spec_TickAll.t x0 x1 x2 x3 x4 x5 x6 x7 x8 x9 xs.length xs).get = some (0, c, []) ∧ (impl_TickAll.t x0 x1 x2 x3 x4 x5 x6 x7 x8 x9 xs.length xs).get = some (.inl c)) ∨
    (∃ n rows, List.length rows = n ∧ n ≤ 100 ∧ (spec_TickAll.t x0 x1 x2 x3 x4 x5 x6 x7 x8 x9 xs.length xs).get = some (n, 0, rows) ∧ (impl_TickAll.t x0 x1 x2 x3 x4 x5 x6 x7 x8 x9 xs.length xs).get = some (.inr (n, 0, rows))) := by
  simp only [spec_TickAll.t, impl_TickAll.t, T.get, both_eq, first_loads xs x0 x1 x2 x3 x4 x5 x6 x7 x8 x9 (by omega), code_ok x0 x1 x2 x3 x4 x5 x6 x7 x8 x9 xs (by omega), code_val x0 x1 x2 x3 x4 x5 x6 x7 x8 x9 xs (by omega), Option.isSome_some, Option.getD_some]
  cases hg : spec_l03Ok x0 x1 x2 x3 x4 x5 x6 x7 with
  | false => exact .inl ⟨1, by decide, rfl, rfl⟩
  | true =>
    cases hs : spec_l03State x8 x9 with
    | false => exact .inl ⟨1, by decide, rfl, rfl⟩
    | true =>
      cases ha : allAm xs with
      | false => exact .inl ⟨2, by decide, rfl, rfl⟩
      | true =>
        by_cases hb : (xs.length : Int) > 100
        · rw [decide_eq_true hb]
          exact .inl ⟨3, by decide, rfl, rfl⟩
        · rw [decide_eq_false hb]
          obtain ⟨rows, h1, h2, h3⟩ := ticks_r xs x0 x1 x2 x3 x4 x5 x6 x7 x8 x9 hx (gok_mill hg) (by omega)
          rw [h2, h3]
          exact .inr ⟨xs.length, rows, h1, by omega, rfl, rfl⟩

theorem same_refl (x : Nat) : laws_sameFloat x x = true := same_self (s := laws_sameFloat.t) (fun _ _ => rfl) x

theorem eqState_t (x0 : Nat) (x1 : Int) : (laws_eqState.t x0 x1 x0 x1).get = some true := by
  simp only [laws_eqState.t, T.get, open_wide, same_refl]
  simp

theorem eqS0_t : (laws_eqStateS.t 0 []).get = some true := by
  have h : laws_eqStateS.l4.r (0, (0 : Int), []) () = some () := iter_run (step := laws_eqStateS.l4.st (0, (0 : Int), [])) (f := fun _ => ()) (e := ()) (n := 0) (N := manyRounds) (k := 0) (many_lt (by omega)) (fun i hi => absurd hi (by omega)) rfl
  simp only [laws_eqStateS.t, T.get, h]
  rfl
theorem markS0_t : (laws_markStateS.t 1).get = some 1 := by
  have h : laws_markStateS.l2.r (1, (0 : Int)) () = some () := iter_run (step := laws_markStateS.l2.st (1, (0 : Int))) (f := fun _ => ()) (e := ()) (n := 0) (N := manyRounds) (k := 0) (many_lt (by omega)) (fun i hi => absurd hi (by omega)) rfl
  simp only [laws_markStateS.t, T.get, h]
  rfl
theorem heldS0_t : (laws_heldStateS.t 1).get = some 1 := by
  have h : laws_heldStateS.l2.r (1, (0 : Int)) () = some () := iter_run (step := laws_heldStateS.l2.st (1, (0 : Int))) (f := fun _ => ()) (e := ()) (n := 0) (N := manyRounds) (k := 0) (many_lt (by omega)) (fun i hi => absurd hi (by omega)) rfl
  simp only [laws_heldStateS.t, T.get, h]
  rfl
theorem eqS_t (rows : List (List Sc)) (h : rows.length < 1099511627776) : (laws_eqStateS_w1.t rows.length rows.length rows rows).get = some true := by
  have h1 : laws_eqStateS_w1.l4.r (rows.length, rows.length, rows, rows) 0 = some (.inr ()) := by
    refine iter_count rows.length (by omega) (fun i hi => ?_) ?_
    · simp only [laws_eqStateS_w1.l4.st, laws_eqStateS_w1.l4.s, T.get, bounds_nat, ble_decide, Int.toNat_natCast, show ∀ x y, laws_eqState.ok x y x y = true from fun x y => T.ok_of_get (eqState_t x y), show ∀ x y, laws_eqState x y x y = true from fun x y => T.val_of_get (eqState_t x y)]
      rw [decide_eq_true (by omega), decide_eq_true hi, decide_eq_true (by omega)]
      rfl
    · simp only [laws_eqStateS_w1.l4.st, laws_eqStateS_w1.l4.s, T.get]
      rw [decide_eq_false (by omega)]
      rfl
  simp only [laws_eqStateS_w1.t, T.get, h1]
  simp
/-- The first i states are marked, from k on. -/
def markedS (k n i : Nat) (ys : List (List Sc)) : Prop := ys.length = n ∧ ∀ j, j < i → List.getD (ys.getD j []) 0 (.n 0) = .n (fofint .f32 ((k + 2 * j : Nat) : Int)) ∧ List.getD (ys.getD j []) 1 (.n 0) = .i (IntKind.wrap .i8 ((k + 2 * j + 1 : Nat) : Int))
theorem markS_t (xs : List (List Sc)) (k : Nat) (hk : k + 2 * xs.length < 9223372036854775807) : ∃ ys, (laws_markStateS_w1.t xs.length (k : Int) xs).get = some (((k + 2 * xs.length : Nat) : Int), ys) ∧ markedS k xs.length xs.length ys := by
  obtain ⟨ys, h1, h2⟩ := mark_ends (step := laws_markStateS_w1.l2.st xs.length) (markedS k xs.length) k 2 xs.length (by omega) xs ⟨rfl, fun j hj => by omega⟩ (fun i ys hi hQ => by
    obtain ⟨hl, hm⟩ := hQ
    have e1 : IntKind.wrap .i64 (((k + 2 * i : Nat) : Int) + 1) = ((k + 2 * i + 1 : Nat) : Int) := wrap64_succ (by omega)
    have e2 : IntKind.wrap .i64 (((k + 2 * i + 1 : Nat) : Int) + 1) = ((k + 2 * (i + 1) : Nat) : Int) := wrap64_of (by omega) (by omega)
    refine ⟨ys.set i (setCol (setCol (ys.getD i []) 0 (.n (fofint .f32 ((k + 2 * i : Nat) : Int)))) 1 (.i (IntKind.wrap .i8 ((k + 2 * i + 1 : Nat) : Int)))), ?_, ⟨by rw [List.length_set]; exact hl, fun j hj => ?_⟩⟩
    · simp only [laws_markStateS_w1.l2.st, laws_markStateS_w1.l2.s, T.get, bounds_nat, ble_decide, Int.toNat_natCast, List.length_set, hl, e1, e2, List.set_set, lD_same _ _ _ _ (show i < ys.length by omega)]
      rw [decide_eq_true (by omega : (i : Int) < (xs.length : Int)), decide_eq_true hi, decide_eq_true (by omega : i + 1 ≤ xs.length), wrap64_succ (by omega)]
      rfl
    · rcases Nat.lt_or_ge j i with h | h
      · rw [lD_ne _ _ _ _ _ (by omega)]
        exact hm j h
      · have : j = i := by omega
        subst this
        rw [lD_same _ _ _ _ (by omega), setCol_same, setCol_ne _ _ _ _ (by omega), setCol_same]
        exact ⟨rfl, rfl⟩) (fun ys hQ => by
    simp only [laws_markStateS_w1.l2.st, laws_markStateS_w1.l2.s, T.get]
    rw [decide_eq_false (by omega)]
    rfl)
  refine ⟨ys, ?_, h2⟩
  have h3 : laws_markStateS_w1.l2.r xs.length ((k : Int), (0 : Int), xs) = some (((k + 2 * xs.length : Nat) : Int), ys) := h1
  simp only [laws_markStateS_w1.t, T.get, h3]
  rfl
theorem heldS_t (n k : Nat) (ys : List (List Sc)) (hk : k + 2 * n < 9223372036854775807) (h : markedS k n n ys) : (laws_heldStateS_w1.t n (k : Int) ys).get = some (((k + 2 * n : Nat) : Int)) := by
  obtain ⟨hl, hm⟩ := h
  have h3 : laws_heldStateS_w1.l2.r (n, ys) ((k : Int), (0 : Int)) = some (.inr (((k + 2 * n : Nat) : Int))) := by
    refine held_run k 2 n (by omega) (fun i hi => ?_) ?_
    · have e1 : IntKind.wrap .i64 (((k + 2 * i : Nat) : Int) + 1) = ((k + 2 * i + 1 : Nat) : Int) := wrap64_succ (by omega)
      have e2 : IntKind.wrap .i64 (((k + 2 * i + 1 : Nat) : Int) + 1) = ((k + 2 * (i + 1) : Nat) : Int) := wrap64_of (by omega) (by omega)
      simp only [laws_heldStateS_w1.l2.st, laws_heldStateS_w1.l2.s, T.get, bounds_nat, ble_decide, Int.toNat_natCast, hl, (hm i hi).1, (hm i hi).2, Sc.nat, Sc.int, ofint_fne, e1, e2, bne_self_eq_false]
      rw [decide_eq_true (by omega : (i : Int) < (n : Int)), decide_eq_true hi, decide_eq_true (by omega : i + 1 ≤ n), wrap64_succ (by omega)]
      rfl
    · simp only [laws_heldStateS_w1.l2.st, laws_heldStateS_w1.l2.s, T.get]
      rw [decide_eq_false (by omega)]
      rfl
  simp only [laws_heldStateS_w1.t, T.get, h3]
  rfl

theorem to_r (xs : List Nat) (h : xs.length < 1099511627776) : laws_toFloat32S.l3.r (xs.length, xs.length, xs) ((0 : Int), List.replicate (xs.length * 1) 0) = some xs := copy_run 0 xs (by omega)
theorem to_t (xs : List Nat) (h : xs.length < 1099511627776) : (laws_toFloat32S.t xs.length xs).get = some (xs.length, xs) := by
  simp only [laws_toFloat32S.t, T.get, Int.toNat_natCast, to_r xs h, Option.isSome_some, cond_true, Option.getD_some]
  rw [decide_eq_true (by omega), decide_eq_true (by omega), decide_eq_true (by omega), decide_eq_true (by omega)]
  rfl
theorem to_ok (xs : List Nat) (h : xs.length < 1099511627776) : laws_toFloat32S.ok xs.length xs = true := T.ok_of_get (to_t xs h)
theorem to_eq (xs : List Nat) (h : xs.length < 1099511627776) : laws_toFloat32S xs.length xs = (xs.length, xs) := T.val_of_get (to_t xs h)

theorem eq_r (xs : List Nat) (h : xs.length < 1099511627776) : laws_eqFloat32S.l4.r (xs.length, xs.length, xs, xs) 0 = some (.inr ()) := by
  refine iter_count xs.length (by omega) (fun i hi => ?_) ?_
  · simp only [laws_eqFloat32S.l4.st, laws_eqFloat32S.l4.s, T.get, bounds_nat, ble_decide, open_wide, same_refl, Int.toNat_natCast, Nat.mul_one]
    rw [decide_eq_true (by omega), decide_eq_true hi, decide_eq_true (by omega)]
    rfl
  · simp only [laws_eqFloat32S.l4.st, laws_eqFloat32S.l4.s, T.get]
    rw [decide_eq_false (by omega)]
    rfl
theorem eqF_t (xs : List Nat) (h : xs.length < 1099511627776) : (laws_eqFloat32S.t xs.length xs.length xs xs).get = some true := by
  simp only [laws_eqFloat32S.t, T.get, eq_r xs h]
  simp
theorem eqF_ok (xs : List Nat) (h : xs.length < 1099511627776) : laws_eqFloat32S.ok xs.length xs.length xs xs = true := T.ok_of_get (eqF_t xs h)
theorem eqF_eq (xs : List Nat) (h : xs.length < 1099511627776) : laws_eqFloat32S xs.length xs.length xs xs = true := T.val_of_get (eqF_t xs h)

/-- The first i numbers are marked, from k on. -/
def markedF (k n i : Nat) (ys : List Nat) : Prop := ys.length = n ∧ ∀ j, j < i → ys.getD j 0 = fofint .f32 ((k + j : Nat) : Int)
theorem markF_t (xs : List Nat) (k : Nat) (hk : k + xs.length < 9223372036854775807) : ∃ ys, (laws_markFloat32S.t xs.length (k : Int) xs).get = some (((k + xs.length : Nat) : Int), ys) ∧ markedF k xs.length xs.length ys := by
  obtain ⟨ys, h1, h2⟩ := mark_ends (step := laws_markFloat32S.l2.st xs.length) (markedF k xs.length) k 1 xs.length (by omega) xs ⟨rfl, fun j hj => by omega⟩ (fun i ys hi hQ => by
    obtain ⟨hl, hm⟩ := hQ
    refine ⟨ys.set i (fofint .f32 ((k + i : Nat) : Int)), ?_, ⟨by rw [List.length_set]; exact hl, fun j hj => ?_⟩⟩
    · simp only [laws_markFloat32S.l2.st, laws_markFloat32S.l2.s, T.get, bounds_nat, ble_decide, Int.toNat_natCast, Nat.mul_one, Nat.one_mul, hl]
      rw [decide_eq_true (by omega : (i : Int) < (xs.length : Int)), decide_eq_true hi, decide_eq_true (by omega : i + 1 ≤ xs.length), wrap64_succ (by omega), wrap64_succ (by omega)]
      rfl
    · rcases Nat.lt_or_ge j i with h | h
      · rw [lD_ne _ _ _ _ _ (by omega)]
        exact hm j h
      · have : j = i := by omega
        subst this
        exact lD_same _ _ _ _ (by omega)) (fun ys hQ => by
    simp only [laws_markFloat32S.l2.st, laws_markFloat32S.l2.s, T.get]
    rw [decide_eq_false (by omega)]
    rfl)
  refine ⟨ys, ?_, h2⟩
  have h3 : laws_markFloat32S.l2.r xs.length ((k : Int), (0 : Int), xs) = some (((k + xs.length : Nat) : Int), ys) := by
    rw [Nat.one_mul] at h1
    exact h1
  simp only [laws_markFloat32S.t, T.get, h3]
  rfl

/- FACTS -/
theorem law_holds (x0 : Int) (x1 x2 x3 x4 x5 x6 x7 x8 : Nat) (x9 : Int) (xs : List Nat) (f0 : IntKind.min .i16 ≤ x0 ∧ x0 ≤ IntKind.max .i16) (f1 : flHas .f32 x1) (f2 : flHas .f32 x2) (f3 : flHas .f32 x3) (f4 : flHas .f32 x4) (f5 : flHas .f32 x5) (f6 : flHas .f32 x6) (f7 : flHas .f32 x7) (f8 : flHas .f32 x8) (f9 : IntKind.min .i8 ≤ x9 ∧ x9 ≤ IntKind.max .i8) (f10 : ∀ x ∈ xs, flHas .f32 x) (y10 : List.length xs ≤ maxLen) : (laws_FnExactTickAll.t x0 x1 x2 x3 x4 x5 x6 x7 x8 x9 xs.length xs).get = some true := by
  simp only [laws_FnExactTickAll.t, T.get]
  by_cases hb : (xs.length : Int) > 1048576
  · rw [decide_eq_true hb]
    rfl
  · rw [decide_eq_false hb]
    have hl : xs.length < 1099511627776 := by omega
    obtain ⟨ms, hm1, hm2⟩ := markF_t xs 1 (by omega)
    have hm1' : (laws_markFloat32S.t xs.length (1 : Int) xs).get = some (((1 + xs.length : Nat) : Int), ms) := hm1
    have hneg : decide (((1 + xs.length : Nat) : Int) < 0) = false := decide_eq_false (by omega)
    simp only [to_ok xs hl, to_eq xs hl, gov_eq, state_eq, eqF_ok xs hl, eqF_eq xs hl, show laws_markFloat32S.ok xs.length (1 : Int) xs = true from T.ok_of_get (hm1'), show laws_markFloat32S xs.length (1 : Int) xs = _ from T.val_of_get (hm1'), hneg, cond_true, cond_false]
    rcases ticks_t xs x0 x1 x2 x3 x4 x5 x6 x7 x8 x9 f1 hl with ⟨c, hc, h1, h2⟩ | ⟨n, rows, hn, hn2, h1, h2⟩
    · simp only [show spec_TickAll.ok x0 x1 x2 x3 x4 x5 x6 x7 x8 x9 xs.length xs = true from T.ok_of_get (h1), show spec_TickAll x0 x1 x2 x3 x4 x5 x6 x7 x8 x9 xs.length xs = _ from T.val_of_get (h1), show impl_TickAll.ok x0 x1 x2 x3 x4 x5 x6 x7 x8 x9 xs.length xs = true from T.ok_of_get (h2), show impl_TickAll x0 x1 x2 x3 x4 x5 x6 x7 x8 x9 xs.length xs = _ from T.val_of_get (h2), show laws_eqStateS.ok 0 [] = true from T.ok_of_get (eqS0_t), show laws_eqStateS 0 [] = _ from T.val_of_get (eqS0_t), show laws_markStateS.ok 1 = true from T.ok_of_get (markS0_t), show laws_markStateS 1 = _ from T.val_of_get (markS0_t), show laws_heldStateS.ok 1 = true from T.ok_of_get (heldS0_t), show laws_heldStateS 1 = _ from T.val_of_get (heldS0_t), getLeftD, Sum.isLeft]
      simp
    · subst hn
      obtain ⟨ys, h3, h4⟩ := markS_t rows 1 (by omega)
      have h3' : (laws_markStateS_w1.t rows.length (1 : Int) rows).get = some (((1 + 2 * rows.length : Nat) : Int), ys) := h3
      have h5' : (laws_heldStateS_w1.t rows.length (1 : Int) ys).get = some (((1 + 2 * rows.length : Nat) : Int)) := heldS_t rows.length 1 ys (by omega) h4
      have hneg2 : decide (((1 + 2 * rows.length : Nat) : Int) < 0) = false := decide_eq_false (by omega)
      simp only [show spec_TickAll.ok x0 x1 x2 x3 x4 x5 x6 x7 x8 x9 xs.length xs = true from T.ok_of_get (h1), show spec_TickAll x0 x1 x2 x3 x4 x5 x6 x7 x8 x9 xs.length xs = _ from T.val_of_get (h1), show impl_TickAll.ok x0 x1 x2 x3 x4 x5 x6 x7 x8 x9 xs.length xs = true from T.ok_of_get (h2), show impl_TickAll x0 x1 x2 x3 x4 x5 x6 x7 x8 x9 xs.length xs = _ from T.val_of_get (h2), getRightD, Sum.isLeft, show laws_eqStateS_w1.ok rows.length rows.length rows rows = true from T.ok_of_get (eqS_t rows (by omega)), show laws_eqStateS_w1 rows.length rows.length rows rows = _ from T.val_of_get (eqS_t rows (by omega)), show laws_markStateS_w1.ok rows.length (1 : Int) rows = true from T.ok_of_get (h3'), show laws_markStateS_w1 rows.length (1 : Int) rows = _ from T.val_of_get (h3'), show laws_heldStateS_w1.ok rows.length (1 : Int) ys = true from T.ok_of_get (h5'), show laws_heldStateS_w1 rows.length (1 : Int) ys = _ from T.val_of_get (h5'), hneg2]
      simp

theorem law_plain (x0_0 : Int) (x0_1 : Nat) (x0_2 : Nat) (x0_3 : Nat) (x0_4 : Nat) (x0_5 : Nat) (x0_6 : Nat) (x0_7 : Nat) (x1_0 : Nat) (x1_1 : Int) (xs2 : List Nat) (f0_0 : (IntKind.min .i16 ≤ x0_0 ∧ x0_0 ≤ IntKind.max .i16)) (f0_1 : flHas .f32 x0_1) (f0_2 : flHas .f32 x0_2) (f0_3 : flHas .f32 x0_3) (f0_4 : flHas .f32 x0_4) (f0_5 : flHas .f32 x0_5) (f0_6 : flHas .f32 x0_6) (f0_7 : flHas .f32 x0_7) (f1_0 : flHas .f32 x1_0) (f1_1 : (IntKind.min .i8 ≤ x1_1 ∧ x1_1 ≤ IntKind.max .i8)) (f2 : ∀ x ∈ xs2, flHas .f32 x) (y2 : List.length xs2 ≤ maxLen) : (laws_FnExactTickAll.tr (x0_0, x0_1, x0_2, x0_3, x0_4, x0_5, x0_6, x0_7, x1_0, x1_1, xs2.length, xs2)).get = some true := law_holds x0_0 x0_1 x0_2 x0_3 x0_4 x0_5 x0_6 x0_7 x1_0 x1_1 xs2 f0_0 f0_1 f0_2 f0_3 f0_4 f0_5 f0_6 f0_7 f1_0 f1_1 f2 y2
theorem own : ownKnob Try.prog.godebug = none := by kernel_rfl
theorem laidOut : laidOutB Try.prog = true := by kernel_rfl
theorem ground {W : World} (h : W.ShapedOpen Try.prog) : Sx.Ground W := ground_of (by kernel_rfl) h
theorem lifted (os : Os) (started : os.Started) (H : Type) (enc : TypeId × Value → H) :
    ReturnsInHanded {} Try.checked os 14 .any (Rows.fnExactTickAllSpec.pre6 enc Try.prog Try.f14 Rows.fnExactTickAllRow.domain false) (Rows.fnExactTickAllSpec.post enc Try.prog Try.f14 false true false false) := by
  refine returnsInHanded_of_change_shaped (C := Try.checked) own started (by kernel_rfl) Try.func14
    (ChangeSpec.witness6 (enc := enc) (C := Try.checked) false ⟨#[], #[.agg #[.int .i16 0, .float .f32 0, .float .f32 0, .float .f32 0, .float .f32 0, .float .f32 0, .float .f32 0, .float .f32 0], .agg #[.float .f32 0, .int .i8 0], .slice none 0 0], []⟩ 8 (by kernel_rfl) (by kernel_rfl) (by kernel_rfl) (by kernel_rfl)) ?_
  intro W base args ds gs before hval0 hW hcnd _ hsh _
  have hG := ground hsh
  have hval : ∀ (j : Nat) t v, Try.f14.params[j]? = some t → args[j]? = some v → Value.okWide Try.prog W .any base t v := hval0
  have hW' := hW
  obtain ⟨p, q, hA0, hV, rfl, hfz, hnd⟩ := hW
  have hA : DataW.TrodAll enc Try.prog W 0 (fun _ => true) true Try.f14.params.toList args.toList ds p := hA0
  rw [Try.params14] at hA hval
  obtain ⟨v0, vs0, d0, ds0, p0, q0, hargs, rfl, rfl, h0, r0⟩ := trodAll_cons hA
  obtain ⟨v1, vs1, d1, ds1, p1, q1, rfl, rfl, rfl, h1, r1⟩ := trodAll_cons r0
  obtain ⟨v2, vs2, d2, ds2, p2, q2, rfl, rfl, rfl, h2, r2⟩ := trodAll_cons r1
  obtain ⟨rfl, rfl, rfl⟩ := trodAll_nil r2
  obtain rfl : args = #[v0, v1, v2] := by cases args; simp_all
  obtain ⟨rfl, rfl⟩ := trodVars_none hV
  have k0 := h0
  have lt0 : ∀ x ∈ p0, x.block < W.heap.size := by obtain ⟨m, hm⟩ := k0; exact DataW.trod_lt m _ _ _ hm
  obtain ⟨cs0, rfl, hc0⟩ := open_row (ts := [22, 23, 23, 23, 23, 23, 23, 23]) Try.underlying38 rfl (by kernel_rfl) (by kernel_rfl) (hval 0 38 v0 rfl rfl)
  obtain ⟨u0_0, m0_0, e0, g0_0, hc0⟩ := hc0
  obtain ⟨x0_0, r0_0, f0_0⟩ := sc_it Try.underlying22 g0_0
  obtain ⟨u0_1, m0_1, rfl, g0_1, hc0⟩ := hc0
  obtain ⟨x0_1, r0_1, f0_1⟩ := sc_fl Try.underlying23 g0_1
  obtain ⟨u0_2, m0_2, rfl, g0_2, hc0⟩ := hc0
  obtain ⟨x0_2, r0_2, f0_2⟩ := sc_fl Try.underlying23 g0_2
  obtain ⟨u0_3, m0_3, rfl, g0_3, hc0⟩ := hc0
  obtain ⟨x0_3, r0_3, f0_3⟩ := sc_fl Try.underlying23 g0_3
  obtain ⟨u0_4, m0_4, rfl, g0_4, hc0⟩ := hc0
  obtain ⟨x0_4, r0_4, f0_4⟩ := sc_fl Try.underlying23 g0_4
  obtain ⟨u0_5, m0_5, rfl, g0_5, hc0⟩ := hc0
  obtain ⟨x0_5, r0_5, f0_5⟩ := sc_fl Try.underlying23 g0_5
  obtain ⟨u0_6, m0_6, rfl, g0_6, hc0⟩ := hc0
  obtain ⟨x0_6, r0_6, f0_6⟩ := sc_fl Try.underlying23 g0_6
  obtain ⟨u0_7, m0_7, rfl, g0_7, hc0⟩ := hc0
  obtain ⟨x0_7, r0_7, f0_7⟩ := sc_fl Try.underlying23 g0_7
  obtain rfl := hc0
  have k1 := h1
  have lt1 : ∀ x ∈ p1, x.block < W.heap.size := by obtain ⟨m, hm⟩ := k1; exact DataW.trod_lt m _ _ _ hm
  obtain ⟨cs1, rfl, hc1⟩ := open_row (ts := [23, 39]) Try.underlying41 rfl (by kernel_rfl) (by kernel_rfl) (hval 1 41 v1 rfl rfl)
  obtain ⟨u1_0, m1_0, e1, g1_0, hc1⟩ := hc1
  obtain ⟨x1_0, r1_0, f1_0⟩ := sc_fl Try.underlying23 g1_0
  obtain ⟨u1_1, m1_1, rfl, g1_1, hc1⟩ := hc1
  obtain ⟨x1_1, r1_1, f1_1⟩ := sc_it Try.underlying39 g1_1
  obtain rfl := hc1
  have k2 := h2
  have lt2 : ∀ x ∈ p2, x.block < W.heap.size := by obtain ⟨m, hm⟩ := k2; exact DataW.trod_lt m _ _ _ hm
  obtain ⟨l2, xs2, w2, r2, f2, y2⟩ := open_fls Try.underlying59 Try.underlying23 (by kernel_rfl) hG (hval 2 59 v2 rfl rfl) k2
  clear hA0 hval0
  refine (laws_FnExactTickAll.walk (x0_0, x0_1, x0_2, x0_3, x0_4, x0_5, x0_6, x0_7, x1_0, x1_1, xs2.length, xs2) (law_plain x0_0 x0_1 x0_2 x0_3 x0_4 x0_5 x0_6 x0_7 x1_0 x1_1 xs2 f0_0 f0_1 f0_2 f0_3 f0_4 f0_5 f0_6 f0_7 f1_0 f1_1 f2 y2) (ρ := fun i => (lget ([(l2, .fs .f32 xs2)] : List (Sx.Loc × Cells)) i).map (·.1)) (Rs_cons' (agg_R (by rw [e0]; exact (Rs_cons' (r0_0 _) (Rs_cons' (r0_1 _) (Rs_cons' (r0_2 _) (Rs_cons' (r0_3 _) (Rs_cons' (r0_4 _) (Rs_cons' (r0_5 _) (Rs_cons' (r0_6 _) (Rs_cons' (r0_7 _) Rs_nil')))))))))) (Rs_cons' (agg_R (by rw [e1]; exact (Rs_cons' (r1_0 _) (Rs_cons' (r1_1 _) Rs_nil')))) (Rs_cons' (r2 _ 0 rfl) Rs_nil'))) (HpR.ofRo [(l2, .fs .f32 xs2)] ((List.forall_mem_cons.2 ⟨w2, List.forall_mem_nil _⟩)))).mono fun e W' ⟨he, bel⟩ => ?_
  subst he
  exact ⟨_, rfl, _, _, _, [], _, [], hW', trodAll_mk1 (shut_bool Try.underlying4 _), (trodAll_cons_mk (Below.trod laidOut (by kernel_rfl) (of_decide_eq_true (by kernel_rfl)) k0 bel lt0) (trodAll_cons_mk (Below.trod laidOut (by kernel_rfl) (of_decide_eq_true (by kernel_rfl)) k1 bel lt1) (trodAll_cons_mk (Below.trod laidOut (by kernel_rfl) (of_decide_eq_true (by kernel_rfl)) k2 bel lt2) trodAll_mk0))), rfl, bel.frame _, fun h => by cases h⟩
theorem over : Rows.fnExactTickAllRow.holds Try.pinned (OpenSpec.ofChange Rows.fnExactTickAllSpec) :=
  OpenClaim.holds_of_wide 14 Try.f14 rfl rfl rfl rfl rfl rfl rfl ⟨rfl, rfl, rfl, rfl, rfl⟩ rfl rfl rfl rfl rfl (by kernel_rfl) Try.func14 (by kernel_rfl)
    (of_decide_eq_true (by kernel_rfl)) (by unfold Func.isWrapper; first | (rw [if_pos (by decide +kernel)]; kernel_rfl) | (rw [if_neg (by decide +kernel)]; exact ⟨rfl, rfl⟩))
    (fun os started H enc _ => lifted os started H enc)
theorem proved : Rows.FnExactTickAllSaid := over
end Go.Proofs.Ytnggljioidchdaa
