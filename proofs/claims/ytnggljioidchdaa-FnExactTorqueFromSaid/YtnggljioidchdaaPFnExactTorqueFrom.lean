/- For every input the call of FnExactTorqueFrom returns true, and each argument reads afterwards as it read before; there is no condition. -/
import Derived.Test.YtnggljioidchdaaWFnExactTorqueFrom
import Derived.Test.YtnggljioidchdaaSxQ
import Derived.Test.YtnggljioidchdaaRows
import Derived.WalkKit
import Derived.ProofKit
import Derived.OpenShut
import Derived.ShutString
import Derived.ChangeOld
import Derived.Below
import Derived.Carry
import Derived.HandedShaped
namespace Go.Proofs.Ytnggljioidchdaa
open Go Go.RowKit Sx
open Go.ChangeShapes Go.WideShapes Go.ChangeAt
set_option linter.unusedVariables false
set_option linter.unusedSimpArgs false
set_option maxRecDepth 100000

theorem amount_eq (x : Nat) : impl_isAmount x = spec_l03Amount x := by
  simp only [impl_isAmount, impl_isAmount.t, impl_between, impl_between.t, spec_l03Amount, spec_l03Amount.t, T.val, fge_flip]

theorem within_eq (x y z : Int) : impl_within x y z = spec_l00In x y z := by
  simp only [impl_within, impl_within.t, spec_l00In, spec_l00In.t, T.val, ge_iff_le]

-- lies in the core (SxQ)

theorem length_eq (x : Nat) : impl_IsLength x = spec_l03Length x := by
  simp only [impl_IsLength, impl_IsLength.t, impl_between, impl_between.t, spec_l03Length, spec_l03Length.t, T.val, fge_flip]

theorem vmill_eq (x0 : Int) (x1 x2 : Nat) : impl_ValidMill x0 x1 x2 = spec_l03Mill x0 x1 x2 := by
  simp only [impl_ValidMill, impl_ValidMill.t, spec_l03Mill, spec_l03Mill.t, T.val, within_eq, length_eq]
theorem length_pos {x : Nat} (h : spec_l03Length x = true) : isNaN .f32 x = false ∧ ∀ s e, FloatKind.f32.format.read x ≠ .number s 0 e := by
  simp only [spec_l03Length, spec_l03Length.t, T.val, fge_flip] at h
  cases h1 : fle .f32 1031798784 x with
  | false => rw [h1] at h; cases h
  | true => exact pos_of_le (show FloatKind.f32.format.read 1031798784 = .number false 8388608 (-27) by kernel_rfl) (by omega) h1
theorem mill_pos {x0 : Int} {x1 x2 : Nat} (h : spec_l03Mill x0 x1 x2 = true) : isNaN .f32 x1 = false ∧ ∀ s e, FloatKind.f32.format.read x1 ≠ .number s 0 e := by
  refine length_pos ?_
  simp only [spec_l03Mill, spec_l03Mill.t, T.val] at h
  generalize spec_l00In (IntKind.wrap .i64 x0) 4 48 = p at h
  generalize spec_l03Length x1 = q at h ⊢
  cases p <;> cases q <;> first | rfl | cases h

theorem mill_eq (x0 : Int) (x1 x2 : Nat) : laws_toMill x0 x1 x2 = (x0, x1, x2) := rfl
theorem fill_eq (x0 : Int) (x1 x2 x3 x4 : Nat) (hx : flHas .f32 x1) (h : spec_l03Mill x0 x1 x2 = true) : impl_Mill_fill x3 x4 x0 x1 x2 = spec_l03Fill x0 x1 x2 x3 x4 := by
  obtain ⟨h1, h2⟩ := mill_pos h
  simp only [impl_Mill_fill, impl_Mill_fill.t, spec_l03Fill, spec_l03Fill.t, T.val, fmin_gen (fdiv_has .f32 _ _) (fun h => canon_nan h) hx h1 h2]

theorem speed_eq (x : Nat) : impl_isSpeed x = spec_l03Speed x := by
  simp only [impl_isSpeed, impl_isSpeed.t, impl_between, impl_between.t, spec_l03Speed, spec_l03Speed.t, T.val, fge_flip]
theorem code_eq (x0 : Int) (x1 x2 x3 x4 : Nat) : impl_millCode x0 x1 x2 x3 x4 = spec_l03Asked x0 x1 x2 x3 x4 := by
  simp only [impl_millCode, impl_millCode.t, spec_l03Asked, spec_l03Asked.t, T.val, vmill_eq, amount_eq, speed_eq]
theorem asked_ok {x0 : Int} {x1 x2 x3 x4 : Nat} (h : (spec_l03Asked x0 x1 x2 x3 x4 != 0) = false) : spec_l03Mill x0 x1 x2 = true := by
  simp only [spec_l03Asked, spec_l03Asked.t, T.val] at h
  cases hm : spec_l03Mill x0 x1 x2 with
  | true => rfl
  | false => rw [hm] at h; cases h

theorem torque_eq (x0 : Int) (x1 x2 x3 x4 : Nat) (hx : flHas .f32 x1) (h : spec_l03Mill x0 x1 x2 = true) : impl_Mill_torque x3 x4 x0 x1 x2 = spec_l03Torque x0 x1 x2 x3 x4 := by
  simp only [impl_Mill_torque, impl_Mill_torque.t, spec_l03Torque, spec_l03Torque.t, T.val, fill_eq x0 x1 x2 x3 x4 hx h]

theorem same_refl (x : Nat) : laws_sameFloat x x = true := same_self (s := laws_sameFloat.t) (fun _ _ => rfl) x

theorem orZero_eq (x : Nat) (c : Int) : impl_orZero x c = (bif c != 0 then (0, c) else (x, 0)) := by
  simp only [impl_orZero, impl_orZero.t, T.val]
theorem from_eq (x0 : Int) (x1 x2 x3 x4 : Nat) (hx : flHas .f32 x1) : impl_TorqueFrom x0 x1 x2 x3 x4 = spec_TorqueFrom x0 x1 x2 x3 x4 := by
  simp only [impl_TorqueFrom, impl_TorqueFrom.t, spec_TorqueFrom, spec_TorqueFrom.t, T.val, orZero_eq, code_eq]
  cases h : (spec_l03Asked x0 x1 x2 x3 x4 != 0) with
  | true => rfl
  | false => rw [torque_eq x0 x1 x2 x3 x4 hx (asked_ok h)]
/- FACTS -/
theorem law_holds (x0 : Int) (x1 x2 x3 x4 : Nat) (f0 : IntKind.min .i16 ≤ x0 ∧ x0 ≤ IntKind.max .i16) (f1 : flHas .f32 x1) (f2 : flHas .f32 x2) (f3 : flHas .f32 x3) (f4 : flHas .f32 x4) : (laws_FnExactTorqueFrom.t x0 x1 x2 x3 x4).get = some true := by
  simp only [laws_FnExactTorqueFrom.t, T.get, mill_eq, from_eq x0 x1 x2 x3 x4 f1, open_wide, same_refl]
  simp

theorem law_plain (x0_0 : Int) (x0_1 : Nat) (x0_2 : Nat) (x1 : Nat) (x2 : Nat) (f0_0 : (IntKind.min .i16 ≤ x0_0 ∧ x0_0 ≤ IntKind.max .i16)) (f0_1 : flHas .f32 x0_1) (f0_2 : flHas .f32 x0_2) (f1 : flHas .f32 x1) (f2 : flHas .f32 x2) : (laws_FnExactTorqueFrom.tr (x0_0, x0_1, x0_2, x1, x2)).get = some true := law_holds x0_0 x0_1 x0_2 x1 x2 f0_0 f0_1 f0_2 f1 f2
theorem own : ownKnob Try.prog.godebug = none := by kernel_rfl
theorem laidOut : laidOutB Try.prog = true := by kernel_rfl
theorem lifted (os : Os) (started : os.Started) (H : Type) (enc : TypeId × Value → H) :
    ReturnsInHanded {} Try.checked os 3 .any (Rows.fnExactTorqueFromSpec.pre6 enc Try.prog Try.f3 Rows.fnExactTorqueFromRow.domain false) (Rows.fnExactTorqueFromSpec.post enc Try.prog Try.f3 false true false false) := by
  refine returnsInHanded_of_change (C := Try.checked) own started (by kernel_rfl) Try.func3
    (ChangeSpec.witness6 (enc := enc) (C := Try.checked) false ⟨#[], #[.agg #[.int .i16 0, .float .f32 0, .float .f32 0], .float .f32 0, .float .f32 0], []⟩ 8 (by kernel_rfl) (by kernel_rfl) (by kernel_rfl) (by kernel_rfl)) ?_
  intro W base args ds gs before hval0 hW hcnd _
  have hval : ∀ (j : Nat) t v, Try.f3.params[j]? = some t → args[j]? = some v → Value.okWide Try.prog W .any base t v := hval0
  have hW' := hW
  obtain ⟨p, q, hA0, hV, rfl, hfz, hnd⟩ := hW
  have hA : DataW.TrodAll enc Try.prog W 0 (fun _ => true) true Try.f3.params.toList args.toList ds p := hA0
  rw [Try.params3] at hA hval
  obtain ⟨v0, vs0, d0, ds0, p0, q0, hargs, rfl, rfl, h0, r0⟩ := trodAll_cons hA
  obtain ⟨v1, vs1, d1, ds1, p1, q1, rfl, rfl, rfl, h1, r1⟩ := trodAll_cons r0
  obtain ⟨v2, vs2, d2, ds2, p2, q2, rfl, rfl, rfl, h2, r2⟩ := trodAll_cons r1
  obtain ⟨rfl, rfl, rfl⟩ := trodAll_nil r2
  obtain rfl : args = #[v0, v1, v2] := by cases args; simp_all
  obtain ⟨rfl, rfl⟩ := trodVars_none hV
  have k0 := h0
  have lt0 : ∀ x ∈ p0, x.block < W.heap.size := by obtain ⟨m, hm⟩ := k0; exact DataW.trod_lt m _ _ _ hm
  obtain ⟨cs0, rfl, hc0⟩ := open_row (ts := [22, 23, 23]) Try.underlying25 rfl (by kernel_rfl) (by kernel_rfl) (hval 0 25 v0 rfl rfl)
  obtain ⟨u0_0, m0_0, e0, g0_0, hc0⟩ := hc0
  obtain ⟨x0_0, r0_0, f0_0⟩ := sc_it Try.underlying22 g0_0
  obtain ⟨u0_1, m0_1, rfl, g0_1, hc0⟩ := hc0
  obtain ⟨x0_1, r0_1, f0_1⟩ := sc_fl Try.underlying23 g0_1
  obtain ⟨u0_2, m0_2, rfl, g0_2, hc0⟩ := hc0
  obtain ⟨x0_2, r0_2, f0_2⟩ := sc_fl Try.underlying23 g0_2
  obtain rfl := hc0
  have k1 := h1
  have lt1 : ∀ x ∈ p1, x.block < W.heap.size := by obtain ⟨m, hm⟩ := k1; exact DataW.trod_lt m _ _ _ hm
  obtain ⟨x1, r1, f1⟩ := sc_fl Try.underlying23 (cell_of Try.underlying23 rfl (hval 1 23 v1 rfl rfl))
  have k2 := h2
  have lt2 : ∀ x ∈ p2, x.block < W.heap.size := by obtain ⟨m, hm⟩ := k2; exact DataW.trod_lt m _ _ _ hm
  obtain ⟨x2, r2, f2⟩ := sc_fl Try.underlying23 (cell_of Try.underlying23 rfl (hval 2 23 v2 rfl rfl))
  clear hA0 hval0
  refine (laws_FnExactTorqueFrom.walk (x0_0, x0_1, x0_2, x1, x2) (law_plain x0_0 x0_1 x0_2 x1 x2 f0_0 f0_1 f0_2 f1 f2) (ρ := fun i => (lget ([] : List (Sx.Loc × Cells)) i).map (·.1)) (Rs_cons' (agg_R (by rw [e0]; exact (Rs_cons' (r0_0 _) (Rs_cons' (r0_1 _) (Rs_cons' (r0_2 _) Rs_nil'))))) (Rs_cons' (r1 _) (Rs_cons' (r2 _) Rs_nil'))) (HpR.ofRo [] (List.forall_mem_nil _))).mono fun e W' ⟨he, bel⟩ => ?_
  subst he
  exact ⟨_, rfl, _, _, _, [], _, [], hW', trodAll_mk1 (shut_bool Try.underlying4 _), (trodAll_cons_mk (Below.trod laidOut (by kernel_rfl) (of_decide_eq_true (by kernel_rfl)) k0 bel lt0) (trodAll_cons_mk (Below.trod laidOut (by kernel_rfl) (of_decide_eq_true (by kernel_rfl)) k1 bel lt1) (trodAll_cons_mk (Below.trod laidOut (by kernel_rfl) (of_decide_eq_true (by kernel_rfl)) k2 bel lt2) trodAll_mk0))), rfl, bel.frame _, fun h => by cases h⟩
theorem over : Rows.fnExactTorqueFromRow.holds Try.pinned (OpenSpec.ofChange Rows.fnExactTorqueFromSpec) :=
  OpenClaim.holds_of_wide 3 Try.f3 rfl rfl rfl rfl rfl rfl rfl ⟨rfl, rfl, rfl, rfl, rfl⟩ rfl rfl rfl rfl rfl (by kernel_rfl) Try.func3 (by kernel_rfl)
    (of_decide_eq_true (by kernel_rfl)) (by unfold Func.isWrapper; first | (rw [if_pos (by decide +kernel)]; kernel_rfl) | (rw [if_neg (by decide +kernel)]; exact ⟨rfl, rfl⟩))
    (fun os started H enc _ => lifted os started H enc)
theorem proved : Rows.FnExactTorqueFromSaid := over
end Go.Proofs.Ytnggljioidchdaa
