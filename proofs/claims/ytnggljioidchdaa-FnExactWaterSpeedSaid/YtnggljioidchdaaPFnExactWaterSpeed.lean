/- For every input the call of FnExactWaterSpeed returns true, and each argument reads afterwards as it read before; there is no condition. -/
import Derived.Test.YtnggljioidchdaaWFnExactWaterSpeed
import Derived.Test.YtnggljioidchdaaSxQ
import Derived.Test.YtnggljioidchdaaRows
import Derived.WalkKit
import Derived.ProofKit
import Derived.OpenShut
import Derived.ShutString
import Derived.ChangeOld
import Derived.Below
import Derived.Carry
import Derived.HandedShaped
namespace Go.Proofs.Ytnggljioidchdaa
open Go Go.RowKit Sx
open Go.ChangeShapes Go.WideShapes Go.ChangeAt
set_option linter.unusedVariables false
set_option linter.unusedSimpArgs false
set_option maxRecDepth 100000

-- lies in the core (SxQ)

theorem length_eq (x : Nat) : impl_IsLength x = spec_l03Length x := by
  simp only [impl_IsLength, impl_IsLength.t, impl_between, impl_between.t, spec_l03Length, spec_l03Length.t, T.val, fge_flip]

theorem sqrt_eq (x : Nat) : math_Sqrt x = fsqrt x := rfl
theorem root_ok (x : Nat) : spec_l03Root.ok x = true := by
  simp only [spec_l03Root.ok, spec_l03Root.t, T.ok, sqrt_eq, open_wide, open_sqrt, cond_false]
theorem fast_ok (x : Nat) : spec_l03Fast.ok x = true := by
  simp only [spec_l03Fast.ok, spec_l03Fast.t, T.ok, root_ok, cond_true]
theorem speedw_ok (x : Nat) : impl_waterSpeed.ok x = true := by
  simp only [impl_waterSpeed.ok, impl_waterSpeed.t, T.ok, sqrt_eq, open_wide, open_sqrt, cond_false]
theorem speedw_eq (x : Nat) : impl_waterSpeed x = spec_l03Fast x := by
  simp only [impl_waterSpeed, impl_waterSpeed.t, spec_l03Fast, spec_l03Fast.t, spec_l03Root, spec_l03Root.t, T.val, sqrt_eq, open_wide, open_sqrt, root_ok, cond_false, cond_true]

theorem same_refl (x : Nat) : laws_sameFloat x x = true := same_self (s := laws_sameFloat.t) (fun _ _ => rfl) x

theorem law_holds (x0 : Nat) : (laws_FnExactWaterSpeed.t x0).get = some true := by
  have h1 : spec_WaterSpeed.ok x0 = true := by
    simp only [spec_WaterSpeed.ok, spec_WaterSpeed.t, T.ok, fast_ok, cond_true, Bool.cond_self]
  have h2 : impl_WaterSpeed.ok x0 = true := by
    simp only [impl_WaterSpeed.ok, impl_WaterSpeed.t, T.ok, speedw_ok, cond_true, Bool.cond_self]
  have h3 : impl_WaterSpeed x0 = spec_WaterSpeed x0 := by
    simp only [impl_WaterSpeed, impl_WaterSpeed.t, spec_WaterSpeed, spec_WaterSpeed.t, T.val, length_eq, speedw_ok, speedw_eq, fast_ok, cond_true]
  simp only [laws_FnExactWaterSpeed.t, T.get, h1, h2, h3, open_wide, same_refl]
  simp

theorem law_plain (x0 : Nat) (f0 : flHas .f32 x0) : (laws_FnExactWaterSpeed.tr x0).get = some true := law_holds x0
theorem own : ownKnob Try.prog.godebug = none := by kernel_rfl
theorem laidOut : laidOutB Try.prog = true := by kernel_rfl
theorem lifted (os : Os) (started : os.Started) (H : Type) (enc : TypeId × Value → H) :
    ReturnsInHanded {} Try.checked os 5 .any (Rows.fnExactWaterSpeedSpec.pre6 enc Try.prog Try.f5 Rows.fnExactWaterSpeedRow.domain false) (Rows.fnExactWaterSpeedSpec.post enc Try.prog Try.f5 false true false false) := by
  refine returnsInHanded_of_change (C := Try.checked) own started (by kernel_rfl) Try.func5
    (ChangeSpec.witness6 (enc := enc) (C := Try.checked) false ⟨#[], #[.float .f32 0], []⟩ 8 (by kernel_rfl) (by kernel_rfl) (by kernel_rfl) (by kernel_rfl)) ?_
  intro W base args ds gs before hval0 hW hcnd _
  have hval : ∀ (j : Nat) t v, Try.f5.params[j]? = some t → args[j]? = some v → Value.okWide Try.prog W .any base t v := hval0
  have hW' := hW
  obtain ⟨p, q, hA0, hV, rfl, hfz, hnd⟩ := hW
  have hA : DataW.TrodAll enc Try.prog W 0 (fun _ => true) true Try.f5.params.toList args.toList ds p := hA0
  rw [Try.params5] at hA hval
  obtain ⟨v0, vs0, d0, ds0, p0, q0, hargs, rfl, rfl, h0, r0⟩ := trodAll_cons hA
  obtain ⟨rfl, rfl, rfl⟩ := trodAll_nil r0
  obtain rfl : args = #[v0] := by cases args; simp_all
  obtain ⟨rfl, rfl⟩ := trodVars_none hV
  have k0 := h0
  have lt0 : ∀ x ∈ p0, x.block < W.heap.size := by obtain ⟨m, hm⟩ := k0; exact DataW.trod_lt m _ _ _ hm
  obtain ⟨x0, r0, f0⟩ := sc_fl Try.underlying23 (cell_of Try.underlying23 rfl (hval 0 23 v0 rfl rfl))
  clear hA0 hval0
  refine (laws_FnExactWaterSpeed.walk x0 (law_plain x0 f0) (ρ := fun i => (lget ([] : List (Sx.Loc × Cells)) i).map (·.1)) (Rs_cons' (r0 _) Rs_nil') (HpR.ofRo [] (List.forall_mem_nil _))).mono fun e W' ⟨he, bel⟩ => ?_
  subst he
  exact ⟨_, rfl, _, _, _, [], _, [], hW', trodAll_mk1 (shut_bool Try.underlying4 _), (trodAll_cons_mk (Below.trod laidOut (by kernel_rfl) (of_decide_eq_true (by kernel_rfl)) k0 bel lt0) trodAll_mk0), rfl, bel.frame _, fun h => by cases h⟩
theorem over : Rows.fnExactWaterSpeedRow.holds Try.pinned (OpenSpec.ofChange Rows.fnExactWaterSpeedSpec) :=
  OpenClaim.holds_of_wide 5 Try.f5 rfl rfl rfl rfl rfl rfl rfl ⟨rfl, rfl, rfl, rfl, rfl⟩ rfl rfl rfl rfl rfl (by kernel_rfl) Try.func5 (by kernel_rfl)
    (of_decide_eq_true (by kernel_rfl)) (by unfold Func.isWrapper; first | (rw [if_pos (by decide +kernel)]; kernel_rfl) | (rw [if_neg (by decide +kernel)]; exact ⟨rfl, rfl⟩))
    (fun os started H enc _ => lifted os started H enc)
theorem proved : Rows.FnExactWaterSpeedSaid := over
end Go.Proofs.Ytnggljioidchdaa
