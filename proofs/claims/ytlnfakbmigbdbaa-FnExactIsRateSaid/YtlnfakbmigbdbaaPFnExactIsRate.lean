/- For every input the call of FnExactIsRate returns true, and each argument reads afterwards as it read before; there is no condition. -/
import Derived.Test.YtlnfakbmigbdbaaWFnExactIsRate
import Derived.Test.YtlnfakbmigbdbaaRows
import Derived.WalkKit
import Derived.ProofKit
import Derived.OpenShut
import Derived.ShutString
import Derived.ChangeOld
import Derived.Below
import Derived.Carry
import Derived.HandedShaped
namespace Go.Proofs.Ytlnfakbmigbdbaa
open Go Go.RowKit Sx
open Go.ChangeShapes Go.WideShapes Go.ChangeAt
set_option linter.unusedVariables false
set_option linter.unusedSimpArgs false
set_option maxRecDepth 100000

theorem law_holds (x0 : Nat) : (laws_FnExactIsRate.t x0).get = some true := by
  have e : impl_IsRate x0 = spec_IsRate x0 := by
    simp only [impl_IsRate, impl_IsRate.t, spec_IsRate, spec_IsRate.t, impl_between, impl_between.t, spec_l04Rate, spec_l04Rate.t, T.val, fge_flip]
  simp only [laws_FnExactIsRate.t, e, T.get]
  simp

theorem law_plain (x0 : Nat) (f0 : flHas .f32 x0) : (laws_FnExactIsRate.tr x0).get = some true := law_holds x0
theorem own : ownKnob Try.prog.godebug = none := by kernel_rfl
theorem laidOut : laidOutB Try.prog = true := by kernel_rfl
theorem lifted (os : Os) (started : os.Started) (H : Type) (enc : TypeId × Value → H) :
    ReturnsInHanded {} Try.checked os 3 .any (Rows.fnExactIsRateSpec.pre6 enc Try.prog Try.f3 Rows.fnExactIsRateRow.domain false) (Rows.fnExactIsRateSpec.post enc Try.prog Try.f3 false true false false) := by
  refine returnsInHanded_of_change (C := Try.checked) own started (by kernel_rfl) Try.func3
    (ChangeSpec.witness6 (enc := enc) (C := Try.checked) false ⟨#[], #[.float .f32 0], []⟩ 8 (by kernel_rfl) (by kernel_rfl) (by kernel_rfl) (by kernel_rfl)) ?_
  intro W base args ds gs before hval0 hW hcnd _
  have hval : ∀ (j : Nat) t v, Try.f3.params[j]? = some t → args[j]? = some v → Value.okWide Try.prog W .any base t v := hval0
  have hW' := hW
  obtain ⟨p, q, hA0, hV, rfl, hfz, hnd⟩ := hW
  have hA : DataW.TrodAll enc Try.prog W 0 (fun _ => true) true Try.f3.params.toList args.toList ds p := hA0
  rw [Try.params3] at hA hval
  obtain ⟨v0, vs0, d0, ds0, p0, q0, hargs, rfl, rfl, h0, r0⟩ := trodAll_cons hA
  obtain ⟨rfl, rfl, rfl⟩ := trodAll_nil r0
  obtain rfl : args = #[v0] := by cases args; simp_all
  obtain ⟨rfl, rfl⟩ := trodVars_none hV
  have k0 := h0
  have lt0 : ∀ x ∈ p0, x.block < W.heap.size := by obtain ⟨m, hm⟩ := k0; exact DataW.trod_lt m _ _ _ hm
  obtain ⟨x0, r0, f0⟩ := sc_fl Try.underlying22 (cell_of Try.underlying22 rfl (hval 0 22 v0 rfl rfl))
  clear hA0 hval0
  refine (laws_FnExactIsRate.walk x0 (law_plain x0 f0) (ρ := fun i => (lget ([] : List (Sx.Loc × Cells)) i).map (·.1)) (Rs_cons' (r0 _) Rs_nil') (HpR.ofRo [] (List.forall_mem_nil _))).mono fun e W' ⟨he, bel⟩ => ?_
  subst he
  exact ⟨_, rfl, _, _, _, [], _, [], hW', trodAll_mk1 (shut_bool Try.underlying4 _), (trodAll_cons_mk (Below.trod laidOut (by kernel_rfl) (of_decide_eq_true (by kernel_rfl)) k0 bel lt0) trodAll_mk0), rfl, bel.frame _, fun h => by cases h⟩
theorem over : Rows.fnExactIsRateRow.holds Try.pinned (OpenSpec.ofChange Rows.fnExactIsRateSpec) :=
  OpenClaim.holds_of_wide 3 Try.f3 rfl rfl rfl rfl rfl rfl rfl ⟨rfl, rfl, rfl, rfl, rfl⟩ rfl rfl rfl rfl rfl (by kernel_rfl) Try.func3 (by kernel_rfl)
    (of_decide_eq_true (by kernel_rfl)) (by unfold Func.isWrapper; first | (rw [if_pos (by decide +kernel)]; kernel_rfl) | (rw [if_neg (by decide +kernel)]; exact ⟨rfl, rfl⟩))
    (fun os started H enc _ => lifted os started H enc)
theorem proved : Rows.FnExactIsRateSaid := over
end Go.Proofs.Ytlnfakbmigbdbaa
