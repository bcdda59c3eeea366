/- For every input the call of FnExactOffBy returns true, and each argument reads afterwards as it read before; there is no condition. -/
import Derived.Test.YtlnfakbmigbdbaaWFnExactOffBy
import Derived.Test.YtlnfakbmigbdbaaRows
import Derived.WalkKit
import Derived.ProofKit
import Derived.OpenShut
import Derived.ShutString
import Derived.ChangeOld
import Derived.Below
import Derived.Carry
import Derived.HandedShaped
namespace Go.Proofs.Ytlnfakbmigbdbaa
open Go Go.RowKit Sx
open Go.ChangeShapes Go.WideShapes Go.ChangeAt
set_option linter.unusedVariables false
set_option linter.unusedSimpArgs false
set_option maxRecDepth 100000

theorem same_refl (x : Nat) : laws_sameFloat x x = true := same_self (s := laws_sameFloat.t) (fun _ _ => rfl) x
theorem size_eq (x : Nat) (h : flHas .f32 x) : impl_size x = spec_l01Size x := by
  simp only [impl_size, impl_size.t, spec_l01Size, spec_l01Size.t, T.val]
  cases hl : flt .f32 x 0 with
  | false => rfl
  | true => exact sub_zero_neg .f32 x h hl
theorem law_holds (x0 x1 : Nat) : (laws_FnExactOffBy.t x0 x1).get = some true := by
  have e : impl_OffBy x0 x1 = spec_OffBy x0 x1 := by
    simp only [impl_OffBy, impl_OffBy.t, spec_OffBy, spec_OffBy.t, impl_IsPlain, impl_IsPlain.t, impl_isTarget, impl_isTarget.t, impl_between, impl_between.t, spec_l05Target, spec_l05Target.t, spec_l01Plain, spec_l01Plain.t,
      impl_offBy, impl_offBy.t, spec_l05Off, spec_l05Off.t, T.val, fge_flip, size_eq _ (fsub_has _ _ _)]
    generalize (bif fle .f32 3380609024 x0 then fle .f32 x0 1233125376 else false) = p
    generalize (bif fle .f32 981467136 x1 then fle .f32 x1 1149239296 else false) = q
    cases p <;> cases q <;> rfl
  simp only [laws_FnExactOffBy.t, T.get, open_wide, e, same_refl]
  simp

theorem law_plain (x0 : Nat) (x1 : Nat) (f0 : flHas .f32 x0) (f1 : flHas .f32 x1) : (laws_FnExactOffBy.tr (x0, x1)).get = some true := law_holds x0 x1
theorem own : ownKnob Try.prog.godebug = none := by kernel_rfl
theorem laidOut : laidOutB Try.prog = true := by kernel_rfl
theorem lifted (os : Os) (started : os.Started) (H : Type) (enc : TypeId × Value → H) :
    ReturnsInHanded {} Try.checked os 7 .any (Rows.fnExactOffBySpec.pre6 enc Try.prog Try.f7 Rows.fnExactOffByRow.domain false) (Rows.fnExactOffBySpec.post enc Try.prog Try.f7 false true false false) := by
  refine returnsInHanded_of_change (C := Try.checked) own started (by kernel_rfl) Try.func7
    (ChangeSpec.witness6 (enc := enc) (C := Try.checked) false ⟨#[], #[.float .f32 0, .float .f32 0], []⟩ 8 (by kernel_rfl) (by kernel_rfl) (by kernel_rfl) (by kernel_rfl)) ?_
  intro W base args ds gs before hval0 hW hcnd _
  have hval : ∀ (j : Nat) t v, Try.f7.params[j]? = some t → args[j]? = some v → Value.okWide Try.prog W .any base t v := hval0
  have hW' := hW
  obtain ⟨p, q, hA0, hV, rfl, hfz, hnd⟩ := hW
  have hA : DataW.TrodAll enc Try.prog W 0 (fun _ => true) true Try.f7.params.toList args.toList ds p := hA0
  rw [Try.params7] at hA hval
  obtain ⟨v0, vs0, d0, ds0, p0, q0, hargs, rfl, rfl, h0, r0⟩ := trodAll_cons hA
  obtain ⟨v1, vs1, d1, ds1, p1, q1, rfl, rfl, rfl, h1, r1⟩ := trodAll_cons r0
  obtain ⟨rfl, rfl, rfl⟩ := trodAll_nil r1
  obtain rfl : args = #[v0, v1] := by cases args; simp_all
  obtain ⟨rfl, rfl⟩ := trodVars_none hV
  have k0 := h0
  have lt0 : ∀ x ∈ p0, x.block < W.heap.size := by obtain ⟨m, hm⟩ := k0; exact DataW.trod_lt m _ _ _ hm
  obtain ⟨x0, r0, f0⟩ := sc_fl Try.underlying22 (cell_of Try.underlying22 rfl (hval 0 22 v0 rfl rfl))
  have k1 := h1
  have lt1 : ∀ x ∈ p1, x.block < W.heap.size := by obtain ⟨m, hm⟩ := k1; exact DataW.trod_lt m _ _ _ hm
  obtain ⟨x1, r1, f1⟩ := sc_fl Try.underlying22 (cell_of Try.underlying22 rfl (hval 1 22 v1 rfl rfl))
  clear hA0 hval0
  refine (laws_FnExactOffBy.walk (x0, x1) (law_plain x0 x1 f0 f1) (ρ := fun i => (lget ([] : List (Sx.Loc × Cells)) i).map (·.1)) (Rs_cons' (r0 _) (Rs_cons' (r1 _) Rs_nil')) (HpR.ofRo [] (List.forall_mem_nil _))).mono fun e W' ⟨he, bel⟩ => ?_
  subst he
  exact ⟨_, rfl, _, _, _, [], _, [], hW', trodAll_mk1 (shut_bool Try.underlying4 _), (trodAll_cons_mk (Below.trod laidOut (by kernel_rfl) (of_decide_eq_true (by kernel_rfl)) k0 bel lt0) (trodAll_cons_mk (Below.trod laidOut (by kernel_rfl) (of_decide_eq_true (by kernel_rfl)) k1 bel lt1) trodAll_mk0)), rfl, bel.frame _, fun h => by cases h⟩
theorem over : Rows.fnExactOffByRow.holds Try.pinned (OpenSpec.ofChange Rows.fnExactOffBySpec) :=
  OpenClaim.holds_of_wide 7 Try.f7 rfl rfl rfl rfl rfl rfl rfl ⟨rfl, rfl, rfl, rfl, rfl⟩ rfl rfl rfl rfl rfl (by kernel_rfl) Try.func7 (by kernel_rfl)
    (of_decide_eq_true (by kernel_rfl)) (by unfold Func.isWrapper; first | (rw [if_pos (by decide +kernel)]; kernel_rfl) | (rw [if_neg (by decide +kernel)]; exact ⟨rfl, rfl⟩))
    (fun os started H enc _ => lifted os started H enc)
theorem proved : Rows.FnExactOffBySaid := over
end Go.Proofs.Ytlnfakbmigbdbaa
