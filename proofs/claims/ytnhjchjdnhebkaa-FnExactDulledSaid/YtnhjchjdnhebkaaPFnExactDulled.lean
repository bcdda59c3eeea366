/- For every input the call of FnExactDulled returns true, and each argument reads afterwards as it read before; there is no condition. -/
import Derived.Test.YtnhjchjdnhebkaaWFnExactDulled
import Derived.Test.YtnhjchjdnhebkaaRows
import Derived.WalkKit
import Derived.ProofKit
import Derived.OpenShut
import Derived.ShutString
import Derived.ChangeOld
import Derived.Below
import Derived.Carry
import Derived.HandedShaped
namespace Go.Proofs.Ytnhjchjdnhebkaa
open Go Go.RowKit Sx
open Go.ChangeShapes Go.WideShapes Go.ChangeAt
set_option linter.unusedVariables false
set_option linter.unusedSimpArgs false
set_option maxRecDepth 100000

theorem rate_eq (x : Nat) : impl_IsRate x = spec_l04Rate x := by
  simp only [impl_IsRate, impl_IsRate.t, impl_between, impl_between.t, spec_l04Rate, spec_l04Rate.t, T.val, fge_flip]

theorem part_eq (x : Nat) : impl_IsPart x = spec_l01Part x := by
  simp only [impl_IsPart, impl_IsPart.t, impl_between, impl_between.t, spec_l01Part, spec_l01Part.t, T.val, fge_flip]

theorem stone_eq (x0 x1 x2 x3 : Nat) : laws_toStone x0 x1 x2 x3 = (x0, x1, x2, x3) := rfl
theorem valid_eq (x0 x1 x2 x3 : Nat) : impl_ValidStone x0 x1 x2 x3 = spec_l04Ok x0 x1 x2 x3 := by
  simp only [impl_ValidStone, impl_ValidStone.t, spec_l04Ok, spec_l04Ok.t, T.val, rate_eq, part_eq]

theorem amount_eq (x : Nat) : impl_isAmount x = spec_l03Amount x := by
  simp only [impl_isAmount, impl_isAmount.t, impl_between, impl_between.t, spec_l03Amount, spec_l03Amount.t, T.val, fge_flip]

theorem same_refl (x : Nat) : laws_sameFloat x x = true := same_self (s := laws_sameFloat.t) (fun _ _ => rfl) x

theorem eqStone_t (x0 x1 x2 x3 : Nat) : (laws_eqStone.t x0 x1 x2 x3 x0 x1 x2 x3).get = some true := by
  simp only [laws_eqStone.t, T.get, open_wide, same_refl]
  simp
theorem eqStone_ok (x0 x1 x2 x3 : Nat) : laws_eqStone.ok x0 x1 x2 x3 x0 x1 x2 x3 = true := T.ok_of_get (eqStone_t x0 x1 x2 x3)
theorem eqStone_eq (x0 x1 x2 x3 : Nat) : laws_eqStone x0 x1 x2 x3 x0 x1 x2 x3 = true := T.val_of_get (eqStone_t x0 x1 x2 x3)

theorem least_eq (x : Nat) : impl_atLeast0 x = spec_l03Least x := by
  simp only [impl_atLeast0, impl_atLeast0.t, spec_l03Least, spec_l03Least.t, T.val]
theorem dull_eq (x0 x1 x2 x3 x4 : Nat) : impl_Stone_dull x4 x0 x1 x2 x3 = spec_l04Dulled x0 x1 x2 x3 x4 := by
  simp only [impl_Stone_dull, impl_Stone_dull.t, spec_l04Dulled, spec_l04Dulled.t, T.val, least_eq]
theorem dulled_eq (x0 x1 x2 x3 x4 : Nat) : impl_Dulled x0 x1 x2 x3 x4 = spec_Dulled x0 x1 x2 x3 x4 := by
  simp only [impl_Dulled, impl_Dulled.t, spec_Dulled, spec_Dulled.t, impl_stoneCode, impl_stoneCode.t, T.val, valid_eq, amount_eq, dull_eq]
  cases spec_l04Ok x0 x1 x2 x3 <;> cases spec_l03Amount x4 <;> rfl
theorem law_holds (x0 x1 x2 x3 x4 : Nat) : (laws_FnExactDulled.t x0 x1 x2 x3 x4).get = some true := by
  simp only [laws_FnExactDulled.t, T.get, stone_eq, dulled_eq, eqStone_ok, eqStone_eq]
  simp

theorem law_plain (x0_0 : Nat) (x0_1 : Nat) (x0_2 : Nat) (x0_3 : Nat) (x1 : Nat) (f0_0 : flHas .f32 x0_0) (f0_1 : flHas .f32 x0_1) (f0_2 : flHas .f32 x0_2) (f0_3 : flHas .f32 x0_3) (f1 : flHas .f32 x1) : (laws_FnExactDulled.tr (x0_0, x0_1, x0_2, x0_3, x1)).get = some true := law_holds x0_0 x0_1 x0_2 x0_3 x1
theorem own : ownKnob Try.prog.godebug = none := by kernel_rfl
theorem laidOut : laidOutB Try.prog = true := by kernel_rfl
theorem lifted (os : Os) (started : os.Started) (H : Type) (enc : TypeId × Value → H) :
    ReturnsInHanded {} Try.checked os 11 .any (Rows.fnExactDulledSpec.pre6 enc Try.prog Try.f11 Rows.fnExactDulledRow.domain false) (Rows.fnExactDulledSpec.post enc Try.prog Try.f11 false true false false) := by
  refine returnsInHanded_of_change (C := Try.checked) own started (by kernel_rfl) Try.func11
    (ChangeSpec.witness6 (enc := enc) (C := Try.checked) false ⟨#[], #[.agg #[.float .f32 0, .float .f32 0, .float .f32 0, .float .f32 0], .float .f32 0], []⟩ 8 (by kernel_rfl) (by kernel_rfl) (by kernel_rfl) (by kernel_rfl)) ?_
  intro W base args ds gs before hval0 hW hcnd _
  have hval : ∀ (j : Nat) t v, Try.f11.params[j]? = some t → args[j]? = some v → Value.okWide Try.prog W .any base t v := hval0
  have hW' := hW
  obtain ⟨p, q, hA0, hV, rfl, hfz, hnd⟩ := hW
  have hA : DataW.TrodAll enc Try.prog W 0 (fun _ => true) true Try.f11.params.toList args.toList ds p := hA0
  rw [Try.params11] at hA hval
  obtain ⟨v0, vs0, d0, ds0, p0, q0, hargs, rfl, rfl, h0, r0⟩ := trodAll_cons hA
  obtain ⟨v1, vs1, d1, ds1, p1, q1, rfl, rfl, rfl, h1, r1⟩ := trodAll_cons r0
  obtain ⟨rfl, rfl, rfl⟩ := trodAll_nil r1
  obtain rfl : args = #[v0, v1] := by cases args; simp_all
  obtain ⟨rfl, rfl⟩ := trodVars_none hV
  have k0 := h0
  have lt0 : ∀ x ∈ p0, x.block < W.heap.size := by obtain ⟨m, hm⟩ := k0; exact DataW.trod_lt m _ _ _ hm
  obtain ⟨cs0, rfl, hc0⟩ := open_row (ts := [22, 22, 22, 22]) Try.underlying25 rfl (by kernel_rfl) (by kernel_rfl) (hval 0 25 v0 rfl rfl)
  obtain ⟨u0_0, m0_0, e0, g0_0, hc0⟩ := hc0
  obtain ⟨x0_0, r0_0, f0_0⟩ := sc_fl Try.underlying22 g0_0
  obtain ⟨u0_1, m0_1, rfl, g0_1, hc0⟩ := hc0
  obtain ⟨x0_1, r0_1, f0_1⟩ := sc_fl Try.underlying22 g0_1
  obtain ⟨u0_2, m0_2, rfl, g0_2, hc0⟩ := hc0
  obtain ⟨x0_2, r0_2, f0_2⟩ := sc_fl Try.underlying22 g0_2
  obtain ⟨u0_3, m0_3, rfl, g0_3, hc0⟩ := hc0
  obtain ⟨x0_3, r0_3, f0_3⟩ := sc_fl Try.underlying22 g0_3
  obtain rfl := hc0
  have k1 := h1
  have lt1 : ∀ x ∈ p1, x.block < W.heap.size := by obtain ⟨m, hm⟩ := k1; exact DataW.trod_lt m _ _ _ hm
  obtain ⟨x1, r1, f1⟩ := sc_fl Try.underlying22 (cell_of Try.underlying22 rfl (hval 1 22 v1 rfl rfl))
  clear hA0 hval0
  refine (laws_FnExactDulled.walk (x0_0, x0_1, x0_2, x0_3, x1) (law_plain x0_0 x0_1 x0_2 x0_3 x1 f0_0 f0_1 f0_2 f0_3 f1) (ρ := fun i => (lget ([] : List (Sx.Loc × Cells)) i).map (·.1)) (Rs_cons' (agg_R (by rw [e0]; exact (Rs_cons' (r0_0 _) (Rs_cons' (r0_1 _) (Rs_cons' (r0_2 _) (Rs_cons' (r0_3 _) Rs_nil')))))) (Rs_cons' (r1 _) Rs_nil')) (HpR.ofRo [] (List.forall_mem_nil _))).mono fun e W' ⟨he, bel⟩ => ?_
  subst he
  exact ⟨_, rfl, _, _, _, [], _, [], hW', trodAll_mk1 (shut_bool Try.underlying4 _), (trodAll_cons_mk (Below.trod laidOut (by kernel_rfl) (of_decide_eq_true (by kernel_rfl)) k0 bel lt0) (trodAll_cons_mk (Below.trod laidOut (by kernel_rfl) (of_decide_eq_true (by kernel_rfl)) k1 bel lt1) trodAll_mk0)), rfl, bel.frame _, fun h => by cases h⟩
theorem over : Rows.fnExactDulledRow.holds Try.pinned (OpenSpec.ofChange Rows.fnExactDulledSpec) :=
  OpenClaim.holds_of_wide 11 Try.f11 rfl rfl rfl rfl rfl rfl rfl ⟨rfl, rfl, rfl, rfl, rfl⟩ rfl rfl rfl rfl rfl (by kernel_rfl) Try.func11 (by kernel_rfl)
    (of_decide_eq_true (by kernel_rfl)) (by unfold Func.isWrapper; first | (rw [if_pos (by decide +kernel)]; kernel_rfl) | (rw [if_neg (by decide +kernel)]; exact ⟨rfl, rfl⟩))
    (fun os started H enc _ => lifted os started H enc)
theorem proved : Rows.FnExactDulledSaid := over
end Go.Proofs.Ytnhjchjdnhebkaa
