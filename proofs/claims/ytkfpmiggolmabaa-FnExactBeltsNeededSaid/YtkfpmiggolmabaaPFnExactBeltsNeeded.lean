/- For every input the call of FnExactBeltsNeeded returns true, and each argument reads afterwards as it read before; there is no condition. -/
import Derived.Test.YtkfpmiggolmabaaWFnExactBeltsNeeded
import Derived.Test.YtkfpmiggolmabaaSxS
import Derived.Test.YtkfpmiggolmabaaRows
import Derived.WalkKit
import Derived.ProofKit
import Derived.OpenShut
import Derived.ShutString
import Derived.ChangeOld
import Derived.Below
import Derived.Carry
import Derived.HandedShaped
namespace Go.Proofs.Ytkfpmiggolmabaa
open Go Go.RowKit Sx
open Go.ChangeShapes Go.WideShapes Go.ChangeAt
set_option linter.unusedVariables false
set_option linter.unusedSimpArgs false
set_option maxRecDepth 100000

theorem belt_eq (x0 x1 x2 x3 : Nat) (x4 : Bool) : laws_toBelt x0 x1 x2 x3 x4 = (x0, x1, x2, x3, x4) := rfl
theorem tight_eq (x : Nat) : impl_isAmount x = spec_l02Tight x := by
  simp only [impl_isAmount, impl_isAmount.t, impl_between, impl_between.t, spec_l02Tight, spec_l02Tight.t, T.val, fge_flip]
theorem radius_eq (x : Nat) : impl_isRadius x = spec_l02Radius x := by
  simp only [impl_isRadius, impl_isRadius.t, impl_between, impl_between.t, spec_l02Radius, spec_l02Radius.t, T.val, fge_flip]
theorem vbelt_eq (x0 x1 x2 x3 : Nat) (x4 : Bool) : impl_ValidBelt x0 x1 x2 x3 x4 = spec_l02Ok x0 x1 x2 x3 x4 := by
  simp only [impl_ValidBelt, impl_ValidBelt.t, impl_between, impl_between.t, spec_l02Ok, spec_l02Ok.t, T.val, radius_eq, fge_flip]
  cases spec_l02Radius x0 <;> cases spec_l02Radius x1 <;> cases fle .f32 (fadd .f32 x0 x1) x2 <;> cases fle .f32 x2 1199570944 <;> rfl
theorem bcode_eq (x0 x1 x2 x3 : Nat) (x4 b : Bool) : impl_beltCode x0 x1 x2 x3 x4 b = bif spec_l02Ok x0 x1 x2 x3 x4 then (bif b then 0 else 2) else 1 := by
  simp only [impl_beltCode, impl_beltCode.t, T.val, vbelt_eq]
  cases spec_l02Ok x0 x1 x2 x3 x4 <;> cases b <;> rfl
theorem reach_eq (x0 x1 x2 x3 : Nat) (x4 : Bool) : impl_Belt_reach x0 x1 x2 x3 x4 = spec_l02Reach x0 x1 x2 x3 x4 := rfl
theorem wrap_eq (x0 x1 x2 x3 : Nat) (x4 : Bool) : impl_Belt_wrap x0 x1 x2 x3 x4 = spec_l02Wrap x0 x1 x2 x3 x4 := rfl
theorem grip_t (x0 x1 x2 x3 : Nat) (x4 : Bool) : ∃ e, (spec_l02Grip.t x0 x1 x2 x3 x4).get = some e ∧ (impl_Belt_grip.t x0 x1 x2 x3 x4).get = some e := by
  obtain ⟨e, e', h1, h2, rfl⟩ := iter_two (step := spec_l02Grip.l4.st (x0, x1, x2, x3, x4)) (step' := impl_Belt_grip.l3.st (x0, x1, x2, x3, x4)) (R := fun s t => s = t ∧ ∃ i : Nat, i ≤ 4 ∧ s.2 = (i : Int)) (E := fun e e' => e = e') (fun s => 4 - s.2.toNat) (by
    rintro ⟨z, c⟩ _ ⟨rfl, i, hi, hc⟩
    dsimp only at hc
    subst hc
    simp only [spec_l02Grip.l4.st, spec_l02Grip.l4.s, impl_Belt_grip.l3.st, impl_Belt_grip.l3.s, T.get]
    by_cases hlt : i < 4
    · rw [decide_eq_true (by omega : (i : Int) < 4), wrap64_succ (by omega)]
      exact .inl ⟨_, _, rfl, rfl, ⟨rfl, i + 1, by omega, rfl⟩, by dsimp only; omega⟩
    · rw [decide_eq_false (by omega : ¬ (i : Int) < 4)]
      exact .inr ⟨_, _, rfl, rfl, rfl⟩) manyRounds ((fadd .f32 1065353216 (fdiv .f32 (fmul .f32 x3 (spec_l02Wrap x0 x1 x2 x3 x4)) 1098907648)), 0) ((fadd .f32 1065353216 (fdiv .f32 (fmul .f32 x3 (spec_l02Wrap x0 x1 x2 x3 x4)) 1098907648)), 0) ⟨rfl, 0, by omega, rfl⟩ (many_lt (by simp))
  have h1' : spec_l02Grip.l4.r (x0, x1, x2, x3, x4) ((fadd .f32 1065353216 (fdiv .f32 (fmul .f32 x3 (spec_l02Wrap x0 x1 x2 x3 x4)) 1098907648)), 0) = some e := h1
  have h2' : impl_Belt_grip.l3.r (x0, x1, x2, x3, x4) ((fadd .f32 1065353216 (fdiv .f32 (fmul .f32 x3 (spec_l02Wrap x0 x1 x2 x3 x4)) 1098907648)), 0) = some e := h2
  simp only [spec_l02Grip.t, impl_Belt_grip.t, T.get, wrap_eq, h1', h2']
  exact ⟨_, rfl, rfl⟩
theorem pull_t (x0 x1 x2 x3 : Nat) (x4 : Bool) (p : Nat) : ∃ e, (spec_l02Pull.t p x0 x1 x2 x3 x4).get = some e ∧ (impl_Belt_pull.t p x0 x1 x2 x3 x4).get = some e := by
  obtain ⟨e, h1, h2⟩ := grip_t x0 x1 x2 x3 x4
  simp only [spec_l02Pull.t, impl_Belt_pull.t, T.get, show spec_l02Grip.ok x0 x1 x2 x3 x4 = true from T.ok_of_get (h1), show spec_l02Grip x0 x1 x2 x3 x4 = e from T.val_of_get (h1), show impl_Belt_grip.ok x0 x1 x2 x3 x4 = true from T.ok_of_get (h2), show impl_Belt_grip x0 x1 x2 x3 x4 = e from T.val_of_get (h2)]
  exact ⟨_, rfl, rfl⟩
theorem btorque_t (x0 x1 x2 x3 : Nat) (x4 : Bool) (p : Nat) : ∃ e, (spec_l02Pull.t p x0 x1 x2 x3 x4).get = some e ∧ (impl_Belt_torque.t p x0 x1 x2 x3 x4).get = some (fmul .f32 e x0) := by
  obtain ⟨e, h1, h2⟩ := pull_t x0 x1 x2 x3 x4 p
  refine ⟨e, h1, ?_⟩
  simp only [impl_Belt_torque.t, T.get, show impl_Belt_pull.ok p x0 x1 x2 x3 x4 = true from T.ok_of_get (h2), show impl_Belt_pull p x0 x1 x2 x3 x4 = e from T.val_of_get (h2)]
  rfl

theorem size_eq (x : Nat) (h : flHas .f32 x) : impl_size x = spec_l01Size x := by
  simp only [impl_size, impl_size.t, spec_l01Size, spec_l01Size.t, T.val]
  cases hl : flt .f32 x 0 with
  | false => rfl
  | true => exact sub_zero_neg .f32 x h hl

theorem plain_eq (x : Nat) : impl_IsPlain x = spec_l01Plain x := by
  simp only [impl_IsPlain, impl_IsPlain.t, impl_between, impl_between.t, spec_l01Plain, spec_l01Plain.t, T.val, fge_flip]
theorem loop_r (x0 x1 x2 x3 : Nat) (x4 : Bool) (x5 x6 : Nat) (hx : flHas .f32 x6) (g : Nat) (h1 : (impl_Belt_torque.t x5 x0 x1 x2 x3 x4).get = some g) : ∃ e, spec_BeltsNeeded.l6.r (x6, g) 1 = some e ∧ impl_BeltsNeeded.l5.r (x5, x6, x0, x1, x2, x3, x4) 1 = some e := by
  obtain ⟨e, e', h1, h2, rfl⟩ := iter_two (step := spec_BeltsNeeded.l6.st (x6, g)) (step' := impl_BeltsNeeded.l5.st (x5, x6, x0, x1, x2, x3, x4)) (R := fun s t => s = t ∧ ∃ i : Nat, i ≤ 13 ∧ s = (i : Int)) (E := fun e e' => e = e') (fun s => 13 - s.toNat) (by
    rintro _ _ ⟨rfl, i, hi, rfl⟩
    simp only [spec_BeltsNeeded.l6.st, spec_BeltsNeeded.l6.s, impl_BeltsNeeded.l5.st, impl_BeltsNeeded.l5.s, T.get, show impl_Belt_torque.ok x5 x0 x1 x2 x3 x4 = true from T.ok_of_get (h1), show impl_Belt_torque x5 x0 x1 x2 x3 x4 = g from T.val_of_get (h1), size_eq x6 hx]
    by_cases hlt : i ≤ 12
    · rw [decide_eq_true (by omega : (i : Int) ≤ 12), wrap64_succ (by omega)]
      simp only [cond_true]
      cases fge .f32 (fmul .f32 g (fofint .f32 (i : Int))) (spec_l01Size x6) with
      | true => exact .inr ⟨_, _, rfl, rfl, rfl⟩
      | false => exact .inl ⟨_, _, rfl, rfl, ⟨rfl, i + 1, by omega, rfl⟩, by omega⟩
    · rw [decide_eq_false (by omega : ¬ (i : Int) ≤ 12)]
      exact .inr ⟨_, _, rfl, rfl, rfl⟩) manyRounds 1 1 ⟨rfl, 1, by omega, rfl⟩ (many_lt (by simp))
  exact ⟨e, h1, h2⟩
theorem need_t (x0 x1 x2 x3 : Nat) (x4 : Bool) (x5 x6 : Nat) (hx : flHas .f32 x6) : ∃ r, (spec_BeltsNeeded.t x0 x1 x2 x3 x4 x5 x6).get = some r ∧ (impl_BeltsNeeded.t x0 x1 x2 x3 x4 x5 x6).get = some r := by
  obtain ⟨p, h1, h2⟩ := btorque_t x0 x1 x2 x3 x4 x5
  obtain ⟨e, h3, h4⟩ := loop_r x0 x1 x2 x3 x4 x5 x6 hx _ h2
  simp only [spec_BeltsNeeded.t, impl_BeltsNeeded.t, T.get, bcode_eq, plain_eq, tight_eq, spec_l02Asked, spec_l02Asked.t, T.val, show spec_l02Pull.ok x5 x0 x1 x2 x3 x4 = true from T.ok_of_get (h1), show spec_l02Pull x5 x0 x1 x2 x3 x4 = p from T.val_of_get (h1), h3, h4, Option.isSome_some, Option.getD_some]
  cases spec_l02Ok x0 x1 x2 x3 x4 <;> cases spec_l02Tight x5 <;> cases spec_l01Plain x6 <;> cases Sum.isLeft e <;> exact ⟨_, rfl, rfl⟩
/- FACTS -/
theorem law_holds (x0 x1 x2 x3 : Nat) (x4 : Bool) (x5 x6 : Nat) (f0 : flHas .f32 x0) (f1 : flHas .f32 x1) (f2 : flHas .f32 x2) (f3 : flHas .f32 x3) (f4 : True) (f5 : flHas .f32 x5) (f6 : flHas .f32 x6) : (laws_FnExactBeltsNeeded.t x0 x1 x2 x3 x4 x5 x6).get = some true := by
  obtain ⟨r, h1, h2⟩ := need_t x0 x1 x2 x3 x4 x5 x6 f6
  simp only [laws_FnExactBeltsNeeded.t, T.get, belt_eq, show spec_BeltsNeeded.ok x0 x1 x2 x3 x4 x5 x6 = true from T.ok_of_get (h1), show spec_BeltsNeeded x0 x1 x2 x3 x4 x5 x6 = r from T.val_of_get (h1), show impl_BeltsNeeded.ok x0 x1 x2 x3 x4 x5 x6 = true from T.ok_of_get (h2), show impl_BeltsNeeded x0 x1 x2 x3 x4 x5 x6 = r from T.val_of_get (h2)]
  simp

theorem law_plain (x0_0 : Nat) (x0_1 : Nat) (x0_2 : Nat) (x0_3 : Nat) (x0_4 : Bool) (x1 : Nat) (x2 : Nat) (f0_0 : flHas .f32 x0_0) (f0_1 : flHas .f32 x0_1) (f0_2 : flHas .f32 x0_2) (f0_3 : flHas .f32 x0_3) (f0_4 : True) (f1 : flHas .f32 x1) (f2 : flHas .f32 x2) : (laws_FnExactBeltsNeeded.tr (x0_0, x0_1, x0_2, x0_3, x0_4, x1, x2)).get = some true := law_holds x0_0 x0_1 x0_2 x0_3 x0_4 x1 x2 f0_0 f0_1 f0_2 f0_3 f0_4 f1 f2
theorem own : ownKnob Try.prog.godebug = none := by kernel_rfl
theorem laidOut : laidOutB Try.prog = true := by kernel_rfl
theorem lifted (os : Os) (started : os.Started) (H : Type) (enc : TypeId × Value → H) :
    ReturnsInHanded {} Try.checked os 6 .any (Rows.fnExactBeltsNeededSpec.pre6 enc Try.prog Try.f6 Rows.fnExactBeltsNeededRow.domain false) (Rows.fnExactBeltsNeededSpec.post enc Try.prog Try.f6 false true false false) := by
  refine returnsInHanded_of_change (C := Try.checked) own started (by kernel_rfl) Try.func6
    (ChangeSpec.witness6 (enc := enc) (C := Try.checked) false ⟨#[], #[.agg #[.float .f32 0, .float .f32 0, .float .f32 0, .float .f32 0, .bool false], .float .f32 0, .float .f32 0], []⟩ 8 (by kernel_rfl) (by kernel_rfl) (by kernel_rfl) (by kernel_rfl)) ?_
  intro W base args ds gs before hval0 hW hcnd _
  have hval : ∀ (j : Nat) t v, Try.f6.params[j]? = some t → args[j]? = some v → Value.okWide Try.prog W .any base t v := hval0
  have hW' := hW
  obtain ⟨p, q, hA0, hV, rfl, hfz, hnd⟩ := hW
  have hA : DataW.TrodAll enc Try.prog W 0 (fun _ => true) true Try.f6.params.toList args.toList ds p := hA0
  rw [Try.params6] at hA hval
  obtain ⟨v0, vs0, d0, ds0, p0, q0, hargs, rfl, rfl, h0, rr0⟩ := trodAll_cons hA
  obtain ⟨v1, vs1, d1, ds1, p1, q1, rfl, rfl, rfl, h1, rr1⟩ := trodAll_cons rr0
  obtain ⟨v2, vs2, d2, ds2, p2, q2, rfl, rfl, rfl, h2, rr2⟩ := trodAll_cons rr1
  obtain ⟨rfl, rfl, rfl⟩ := trodAll_nil rr2
  obtain rfl : args = #[v0, v1, v2] := by cases args; simp_all
  obtain ⟨rfl, rfl⟩ := trodVars_none hV
  have k0 := h0
  have lt0 : ∀ x ∈ p0, x.block < W.heap.size := by obtain ⟨m, hm⟩ := k0; exact DataW.trod_lt m _ _ _ hm
  obtain ⟨cs0, rfl, hc0⟩ := open_row (ts := [23, 23, 23, 23, 4]) Try.underlying47 rfl (by kernel_rfl) (by kernel_rfl) (hval 0 47 v0 rfl rfl)
  obtain ⟨u0_0, m0_0, e0, g0_0, hc0⟩ := hc0
  obtain ⟨x0_0, r0_0, f0_0⟩ := sc_fl Try.underlying23 g0_0
  obtain ⟨u0_1, m0_1, rfl, g0_1, hc0⟩ := hc0
  obtain ⟨x0_1, r0_1, f0_1⟩ := sc_fl Try.underlying23 g0_1
  obtain ⟨u0_2, m0_2, rfl, g0_2, hc0⟩ := hc0
  obtain ⟨x0_2, r0_2, f0_2⟩ := sc_fl Try.underlying23 g0_2
  obtain ⟨u0_3, m0_3, rfl, g0_3, hc0⟩ := hc0
  obtain ⟨x0_3, r0_3, f0_3⟩ := sc_fl Try.underlying23 g0_3
  obtain ⟨u0_4, m0_4, rfl, g0_4, hc0⟩ := hc0
  obtain ⟨x0_4, r0_4, f0_4⟩ := sc_bo Try.underlying4 g0_4
  obtain rfl := hc0
  have k1 := h1
  have lt1 : ∀ x ∈ p1, x.block < W.heap.size := by obtain ⟨m, hm⟩ := k1; exact DataW.trod_lt m _ _ _ hm
  obtain ⟨x1, r1, f1⟩ := sc_fl Try.underlying23 (cell_of Try.underlying23 rfl (hval 1 23 v1 rfl rfl))
  have k2 := h2
  have lt2 : ∀ x ∈ p2, x.block < W.heap.size := by obtain ⟨m, hm⟩ := k2; exact DataW.trod_lt m _ _ _ hm
  obtain ⟨x2, r2, f2⟩ := sc_fl Try.underlying23 (cell_of Try.underlying23 rfl (hval 2 23 v2 rfl rfl))
  clear hA0 hval0
  refine (laws_FnExactBeltsNeeded.walk (x0_0, x0_1, x0_2, x0_3, x0_4, x1, x2) (law_plain x0_0 x0_1 x0_2 x0_3 x0_4 x1 x2 f0_0 f0_1 f0_2 f0_3 f0_4 f1 f2) (ρ := fun i => (lget ([] : List (Sx.Loc × Cells)) i).map (·.1)) (Rs_cons' (agg_R (by rw [e0]; exact (Rs_cons' (r0_0 _) (Rs_cons' (r0_1 _) (Rs_cons' (r0_2 _) (Rs_cons' (r0_3 _) (Rs_cons' (r0_4 _) Rs_nil'))))))) (Rs_cons' (r1 _) (Rs_cons' (r2 _) Rs_nil'))) (HpR.ofRo [] (List.forall_mem_nil _))).mono fun e W' ⟨he, bel⟩ => ?_
  subst he
  exact ⟨_, rfl, _, _, _, [], _, [], hW', trodAll_mk1 (shut_bool Try.underlying4 _), (trodAll_cons_mk (Below.trod laidOut (by kernel_rfl) (of_decide_eq_true (by kernel_rfl)) k0 bel lt0) (trodAll_cons_mk (Below.trod laidOut (by kernel_rfl) (of_decide_eq_true (by kernel_rfl)) k1 bel lt1) (trodAll_cons_mk (Below.trod laidOut (by kernel_rfl) (of_decide_eq_true (by kernel_rfl)) k2 bel lt2) trodAll_mk0))), rfl, bel.frame _, fun h => by cases h⟩
theorem over : Rows.fnExactBeltsNeededRow.holds Try.pinned (OpenSpec.ofChange Rows.fnExactBeltsNeededSpec) :=
  OpenClaim.holds_of_wide 6 Try.f6 rfl rfl rfl rfl rfl rfl rfl ⟨rfl, rfl, rfl, rfl, rfl⟩ rfl rfl rfl rfl rfl (by kernel_rfl) Try.func6 (by kernel_rfl)
    (of_decide_eq_true (by kernel_rfl)) (by unfold Func.isWrapper; first | (rw [if_pos (by decide +kernel)]; kernel_rfl) | (rw [if_neg (by decide +kernel)]; exact ⟨rfl, rfl⟩))
    (fun os started H enc _ => lifted os started H enc)
theorem proved : Rows.FnExactBeltsNeededSaid := over
end Go.Proofs.Ytkfpmiggolmabaa
