/- For every input the call of FnExactLeastGate returns true, and each argument reads afterwards as it read before; there is no condition. -/
import Derived.Test.YtnggljioidchdaaWFnExactLeastGate
import Derived.Test.YtnggljioidchdaaSxQ
import Derived.Test.YtnggljioidchdaaRows
import Derived.WalkKit
import Derived.ProofKit
import Derived.OpenShut
import Derived.ShutString
import Derived.ChangeOld
import Derived.Below
import Derived.Carry
import Derived.HandedShaped
namespace Go.Proofs.Ytnggljioidchdaa
open Go Go.RowKit Sx
open Go.ChangeShapes Go.WideShapes Go.ChangeAt
set_option linter.unusedVariables false
set_option linter.unusedSimpArgs false
set_option maxRecDepth 100000

theorem amount_eq (x : Nat) : impl_isAmount x = spec_l03Amount x := by
  simp only [impl_isAmount, impl_isAmount.t, impl_between, impl_between.t, spec_l03Amount, spec_l03Amount.t, T.val, fge_flip]

theorem within_eq (x y z : Int) : impl_within x y z = spec_l00In x y z := by
  simp only [impl_within, impl_within.t, spec_l00In, spec_l00In.t, T.val, ge_iff_le]

-- lies in the core (SxQ)

theorem length_eq (x : Nat) : impl_IsLength x = spec_l03Length x := by
  simp only [impl_IsLength, impl_IsLength.t, impl_between, impl_between.t, spec_l03Length, spec_l03Length.t, T.val, fge_flip]

theorem vmill_eq (x0 : Int) (x1 x2 : Nat) : impl_ValidMill x0 x1 x2 = spec_l03Mill x0 x1 x2 := by
  simp only [impl_ValidMill, impl_ValidMill.t, spec_l03Mill, spec_l03Mill.t, T.val, within_eq, length_eq]
theorem length_pos {x : Nat} (h : spec_l03Length x = true) : isNaN .f32 x = false ∧ ∀ s e, FloatKind.f32.format.read x ≠ .number s 0 e := by
  simp only [spec_l03Length, spec_l03Length.t, T.val, fge_flip] at h
  cases h1 : fle .f32 1031798784 x with
  | false => rw [h1] at h; cases h
  | true => exact pos_of_le (show FloatKind.f32.format.read 1031798784 = .number false 8388608 (-27) by kernel_rfl) (by omega) h1
theorem mill_pos {x0 : Int} {x1 x2 : Nat} (h : spec_l03Mill x0 x1 x2 = true) : isNaN .f32 x1 = false ∧ ∀ s e, FloatKind.f32.format.read x1 ≠ .number s 0 e := by
  refine length_pos ?_
  simp only [spec_l03Mill, spec_l03Mill.t, T.val] at h
  generalize spec_l00In (IntKind.wrap .i64 x0) 4 48 = p at h
  generalize spec_l03Length x1 = q at h ⊢
  cases p <;> cases q <;> first | rfl | cases h

theorem gov_eq (x0 : Int) (x1 x2 x3 x4 x5 x6 x7 : Nat) : laws_toGovernor x0 x1 x2 x3 x4 x5 x6 x7 = (x0, x1, x2, x3, x4, x5, x6, x7) := rfl
theorem speed_eq (x : Nat) : impl_isSpeed x = spec_l03Speed x := by
  simp only [impl_isSpeed, impl_isSpeed.t, impl_between, impl_between.t, spec_l03Speed, spec_l03Speed.t, T.val, fge_flip]
theorem gok_eq (x0 : Int) (x1 x2 x3 x4 x5 x6 x7 : Nat) : impl_ValidGovernor x0 x1 x2 x3 x4 x5 x6 x7 = spec_l03Ok x0 x1 x2 x3 x4 x5 x6 x7 := by
  simp only [impl_ValidGovernor, impl_ValidGovernor.t, spec_l03Ok, spec_l03Ok.t, T.val, vmill_eq, length_eq]
  cases spec_l03Mill x0 x1 x2 <;> cases spec_l03Length x3 <;> cases spec_l03Length x4 <;> cases spec_l03Length x7 <;> rfl
theorem gok_mill {x0 : Int} {x1 x2 x3 x4 x5 x6 x7 : Nat} (h : spec_l03Ok x0 x1 x2 x3 x4 x5 x6 x7 = true) : spec_l03Mill x0 x1 x2 = true := by
  simp only [spec_l03Ok, spec_l03Ok.t, T.val] at h
  cases hm : spec_l03Mill x0 x1 x2 with
  | true => rfl
  | false => rw [hm] at h; cases h

-- lies in the core (SxQ)

theorem sqrt_eq (x : Nat) : math_Sqrt x = fsqrt x := rfl
theorem root_ok (x : Nat) : spec_l03Root.ok x = true := by
  simp only [spec_l03Root.ok, spec_l03Root.t, T.ok, sqrt_eq, open_wide, open_sqrt, cond_false]
theorem fast_ok (x : Nat) : spec_l03Fast.ok x = true := by
  simp only [spec_l03Fast.ok, spec_l03Fast.t, T.ok, root_ok, cond_true]
theorem speedw_ok (x : Nat) : impl_waterSpeed.ok x = true := by
  simp only [impl_waterSpeed.ok, impl_waterSpeed.t, T.ok, sqrt_eq, open_wide, open_sqrt, cond_false]
theorem speedw_eq (x : Nat) : impl_waterSpeed x = spec_l03Fast x := by
  simp only [impl_waterSpeed, impl_waterSpeed.t, spec_l03Fast, spec_l03Fast.t, spec_l03Root, spec_l03Root.t, T.val, sqrt_eq, open_wide, open_sqrt, root_ok, cond_false, cond_true]

theorem flow_ok (x0 x1 : Nat) (x2 : Int) : spec_l03Flow.ok x0 x1 x2 = true := by
  simp only [spec_l03Flow.ok, spec_l03Flow.t, T.ok, fast_ok, cond_true]
theorem through_ok (x0 x1 : Nat) (x2 : Int) : impl_flowThrough.ok x0 x1 x2 = true := by
  simp only [impl_flowThrough.ok, impl_flowThrough.t, T.ok, speedw_ok, cond_true]
theorem through_eq (x0 x1 : Nat) (x2 : Int) : impl_flowThrough x0 x1 x2 = spec_l03Flow x0 x1 x2 := by
  simp only [impl_flowThrough, impl_flowThrough.t, spec_l03Flow, spec_l03Flow.t, T.val, speedw_ok, speedw_eq, fast_ok, cond_true]

theorem gfill_eq (x0 x1 : Nat) (x2 : Int) (x3 x4 x5 x6 x7 x8 x9 : Nat) (hx : flHas .f32 x3) (h : spec_l03Mill x2 x3 x4 = true) : impl_Mill_fill x0 x1 x2 x3 x4 x5 x6 x7 x8 x9 = spec_l03Fill x2 x3 x4 x0 x1 := by
  obtain ⟨h1, h2⟩ := mill_pos h
  simp only [impl_Mill_fill, impl_Mill_fill.t, spec_l03Fill, spec_l03Fill.t, T.val, fmin_gen (fdiv_has .f32 _ _) (fun h => canon_nan h) hx h1 h2]
theorem gtorque_eq (x0 x1 : Nat) (x2 : Int) (x3 x4 x5 x6 x7 x8 x9 : Nat) (hx : flHas .f32 x3) (h : spec_l03Mill x2 x3 x4 = true) : impl_Mill_torque x0 x1 x2 x3 x4 x5 x6 x7 x8 x9 = spec_l03Torque x2 x3 x4 x0 x1 := by
  simp only [impl_Mill_torque, impl_Mill_torque.t, spec_l03Torque, spec_l03Torque.t, T.val, gfill_eq x0 x1 x2 x3 x4 x5 x6 x7 x8 x9 hx h]
theorem at_ok (x0 : Int) (x1 x2 x3 x4 x5 x6 x7 x8 : Nat) (x9 : Int) : spec_l03At.ok x0 x1 x2 x3 x4 x5 x6 x7 x8 x9 = true := by
  simp only [spec_l03At.ok, spec_l03At.t, T.ok, flow_ok, cond_true]
theorem tat_ok (x0 : Nat) (x1 x2 : Int) (x3 x4 x5 x6 x7 x8 x9 : Nat) : impl_Governor_torqueAt.ok x0 x1 x2 x3 x4 x5 x6 x7 x8 x9 = true := by
  simp only [impl_Governor_torqueAt.ok, impl_Governor_torqueAt.t, T.ok, through_ok, cond_true]
theorem tat_eq (x0 : Nat) (x1 x2 : Int) (x3 x4 x5 x6 x7 x8 x9 : Nat) (hx : flHas .f32 x3) (h : spec_l03Mill x2 x3 x4 = true) : impl_Governor_torqueAt x0 x1 x2 x3 x4 x5 x6 x7 x8 x9 = spec_l03At x2 x3 x4 x5 x6 x7 x8 x9 x0 x1 := by
  simp only [impl_Governor_torqueAt, impl_Governor_torqueAt.t, spec_l03At, spec_l03At.t, T.val, through_ok, through_eq, flow_ok, cond_true, gtorque_eq _ _ x2 x3 x4 x5 x6 x7 x8 x9 hx h]

theorem gated_eq (x0 : Int) (x1 x2 x3 x4 x5 x6 x7 x8 x9 : Nat) : impl_gateCode x0 x1 x2 x3 x4 x5 x6 x7 x8 x9 = spec_l03Gated x0 x1 x2 x3 x4 x5 x6 x7 x8 x9 := by
  simp only [impl_gateCode, impl_gateCode.t, spec_l03Gated, spec_l03Gated.t, T.val, gok_eq, speed_eq, amount_eq]
theorem gated_ok {x0 : Int} {x1 x2 x3 x4 x5 x6 x7 x8 x9 : Nat} (h : (spec_l03Gated x0 x1 x2 x3 x4 x5 x6 x7 x8 x9 != 0) = false) : spec_l03Mill x0 x1 x2 = true := by
  simp only [spec_l03Gated, spec_l03Gated.t, T.val] at h
  cases hg : spec_l03Ok x0 x1 x2 x3 x4 x5 x6 x7 with
  | true => exact gok_mill hg
  | false => rw [hg] at h; cases h

theorem loop_r (x0 : Int) (x1 x2 x3 x4 x5 x6 x7 x8 x9 : Nat) (hx : flHas .f32 x1) (hm : spec_l03Mill x0 x1 x2 = true) : ∃ e, spec_LeastGate.l5.r (x8, x9, x0, x1, x2, x3, x4, x5, x6, x7) 0 = some e ∧ impl_LeastGate.l5.r (x8, x9, x0, x1, x2, x3, x4, x5, x6, x7) 0 = some e := by
  obtain ⟨e, e', h1, h2, rfl⟩ := iter_two (step := spec_LeastGate.l5.st (x8, x9, x0, x1, x2, x3, x4, x5, x6, x7)) (step' := impl_LeastGate.l5.st (x8, x9, x0, x1, x2, x3, x4, x5, x6, x7)) (R := fun s t => s = t ∧ ∃ i : Nat, i ≤ 17 ∧ s = (i : Int)) (E := fun e e' => e = e') (fun s => 17 - s.toNat) (by
    rintro _ _ ⟨rfl, i, hi, rfl⟩
    simp only [spec_LeastGate.l5.st, spec_LeastGate.l5.s, impl_LeastGate.l5.st, impl_LeastGate.l5.s, T.get, at_ok, tat_ok, tat_eq _ _ x0 x1 x2 x3 x4 x5 x6 x7 hx hm]
    by_cases hlt : i ≤ 16
    · rw [decide_eq_true (by omega : (i : Int) ≤ 16), decide_eq_true (by omega : (i : Int) < 17), wrap64_succ (by omega)]
      simp only [cond_true]
      cases fge .f32 (spec_l03At x0 x1 x2 x3 x4 x5 x6 x7 x8 (i : Int)) x9 with
      | true => exact .inr ⟨_, _, rfl, rfl, rfl⟩
      | false => exact .inl ⟨_, _, rfl, rfl, ⟨rfl, i + 1, by omega, rfl⟩, by omega⟩
    · rw [decide_eq_false (by omega : ¬ (i : Int) ≤ 16), decide_eq_false (by omega : ¬ (i : Int) < 17)]
      exact .inr ⟨_, _, rfl, rfl, rfl⟩) manyRounds 0 0 ⟨rfl, 0, by omega, rfl⟩ (many_lt (by simp))
  exact ⟨e, h1, h2⟩
theorem least_t (x0 : Int) (x1 x2 x3 x4 x5 x6 x7 x8 x9 : Nat) (hx : flHas .f32 x1) : ∃ r, (spec_LeastGate.t x0 x1 x2 x3 x4 x5 x6 x7 x8 x9).get = some r ∧ (impl_LeastGate.t x0 x1 x2 x3 x4 x5 x6 x7 x8 x9).get = some r := by
  simp only [spec_LeastGate.t, impl_LeastGate.t, T.get, gated_eq]
  cases h : (spec_l03Gated x0 x1 x2 x3 x4 x5 x6 x7 x8 x9 != 0) with
  | true => exact ⟨_, rfl, rfl⟩
  | false =>
    obtain ⟨e, h1, h2⟩ := loop_r x0 x1 x2 x3 x4 x5 x6 x7 x8 x9 hx (gated_ok h)
    rw [h1, h2]
    simp only [Option.isSome_some, Option.getD_some, cond_true, cond_false]
    cases Sum.isLeft e <;> exact ⟨_, rfl, rfl⟩
/- FACTS -/
theorem law_holds (x0 : Int) (x1 x2 x3 x4 x5 x6 x7 x8 x9 : Nat) (f0 : IntKind.min .i16 ≤ x0 ∧ x0 ≤ IntKind.max .i16) (f1 : flHas .f32 x1) (f2 : flHas .f32 x2) (f3 : flHas .f32 x3) (f4 : flHas .f32 x4) (f5 : flHas .f32 x5) (f6 : flHas .f32 x6) (f7 : flHas .f32 x7) (f8 : flHas .f32 x8) (f9 : flHas .f32 x9) : (laws_FnExactLeastGate.t x0 x1 x2 x3 x4 x5 x6 x7 x8 x9).get = some true := by
  obtain ⟨r, h1, h2⟩ := least_t x0 x1 x2 x3 x4 x5 x6 x7 x8 x9 f1
  simp only [laws_FnExactLeastGate.t, T.get, gov_eq, show spec_LeastGate.ok x0 x1 x2 x3 x4 x5 x6 x7 x8 x9 = true from T.ok_of_get (h1), show spec_LeastGate x0 x1 x2 x3 x4 x5 x6 x7 x8 x9 = r from T.val_of_get (h1), show impl_LeastGate.ok x0 x1 x2 x3 x4 x5 x6 x7 x8 x9 = true from T.ok_of_get (h2), show impl_LeastGate x0 x1 x2 x3 x4 x5 x6 x7 x8 x9 = r from T.val_of_get (h2)]
  simp

theorem law_plain (x0_0 : Int) (x0_1 : Nat) (x0_2 : Nat) (x0_3 : Nat) (x0_4 : Nat) (x0_5 : Nat) (x0_6 : Nat) (x0_7 : Nat) (x1 : Nat) (x2 : Nat) (f0_0 : (IntKind.min .i16 ≤ x0_0 ∧ x0_0 ≤ IntKind.max .i16)) (f0_1 : flHas .f32 x0_1) (f0_2 : flHas .f32 x0_2) (f0_3 : flHas .f32 x0_3) (f0_4 : flHas .f32 x0_4) (f0_5 : flHas .f32 x0_5) (f0_6 : flHas .f32 x0_6) (f0_7 : flHas .f32 x0_7) (f1 : flHas .f32 x1) (f2 : flHas .f32 x2) : (laws_FnExactLeastGate.tr (x0_0, x0_1, x0_2, x0_3, x0_4, x0_5, x0_6, x0_7, x1, x2)).get = some true := law_holds x0_0 x0_1 x0_2 x0_3 x0_4 x0_5 x0_6 x0_7 x1 x2 f0_0 f0_1 f0_2 f0_3 f0_4 f0_5 f0_6 f0_7 f1 f2
theorem own : ownKnob Try.prog.godebug = none := by kernel_rfl
theorem laidOut : laidOutB Try.prog = true := by kernel_rfl
theorem lifted (os : Os) (started : os.Started) (H : Type) (enc : TypeId × Value → H) :
    ReturnsInHanded {} Try.checked os 8 .any (Rows.fnExactLeastGateSpec.pre6 enc Try.prog Try.f8 Rows.fnExactLeastGateRow.domain false) (Rows.fnExactLeastGateSpec.post enc Try.prog Try.f8 false true false false) := by
  refine returnsInHanded_of_change (C := Try.checked) own started (by kernel_rfl) Try.func8
    (ChangeSpec.witness6 (enc := enc) (C := Try.checked) false ⟨#[], #[.agg #[.int .i16 0, .float .f32 0, .float .f32 0, .float .f32 0, .float .f32 0, .float .f32 0, .float .f32 0, .float .f32 0], .float .f32 0, .float .f32 0], []⟩ 8 (by kernel_rfl) (by kernel_rfl) (by kernel_rfl) (by kernel_rfl)) ?_
  intro W base args ds gs before hval0 hW hcnd _
  have hval : ∀ (j : Nat) t v, Try.f8.params[j]? = some t → args[j]? = some v → Value.okWide Try.prog W .any base t v := hval0
  have hW' := hW
  obtain ⟨p, q, hA0, hV, rfl, hfz, hnd⟩ := hW
  have hA : DataW.TrodAll enc Try.prog W 0 (fun _ => true) true Try.f8.params.toList args.toList ds p := hA0
  rw [Try.params8] at hA hval
  obtain ⟨v0, vs0, d0, ds0, p0, q0, hargs, rfl, rfl, h0, r0⟩ := trodAll_cons hA
  obtain ⟨v1, vs1, d1, ds1, p1, q1, rfl, rfl, rfl, h1, r1⟩ := trodAll_cons r0
  obtain ⟨v2, vs2, d2, ds2, p2, q2, rfl, rfl, rfl, h2, r2⟩ := trodAll_cons r1
  obtain ⟨rfl, rfl, rfl⟩ := trodAll_nil r2
  obtain rfl : args = #[v0, v1, v2] := by cases args; simp_all
  obtain ⟨rfl, rfl⟩ := trodVars_none hV
  have k0 := h0
  have lt0 : ∀ x ∈ p0, x.block < W.heap.size := by obtain ⟨m, hm⟩ := k0; exact DataW.trod_lt m _ _ _ hm
  obtain ⟨cs0, rfl, hc0⟩ := open_row (ts := [22, 23, 23, 23, 23, 23, 23, 23]) Try.underlying38 rfl (by kernel_rfl) (by kernel_rfl) (hval 0 38 v0 rfl rfl)
  obtain ⟨u0_0, m0_0, e0, g0_0, hc0⟩ := hc0
  obtain ⟨x0_0, r0_0, f0_0⟩ := sc_it Try.underlying22 g0_0
  obtain ⟨u0_1, m0_1, rfl, g0_1, hc0⟩ := hc0
  obtain ⟨x0_1, r0_1, f0_1⟩ := sc_fl Try.underlying23 g0_1
  obtain ⟨u0_2, m0_2, rfl, g0_2, hc0⟩ := hc0
  obtain ⟨x0_2, r0_2, f0_2⟩ := sc_fl Try.underlying23 g0_2
  obtain ⟨u0_3, m0_3, rfl, g0_3, hc0⟩ := hc0
  obtain ⟨x0_3, r0_3, f0_3⟩ := sc_fl Try.underlying23 g0_3
  obtain ⟨u0_4, m0_4, rfl, g0_4, hc0⟩ := hc0
  obtain ⟨x0_4, r0_4, f0_4⟩ := sc_fl Try.underlying23 g0_4
  obtain ⟨u0_5, m0_5, rfl, g0_5, hc0⟩ := hc0
  obtain ⟨x0_5, r0_5, f0_5⟩ := sc_fl Try.underlying23 g0_5
  obtain ⟨u0_6, m0_6, rfl, g0_6, hc0⟩ := hc0
  obtain ⟨x0_6, r0_6, f0_6⟩ := sc_fl Try.underlying23 g0_6
  obtain ⟨u0_7, m0_7, rfl, g0_7, hc0⟩ := hc0
  obtain ⟨x0_7, r0_7, f0_7⟩ := sc_fl Try.underlying23 g0_7
  obtain rfl := hc0
  have k1 := h1
  have lt1 : ∀ x ∈ p1, x.block < W.heap.size := by obtain ⟨m, hm⟩ := k1; exact DataW.trod_lt m _ _ _ hm
  obtain ⟨x1, r1, f1⟩ := sc_fl Try.underlying23 (cell_of Try.underlying23 rfl (hval 1 23 v1 rfl rfl))
  have k2 := h2
  have lt2 : ∀ x ∈ p2, x.block < W.heap.size := by obtain ⟨m, hm⟩ := k2; exact DataW.trod_lt m _ _ _ hm
  obtain ⟨x2, r2, f2⟩ := sc_fl Try.underlying23 (cell_of Try.underlying23 rfl (hval 2 23 v2 rfl rfl))
  clear hA0 hval0
  refine (laws_FnExactLeastGate.walk (x0_0, x0_1, x0_2, x0_3, x0_4, x0_5, x0_6, x0_7, x1, x2) (law_plain x0_0 x0_1 x0_2 x0_3 x0_4 x0_5 x0_6 x0_7 x1 x2 f0_0 f0_1 f0_2 f0_3 f0_4 f0_5 f0_6 f0_7 f1 f2) (ρ := fun i => (lget ([] : List (Sx.Loc × Cells)) i).map (·.1)) (Rs_cons' (agg_R (by rw [e0]; exact (Rs_cons' (r0_0 _) (Rs_cons' (r0_1 _) (Rs_cons' (r0_2 _) (Rs_cons' (r0_3 _) (Rs_cons' (r0_4 _) (Rs_cons' (r0_5 _) (Rs_cons' (r0_6 _) (Rs_cons' (r0_7 _) Rs_nil')))))))))) (Rs_cons' (r1 _) (Rs_cons' (r2 _) Rs_nil'))) (HpR.ofRo [] (List.forall_mem_nil _))).mono fun e W' ⟨he, bel⟩ => ?_
  subst he
  exact ⟨_, rfl, _, _, _, [], _, [], hW', trodAll_mk1 (shut_bool Try.underlying4 _), (trodAll_cons_mk (Below.trod laidOut (by kernel_rfl) (of_decide_eq_true (by kernel_rfl)) k0 bel lt0) (trodAll_cons_mk (Below.trod laidOut (by kernel_rfl) (of_decide_eq_true (by kernel_rfl)) k1 bel lt1) (trodAll_cons_mk (Below.trod laidOut (by kernel_rfl) (of_decide_eq_true (by kernel_rfl)) k2 bel lt2) trodAll_mk0))), rfl, bel.frame _, fun h => by cases h⟩
theorem over : Rows.fnExactLeastGateRow.holds Try.pinned (OpenSpec.ofChange Rows.fnExactLeastGateSpec) :=
  OpenClaim.holds_of_wide 8 Try.f8 rfl rfl rfl rfl rfl rfl rfl ⟨rfl, rfl, rfl, rfl, rfl⟩ rfl rfl rfl rfl rfl (by kernel_rfl) Try.func8 (by kernel_rfl)
    (of_decide_eq_true (by kernel_rfl)) (by unfold Func.isWrapper; first | (rw [if_pos (by decide +kernel)]; kernel_rfl) | (rw [if_neg (by decide +kernel)]; exact ⟨rfl, rfl⟩))
    (fun os started H enc _ => lifted os started H enc)
theorem proved : Rows.FnExactLeastGateSaid := over
end Go.Proofs.Ytnggljioidchdaa
