/- For every input the call of FnExactFlowThrough returns true, and each argument reads afterwards as it read before; there is no condition. -/
import Derived.Test.YtnggljioidchdaaWFnExactFlowThrough
import Derived.Test.YtnggljioidchdaaSxQ
import Derived.Test.YtnggljioidchdaaRows
import Derived.WalkKit
import Derived.ProofKit
import Derived.OpenShut
import Derived.ShutString
import Derived.ChangeOld
import Derived.Below
import Derived.Carry
import Derived.HandedShaped
namespace Go.Proofs.Ytnggljioidchdaa
open Go Go.RowKit Sx
open Go.ChangeShapes Go.WideShapes Go.ChangeAt
set_option linter.unusedVariables false
set_option linter.unusedSimpArgs false
set_option maxRecDepth 100000

-- lies in the core (SxQ)

theorem length_eq (x : Nat) : impl_IsLength x = spec_l03Length x := by
  simp only [impl_IsLength, impl_IsLength.t, impl_between, impl_between.t, spec_l03Length, spec_l03Length.t, T.val, fge_flip]

theorem sqrt_eq (x : Nat) : math_Sqrt x = fsqrt x := rfl
theorem root_ok (x : Nat) : spec_l03Root.ok x = true := by
  simp only [spec_l03Root.ok, spec_l03Root.t, T.ok, sqrt_eq, open_wide, open_sqrt, cond_false]
theorem fast_ok (x : Nat) : spec_l03Fast.ok x = true := by
  simp only [spec_l03Fast.ok, spec_l03Fast.t, T.ok, root_ok, cond_true]
theorem speedw_ok (x : Nat) : impl_waterSpeed.ok x = true := by
  simp only [impl_waterSpeed.ok, impl_waterSpeed.t, T.ok, sqrt_eq, open_wide, open_sqrt, cond_false]
theorem speedw_eq (x : Nat) : impl_waterSpeed x = spec_l03Fast x := by
  simp only [impl_waterSpeed, impl_waterSpeed.t, spec_l03Fast, spec_l03Fast.t, spec_l03Root, spec_l03Root.t, T.val, sqrt_eq, open_wide, open_sqrt, root_ok, cond_false, cond_true]

theorem flow_ok (x0 x1 : Nat) (x2 : Int) : spec_l03Flow.ok x0 x1 x2 = true := by
  simp only [spec_l03Flow.ok, spec_l03Flow.t, T.ok, fast_ok, cond_true]
theorem through_ok (x0 x1 : Nat) (x2 : Int) : impl_flowThrough.ok x0 x1 x2 = true := by
  simp only [impl_flowThrough.ok, impl_flowThrough.t, T.ok, speedw_ok, cond_true]
theorem through_eq (x0 x1 : Nat) (x2 : Int) : impl_flowThrough x0 x1 x2 = spec_l03Flow x0 x1 x2 := by
  simp only [impl_flowThrough, impl_flowThrough.t, spec_l03Flow, spec_l03Flow.t, T.val, speedw_ok, speedw_eq, fast_ok, cond_true]

theorem within_eq (x y z : Int) : impl_within x y z = spec_l00In x y z := by
  simp only [impl_within, impl_within.t, spec_l00In, spec_l00In.t, T.val, ge_iff_le]

theorem same_refl (x : Nat) : laws_sameFloat x x = true := same_self (s := laws_sameFloat.t) (fun _ _ => rfl) x

theorem law_holds (x0 x1 : Nat) (x2 : Int) : (laws_FnExactFlowThrough.t x0 x1 x2).get = some true := by
  have h1 : spec_FlowThrough.ok x0 x1 x2 = true := by
    simp only [spec_FlowThrough.ok, spec_FlowThrough.t, T.ok, flow_ok, cond_true, Bool.cond_self]
  have h2 : impl_FlowThrough.ok x0 x1 x2 = true := by
    simp only [impl_FlowThrough.ok, impl_FlowThrough.t, T.ok, through_ok, cond_true, Bool.cond_self]
  have h3 : impl_FlowThrough x0 x1 x2 = spec_FlowThrough x0 x1 x2 := by
    simp only [impl_FlowThrough, impl_FlowThrough.t, spec_FlowThrough, spec_FlowThrough.t, T.val, length_eq, within_eq, through_ok, through_eq, flow_ok, cond_true]
  simp only [laws_FnExactFlowThrough.t, T.get, h1, h2, h3, open_wide, same_refl]
  simp

theorem law_plain (x0 : Nat) (x1 : Nat) (x2 : Int) (f0 : flHas .f32 x0) (f1 : flHas .f32 x1) (f2 : (IntKind.min .i64 ≤ x2 ∧ x2 ≤ IntKind.max .i64)) : (laws_FnExactFlowThrough.tr (x0, x1, x2)).get = some true := law_holds x0 x1 x2
theorem own : ownKnob Try.prog.godebug = none := by kernel_rfl
theorem laidOut : laidOutB Try.prog = true := by kernel_rfl
theorem lifted (os : Os) (started : os.Started) (H : Type) (enc : TypeId × Value → H) :
    ReturnsInHanded {} Try.checked os 6 .any (Rows.fnExactFlowThroughSpec.pre6 enc Try.prog Try.f6 Rows.fnExactFlowThroughRow.domain false) (Rows.fnExactFlowThroughSpec.post enc Try.prog Try.f6 false true false false) := by
  refine returnsInHanded_of_change (C := Try.checked) own started (by kernel_rfl) Try.func6
    (ChangeSpec.witness6 (enc := enc) (C := Try.checked) false ⟨#[], #[.float .f32 0, .float .f32 0, .int .i64 0], []⟩ 8 (by kernel_rfl) (by kernel_rfl) (by kernel_rfl) (by kernel_rfl)) ?_
  intro W base args ds gs before hval0 hW hcnd _
  have hval : ∀ (j : Nat) t v, Try.f6.params[j]? = some t → args[j]? = some v → Value.okWide Try.prog W .any base t v := hval0
  have hW' := hW
  obtain ⟨p, q, hA0, hV, rfl, hfz, hnd⟩ := hW
  have hA : DataW.TrodAll enc Try.prog W 0 (fun _ => true) true Try.f6.params.toList args.toList ds p := hA0
  rw [Try.params6] at hA hval
  obtain ⟨v0, vs0, d0, ds0, p0, q0, hargs, rfl, rfl, h0, r0⟩ := trodAll_cons hA
  obtain ⟨v1, vs1, d1, ds1, p1, q1, rfl, rfl, rfl, h1, r1⟩ := trodAll_cons r0
  obtain ⟨v2, vs2, d2, ds2, p2, q2, rfl, rfl, rfl, h2, r2⟩ := trodAll_cons r1
  obtain ⟨rfl, rfl, rfl⟩ := trodAll_nil r2
  obtain rfl : args = #[v0, v1, v2] := by cases args; simp_all
  obtain ⟨rfl, rfl⟩ := trodVars_none hV
  have k0 := h0
  have lt0 : ∀ x ∈ p0, x.block < W.heap.size := by obtain ⟨m, hm⟩ := k0; exact DataW.trod_lt m _ _ _ hm
  obtain ⟨x0, r0, f0⟩ := sc_fl Try.underlying23 (cell_of Try.underlying23 rfl (hval 0 23 v0 rfl rfl))
  have k1 := h1
  have lt1 : ∀ x ∈ p1, x.block < W.heap.size := by obtain ⟨m, hm⟩ := k1; exact DataW.trod_lt m _ _ _ hm
  obtain ⟨x1, r1, f1⟩ := sc_fl Try.underlying23 (cell_of Try.underlying23 rfl (hval 1 23 v1 rfl rfl))
  have k2 := h2
  have lt2 : ∀ x ∈ p2, x.block < W.heap.size := by obtain ⟨m, hm⟩ := k2; exact DataW.trod_lt m _ _ _ hm
  obtain ⟨x2, r2, f2⟩ := sc_it Try.underlying2 (cell_of Try.underlying2 rfl (hval 2 2 v2 rfl rfl))
  clear hA0 hval0
  refine (laws_FnExactFlowThrough.walk (x0, x1, x2) (law_plain x0 x1 x2 f0 f1 f2) (ρ := fun i => (lget ([] : List (Sx.Loc × Cells)) i).map (·.1)) (Rs_cons' (r0 _) (Rs_cons' (r1 _) (Rs_cons' (r2 _) Rs_nil'))) (HpR.ofRo [] (List.forall_mem_nil _))).mono fun e W' ⟨he, bel⟩ => ?_
  subst he
  exact ⟨_, rfl, _, _, _, [], _, [], hW', trodAll_mk1 (shut_bool Try.underlying4 _), (trodAll_cons_mk (Below.trod laidOut (by kernel_rfl) (of_decide_eq_true (by kernel_rfl)) k0 bel lt0) (trodAll_cons_mk (Below.trod laidOut (by kernel_rfl) (of_decide_eq_true (by kernel_rfl)) k1 bel lt1) (trodAll_cons_mk (Below.trod laidOut (by kernel_rfl) (of_decide_eq_true (by kernel_rfl)) k2 bel lt2) trodAll_mk0))), rfl, bel.frame _, fun h => by cases h⟩
theorem over : Rows.fnExactFlowThroughRow.holds Try.pinned (OpenSpec.ofChange Rows.fnExactFlowThroughSpec) :=
  OpenClaim.holds_of_wide 6 Try.f6 rfl rfl rfl rfl rfl rfl rfl ⟨rfl, rfl, rfl, rfl, rfl⟩ rfl rfl rfl rfl rfl (by kernel_rfl) Try.func6 (by kernel_rfl)
    (of_decide_eq_true (by kernel_rfl)) (by unfold Func.isWrapper; first | (rw [if_pos (by decide +kernel)]; kernel_rfl) | (rw [if_neg (by decide +kernel)]; exact ⟨rfl, rfl⟩))
    (fun os started H enc _ => lifted os started H enc)
theorem proved : Rows.FnExactFlowThroughSaid := over
end Go.Proofs.Ytnggljioidchdaa
