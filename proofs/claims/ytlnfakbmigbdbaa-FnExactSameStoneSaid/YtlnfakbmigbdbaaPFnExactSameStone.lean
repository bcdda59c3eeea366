/- For every input the call of FnExactSameStone returns true, and each argument reads afterwards as it read before; there is no condition. -/
import Derived.Test.YtlnfakbmigbdbaaWFnExactSameStone
import Derived.Test.YtlnfakbmigbdbaaRows
import Derived.WalkKit
import Derived.ProofKit
import Derived.OpenShut
import Derived.ShutString
import Derived.ChangeOld
import Derived.Below
import Derived.Carry
import Derived.HandedShaped
namespace Go.Proofs.Ytlnfakbmigbdbaa
open Go Go.RowKit Sx
open Go.ChangeShapes Go.WideShapes Go.ChangeAt
set_option linter.unusedVariables false
set_option linter.unusedSimpArgs false
set_option maxRecDepth 100000

theorem same_ok (x y : Nat) : spec_l01Same.ok x y = true := by
  simp only [spec_l01Same.ok, spec_l01Same.t, T.ok, fne_self, Int.toNat_natCast]
  cases isNaN .f32 x <;> cases isNaN .f32 y <;> rfl
theorem number_ok (x y : Nat) : impl_SameNumber.ok x y = true := by
  simp only [impl_SameNumber.ok, impl_SameNumber.t, T.ok, fne_self, Int.toNat_natCast]
  cases isNaN .f32 x <;> cases isNaN .f32 y <;> rfl
theorem number_same (x y : Nat) : impl_SameNumber x y = spec_l01Same x y := by
  simp only [impl_SameNumber, impl_SameNumber.t, spec_l01Same, spec_l01Same.t, T.val, fne_self, Int.toNat_natCast]
  cases isNaN .f32 x <;> cases isNaN .f32 y <;> rfl
theorem law_holds (x0 x1 x2 x3 x4 x5 x6 x7 : Nat) : (laws_FnExactSameStone.t x0 x1 x2 x3 x4 x5 x6 x7).get = some true := by
  have h1 (x0 x1 x2 x3 x4 x5 x6 x7 : Nat) : spec_SameStone.ok x0 x1 x2 x3 x4 x5 x6 x7 = true := by
    simp only [spec_SameStone.ok, spec_SameStone.t, T.ok, same_ok, cond_true]
    cases spec_l01Same x0 x4 <;> cases spec_l01Same x1 x5 <;> cases spec_l01Same x2 x6 <;> rfl
  have h2 (x0 x1 x2 x3 x4 x5 x6 x7 : Nat) : impl_SameStone.ok x0 x1 x2 x3 x4 x5 x6 x7 = true := by
    simp only [impl_SameStone.ok, impl_SameStone.t, T.ok, number_ok, cond_true]
    cases impl_SameNumber x0 x4 <;> cases impl_SameNumber x1 x5 <;> cases impl_SameNumber x2 x6 <;> rfl
  have h3 (x0 x1 x2 x3 x4 x5 x6 x7 : Nat) : impl_SameStone x0 x1 x2 x3 x4 x5 x6 x7 = spec_SameStone x0 x1 x2 x3 x4 x5 x6 x7 := by
    simp only [impl_SameStone, impl_SameStone.t, spec_SameStone, spec_SameStone.t, T.val, same_ok, number_ok, number_same, cond_true]
  simp only [laws_FnExactSameStone.t, h1, h2, h3, T.get, cond_true]
  simp

theorem law_plain (x0_0 : Nat) (x0_1 : Nat) (x0_2 : Nat) (x0_3 : Nat) (x1_0 : Nat) (x1_1 : Nat) (x1_2 : Nat) (x1_3 : Nat) (f0_0 : flHas .f32 x0_0) (f0_1 : flHas .f32 x0_1) (f0_2 : flHas .f32 x0_2) (f0_3 : flHas .f32 x0_3) (f1_0 : flHas .f32 x1_0) (f1_1 : flHas .f32 x1_1) (f1_2 : flHas .f32 x1_2) (f1_3 : flHas .f32 x1_3) : (laws_FnExactSameStone.tr (x0_0, x0_1, x0_2, x0_3, x1_0, x1_1, x1_2, x1_3)).get = some true := law_holds x0_0 x0_1 x0_2 x0_3 x1_0 x1_1 x1_2 x1_3
theorem own : ownKnob Try.prog.godebug = none := by kernel_rfl
theorem laidOut : laidOutB Try.prog = true := by kernel_rfl
theorem lifted (os : Os) (started : os.Started) (H : Type) (enc : TypeId × Value → H) :
    ReturnsInHanded {} Try.checked os 5 .any (Rows.fnExactSameStoneSpec.pre6 enc Try.prog Try.f5 Rows.fnExactSameStoneRow.domain false) (Rows.fnExactSameStoneSpec.post enc Try.prog Try.f5 false true false false) := by
  refine returnsInHanded_of_change (C := Try.checked) own started (by kernel_rfl) Try.func5
    (ChangeSpec.witness6 (enc := enc) (C := Try.checked) false ⟨#[], #[.agg #[.float .f32 0, .float .f32 0, .float .f32 0, .float .f32 0], .agg #[.float .f32 0, .float .f32 0, .float .f32 0, .float .f32 0]], []⟩ 8 (by kernel_rfl) (by kernel_rfl) (by kernel_rfl) (by kernel_rfl)) ?_
  intro W base args ds gs before hval0 hW hcnd _
  have hval : ∀ (j : Nat) t v, Try.f5.params[j]? = some t → args[j]? = some v → Value.okWide Try.prog W .any base t v := hval0
  have hW' := hW
  obtain ⟨p, q, hA0, hV, rfl, hfz, hnd⟩ := hW
  have hA : DataW.TrodAll enc Try.prog W 0 (fun _ => true) true Try.f5.params.toList args.toList ds p := hA0
  rw [Try.params5] at hA hval
  obtain ⟨v0, vs0, d0, ds0, p0, q0, hargs, rfl, rfl, h0, r0⟩ := trodAll_cons hA
  obtain ⟨v1, vs1, d1, ds1, p1, q1, rfl, rfl, rfl, h1, r1⟩ := trodAll_cons r0
  obtain ⟨rfl, rfl, rfl⟩ := trodAll_nil r1
  obtain rfl : args = #[v0, v1] := by cases args; simp_all
  obtain ⟨rfl, rfl⟩ := trodVars_none hV
  have k0 := h0
  have lt0 : ∀ x ∈ p0, x.block < W.heap.size := by obtain ⟨m, hm⟩ := k0; exact DataW.trod_lt m _ _ _ hm
  obtain ⟨cs0, rfl, hc0⟩ := open_row (ts := [22, 22, 22, 22]) Try.underlying25 rfl (by kernel_rfl) (by kernel_rfl) (hval 0 25 v0 rfl rfl)
  obtain ⟨u0_0, m0_0, e0, g0_0, hc0⟩ := hc0
  obtain ⟨x0_0, r0_0, f0_0⟩ := sc_fl Try.underlying22 g0_0
  obtain ⟨u0_1, m0_1, rfl, g0_1, hc0⟩ := hc0
  obtain ⟨x0_1, r0_1, f0_1⟩ := sc_fl Try.underlying22 g0_1
  obtain ⟨u0_2, m0_2, rfl, g0_2, hc0⟩ := hc0
  obtain ⟨x0_2, r0_2, f0_2⟩ := sc_fl Try.underlying22 g0_2
  obtain ⟨u0_3, m0_3, rfl, g0_3, hc0⟩ := hc0
  obtain ⟨x0_3, r0_3, f0_3⟩ := sc_fl Try.underlying22 g0_3
  obtain rfl := hc0
  have k1 := h1
  have lt1 : ∀ x ∈ p1, x.block < W.heap.size := by obtain ⟨m, hm⟩ := k1; exact DataW.trod_lt m _ _ _ hm
  obtain ⟨cs1, rfl, hc1⟩ := open_row (ts := [22, 22, 22, 22]) Try.underlying25 rfl (by kernel_rfl) (by kernel_rfl) (hval 1 25 v1 rfl rfl)
  obtain ⟨u1_0, m1_0, e1, g1_0, hc1⟩ := hc1
  obtain ⟨x1_0, r1_0, f1_0⟩ := sc_fl Try.underlying22 g1_0
  obtain ⟨u1_1, m1_1, rfl, g1_1, hc1⟩ := hc1
  obtain ⟨x1_1, r1_1, f1_1⟩ := sc_fl Try.underlying22 g1_1
  obtain ⟨u1_2, m1_2, rfl, g1_2, hc1⟩ := hc1
  obtain ⟨x1_2, r1_2, f1_2⟩ := sc_fl Try.underlying22 g1_2
  obtain ⟨u1_3, m1_3, rfl, g1_3, hc1⟩ := hc1
  obtain ⟨x1_3, r1_3, f1_3⟩ := sc_fl Try.underlying22 g1_3
  obtain rfl := hc1
  clear hA0 hval0
  refine (laws_FnExactSameStone.walk (x0_0, x0_1, x0_2, x0_3, x1_0, x1_1, x1_2, x1_3) (law_plain x0_0 x0_1 x0_2 x0_3 x1_0 x1_1 x1_2 x1_3 f0_0 f0_1 f0_2 f0_3 f1_0 f1_1 f1_2 f1_3) (ρ := fun i => (lget ([] : List (Sx.Loc × Cells)) i).map (·.1)) (Rs_cons' (agg_R (by rw [e0]; exact (Rs_cons' (r0_0 _) (Rs_cons' (r0_1 _) (Rs_cons' (r0_2 _) (Rs_cons' (r0_3 _) Rs_nil')))))) (Rs_cons' (agg_R (by rw [e1]; exact (Rs_cons' (r1_0 _) (Rs_cons' (r1_1 _) (Rs_cons' (r1_2 _) (Rs_cons' (r1_3 _) Rs_nil')))))) Rs_nil')) (HpR.ofRo [] (List.forall_mem_nil _))).mono fun e W' ⟨he, bel⟩ => ?_
  subst he
  exact ⟨_, rfl, _, _, _, [], _, [], hW', trodAll_mk1 (shut_bool Try.underlying4 _), (trodAll_cons_mk (Below.trod laidOut (by kernel_rfl) (of_decide_eq_true (by kernel_rfl)) k0 bel lt0) (trodAll_cons_mk (Below.trod laidOut (by kernel_rfl) (of_decide_eq_true (by kernel_rfl)) k1 bel lt1) trodAll_mk0)), rfl, bel.frame _, fun h => by cases h⟩
theorem over : Rows.fnExactSameStoneRow.holds Try.pinned (OpenSpec.ofChange Rows.fnExactSameStoneSpec) :=
  OpenClaim.holds_of_wide 5 Try.f5 rfl rfl rfl rfl rfl rfl rfl ⟨rfl, rfl, rfl, rfl, rfl⟩ rfl rfl rfl rfl rfl (by kernel_rfl) Try.func5 (by kernel_rfl)
    (of_decide_eq_true (by kernel_rfl)) (by unfold Func.isWrapper; first | (rw [if_pos (by decide +kernel)]; kernel_rfl) | (rw [if_neg (by decide +kernel)]; exact ⟨rfl, rfl⟩))
    (fun os started H enc _ => lifted os started H enc)
theorem proved : Rows.FnExactSameStoneSaid := over
end Go.Proofs.Ytlnfakbmigbdbaa
