/- For every input the call of FnExactSumOf returns true, and each argument reads afterwards as it read before; there is no condition. -/
import Derived.Test.YtlnfakbmigbdbaaWFnExactSumOf
import Derived.Test.YtlnfakbmigbdbaaRows
import Derived.WalkKit
import Derived.ProofKit
import Derived.OpenShut
import Derived.ShutString
import Derived.ChangeOld
import Derived.Below
import Derived.Carry
import Derived.HandedShaped
namespace Go.Proofs.Ytlnfakbmigbdbaa
open Go Go.RowKit Sx
open Go.ChangeShapes Go.WideShapes Go.ChangeAt
set_option linter.unusedVariables false
set_option linter.unusedSimpArgs false
set_option maxRecDepth 100000

theorem same_refl (x : Nat) : laws_sameFloat x x = true := same_self (s := laws_sameFloat.t) (fun _ _ => rfl) x
theorem to_r (xs : List Nat) (h : xs.length < 1099511627776) : laws_toFloat32S.l3.r (xs.length, xs.length, xs) ((0 : Int), List.replicate (xs.length * 1) 0) = some xs := copy_run 0 xs (by omega)
theorem to_ok (xs : List Nat) (h : xs.length < 1099511627776) : laws_toFloat32S.ok xs.length xs = true := by
  simp only [laws_toFloat32S.ok, laws_toFloat32S.t, T.ok, Int.toNat_natCast, to_r xs h, Option.isSome_some, cond_true]
  rw [decide_eq_true (by omega), decide_eq_true (by omega), decide_eq_true (by omega), decide_eq_true (by omega)]
  rfl
theorem to_eq (xs : List Nat) (h : xs.length < 1099511627776) : laws_toFloat32S xs.length xs = (xs.length, xs) := by
  simp only [laws_toFloat32S, laws_toFloat32S.t, T.val, Int.toNat_natCast, to_r xs h, Option.isSome_some, cond_true, Option.getD_some]
  rw [decide_eq_true (by omega), decide_eq_true (by omega), decide_eq_true (by omega), decide_eq_true (by omega)]
  rfl
theorem eq_r (xs : List Nat) (h : xs.length < 1099511627776) : laws_eqFloat32S.l4.r (xs.length, xs.length, xs, xs) 0 = some (.inr ()) := by
  refine iter_count xs.length (by omega) (fun i hi => ?_) ?_
  · simp only [laws_eqFloat32S.l4.st, laws_eqFloat32S.l4.s, T.get, bounds_nat, ble_decide, open_wide, same_refl, Int.toNat_natCast, Nat.mul_one]
    rw [decide_eq_true (by omega), decide_eq_true hi, decide_eq_true (by omega)]
    rfl
  · simp only [laws_eqFloat32S.l4.st, laws_eqFloat32S.l4.s, T.get]
    rw [decide_eq_false (by omega)]
    rfl
theorem eq_ok (xs : List Nat) (h : xs.length < 1099511627776) : laws_eqFloat32S.ok xs.length xs.length xs xs = true := by
  simp only [laws_eqFloat32S.ok, laws_eqFloat32S.t, T.ok, eq_r xs h]
  simp
theorem eq_eq (xs : List Nat) (h : xs.length < 1099511627776) : laws_eqFloat32S xs.length xs.length xs xs = true := by
  simp only [laws_eqFloat32S, laws_eqFloat32S.t, T.val, eq_r xs h]
  simp
theorem sum_r (xs : List Nat) (h : xs.length ≤ 60) : ∃ e, spec_SumOf.l5.r (xs.length, xs) (0, 0) = some e := by
  obtain ⟨e, h1, _⟩ := iter_ends (step := spec_SumOf.l5.st (xs.length, xs)) (R := fun s => ∃ i : Nat, i ≤ xs.length ∧ s.2 = (i : Int)) (E := fun _ => True) (fun s => xs.length - s.2.toNat) (by
    rintro ⟨s, c⟩ ⟨i, hi, hc⟩
    dsimp only at hc
    subst hc
    by_cases hlt : i < xs.length
    · refine .inl ⟨(fadd .f32 s (xs.getD i 0), IntKind.wrap .i64 ((i : Int) + 1)), ?_, ⟨i + 1, by omega, ?_⟩, ?_⟩
      · simp only [spec_SumOf.l5.st, spec_SumOf.l5.s, T.get, bounds_nat, ble_decide, Int.toNat_natCast, Nat.mul_one]
        rw [decide_eq_true (by omega), decide_eq_true hlt, decide_eq_true (by omega)]
        rfl
      · exact wrap64_succ (by omega)
      · dsimp only
        rw [wrap64_succ (by omega)]
        omega
    · refine .inr ⟨s, ?_, trivial⟩
      simp only [spec_SumOf.l5.st, spec_SumOf.l5.s, T.get]
      rw [decide_eq_false (by omega)]
      rfl) manyRounds (0, 0) ⟨0, by omega, rfl⟩ (many_lt (by dsimp only; omega))
  exact ⟨e, h1⟩
theorem sum_same (xs : List Nat) : impl_SumOf.l5.r (xs.length, (xs.length : Int), xs) (0, 0) = spec_SumOf.l5.r (xs.length, xs) (0, 0) :=
  congrArg (fun st => iterT st manyRounds (0, 0)) (funext fun x => rfl)
theorem law_holds (xs : List Nat) : (laws_FnExactSumOf.t xs.length xs).get = some true := by
  simp only [laws_FnExactSumOf.t, T.get]
  by_cases hb : (xs.length : Int) > 1048576
  · rw [decide_eq_true hb]
    rfl
  · rw [decide_eq_false hb]
    have hl : xs.length < 1099511627776 := by omega
    simp only [to_ok xs hl, to_eq xs hl, cond_true, cond_false]
    have e1 : spec_SumOf.ok xs.length xs = true ∧ impl_SumOf.ok xs.length xs = true ∧ impl_SumOf xs.length xs = spec_SumOf xs.length xs := by
      simp only [spec_SumOf.ok, spec_SumOf.t, impl_SumOf.ok, impl_SumOf.t, impl_SumOf, spec_SumOf, T.ok, T.val, sum_same]
      by_cases h : (xs.length : Int) > 60
      · simp only [decide_eq_true h, cond_true, and_self]
      · obtain ⟨e, he⟩ := sum_r xs (by omega)
        simp only [decide_eq_false h, he, Option.isSome_some, cond_true, cond_false, and_self]
    obtain ⟨e1, e2, e3⟩ := e1
    simp only [e1, e2, e3, eq_ok xs hl, eq_eq xs hl, open_wide, same_refl, cond_true, cond_false, Bool.not_true]
    simp

theorem law_plain (xs0 : List Nat) (f0 : ∀ x ∈ xs0, flHas .f32 x) (y0 : List.length xs0 ≤ maxLen) : (laws_FnExactSumOf.tr (xs0.length, xs0)).get = some true := law_holds xs0
theorem own : ownKnob Try.prog.godebug = none := by kernel_rfl
theorem laidOut : laidOutB Try.prog = true := by kernel_rfl
theorem ground {W : World} (h : W.ShapedOpen Try.prog) : Sx.Ground W := ground_of (by kernel_rfl) h
theorem lifted (os : Os) (started : os.Started) (H : Type) (enc : TypeId × Value → H) :
    ReturnsInHanded {} Try.checked os 8 .any (Rows.fnExactSumOfSpec.pre6 enc Try.prog Try.f8 Rows.fnExactSumOfRow.domain false) (Rows.fnExactSumOfSpec.post enc Try.prog Try.f8 false true false false) := by
  refine returnsInHanded_of_change_shaped (C := Try.checked) own started (by kernel_rfl) Try.func8
    (ChangeSpec.witness6 (enc := enc) (C := Try.checked) false ⟨#[], #[.slice none 0 0], []⟩ 8 (by kernel_rfl) (by kernel_rfl) (by kernel_rfl) (by kernel_rfl)) ?_
  intro W base args ds gs before hval0 hW hcnd _ hsh _
  have hG := ground hsh
  have hval : ∀ (j : Nat) t v, Try.f8.params[j]? = some t → args[j]? = some v → Value.okWide Try.prog W .any base t v := hval0
  have hW' := hW
  obtain ⟨p, q, hA0, hV, rfl, hfz, hnd⟩ := hW
  have hA : DataW.TrodAll enc Try.prog W 0 (fun _ => true) true Try.f8.params.toList args.toList ds p := hA0
  rw [Try.params8] at hA hval
  obtain ⟨v0, vs0, d0, ds0, p0, q0, hargs, rfl, rfl, h0, r0⟩ := trodAll_cons hA
  obtain ⟨rfl, rfl, rfl⟩ := trodAll_nil r0
  obtain rfl : args = #[v0] := by cases args; simp_all
  obtain ⟨rfl, rfl⟩ := trodVars_none hV
  have k0 := h0
  have lt0 : ∀ x ∈ p0, x.block < W.heap.size := by obtain ⟨m, hm⟩ := k0; exact DataW.trod_lt m _ _ _ hm
  obtain ⟨l0, xs0, w0, r0, f0, y0⟩ := open_fls Try.underlying41 Try.underlying22 (by kernel_rfl) hG (hval 0 41 v0 rfl rfl) k0
  clear hA0 hval0
  refine (laws_FnExactSumOf.walk (xs0.length, xs0) (law_plain xs0 f0 y0) (ρ := fun i => (lget ([(l0, .fs .f32 xs0)] : List (Sx.Loc × Cells)) i).map (·.1)) (Rs_cons' (r0 _ 0 rfl) Rs_nil') (HpR.ofRo [(l0, .fs .f32 xs0)] ((List.forall_mem_cons.2 ⟨w0, List.forall_mem_nil _⟩)))).mono fun e W' ⟨he, bel⟩ => ?_
  subst he
  exact ⟨_, rfl, _, _, _, [], _, [], hW', trodAll_mk1 (shut_bool Try.underlying4 _), (trodAll_cons_mk (Below.trod laidOut (by kernel_rfl) (of_decide_eq_true (by kernel_rfl)) k0 bel lt0) trodAll_mk0), rfl, bel.frame _, fun h => by cases h⟩
theorem over : Rows.fnExactSumOfRow.holds Try.pinned (OpenSpec.ofChange Rows.fnExactSumOfSpec) :=
  OpenClaim.holds_of_wide 8 Try.f8 rfl rfl rfl rfl rfl rfl rfl ⟨rfl, rfl, rfl, rfl, rfl⟩ rfl rfl rfl rfl rfl (by kernel_rfl) Try.func8 (by kernel_rfl)
    (of_decide_eq_true (by kernel_rfl)) (by unfold Func.isWrapper; first | (rw [if_pos (by decide +kernel)]; kernel_rfl) | (rw [if_neg (by decide +kernel)]; exact ⟨rfl, rfl⟩))
    (fun os started H enc _ => lifted os started H enc)
theorem proved : Rows.FnExactSumOfSaid := over
end Go.Proofs.Ytlnfakbmigbdbaa
