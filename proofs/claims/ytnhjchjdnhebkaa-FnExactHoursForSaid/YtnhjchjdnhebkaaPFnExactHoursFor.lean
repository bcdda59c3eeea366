/- For every input the call of FnExactHoursFor returns true, and each argument reads afterwards as it read before; there is no condition. -/
import Derived.Test.YtnhjchjdnhebkaaWFnExactHoursFor
import Derived.Test.YtnhjchjdnhebkaaSxQ
import Derived.Test.YtnhjchjdnhebkaaRows
import Derived.WalkKit
import Derived.ProofKit
import Derived.OpenShut
import Derived.ShutString
import Derived.ChangeOld
import Derived.Below
import Derived.Carry
import Derived.HandedShaped
namespace Go.Proofs.Ytnhjchjdnhebkaa
open Go Go.RowKit Sx
open Go.ChangeShapes Go.WideShapes Go.ChangeAt
set_option linter.unusedVariables false
set_option linter.unusedSimpArgs false
set_option maxRecDepth 100000

theorem rate_eq (x : Nat) : impl_IsRate x = spec_l04Rate x := by
  simp only [impl_IsRate, impl_IsRate.t, impl_between, impl_between.t, spec_l04Rate, spec_l04Rate.t, T.val, fge_flip]

theorem part_eq (x : Nat) : impl_IsPart x = spec_l01Part x := by
  simp only [impl_IsPart, impl_IsPart.t, impl_between, impl_between.t, spec_l01Part, spec_l01Part.t, T.val, fge_flip]

theorem stone_eq (x0 x1 x2 x3 : Nat) : laws_toStone x0 x1 x2 x3 = (x0, x1, x2, x3) := rfl
theorem valid_eq (x0 x1 x2 x3 : Nat) : impl_ValidStone x0 x1 x2 x3 = spec_l04Ok x0 x1 x2 x3 := by
  simp only [impl_ValidStone, impl_ValidStone.t, spec_l04Ok, spec_l04Ok.t, T.val, rate_eq, part_eq]

theorem amount_eq (x : Nat) : impl_isAmount x = spec_l03Amount x := by
  simp only [impl_isAmount, impl_isAmount.t, impl_between, impl_between.t, spec_l03Amount, spec_l03Amount.t, T.val, fge_flip]

-- lies in the core (SxQ)

theorem rate_0 : spec_l04Rate 0 = true := by kernel_rfl
theorem load1_eq (x0 x1 x2 x3 a b : Nat) : impl_Stone_load a b x0 x1 x2 x3 = spec_l04Load x0 x1 x2 x3 a b := rfl
theorem sum_r (x0 x1 x2 x3 a b : Nat) : spec_l04Sum.l3.r (1, a, b, [x0, x1, x2, x3]) (0, 0) = some (fadd .f32 0 (spec_l04Load x0 x1 x2 x3 a b)) := by
  have hf := iter_run (step := spec_l04Sum.l3.st (1, a, b, [x0, x1, x2, x3])) (f := fun i => if i = 0 then (0, 0) else (fadd .f32 0 (spec_l04Load x0 x1 x2 x3 a b), 1)) (e := fadd .f32 0 (spec_l04Load x0 x1 x2 x3 a b)) (n := 1) (N := manyRounds) (k := 0)
    (many_lt (by omega)) (fun i hi => ?_) ?_
  · exact hf
  · have : i = 0 := by omega
    subst this
    rfl
  · rfl
theorem sum_t (x0 x1 x2 x3 a b : Nat) : (spec_l04Sum.t 1 a b [x0, x1, x2, x3]).get = some (fadd .f32 0 (spec_l04Load x0 x1 x2 x3 a b)) := by
  simp only [spec_l04Sum.t, T.get, sum_r]
  rfl
theorem sum_ok (x0 x1 x2 x3 a b : Nat) : spec_l04Sum.ok 1 a b [x0, x1, x2, x3] = true := T.ok_of_get (sum_t x0 x1 x2 x3 a b)
theorem sum_eq (x0 x1 x2 x3 a b : Nat) : spec_l04Sum 1 a b [x0, x1, x2, x3] = fadd .f32 0 (spec_l04Load x0 x1 x2 x3 a b) := T.val_of_get (sum_t x0 x1 x2 x3 a b)
theorem sum_gt (x0 x1 x2 x3 a b c : Nat) : fgt .f32 (spec_l04Sum 1 a b [x0, x1, x2, x3]) c = fgt .f32 (spec_l04Load x0 x1 x2 x3 a b) c := by
  rw [sum_eq]
  exact add_zero_gt .f32 _ c (fadd_has .f32 _ _)
theorem bisect (x0 x1 x2 x3 t f : Nat) (n : Int) (hn : n ≤ 60) : ∃ e, spec_l04Steady.l6.r (1, t, f, n, [x0, x1, x2, x3]) (0, 1149239296, 0) = some e ∧ impl_steady.l3.r (t, n, f, x0, x1, x2, x3) (0, 1149239296, 0) = some e := by
  obtain ⟨e, e', h1, h2, rfl⟩ := iter_two (step := spec_l04Steady.l6.st (1, t, f, n, [x0, x1, x2, x3])) (step' := impl_steady.l3.st (t, n, f, x0, x1, x2, x3)) (R := fun s t => s = t ∧ ∃ i : Nat, i ≤ 61 ∧ s.2.2 = (i : Int)) (E := fun e e' => e = e') (fun s => 61 - s.2.2.toNat) (by
    rintro ⟨a, b, c⟩ _ ⟨rfl, i, hi, hc⟩
    dsimp only at hc
    subst hc
    simp only [spec_l04Steady.l6.st, spec_l04Steady.l6.s, impl_steady.l3.st, impl_steady.l3.s, T.get, sum_ok, sum_gt, impl_halved, impl_halved.t, impl_Stone_steadySpeed_1, impl_Stone_steadySpeed_1.t, T.val, load1_eq]
    by_cases hlt : (i : Int) < n
    · rw [decide_eq_true hlt, wrap64_succ (by omega)]
      simp only [cond_true]
      cases fgt .f32 (spec_l04Load x0 x1 x2 x3 (fdiv .f32 (fadd .f32 a b) 1073741824) f) t with
      | true => exact .inl ⟨_, _, rfl, rfl, ⟨rfl, i + 1, by omega, rfl⟩, by dsimp only; omega⟩
      | false => exact .inl ⟨_, _, rfl, rfl, ⟨rfl, i + 1, by omega, rfl⟩, by dsimp only; omega⟩
    · rw [decide_eq_false hlt]
      exact .inr ⟨_, _, rfl, rfl, rfl⟩) manyRounds (0, 1149239296, 0) (0, 1149239296, 0) ⟨rfl, 0, by omega, rfl⟩ (many_lt (by simp))
  exact ⟨e, h1, h2⟩
theorem steady_t (x0 x1 x2 x3 t f : Nat) (n : Int) (hn : n ≤ 60) : ∃ r, (spec_l04Steady.t 1 t f n [x0, x1, x2, x3]).get = some r ∧ (impl_Stone_steadySpeed.t t f n x0 x1 x2 x3).get = some r := by
  obtain ⟨e, h1, h2⟩ := bisect x0 x1 x2 x3 t f n hn
  have h3 : (impl_steady.t t n f x0 x1 x2 x3).get = some e := by
    simp only [impl_steady.t, T.get, h2]
    rfl
  simp only [spec_l04Steady.t, impl_Stone_steadySpeed.t, T.get, sum_ok, sum_gt, impl_Stone_steadySpeed_1, impl_Stone_steadySpeed_1.t, T.val, load1_eq, h1, cond_true]
  rw [show impl_steady.ok t n f x0 x1 x2 x3 = true from T.ok_of_get h3, show impl_steady t n f x0 x1 x2 x3 = e from T.val_of_get h3]
  cases fgt .f32 (spec_l04Load x0 x1 x2 x3 0 f) t <;> exact ⟨_, rfl, rfl⟩

-- lies in the core (SxQ)

theorem least_eq (x : Nat) : impl_atLeast0 x = spec_l03Least x := by
  simp only [impl_atLeast0, impl_atLeast0.t, spec_l03Least, spec_l03Least.t, T.val]

theorem dull_eq (x0 x1 x2 x3 x4 : Nat) : impl_Stone_dull x4 x0 x1 x2 x3 = spec_l04Dulled x0 x1 x2 x3 x4 := by
  simp only [impl_Stone_dull, impl_Stone_dull.t, spec_l04Dulled, spec_l04Dulled.t, T.val, least_eq]
theorem hour_t (x0 x1 x2 x3 x4 x5 : Nat) : ∃ a b c d f, (spec_l04Hour.t x0 x1 x2 x3 x4 x5).get = some (a, b, c, d, f) ∧ (impl_Stone_hour.t x4 x5 x0 x1 x2 x3).get = some (f, a, b, c, d) := by
  obtain ⟨⟨s, ok⟩, h1, h2⟩ := steady_t x0 x1 x2 x3 x4 x5 40 (by omega)
  simp only [spec_l04Hour.t, impl_Stone_hour.t, T.get, impl_Stone_flour, impl_Stone_flour.t, spec_l04Flour, spec_l04Flour.t, T.val, fmin_amount, dull_eq,
    show spec_l04Steady.ok 1 x4 x5 40 [x0, x1, x2, x3] = true from T.ok_of_get h1, show spec_l04Steady 1 x4 x5 40 [x0, x1, x2, x3] = (s, ok) from T.val_of_get h1,
    show impl_Stone_steadySpeed.ok x4 x5 40 x0 x1 x2 x3 = true from T.ok_of_get h2, show impl_Stone_steadySpeed x4 x5 40 x0 x1 x2 x3 = (s, ok) from T.val_of_get h2]
  cases ok
  · exact ⟨_, _, _, _, _, rfl, rfl⟩
  · cases fgt .f32 (fmul .f32 (fmul .f32 s x5) x3) 1233125376 <;> exact ⟨_, _, _, _, _, rfl, rfl⟩

theorem loop_r (x0 x1 x2 x3 x4 x5 x6 : Nat) : ∃ e, spec_HoursFor.l8.r (x4, x5, x6) (0, 0, x0, x1, x2, x3) = some e ∧ impl_HoursFor.l6.r (x4, x5, x6) (0, 0, x0, x1, x2, x3) = some e := by
  obtain ⟨e, e', h1, h2, rfl⟩ := iter_two (step := spec_HoursFor.l8.st (x4, x5, x6)) (step' := impl_HoursFor.l6.st (x4, x5, x6)) (R := fun s t => s = t ∧ ∃ i : Nat, i ≤ 61 ∧ s.2.1 = (i : Int)) (E := fun e e' => e = e') (fun s => 61 - s.2.1.toNat) (by
    rintro ⟨f, n, a, b, c, d⟩ _ ⟨rfl, i, hi, hc⟩
    dsimp only at hc
    subst hc
    obtain ⟨a', b', c', d', g, q1, q2⟩ := hour_t a b c d x4 x5
    simp only [spec_HoursFor.l8.st, spec_HoursFor.l8.s, impl_HoursFor.l6.st, impl_HoursFor.l6.s, T.get,
      show spec_l04Hour.ok a b c d x4 x5 = true from T.ok_of_get q1, show spec_l04Hour a b c d x4 x5 = (a', b', c', d', g) from T.val_of_get q1,
      show impl_Stone_hour.ok x4 x5 a b c d = true from T.ok_of_get q2, show impl_Stone_hour x4 x5 a b c d = (g, a', b', c', d') from T.val_of_get q2]
    by_cases hlt : i ≤ 60
    · rw [decide_eq_true (by omega : (i : Int) ≤ 60), decide_eq_true (by omega : (i : Int) < 61), wrap64_succ (by omega)]
      simp only [cond_true]
      cases fge .f32 f x6 with
      | true => exact .inr ⟨_, _, rfl, rfl, rfl⟩
      | false => exact .inl ⟨_, _, rfl, rfl, ⟨rfl, i + 1, by omega, rfl⟩, by dsimp only; omega⟩
    · rw [decide_eq_false (by omega : ¬ (i : Int) ≤ 60), decide_eq_false (by omega : ¬ (i : Int) < 61)]
      exact .inr ⟨_, _, rfl, rfl, rfl⟩) manyRounds (0, 0, x0, x1, x2, x3) (0, 0, x0, x1, x2, x3) ⟨rfl, 0, by omega, rfl⟩ (many_lt (by simp))
  exact ⟨e, h1, h2⟩
theorem hours_t (x0 x1 x2 x3 x4 x5 x6 : Nat) : ∃ r, (spec_HoursFor.t x0 x1 x2 x3 x4 x5 x6).get = some r ∧ (impl_HoursFor.t x0 x1 x2 x3 x4 x5 x6).get = some r := by
  obtain ⟨e, h1, h2⟩ := loop_r x0 x1 x2 x3 x4 x5 x6
  simp only [spec_HoursFor.t, impl_HoursFor.t, T.get, h1, h2, spec_l04Turned, spec_l04Turned.t, spec_l04Asked, spec_l04Asked.t, impl_stoneCode, impl_stoneCode.t, T.val, valid_eq, rate_eq, amount_eq, rate_0, Option.isSome_some, Option.getD_some, cond_true]
  cases Sum.isLeft e <;> cases spec_l04Ok x0 x1 x2 x3 <;> cases spec_l04Rate x5 <;> cases spec_l03Amount x4 <;> cases spec_l03Amount x6 <;> exact ⟨_, rfl, rfl⟩
theorem law_holds (x0 x1 x2 x3 x4 x5 x6 : Nat) : (laws_FnExactHoursFor.t x0 x1 x2 x3 x4 x5 x6).get = some true := by
  obtain ⟨r, h1, h2⟩ := hours_t x0 x1 x2 x3 x4 x5 x6
  simp only [laws_FnExactHoursFor.t, T.get, stone_eq, show spec_HoursFor.ok x0 x1 x2 x3 x4 x5 x6 = true from T.ok_of_get h1, show spec_HoursFor x0 x1 x2 x3 x4 x5 x6 = r from T.val_of_get h1,
    show impl_HoursFor.ok x0 x1 x2 x3 x4 x5 x6 = true from T.ok_of_get h2, show impl_HoursFor x0 x1 x2 x3 x4 x5 x6 = r from T.val_of_get h2]
  simp

theorem law_plain (x0_0 : Nat) (x0_1 : Nat) (x0_2 : Nat) (x0_3 : Nat) (x1 : Nat) (x2 : Nat) (x3 : Nat) (f0_0 : flHas .f32 x0_0) (f0_1 : flHas .f32 x0_1) (f0_2 : flHas .f32 x0_2) (f0_3 : flHas .f32 x0_3) (f1 : flHas .f32 x1) (f2 : flHas .f32 x2) (f3 : flHas .f32 x3) : (laws_FnExactHoursFor.tr (x0_0, x0_1, x0_2, x0_3, x1, x2, x3)).get = some true := law_holds x0_0 x0_1 x0_2 x0_3 x1 x2 x3
theorem own : ownKnob Try.prog.godebug = none := by kernel_rfl
theorem laidOut : laidOutB Try.prog = true := by kernel_rfl
theorem lifted (os : Os) (started : os.Started) (H : Type) (enc : TypeId × Value → H) :
    ReturnsInHanded {} Try.checked os 14 .any (Rows.fnExactHoursForSpec.pre6 enc Try.prog Try.f14 Rows.fnExactHoursForRow.domain false) (Rows.fnExactHoursForSpec.post enc Try.prog Try.f14 false true false false) := by
  refine returnsInHanded_of_change (C := Try.checked) own started (by kernel_rfl) Try.func14
    (ChangeSpec.witness6 (enc := enc) (C := Try.checked) false ⟨#[], #[.agg #[.float .f32 0, .float .f32 0, .float .f32 0, .float .f32 0], .float .f32 0, .float .f32 0, .float .f32 0], []⟩ 8 (by kernel_rfl) (by kernel_rfl) (by kernel_rfl) (by kernel_rfl)) ?_
  intro W base args ds gs before hval0 hW hcnd _
  have hval : ∀ (j : Nat) t v, Try.f14.params[j]? = some t → args[j]? = some v → Value.okWide Try.prog W .any base t v := hval0
  have hW' := hW
  obtain ⟨p, q, hA0, hV, rfl, hfz, hnd⟩ := hW
  have hA : DataW.TrodAll enc Try.prog W 0 (fun _ => true) true Try.f14.params.toList args.toList ds p := hA0
  rw [Try.params14] at hA hval
  obtain ⟨v0, vs0, d0, ds0, p0, q0, hargs, rfl, rfl, h0, r0⟩ := trodAll_cons hA
  obtain ⟨v1, vs1, d1, ds1, p1, q1, rfl, rfl, rfl, h1, r1⟩ := trodAll_cons r0
  obtain ⟨v2, vs2, d2, ds2, p2, q2, rfl, rfl, rfl, h2, r2⟩ := trodAll_cons r1
  obtain ⟨v3, vs3, d3, ds3, p3, q3, rfl, rfl, rfl, h3, r3⟩ := trodAll_cons r2
  obtain ⟨rfl, rfl, rfl⟩ := trodAll_nil r3
  obtain rfl : args = #[v0, v1, v2, v3] := by cases args; simp_all
  obtain ⟨rfl, rfl⟩ := trodVars_none hV
  have k0 := h0
  have lt0 : ∀ x ∈ p0, x.block < W.heap.size := by obtain ⟨m, hm⟩ := k0; exact DataW.trod_lt m _ _ _ hm
  obtain ⟨cs0, rfl, hc0⟩ := open_row (ts := [22, 22, 22, 22]) Try.underlying25 rfl (by kernel_rfl) (by kernel_rfl) (hval 0 25 v0 rfl rfl)
  obtain ⟨u0_0, m0_0, e0, g0_0, hc0⟩ := hc0
  obtain ⟨x0_0, r0_0, f0_0⟩ := sc_fl Try.underlying22 g0_0
  obtain ⟨u0_1, m0_1, rfl, g0_1, hc0⟩ := hc0
  obtain ⟨x0_1, r0_1, f0_1⟩ := sc_fl Try.underlying22 g0_1
  obtain ⟨u0_2, m0_2, rfl, g0_2, hc0⟩ := hc0
  obtain ⟨x0_2, r0_2, f0_2⟩ := sc_fl Try.underlying22 g0_2
  obtain ⟨u0_3, m0_3, rfl, g0_3, hc0⟩ := hc0
  obtain ⟨x0_3, r0_3, f0_3⟩ := sc_fl Try.underlying22 g0_3
  obtain rfl := hc0
  have k1 := h1
  have lt1 : ∀ x ∈ p1, x.block < W.heap.size := by obtain ⟨m, hm⟩ := k1; exact DataW.trod_lt m _ _ _ hm
  obtain ⟨x1, r1, f1⟩ := sc_fl Try.underlying22 (cell_of Try.underlying22 rfl (hval 1 22 v1 rfl rfl))
  have k2 := h2
  have lt2 : ∀ x ∈ p2, x.block < W.heap.size := by obtain ⟨m, hm⟩ := k2; exact DataW.trod_lt m _ _ _ hm
  obtain ⟨x2, r2, f2⟩ := sc_fl Try.underlying22 (cell_of Try.underlying22 rfl (hval 2 22 v2 rfl rfl))
  have k3 := h3
  have lt3 : ∀ x ∈ p3, x.block < W.heap.size := by obtain ⟨m, hm⟩ := k3; exact DataW.trod_lt m _ _ _ hm
  obtain ⟨x3, r3, f3⟩ := sc_fl Try.underlying22 (cell_of Try.underlying22 rfl (hval 3 22 v3 rfl rfl))
  clear hA0 hval0
  refine (laws_FnExactHoursFor.walk (x0_0, x0_1, x0_2, x0_3, x1, x2, x3) (law_plain x0_0 x0_1 x0_2 x0_3 x1 x2 x3 f0_0 f0_1 f0_2 f0_3 f1 f2 f3) (ρ := fun i => (lget ([] : List (Sx.Loc × Cells)) i).map (·.1)) (Rs_cons' (agg_R (by rw [e0]; exact (Rs_cons' (r0_0 _) (Rs_cons' (r0_1 _) (Rs_cons' (r0_2 _) (Rs_cons' (r0_3 _) Rs_nil')))))) (Rs_cons' (r1 _) (Rs_cons' (r2 _) (Rs_cons' (r3 _) Rs_nil')))) (HpR.ofRo [] (List.forall_mem_nil _))).mono fun e W' ⟨he, bel⟩ => ?_
  subst he
  exact ⟨_, rfl, _, _, _, [], _, [], hW', trodAll_mk1 (shut_bool Try.underlying4 _), (trodAll_cons_mk (Below.trod laidOut (by kernel_rfl) (of_decide_eq_true (by kernel_rfl)) k0 bel lt0) (trodAll_cons_mk (Below.trod laidOut (by kernel_rfl) (of_decide_eq_true (by kernel_rfl)) k1 bel lt1) (trodAll_cons_mk (Below.trod laidOut (by kernel_rfl) (of_decide_eq_true (by kernel_rfl)) k2 bel lt2) (trodAll_cons_mk (Below.trod laidOut (by kernel_rfl) (of_decide_eq_true (by kernel_rfl)) k3 bel lt3) trodAll_mk0)))), rfl, bel.frame _, fun h => by cases h⟩
theorem over : Rows.fnExactHoursForRow.holds Try.pinned (OpenSpec.ofChange Rows.fnExactHoursForSpec) :=
  OpenClaim.holds_of_wide 14 Try.f14 rfl rfl rfl rfl rfl rfl rfl ⟨rfl, rfl, rfl, rfl, rfl⟩ rfl rfl rfl rfl rfl (by kernel_rfl) Try.func14 (by kernel_rfl)
    (of_decide_eq_true (by kernel_rfl)) (by unfold Func.isWrapper; first | (rw [if_pos (by decide +kernel)]; kernel_rfl) | (rw [if_neg (by decide +kernel)]; exact ⟨rfl, rfl⟩))
    (fun os started H enc _ => lifted os started H enc)
theorem proved : Rows.FnExactHoursForSaid := over
end Go.Proofs.Ytnhjchjdnhebkaa
