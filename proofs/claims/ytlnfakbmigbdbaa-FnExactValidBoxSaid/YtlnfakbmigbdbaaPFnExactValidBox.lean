/- For every input the call of FnExactValidBox returns true, and each argument reads afterwards as it read before; there is no condition. -/
import Derived.Test.YtlnfakbmigbdbaaWFnExactValidBox
import Derived.Test.YtlnfakbmigbdbaaRows
import Derived.WalkKit
import Derived.ProofKit
import Derived.OpenShut
import Derived.ShutString
import Derived.ChangeOld
import Derived.Below
import Derived.Carry
import Derived.HandedShaped
namespace Go.Proofs.Ytlnfakbmigbdbaa
open Go Go.RowKit Sx
open Go.ChangeShapes Go.WideShapes Go.ChangeAt
set_option linter.unusedVariables false
set_option linter.unusedSimpArgs false
set_option maxRecDepth 100000

theorem to_r (xs : List Int) (h : xs.length < 1099511627776) : laws_toInt16S.l3.r (xs.length, xs.length, xs) ((0 : Int), List.replicate (xs.length * 1) 0) = some xs := copy_run 0 xs (by omega)
theorem to_ok (xs : List Int) (h : xs.length < 1099511627776) : laws_toInt16S.ok xs.length xs = true := by
  simp only [laws_toInt16S.ok, laws_toInt16S.t, T.ok, Int.toNat_natCast, to_r xs h, Option.isSome_some, cond_true]
  rw [decide_eq_true (by omega), decide_eq_true (by omega), decide_eq_true (by omega), decide_eq_true (by omega)]
  rfl
theorem to_eq (xs : List Int) (h : xs.length < 1099511627776) : laws_toInt16S xs.length xs = (xs.length, xs) := by
  simp only [laws_toInt16S, laws_toInt16S.t, T.val, Int.toNat_natCast, to_r xs h, Option.isSome_some, cond_true, Option.getD_some]
  rw [decide_eq_true (by omega), decide_eq_true (by omega), decide_eq_true (by omega), decide_eq_true (by omega)]
  rfl
theorem eq_r (xs : List Int) (h : xs.length < 1099511627776) : laws_eqInt16S.l4.r (xs.length, xs.length, xs, xs) 0 = some (.inr ()) := by
  refine iter_count xs.length (by omega) (fun i hi => ?_) ?_
  · simp only [laws_eqInt16S.l4.st, laws_eqInt16S.l4.s, T.get, bounds_nat, ble_decide, Int.toNat_natCast, Nat.mul_one, bne_self_eq_false]
    rw [decide_eq_true (by omega), decide_eq_true hi, decide_eq_true (by omega)]
    rfl
  · simp only [laws_eqInt16S.l4.st, laws_eqInt16S.l4.s, T.get]
    rw [decide_eq_false (by omega)]
    rfl
theorem eq_ok (xs : List Int) (h : xs.length < 1099511627776) : laws_eqInt16S.ok xs.length xs.length xs xs = true := by
  simp only [laws_eqInt16S.ok, laws_eqInt16S.t, T.ok, eq_r xs h]
  simp
theorem eq_eq (xs : List Int) (h : xs.length < 1099511627776) : laws_eqInt16S xs.length xs.length xs xs = true := by
  simp only [laws_eqInt16S, laws_eqInt16S.t, T.val, eq_r xs h]
  simp
theorem within_eq (x y z : Int) : impl_within x y z = spec_l00In x y z := by
  simp only [impl_within, impl_within.t, spec_l00In, spec_l00In.t, T.val, ge_iff_le]
theorem teeth_eq (x : Int) : impl_areTeeth x = spec_l01Teeth x := by
  simp only [impl_areTeeth, impl_areTeeth.t, spec_l01Teeth, spec_l01Teeth.t, T.val, within_eq]
theorem box_r (xs : List Int) (h : xs.length < 1099511627776) : ∃ e, spec_l05Ok.l2.r (xs.length, xs) 0 = some e ∧ impl_ValidBox.l2.r (xs.length, xs.length, (xs.length : Int), xs) 0 = some e := by
  obtain ⟨e, e', h1, h2, rfl⟩ := iter_two (step := spec_l05Ok.l2.st (xs.length, xs)) (step' := impl_ValidBox.l2.st (xs.length, xs.length, (xs.length : Int), xs)) (R := fun s t => s = t ∧ ∃ i : Nat, i ≤ xs.length ∧ s = (i : Int)) (E := fun e e' => e = e') (fun s => xs.length - s.toNat) (by
    rintro s t ⟨rfl, i, hi, rfl⟩
    simp only [spec_l05Ok.l2.st, spec_l05Ok.l2.s, impl_ValidBox.l2.st, impl_ValidBox.l2.s, T.get, bounds_nat, ble_decide, Int.toNat_natCast, Nat.mul_one, teeth_eq]
    by_cases hlt : i < xs.length
    · rw [decide_eq_true (by omega : (i : Int) < (xs.length : Int)), decide_eq_true hlt, decide_eq_true (by omega : i + 1 ≤ xs.length)]
      simp only [cond_true]
      have hw : IntKind.wrap .i64 ((i : Int) + 1) = ((i + 1 : Nat) : Int) := wrap64_succ (by omega)
      cases ht : spec_l01Teeth (IntKind.wrap .i64 (xs.getD i 0)) with
      | false => exact .inr ⟨_, _, rfl, rfl, rfl⟩
      | true =>
        simp only [Bool.not_true, cond_false]
        by_cases hz : 0 < i
        · have hw2 : IntKind.wrap .i64 ((i : Int) - 1) = ((i - 1 : Nat) : Int) := by
            rw [wrap64 (by omega) (by omega)]
            omega
          rw [decide_eq_true (by omega : (i : Int) > 0), hw, hw2, bounds_nat, Int.toNat_natCast, decide_eq_true (by omega : i - 1 < xs.length), decide_eq_true (by omega : i - 1 + 1 ≤ xs.length)]
          simp only [cond_true]
          cases decide (xs.getD i 0 ≤ xs.getD (i - 1) 0) with
          | true => exact .inr ⟨_, _, rfl, rfl, rfl⟩
          | false => exact .inl ⟨_, _, rfl, rfl, ⟨rfl, i + 1, by omega, rfl⟩, by omega⟩
        · rw [decide_eq_false (by omega : ¬ (i : Int) > 0), hw]
          exact .inl ⟨_, _, rfl, rfl, ⟨rfl, i + 1, by omega, rfl⟩, by omega⟩
    · rw [decide_eq_false (by omega : ¬ (i : Int) < (xs.length : Int))]
      exact .inr ⟨_, _, rfl, rfl, rfl⟩) manyRounds 0 0 ⟨rfl, 0, by omega, rfl⟩ (many_lt (by simp; omega))
  exact ⟨e, h1, h2⟩
theorem law_holds (xs : List Int) : (laws_FnExactValidBox.t xs.length xs).get = some true := by
  simp only [laws_FnExactValidBox.t, T.get]
  by_cases hb : (xs.length : Int) > 1048576
  · rw [decide_eq_true hb]
    rfl
  · rw [decide_eq_false hb]
    have hl : xs.length < 1099511627776 := by omega
    simp only [to_ok xs hl, to_eq xs hl, cond_true, cond_false]
    obtain ⟨e, h1, h2⟩ := box_r xs hl
    have e0 : spec_l05Ok.ok xs.length xs = true := by
      simp only [spec_l05Ok.ok, spec_l05Ok.t, T.ok, h1, Option.isSome_some, cond_true, Option.getD_some]
      cases Sum.isLeft e <;> rfl
    have e1 : spec_ValidBox.ok xs.length xs = true := by
      simp only [spec_ValidBox.ok, spec_ValidBox.t, T.ok, e0, cond_true]
    have e2 : impl_ValidBox.ok xs.length xs = true := by
      simp only [impl_ValidBox.ok, impl_ValidBox.t, T.ok, h2, Option.isSome_some, cond_true, Option.getD_some]
      cases Sum.isLeft e <;> rfl
    have e3 : impl_ValidBox xs.length xs = spec_ValidBox xs.length xs := by
      simp only [impl_ValidBox, impl_ValidBox.t, spec_ValidBox, spec_ValidBox.t, spec_l05Ok, spec_l05Ok.t, T.val, e0, h1, h2, within_eq]
      rfl
    simp only [e1, e2, e3, eq_ok xs hl, eq_eq xs hl, cond_true, cond_false, Bool.not_true]
    simp

theorem law_plain (xs0 : List Int) (f0 : ∀ x ∈ xs0, (IntKind.min .i16 ≤ x ∧ x ≤ IntKind.max .i16)) (y0 : List.length xs0 ≤ maxLen) : (laws_FnExactValidBox.tr (xs0.length, xs0)).get = some true := law_holds xs0
theorem own : ownKnob Try.prog.godebug = none := by kernel_rfl
theorem laidOut : laidOutB Try.prog = true := by kernel_rfl
theorem ground {W : World} (h : W.ShapedOpen Try.prog) : Sx.Ground W := ground_of (by kernel_rfl) h
theorem lifted (os : Os) (started : os.Started) (H : Type) (enc : TypeId × Value → H) :
    ReturnsInHanded {} Try.checked os 6 .any (Rows.fnExactValidBoxSpec.pre6 enc Try.prog Try.f6 Rows.fnExactValidBoxRow.domain false) (Rows.fnExactValidBoxSpec.post enc Try.prog Try.f6 false true false false) := by
  refine returnsInHanded_of_change_shaped (C := Try.checked) own started (by kernel_rfl) Try.func6
    (ChangeSpec.witness6 (enc := enc) (C := Try.checked) false ⟨#[], #[.slice none 0 0], []⟩ 8 (by kernel_rfl) (by kernel_rfl) (by kernel_rfl) (by kernel_rfl)) ?_
  intro W base args ds gs before hval0 hW hcnd _ hsh _
  have hG := ground hsh
  have hval : ∀ (j : Nat) t v, Try.f6.params[j]? = some t → args[j]? = some v → Value.okWide Try.prog W .any base t v := hval0
  have hW' := hW
  obtain ⟨p, q, hA0, hV, rfl, hfz, hnd⟩ := hW
  have hA : DataW.TrodAll enc Try.prog W 0 (fun _ => true) true Try.f6.params.toList args.toList ds p := hA0
  rw [Try.params6] at hA hval
  obtain ⟨v0, vs0, d0, ds0, p0, q0, hargs, rfl, rfl, h0, r0⟩ := trodAll_cons hA
  obtain ⟨rfl, rfl, rfl⟩ := trodAll_nil r0
  obtain rfl : args = #[v0] := by cases args; simp_all
  obtain ⟨rfl, rfl⟩ := trodVars_none hV
  have k0 := h0
  have lt0 : ∀ x ∈ p0, x.block < W.heap.size := by obtain ⟨m, hm⟩ := k0; exact DataW.trod_lt m _ _ _ hm
  obtain ⟨l0, xs0, w0, r0, f0, y0⟩ := open_its Try.underlying32 Try.underlying47 (by kernel_rfl) hG (hval 0 32 v0 rfl rfl) k0
  clear hA0 hval0
  refine (laws_FnExactValidBox.walk (xs0.length, xs0) (law_plain xs0 f0 y0) (ρ := fun i => (lget ([(l0, .is .i16 xs0)] : List (Sx.Loc × Cells)) i).map (·.1)) (Rs_cons' (r0 _ 0 rfl) Rs_nil') (HpR.ofRo [(l0, .is .i16 xs0)] ((List.forall_mem_cons.2 ⟨w0, List.forall_mem_nil _⟩)))).mono fun e W' ⟨he, bel⟩ => ?_
  subst he
  exact ⟨_, rfl, _, _, _, [], _, [], hW', trodAll_mk1 (shut_bool Try.underlying4 _), (trodAll_cons_mk (Below.trod laidOut (by kernel_rfl) (of_decide_eq_true (by kernel_rfl)) k0 bel lt0) trodAll_mk0), rfl, bel.frame _, fun h => by cases h⟩
theorem over : Rows.fnExactValidBoxRow.holds Try.pinned (OpenSpec.ofChange Rows.fnExactValidBoxSpec) :=
  OpenClaim.holds_of_wide 6 Try.f6 rfl rfl rfl rfl rfl rfl rfl ⟨rfl, rfl, rfl, rfl, rfl⟩ rfl rfl rfl rfl rfl (by kernel_rfl) Try.func6 (by kernel_rfl)
    (of_decide_eq_true (by kernel_rfl)) (by unfold Func.isWrapper; first | (rw [if_pos (by decide +kernel)]; kernel_rfl) | (rw [if_neg (by decide +kernel)]; exact ⟨rfl, rfl⟩))
    (fun os started H enc _ => lifted os started H enc)
theorem proved : Rows.FnExactValidBoxSaid := over
end Go.Proofs.Ytlnfakbmigbdbaa
