/- For every input the call of FnExactPairsWithin returns true, and each argument reads afterwards as it read before; there is no condition. -/
import Derived.Test.YthllapodgemlfaaWFnExactPairsWithin
import Derived.Test.YthllapodgemlfaaSxS
import Derived.Test.YthllapodgemlfaaRows
import Derived.WalkKit
import Derived.ProofKit
import Derived.OpenShut
import Derived.ShutString
import Derived.ChangeOld
import Derived.Below
import Derived.Carry
import Derived.HandedShaped
namespace Go.Proofs.Ythllapodgemlfaa
open Go Go.RowKit Sx
open Go.ChangeShapes Go.WideShapes Go.ChangeAt
set_option linter.unusedVariables false
set_option linter.unusedSimpArgs false
set_option maxRecDepth 100000

theorem within_eq (x y z : Int) : impl_within x y z = spec_l00In x y z := by
  simp only [impl_within, impl_within.t, spec_l00In, spec_l00In.t, T.val, ge_iff_le]

theorem teeth_eq (x : Int) : impl_areTeeth x = spec_l01Teeth x := by
  simp only [impl_areTeeth, impl_areTeeth.t, spec_l01Teeth, spec_l01Teeth.t, T.val, within_eq]
theorem box_r (xs : List Int) (h : xs.length < 1099511627776) : ∃ e, spec_l05Ok.l2.r (xs.length, xs) 0 = some e ∧ impl_ValidBox.l2.r (xs.length, xs.length, (xs.length : Int), xs) 0 = some e := by
  obtain ⟨e, e', h1, h2, rfl⟩ := iter_two (step := spec_l05Ok.l2.st (xs.length, xs)) (step' := impl_ValidBox.l2.st (xs.length, xs.length, (xs.length : Int), xs)) (R := fun s t => s = t ∧ ∃ i : Nat, i ≤ xs.length ∧ s = (i : Int)) (E := fun e e' => e = e') (fun s => xs.length - s.toNat) (by
    rintro s t ⟨rfl, i, hi, rfl⟩
    simp only [spec_l05Ok.l2.st, spec_l05Ok.l2.s, impl_ValidBox.l2.st, impl_ValidBox.l2.s, T.get, bounds_nat, ble_decide, Int.toNat_natCast, Nat.mul_one, teeth_eq]
    by_cases hlt : i < xs.length
    · rw [decide_eq_true (by omega : (i : Int) < (xs.length : Int)), decide_eq_true hlt, decide_eq_true (by omega : i + 1 ≤ xs.length)]
      simp only [cond_true]
      have hw : IntKind.wrap .i64 ((i : Int) + 1) = ((i + 1 : Nat) : Int) := wrap64_succ (by omega)
      cases ht : spec_l01Teeth (IntKind.wrap .i64 (xs.getD i 0)) with
      | false => exact .inr ⟨_, _, rfl, rfl, rfl⟩
      | true =>
        simp only [Bool.not_true, cond_false]
        by_cases hz : 0 < i
        · have hw2 : IntKind.wrap .i64 ((i : Int) - 1) = ((i - 1 : Nat) : Int) := by
            rw [wrap64 (by omega) (by omega)]
            omega
          rw [decide_eq_true (by omega : (i : Int) > 0), hw, hw2, bounds_nat, Int.toNat_natCast, decide_eq_true (by omega : i - 1 < xs.length), decide_eq_true (by omega : i - 1 + 1 ≤ xs.length)]
          simp only [cond_true]
          cases decide (xs.getD i 0 ≤ xs.getD (i - 1) 0) with
          | true => exact .inr ⟨_, _, rfl, rfl, rfl⟩
          | false => exact .inl ⟨_, _, rfl, rfl, ⟨rfl, i + 1, by omega, rfl⟩, by omega⟩
        · rw [decide_eq_false (by omega : ¬ (i : Int) > 0), hw]
          exact .inl ⟨_, _, rfl, rfl, ⟨rfl, i + 1, by omega, rfl⟩, by omega⟩
    · rw [decide_eq_false (by omega : ¬ (i : Int) < (xs.length : Int))]
      exact .inr ⟨_, _, rfl, rfl, rfl⟩) manyRounds 0 0 ⟨rfl, 0, by omega, rfl⟩ (many_lt (by simp; omega))
  exact ⟨e, h1, h2⟩
theorem boxs_ok (xs : List Int) (h : xs.length < 1099511627776) : spec_l05Ok.ok xs.length xs = true := by
  obtain ⟨e, h1, h2⟩ := box_r xs h
  simp only [spec_l05Ok.ok, spec_l05Ok.t, T.ok, h1, Option.isSome_some, cond_true, Option.getD_some]
  cases Sum.isLeft e <;> rfl
theorem boxi_ok (xs : List Int) (h : xs.length < 1099511627776) : impl_ValidBox.ok xs.length xs = true := by
  obtain ⟨e, h1, h2⟩ := box_r xs h
  simp only [impl_ValidBox.ok, impl_ValidBox.t, T.ok, h2, Option.isSome_some, cond_true, Option.getD_some]
  cases Sum.isLeft e <;> rfl
theorem box_eq (xs : List Int) (h : xs.length < 1099511627776) : impl_ValidBox xs.length xs = spec_l05Ok xs.length xs := by
  obtain ⟨e, h1, h2⟩ := box_r xs h
  simp only [impl_ValidBox, impl_ValidBox.t, spec_l05Ok, spec_l05Ok.t, T.val, h1, h2, within_eq]
theorem box_le (xs : List Int) (h : xs.length < 1099511627776) (hb : spec_l05Ok xs.length xs = true) : 2 ≤ xs.length ∧ xs.length ≤ 24 := by
  obtain ⟨e, h1, h2⟩ := box_r xs h
  have hx : ∃ e, spec_l05Ok.l2.r (xs.length, xs) 0 = some e := ⟨e, h1⟩
  by_cases hl : spec_l00In (xs.length : Int) 2 24 = true
  · simp only [spec_l00In, spec_l00In.t, T.val] at hl
    cases h3 : decide ((xs.length : Int) ≥ 2) <;> rw [h3] at hl
    · cases hl
    · simp only [cond_true, decide_eq_true_eq] at hl h3
      omega
  · exfalso
    have hl' : spec_l00In (xs.length : Int) 2 24 = false := by simpa using hl
    have hk : ∀ e, spec_l05Ok.l2.r (xs.length, xs) 0 = some e → ∀ b, e = .inl b → b = false := by
      intro e he b hb
      obtain ⟨e', h3, h4⟩ := iter_ends (step := spec_l05Ok.l2.st (xs.length, xs)) (R := fun s => ∃ i : Nat, i ≤ xs.length ∧ s = (i : Int)) (E := fun e => ∀ b, e = .inl b → b = false) (fun s => xs.length - s.toNat) (by
        rintro s ⟨i, hi, rfl⟩
        simp only [spec_l05Ok.l2.st, spec_l05Ok.l2.s, T.get, bounds_nat, ble_decide, Int.toNat_natCast, Nat.mul_one]
        by_cases hlt : i < xs.length
        · rw [decide_eq_true (by omega : (i : Int) < (xs.length : Int)), decide_eq_true hlt, decide_eq_true (by omega : i + 1 ≤ xs.length)]
          simp only [cond_true]
          have hw : IntKind.wrap .i64 ((i : Int) + 1) = ((i + 1 : Nat) : Int) := wrap64_succ (by omega)
          cases ht : spec_l01Teeth (IntKind.wrap .i64 (xs.getD i 0)) with
          | false => exact .inr ⟨_, rfl, fun b hb => by cases hb; rfl⟩
          | true =>
            simp only [Bool.not_true, cond_false]
            by_cases hz : 0 < i
            · have hw2 : IntKind.wrap .i64 ((i : Int) - 1) = ((i - 1 : Nat) : Int) := by
                rw [wrap64 (by omega) (by omega)]
                omega
              rw [decide_eq_true (by omega : (i : Int) > 0), hw, hw2, bounds_nat, Int.toNat_natCast, decide_eq_true (by omega : i - 1 < xs.length), decide_eq_true (by omega : i - 1 + 1 ≤ xs.length)]
              simp only [cond_true]
              cases decide (xs.getD i 0 ≤ xs.getD (i - 1) 0) with
              | true => exact .inr ⟨_, rfl, fun b hb => by cases hb; rfl⟩
              | false => exact .inl ⟨_, rfl, ⟨i + 1, by omega, rfl⟩, by omega⟩
            · rw [decide_eq_false (by omega : ¬ (i : Int) > 0), hw]
              exact .inl ⟨_, rfl, ⟨i + 1, by omega, rfl⟩, by omega⟩
        · rw [decide_eq_false (by omega : ¬ (i : Int) < (xs.length : Int))]
          exact .inr ⟨_, rfl, fun b hb => by cases hb⟩) manyRounds 0 ⟨0, by omega, rfl⟩ (many_lt (by simp; omega))
      have h5 : spec_l05Ok.l2.r (xs.length, xs) 0 = some e' := h3
      rw [h5] at he
      cases he
      exact h4 b hb
    simp only [spec_l05Ok, spec_l05Ok.t, T.val, h1, hl', Option.isSome_some, Option.getD_some, cond_true] at hb
    cases e with
    | inl b =>
      have := hk _ h1 b rfl
      subst this
      simp [Sum.isLeft, getLeftD] at hb
    | inr u => simp [Sum.isLeft] at hb

theorem target_eq (x : Nat) : impl_isTarget x = spec_l05Target x := by
  simp only [impl_isTarget, impl_isTarget.t, impl_between, impl_between.t, spec_l05Target, spec_l05Target.t, T.val, fge_flip]

theorem part_0 : spec_l01Part 0 = true := by kernel_rfl
theorem asked_t (xs : List Int) (t w : Nat) (h : xs.length < 1099511627776) : (spec_l05Asked.t xs.length t w xs).get = some (bif spec_l05Ok xs.length xs then (bif spec_l05Target t && spec_l01Part w then 0 else 2) else 1) := by
  simp only [spec_l05Asked.t, T.get, boxs_ok xs h]
  cases spec_l05Ok xs.length xs <;> cases spec_l05Target t <;> cases spec_l01Part w <;> rfl
theorem bcode_t (xs : List Int) (b : Bool) (h : xs.length < 1099511627776) : (impl_boxCode.t xs.length b xs).get = some (bif spec_l05Ok xs.length xs then (bif b then 0 else 2) else 1) := by
  simp only [impl_boxCode.t, T.get, boxi_ok xs h, box_eq xs h]
  cases spec_l05Ok xs.length xs <;> cases b <;> rfl

theorem size_eq (x : Nat) (h : flHas .f32 x) : impl_size x = spec_l01Size x := by
  simp only [impl_size, impl_size.t, spec_l01Size, spec_l01Size.t, T.val]
  cases hl : flt .f32 x 0 with
  | false => rfl
  | true => exact sub_zero_neg .f32 x h hl

theorem off_eq (f t : Nat) : impl_offBy f t = spec_l05Off f t := by
  simp only [impl_offBy, impl_offBy.t, spec_l05Off, spec_l05Off.t, T.val, size_eq _ (fsub_has _ _ _)]
theorem quot_eq (a b : Int) : impl_quotient a b = spec_l01Quotient a b := by
  simp only [impl_quotient, impl_quotient.t, spec_l01Quotient, spec_l01Quotient.t, T.val]

theorem to_r (xs : List Int) (h : xs.length < 1099511627776) : laws_toInt16S.l3.r (xs.length, xs.length, xs) ((0 : Int), List.replicate (xs.length * 1) 0) = some xs := copy_run 0 xs (by omega)
theorem to_t (xs : List Int) (h : xs.length < 1099511627776) : (laws_toInt16S.t xs.length xs).get = some (xs.length, xs) := by
  simp only [laws_toInt16S.t, T.get, Int.toNat_natCast, to_r xs h, Option.isSome_some, cond_true, Option.getD_some]
  rw [decide_eq_true (by omega), decide_eq_true (by omega), decide_eq_true (by omega), decide_eq_true (by omega)]
  rfl
theorem to_ok (xs : List Int) (h : xs.length < 1099511627776) : laws_toInt16S.ok xs.length xs = true := T.ok_of_get (to_t xs h)
theorem to_eq (xs : List Int) (h : xs.length < 1099511627776) : laws_toInt16S xs.length xs = (xs.length, xs) := T.val_of_get (to_t xs h)

theorem eq_r (xs : List Int) (h : xs.length < 1099511627776) : laws_eqInt16S.l4.r (xs.length, xs.length, xs, xs) 0 = some (.inr ()) := by
  refine iter_count xs.length (by omega) (fun i hi => ?_) ?_
  · simp only [laws_eqInt16S.l4.st, laws_eqInt16S.l4.s, T.get, bounds_nat, ble_decide, Int.toNat_natCast, Nat.mul_one, bne_self_eq_false]
    rw [decide_eq_true (by omega), decide_eq_true hi, decide_eq_true (by omega)]
    rfl
  · simp only [laws_eqInt16S.l4.st, laws_eqInt16S.l4.s, T.get]
    rw [decide_eq_false (by omega)]
    rfl
theorem eqI_t (xs : List Int) (h : xs.length < 1099511627776) : (laws_eqInt16S.t xs.length xs.length xs xs).get = some true := by
  simp only [laws_eqInt16S.t, T.get, eq_r xs h]
  simp
theorem eqI_ok (xs : List Int) (h : xs.length < 1099511627776) : laws_eqInt16S.ok xs.length xs.length xs xs = true := T.ok_of_get (eqI_t xs h)
theorem eqI_eq (xs : List Int) (h : xs.length < 1099511627776) : laws_eqInt16S xs.length xs.length xs xs = true := T.val_of_get (eqI_t xs h)

theorem markI_t (xs : List Int) (k : Nat) (hk : k + xs.length < 9223372036854775807) : ∃ ys, (laws_markInt16S.t xs.length (k : Int) xs).get = some (((k + xs.length : Nat) : Int), ys) := by
  obtain ⟨ys, h1, h2⟩ := mark_ends (step := laws_markInt16S.l2.st xs.length) (fun _ ys => ys.length = xs.length) k 1 xs.length (by omega) xs rfl (fun i ys hi hl => by
    refine ⟨ys.set i (IntKind.wrap .i16 ((k + i : Nat) : Int)), ?_, by rw [List.length_set]; exact hl⟩
    simp only [laws_markInt16S.l2.st, laws_markInt16S.l2.s, T.get, bounds_nat, ble_decide, Int.toNat_natCast, Nat.mul_one, Nat.one_mul, hl]
    rw [decide_eq_true (by omega : (i : Int) < (xs.length : Int)), decide_eq_true hi, decide_eq_true (by omega : i + 1 ≤ xs.length), wrap64_succ (by omega), wrap64_succ (by omega)]
    rfl) (fun ys hQ => by
    simp only [laws_markInt16S.l2.st, laws_markInt16S.l2.s, T.get]
    rw [decide_eq_false (by omega)]
    rfl)
  refine ⟨ys, ?_⟩
  have h3 : laws_markInt16S.l2.r xs.length ((k : Int), (0 : Int), xs) = some (((k + xs.length : Nat) : Int), ys) := by
    rw [Nat.one_mul] at h1
    exact h1
  simp only [laws_markInt16S.t, T.get, h3]
  rfl

theorem part_eq (x : Nat) : impl_IsPart x = spec_l01Part x := by
  simp only [impl_IsPart, impl_IsPart.t, impl_between, impl_between.t, spec_l01Part, spec_l01Part.t, T.val, fge_flip]

/-- How far the factor of wheels i and k is off a target. -/
noncomputable def offP (t : Nat) (xs : List Int) (i k : Nat) : Nat := spec_l05Off (spec_l01Quotient (xs.getD i 0) (xs.getD k 0)) t
theorem eq_dec (i k : Nat) : ((i : Int) == (k : Int)) = decide (i = k) := by
  by_cases h : i = k
  · subst h; simp
  · rw [decide_eq_false h, beq_eq_false_iff_ne]
    omega
theorem ne_dec (i k : Nat) : ((i : Int) != (k : Int)) = !decide (i = k) := by
  unfold bne
  rw [eq_dec]
/-- Whether something was found yet, how many, and the pairs one behind the other. -/
abbrev St := Bool × Nat × List Int
noncomputable def fP (t w : Nat) (xs : List Int) (i k : Nat) (s : St) : St := bif decide (i = k) then s else bif fle .f32 (offP t xs i k) w then (true, s.2.1 + 1, s.2.2 ++ [(i : Int), (k : Int)]) else s
def good (K : Nat) (s : St) : Prop := s.2.2.length = s.2.1 * 2 ∧ s.2.1 ≤ K
theorem fP_good {t w : Nat} {xs : List Int} {i k K : Nat} {s : St} (h : good K s) : good (K + 1) (fP t w xs i k s) := by
  obtain ⟨h1, h2⟩ := h
  unfold fP good
  cases decide (i = k) with
  | true => exact ⟨h1, by dsimp only [cond_true]; omega⟩
  | false =>
    cases fle .f32 (offP t xs i k) w with
    | true => exact ⟨by simp [h1]; omega, by dsimp only [cond_true, cond_false]; omega⟩
    | false => exact ⟨h1, by dsimp only [cond_true, cond_false]; omega⟩
theorem cond2 {c : Nat} {out : List Int} (x y : Int) (h : out.length = c * 2) (hc : c ≤ 100000) : (Nat.ble 2 (List.length [x, y]) && (Nat.beq (List.length out) (c * 2) && Nat.ble ((c + 1) * 16) 35184372088832 && Nat.ble (c + 1) 35184372088832)) = true := by
  rw [h, Nat.beq_refl, ble_decide, ble_decide, ble_decide, decide_eq_true (by simp : 2 ≤ List.length [x, y]), decide_eq_true (by omega : (c + 1) * 16 ≤ 35184372088832), decide_eq_true (by omega : c + 1 ≤ 35184372088832)]
  rfl
section
variable (t w : Nat) (xs : List Int) (h : xs.length ≤ 24)
include h
theorem innerS (i : Nat) (hi : i < xs.length) (K : Nat) (hK : K ≤ 1000) (s : St) (hs : good K s) : spec_PairsWithin.l9.r (xs.length, t, w, (i : Int), xs) (s.2.1, 0, s.2.2) = some ((foldF (fP t w xs i) xs.length 0 s).2.1, (foldF (fP t w xs i) xs.length 0 s).2.2) ∧ good (K + xs.length) (foldF (fP t w xs i) xs.length 0 s) := by
  refine loopI_fold (step := spec_PairsWithin.l9.st (xs.length, t, w, (i : Int), xs)) (fun k => IntKind.wrap .i64 (k + 1)) (fun c (s : St) => (s.2.1, c, s.2.2)) (fP t w xs i) (fun s => (s.2.1, s.2.2)) (fun c s => good (K + c) s) xs.length (by omega) (fun i hi => wrap64_succ (by omega)) s hs (fun k s hk hs => ⟨?_, fP_good hs⟩) (fun s hs => ?_)
  · simp only [spec_PairsWithin.l9.st, spec_PairsWithin.l9.s, T.get, bounds_nat, Int.toNat_natCast, Nat.mul_one, ne_dec, cond2 (i : Int) (k : Int) hs.1 (by have := hs.2; omega)]
    simp only [ble_decide]
    rw [decide_eq_true (by omega : (k : Int) < (xs.length : Int)), decide_eq_true hi, decide_eq_true hk, decide_eq_true (by omega : i + 1 ≤ xs.length), decide_eq_true (by omega : k + 1 ≤ xs.length)]
    simp only [cond_true, fP, offP]
    cases decide (i = k) with
    | true => rfl
    | false => cases fle .f32 (spec_l05Off (spec_l01Quotient (xs.getD i 0) (xs.getD k 0)) t) w <;> rfl
  · simp only [spec_PairsWithin.l9.st, spec_PairsWithin.l9.s, T.get]
    rw [decide_eq_false (by omega)]
    rfl
theorem outerS : spec_PairsWithin.l6.r (xs.length, t, w, xs) (0, 0, []) = some ((foldF (fun i => foldF (fP t w xs i) xs.length 0) xs.length 0 (false, 0, [])).2.1, (foldF (fun i => foldF (fP t w xs i) xs.length 0) xs.length 0 (false, 0, [])).2.2) ∧ good (xs.length * xs.length) (foldF (fun i => foldF (fP t w xs i) xs.length 0) xs.length 0 (false, 0, [])) := by
  have hsq : ∀ i : Nat, i < xs.length → i * xs.length ≤ 1000 := fun i hi => Nat.le_trans (Nat.mul_le_mul (show i ≤ 24 by omega) h) (by decide)
  refine loopI_fold (step := spec_PairsWithin.l6.st (xs.length, t, w, xs)) (fun k => IntKind.wrap .i64 (k + 1)) (fun c (s : St) => (s.2.1, c, s.2.2)) (fun i => foldF (fP t w xs i) xs.length 0) (fun s => (s.2.1, s.2.2)) (fun c s => good (c * xs.length) s) xs.length (by omega) (fun i hi => wrap64_succ (by omega)) (false, 0, []) ⟨rfl, Nat.zero_le _⟩ (fun i s hi hs => ?_) (fun s hs => ?_)
  · obtain ⟨h1, h2⟩ := innerS t w xs h i hi _ (hsq i hi) s hs
    refine ⟨?_, by rw [Nat.succ_mul]; exact h2⟩
    simp only [spec_PairsWithin.l6.st, spec_PairsWithin.l6.s, T.get, h1]
    rw [decide_eq_true (by omega : (i : Int) < (xs.length : Int))]
    rfl
  · simp only [spec_PairsWithin.l6.st, spec_PairsWithin.l6.s, T.get]
    rw [decide_eq_false (by omega)]
    rfl
end
/-- What the function that is called for each pair does. -/
theorem do_t (x y : Int) (q t w c : Nat) (out : List Int) (ho : out.length = c * 2) (hc : c ≤ 100000) : (impl_PairsWithin_1.t x y q t w c out).get = some (bif fle .f32 (spec_l05Off q t) w then .inl (c + 1, out ++ [x, y]) else .inr (c, out)) := by
  simp only [impl_PairsWithin_1.t, T.get, off_eq, cond2 x y ho hc]
  cases fle .f32 (spec_l05Off q t) w <;> rfl
abbrev S4 := Nat × Int × Int × Int × Int × Int × List Int × Nat × Nat × Nat × List Int
abbrev E4 := Nat × Int × Int × List Int × Nat × Nat × Nat × List Int
abbrev E1 := List Int × Nat × Nat × Nat × List Int
def mk4 (t w : Nat) (xs : List Int) (i : Nat) (c : Int) (s : St) : S4 ⊕ S4 := bif s.1 then .inr (xs.length, (i : Int), (xs.length : Int), (i : Int), (xs.length : Int), c, xs, t, w, s.2.1, s.2.2) else .inl (xs.length, (i : Int), (xs.length : Int), (i : Int), (xs.length : Int), c, xs, t, w, s.2.1, s.2.2)
def ex4 (t w : Nat) (xs : List Int) (i : Int) (s : St) : E4 ⊕ E4 := bif s.1 then .inr (xs.length, (xs.length : Int), i, xs, t, w, s.2.1, s.2.2) else .inl (xs.length, (xs.length : Int), i, xs, t, w, s.2.1, s.2.2)
def ex1 (t w : Nat) (xs : List Int) (s : St) : E1 ⊕ E1 := bif s.1 then .inr (xs, t, w, s.2.1, s.2.2) else .inl (xs, t, w, s.2.1, s.2.2)
section
variable (t w : Nat) (xs : List Int) (h : xs.length ≤ 24)
include h
theorem innerI (i : Nat) (hi : i < xs.length) (K : Nat) (hK : K ≤ 1000) (s : St) (hs : good K s) : impl_pairs.l4.r () (mk4 t w xs i 0 s) = some (ex4 t w xs i (foldF (fP t w xs i) xs.length 0 s)) ∧ good (K + xs.length) (foldF (fP t w xs i) xs.length 0 s) := by
  refine loopI_fold (step := impl_pairs.l4.st ()) (fun k => IntKind.wrap .i64 (k + 1)) (mk4 t w xs i) (fP t w xs i) (ex4 t w xs i) (fun c s => good (K + c) s) xs.length (by omega) (fun i hi => wrap64_succ (by omega)) s hs (fun k s hk hs => ⟨?_, fP_good hs⟩) (fun s hs => ?_)
  · obtain ⟨b, c, out⟩ := s
    have hd := do_t (i : Int) (k : Int) (spec_l01Quotient (xs.getD i 0) (xs.getD k 0)) t w c out hs.1 (by have := hs.2; dsimp only at this; omega)
    cases b
    all_goals
      simp only [mk4, cond_true, cond_false, impl_pairs.l4.st, impl_pairs.l4.s0, impl_pairs.l4.s1, T.get, bounds_nat, ble_decide, Int.toNat_natCast, Nat.mul_one, ne_dec, quot_eq, show impl_PairsWithin_1.ok (i : Int) (k : Int) (spec_l01Quotient (xs.getD i 0) (xs.getD k 0)) t w c out = true from T.ok_of_get (hd), show impl_PairsWithin_1 (i : Int) (k : Int) (spec_l01Quotient (xs.getD i 0) (xs.getD k 0)) t w c out = _ from T.val_of_get (hd)]
      rw [decide_eq_true (by omega : (k : Int) < (xs.length : Int)), decide_eq_true hi, decide_eq_true hk, decide_eq_true (by omega : i + 1 ≤ xs.length), decide_eq_true (by omega : k + 1 ≤ xs.length)]
      simp only [cond_true, fP, offP]
      cases decide (i = k) with
      | true => rfl
      | false => cases fle .f32 (spec_l05Off (spec_l01Quotient (xs.getD i 0) (xs.getD k 0)) t) w <;> rfl
  · obtain ⟨b, c, out⟩ := s
    cases b
    all_goals
      simp only [mk4, cond_true, cond_false, impl_pairs.l4.st, impl_pairs.l4.s0, impl_pairs.l4.s1, T.get]
      rw [decide_eq_false (by omega)]
      rfl
def mk1 (t w : Nat) (xs : List Int) (c : Int) (s : St) : E4 ⊕ E4 := bif s.1 then .inr (xs.length, (xs.length : Int), c, xs, t, w, s.2.1, s.2.2) else .inl (xs.length, (xs.length : Int), c, xs, t, w, s.2.1, s.2.2)
omit h in
theorem mk1_def (t w : Nat) (xs : List Int) (c : Int) (s : St) : mk1 t w xs c s = bif s.1 then .inr (xs.length, (xs.length : Int), c, xs, t, w, s.2.1, s.2.2) else .inl (xs.length, (xs.length : Int), c, xs, t, w, s.2.1, s.2.2) := rfl
theorem outerI : impl_pairs.l1.r () (.inl (xs.length, (xs.length : Int), (0 : Int), xs, t, w, 0, [])) = some (ex1 t w xs (foldF (fun i => foldF (fP t w xs i) xs.length 0) xs.length 0 (false, 0, []))) := by
  have hsq : ∀ i : Nat, i < xs.length → i * xs.length ≤ 1000 := fun i hi => Nat.le_trans (Nat.mul_le_mul (show i ≤ 24 by omega) h) (by decide)
  refine (loopI_fold (step := impl_pairs.l1.st ()) (fun k => IntKind.wrap .i64 (k + 1)) (mk1 t w xs) (fun i => foldF (fP t w xs i) xs.length 0) (ex1 t w xs) (fun c s => good (c * xs.length) s) xs.length (by omega) (fun i hi => wrap64_succ (by omega)) (false, 0, []) ⟨rfl, Nat.zero_le _⟩ (fun i s hi hs => ?_) (fun s hs => ?_)).1
  · obtain ⟨h1, h2⟩ := innerI t w xs h i hi _ (hsq i hi) s hs
    refine ⟨?_, by rw [Nat.succ_mul]; exact h2⟩
    obtain ⟨b, c, out⟩ := s
    generalize foldF (fP t w xs i) xs.length 0 (b, c, out) = s' at h1 ⊢
    obtain ⟨b', c', out'⟩ := s'
    cases b
    · have h1' : impl_pairs.l4.r () (.inl (xs.length, (i : Int), (xs.length : Int), (i : Int), (xs.length : Int), (0 : Int), xs, t, w, c, out)) = some (ex4 t w xs i (b', c', out')) := h1
      simp only [mk1_def, cond_true, cond_false, impl_pairs.l1.st, impl_pairs.l1.s0, T.get, h1']
      rw [decide_eq_true (by omega : (i : Int) < (xs.length : Int))]
      cases b' <;> rfl
    · have h1' : impl_pairs.l4.r () (.inr (xs.length, (i : Int), (xs.length : Int), (i : Int), (xs.length : Int), (0 : Int), xs, t, w, c, out)) = some (ex4 t w xs i (b', c', out')) := h1
      simp only [mk1_def, cond_true, cond_false, impl_pairs.l1.st, impl_pairs.l1.s1, T.get, h1']
      rw [decide_eq_true (by omega : (i : Int) < (xs.length : Int))]
      cases b' <;> rfl
  · obtain ⟨b, c, out⟩ := s
    cases b
    all_goals
      simp only [mk1_def, cond_true, cond_false, impl_pairs.l1.st, impl_pairs.l1.s0, impl_pairs.l1.s1, T.get]
      rw [decide_eq_false (by omega)]
      rfl
theorem pairs_t : (impl_pairs.t xs.length xs t w 0 []).get = some (ex1 t w xs (foldF (fun i => foldF (fP t w xs i) xs.length 0) xs.length 0 (false, 0, []))) := by
  simp only [impl_pairs.t, T.get, outerI t w xs h]
  generalize foldF (fun i => foldF (fP t w xs i) xs.length 0) xs.length 0 (false, 0, []) = s
  obtain ⟨b, c, out⟩ := s
  cases b <;> rfl
end
theorem within_t (t w : Nat) (xs : List Int) (hx : xs.length < 1099511627776) :
    (∃ c, (spec_PairsWithin.t xs.length t w xs).get = some (0, c, []) ∧ (impl_PairsWithin.t xs.length t w xs).get = some (.inl (c, xs))) ∨
    (∃ n out, List.length out = n * 2 ∧ n ≤ 576 ∧ (spec_PairsWithin.t xs.length t w xs).get = some (n, 0, out) ∧ (impl_PairsWithin.t xs.length t w xs).get = some (.inr (n, 0, xs, out))) := by
  simp only [spec_PairsWithin.t, impl_PairsWithin.t, T.get, target_eq, part_eq, show spec_l05Asked.ok xs.length t w xs = true from T.ok_of_get (asked_t xs t w hx), show spec_l05Asked xs.length t w xs = _ from T.val_of_get (asked_t xs t w hx), show impl_boxCode.ok xs.length (spec_l01Part w) xs = true from T.ok_of_get (bcode_t xs (spec_l01Part w) hx), show impl_boxCode xs.length (spec_l01Part w) xs = _ from T.val_of_get (bcode_t xs (spec_l01Part w) hx), show impl_boxCode.ok xs.length false xs = true from T.ok_of_get (bcode_t xs false hx), show impl_boxCode xs.length false xs = _ from T.val_of_get (bcode_t xs false hx)]
  cases hb : spec_l05Ok xs.length xs with
  | false => cases spec_l05Target t <;> exact .inl ⟨_, rfl, rfl⟩
  | true =>
    cases spec_l05Target t with
    | false => exact .inl ⟨_, rfl, rfl⟩
    | true =>
      cases spec_l01Part w with
      | false => exact .inl ⟨_, rfl, rfl⟩
      | true =>
        obtain ⟨_, h24⟩ := box_le xs hx hb
        obtain ⟨h1, h2⟩ := outerS t w xs h24
        have h3 := pairs_t t w xs h24
        rw [h1]
        generalize foldF (fun i => foldF (fP t w xs i) xs.length 0) xs.length 0 (false, 0, []) = s at h2 h3 ⊢
        obtain ⟨b, c, out⟩ := s
        have hc : c ≤ 576 := Nat.le_trans h2.2 (Nat.mul_le_mul h24 h24)
        simp only [show impl_pairs.ok xs.length xs t w 0 [] = true from T.ok_of_get (h3), show impl_pairs xs.length xs t w 0 [] = _ from T.val_of_get (h3)]
        cases b <;> exact .inr ⟨c, out, h2.1, hc, rfl, rfl⟩
/-! The list of pairs: the same, marked, still marked. -/
theorem eq2_t (a b : Int) : (laws_eqInt64A2.t a b a b).get = some true := by
  have h1 : laws_eqInt64A2.l2.r ([a, b], [a, b]) 0 = some (.inr ()) := by
    refine iter_count 2 (by omega) (fun i hi => ?_) ?_
    · have hb : bounds (i : Int) 2 = true := by rw [bounds_nat, decide_eq_true hi]
      simp only [laws_eqInt64A2.l2.st, laws_eqInt64A2.l2.s, T.get, hb, ble_decide, Int.toNat_natCast, Nat.mul_one, Nat.zero_add, bne_self_eq_false, List.length_cons, List.length_nil]
      rw [decide_eq_true (by omega : (i : Int) < 2), decide_eq_true (by omega : i + 1 ≤ 2)]
      rfl
    · simp only [laws_eqInt64A2.l2.st, laws_eqInt64A2.l2.s, T.get]
      rfl
  simp only [laws_eqInt64A2.t, T.get, h1]
  rfl
theorem eqL_t (n : Nat) (xs : List Int) (hx : xs.length = n * 2) (hn : n ≤ 576) : (laws_eqInt64A2S_w1.t n n xs xs).get = some true := by
  have h1 : laws_eqInt64A2S_w1.l4.r (n, n, xs, xs) 0 = some (.inr ()) := by
    refine iter_count n (by omega) (fun i hi => ?_) ?_
    · simp only [laws_eqInt64A2S_w1.l4.st, laws_eqInt64A2S_w1.l4.s, T.get, bounds_nat, ble_decide, Int.toNat_natCast, hx, show ∀ a b, laws_eqInt64A2.ok a b a b = true from fun a b => T.ok_of_get (eq2_t a b), show ∀ a b, laws_eqInt64A2 a b a b = true from fun a b => T.val_of_get (eq2_t a b)]
      rw [decide_eq_true (by omega : (i : Int) < (n : Int)), decide_eq_true hi, decide_eq_true (by omega : i * 2 + 2 ≤ n * 2)]
      rfl
    · simp only [laws_eqInt64A2S_w1.l4.st, laws_eqInt64A2S_w1.l4.s, T.get]
      rw [decide_eq_false (by omega)]
      rfl
  simp only [laws_eqInt64A2S_w1.t, T.get, h1]
  simp
theorem mark2_t (n i k : Nat) (ys : List Int) (hy : ys.length = n * 2) (hi : i < n) (hk : k < 9000) : laws_markInt64A2S_w1.l5.r (n, (i : Int)) ((k : Int), 0, ys) = some (((k + 2 : Nat) : Int), (ys.set (i * 2) (k : Int)).set (i * 2 + 1) ((k + 1 : Nat) : Int)) := by
  have hf := iter_run (step := laws_markInt64A2S_w1.l5.st (n, (i : Int))) (f := fun j => match j with | 0 => ((k : Int), (0 : Int), ys) | 1 => (((k + 1 : Nat) : Int), (1 : Int), ys.set (i * 2) (k : Int)) | _ => (((k + 2 : Nat) : Int), (2 : Int), (ys.set (i * 2) (k : Int)).set (i * 2 + 1) ((k + 1 : Nat) : Int))) (e := (((k + 2 : Nat) : Int), (ys.set (i * 2) (k : Int)).set (i * 2 + 1) ((k + 1 : Nat) : Int))) (n := 2) (N := manyRounds) (k := 0)
    (many_lt (by omega)) (fun j hj => ?_) ?_
  · exact hf
  · have e1 : IntKind.wrap .i64 ((k : Int) + 1) = ((k + 1 : Nat) : Int) := wrap64_succ (by omega)
    have e2 : IntKind.wrap .i64 (((k + 1 : Nat) : Int) + 1) = ((k + 2 : Nat) : Int) := wrap64_succ (by omega)
    have b0 : bounds (0 : Int) 2 = true := by decide
    have b1 : bounds (1 : Int) 2 = true := by decide
    have w0 : IntKind.wrap .i64 ((0 : Int) + 1) = 1 := by decide
    have w1 : IntKind.wrap .i64 ((1 : Int) + 1) = 2 := by decide
    match j, hj with
    | 0, _ =>
      simp only [laws_markInt64A2S_w1.l5.st, laws_markInt64A2S_w1.l5.s, T.get, bounds_nat, b0, ble_decide, Int.toNat_natCast, hy, e1, w0, Int.toNat_zero, Nat.zero_mul, Nat.add_zero]
      rw [decide_eq_true hi, decide_eq_true (by omega : i * 2 + 1 ≤ n * 2)]
      rfl
    | 1, _ =>
      simp only [laws_markInt64A2S_w1.l5.st, laws_markInt64A2S_w1.l5.s, T.get, bounds_nat, b1, ble_decide, Int.toNat_natCast, List.length_set, hy, e2, w1, Int.toNat_one, Nat.one_mul]
      rw [decide_eq_true hi, decide_eq_true (by omega : i * 2 + 1 + 1 ≤ n * 2)]
      rfl
  · rfl
/-- The first i pairs are marked, from 1 on. -/
def marked2 (n i : Nat) (ys : List Int) : Prop := ys.length = n * 2 ∧ ∀ j, j < i * 2 → ys.getD j 0 = ((1 + j : Nat) : Int)
theorem markL_t (n : Nat) (xs : List Int) (hx : xs.length = n * 2) (hn : n ≤ 576) : ∃ ys, (laws_markInt64A2S_w1.t n 1 xs).get = some (((1 + 2 * n : Nat) : Int), ys) ∧ marked2 n n ys := by
  obtain ⟨ys, h1, h2⟩ := mark_ends (step := laws_markInt64A2S_w1.l2.st n) (marked2 n) 1 2 n (by omega) xs ⟨hx, fun j hj => by omega⟩ (fun i ys hi hQ => by
    obtain ⟨hl, hm⟩ := hQ
    refine ⟨(ys.set (i * 2) ((1 + 2 * i : Nat) : Int)).set (i * 2 + 1) ((1 + 2 * i + 1 : Nat) : Int), ?_, by simp only [List.length_set]; exact hl, fun j hj => ?_⟩
    · simp only [laws_markInt64A2S_w1.l2.st, laws_markInt64A2S_w1.l2.s, T.get, mark2_t n i (1 + 2 * i) ys hl hi (by omega)]
      rw [decide_eq_true (by omega : (i : Int) < (n : Int)), wrap64_succ (by omega)]
      rfl
    · by_cases e1 : i * 2 + 1 = j
      · subst e1
        rw [lD_same _ _ _ _ (by simp only [List.length_set]; omega)]
        congr 1
        omega
      · rw [lD_ne _ _ _ _ _ e1]
        by_cases e0 : i * 2 = j
        · subst e0
          rw [lD_same _ _ _ _ (by omega)]
          congr 1
          omega
        · rw [lD_ne _ _ _ _ _ e0]
          exact hm j (by omega)) (fun ys hQ => by
    simp only [laws_markInt64A2S_w1.l2.st, laws_markInt64A2S_w1.l2.s, T.get]
    rw [decide_eq_false (by omega)]
    rfl)
  refine ⟨ys, ?_, h2⟩
  have h3 : laws_markInt64A2S_w1.l2.r n ((1 : Int), (0 : Int), xs) = some (((1 + 2 * n : Nat) : Int), ys) := h1
  simp only [laws_markInt64A2S_w1.t, T.get, h3]
  rfl
theorem held2_t (n i k : Nat) (ys : List Int) (hy : ys.length = n * 2) (hi : i < n) (hk : k < 9000) (g0 : ys.getD (i * 2) 0 = (k : Int)) (g1 : ys.getD (i * 2 + 1) 0 = ((k + 1 : Nat) : Int)) : laws_heldInt64A2S_w1.l5.r (n, (i : Int), ys) ((k : Int), 0) = some (.inr ((k + 2 : Nat) : Int)) := by
  have hf := iter_run (step := laws_heldInt64A2S_w1.l5.st (n, (i : Int), ys)) (f := fun j => match j with | 0 => ((k : Int), (0 : Int)) | 1 => (((k + 1 : Nat) : Int), (1 : Int)) | _ => (((k + 2 : Nat) : Int), (2 : Int))) (e := .inr ((k + 2 : Nat) : Int)) (n := 2) (N := manyRounds) (k := 0)
    (many_lt (by omega)) (fun j hj => ?_) ?_
  · exact hf
  · have e1 : IntKind.wrap .i64 ((k : Int) + 1) = ((k + 1 : Nat) : Int) := wrap64_succ (by omega)
    have e2 : IntKind.wrap .i64 (((k + 1 : Nat) : Int) + 1) = ((k + 2 : Nat) : Int) := wrap64_succ (by omega)
    have b0 : bounds (0 : Int) 2 = true := by decide
    have b1 : bounds (1 : Int) 2 = true := by decide
    have w0 : IntKind.wrap .i64 ((0 : Int) + 1) = 1 := by decide
    have w1 : IntKind.wrap .i64 ((1 : Int) + 1) = 2 := by decide
    match j, hj with
    | 0, _ =>
      simp only [laws_heldInt64A2S_w1.l5.st, laws_heldInt64A2S_w1.l5.s, T.get, bounds_nat, b0, ble_decide, Int.toNat_natCast, hy, e1, w0, Int.toNat_zero, Nat.zero_mul, Nat.add_zero, g0, bne_self_eq_false]
      rw [decide_eq_true hi, decide_eq_true (by omega : i * 2 + 1 ≤ n * 2)]
      rfl
    | 1, _ =>
      simp only [laws_heldInt64A2S_w1.l5.st, laws_heldInt64A2S_w1.l5.s, T.get, bounds_nat, b1, ble_decide, Int.toNat_natCast, hy, e2, w1, Int.toNat_one, Nat.one_mul, g1, bne_self_eq_false]
      rw [decide_eq_true hi, decide_eq_true (by omega : i * 2 + 1 + 1 ≤ n * 2)]
      rfl
  · rfl
theorem heldL_t (n : Nat) (ys : List Int) (hn : n ≤ 576) (h : marked2 n n ys) : (laws_heldInt64A2S_w1.t n 1 ys).get = some (((1 + 2 * n : Nat) : Int)) := by
  obtain ⟨hl, hm⟩ := h
  have h3 : laws_heldInt64A2S_w1.l2.r (n, ys) ((1 : Int), (0 : Int)) = some (.inr (((1 + 2 * n : Nat) : Int))) := by
    refine held_run 1 2 n (by omega) (fun i hi => ?_) ?_
    · have hq := held2_t n i (1 + 2 * i) ys hl hi (by omega) (by rw [hm _ (by omega)]; congr 1; omega) (by rw [hm _ (by omega)]; congr 1; omega)
      simp only [laws_heldInt64A2S_w1.l2.st, laws_heldInt64A2S_w1.l2.s, T.get, hq]
      rw [decide_eq_true (by omega : (i : Int) < (n : Int)), wrap64_succ (by omega)]
      rfl
    · simp only [laws_heldInt64A2S_w1.l2.st, laws_heldInt64A2S_w1.l2.s, T.get]
      rw [decide_eq_false (by omega)]
      rfl
  simp only [laws_heldInt64A2S_w1.t, T.get, h3]
  rfl
theorem eqL0_t : (laws_eqInt64A2S.t 0 []).get = some true := by
  have h : laws_eqInt64A2S.l4.r (0, (0 : Int), []) () = some () := iter_run (step := laws_eqInt64A2S.l4.st (0, (0 : Int), [])) (f := fun _ => ()) (e := ()) (n := 0) (N := manyRounds) (k := 0) (many_lt (by omega)) (fun i hi => absurd hi (by omega)) rfl
  simp only [laws_eqInt64A2S.t, T.get, h]
  rfl
theorem markL0_t : (laws_markInt64A2S.t 1).get = some 1 := by
  have h : laws_markInt64A2S.l2.r 1 (0 : Int) = some () := iter_run (step := laws_markInt64A2S.l2.st 1) (f := fun _ => (0 : Int)) (e := ()) (n := 0) (N := manyRounds) (k := 0) (many_lt (by omega)) (fun i hi => absurd hi (by omega)) rfl
  simp only [laws_markInt64A2S.t, T.get, h]
  rfl
theorem heldL0_t : (laws_heldInt64A2S.t 1).get = some 1 := by
  have h : laws_heldInt64A2S.l2.r 1 (0 : Int) = some () := iter_run (step := laws_heldInt64A2S.l2.st 1) (f := fun _ => (0 : Int)) (e := ()) (n := 0) (N := manyRounds) (k := 0) (many_lt (by omega)) (fun i hi => absurd hi (by omega)) rfl
  simp only [laws_heldInt64A2S.t, T.get, h]
  rfl
theorem law_holds (x1 x2 : Nat) (xs : List Int) : (laws_FnExactPairsWithin.t xs.length x1 x2 xs).get = some true := by
  simp only [laws_FnExactPairsWithin.t, T.get]
  by_cases hb : (xs.length : Int) > 1048576
  · rw [decide_eq_true hb]
    rfl
  · rw [decide_eq_false hb]
    have hl : xs.length < 1099511627776 := by omega
    obtain ⟨ms, hm1⟩ := markI_t xs 1 (by omega)
    have hm1' : (laws_markInt16S.t xs.length (1 : Int) xs).get = some (((1 + xs.length : Nat) : Int), ms) := hm1
    have hneg : decide (((1 + xs.length : Nat) : Int) < 0) = false := decide_eq_false (by omega)
    simp only [to_ok xs hl, to_eq xs hl, eqI_ok xs hl, eqI_eq xs hl, show laws_markInt16S.ok xs.length (1 : Int) xs = true from T.ok_of_get (hm1'), show laws_markInt16S xs.length (1 : Int) xs = _ from T.val_of_get (hm1'), hneg, cond_true, cond_false]
    rcases within_t x1 x2 xs hl with ⟨c, h1, h2⟩ | ⟨n, out, hn, hn2, h1, h2⟩
    · simp only [show spec_PairsWithin.ok xs.length x1 x2 xs = true from T.ok_of_get (h1), show spec_PairsWithin xs.length x1 x2 xs = _ from T.val_of_get (h1), show impl_PairsWithin.ok xs.length x1 x2 xs = true from T.ok_of_get (h2), show impl_PairsWithin xs.length x1 x2 xs = _ from T.val_of_get (h2), show laws_eqInt64A2S.ok 0 [] = true from T.ok_of_get (eqL0_t), show laws_eqInt64A2S 0 [] = _ from T.val_of_get (eqL0_t), show laws_markInt64A2S.ok 1 = true from T.ok_of_get (markL0_t), show laws_markInt64A2S 1 = _ from T.val_of_get (markL0_t), show laws_heldInt64A2S.ok 1 = true from T.ok_of_get (heldL0_t), show laws_heldInt64A2S 1 = _ from T.val_of_get (heldL0_t), getLeftD, Sum.isLeft, eqI_ok xs hl, eqI_eq xs hl, show laws_markInt16S.ok xs.length (1 : Int) xs = true from T.ok_of_get (hm1'), show laws_markInt16S xs.length (1 : Int) xs = _ from T.val_of_get (hm1'), hneg]
      simp
    · obtain ⟨ys, h3, h4⟩ := markL_t n out hn hn2
      have h5 := heldL_t n ys hn2 h4
      have h6 := eqL_t n out hn hn2
      have hneg2 : decide (((1 + 2 * n : Nat) : Int) < 0) = false := decide_eq_false (by omega)
      simp only [show spec_PairsWithin.ok xs.length x1 x2 xs = true from T.ok_of_get (h1), show spec_PairsWithin xs.length x1 x2 xs = _ from T.val_of_get (h1), show impl_PairsWithin.ok xs.length x1 x2 xs = true from T.ok_of_get (h2), show impl_PairsWithin xs.length x1 x2 xs = _ from T.val_of_get (h2), getRightD, Sum.isLeft, show laws_eqInt64A2S_w1.ok n n out out = true from T.ok_of_get (h6), show laws_eqInt64A2S_w1 n n out out = _ from T.val_of_get (h6), show laws_markInt64A2S_w1.ok n (1 : Int) out = true from T.ok_of_get (h3), show laws_markInt64A2S_w1 n (1 : Int) out = _ from T.val_of_get (h3), show laws_heldInt64A2S_w1.ok n (1 : Int) ys = true from T.ok_of_get (h5), show laws_heldInt64A2S_w1 n (1 : Int) ys = _ from T.val_of_get (h5), hneg2, eqI_ok xs hl, eqI_eq xs hl, show laws_markInt16S.ok xs.length (1 : Int) xs = true from T.ok_of_get (hm1'), show laws_markInt16S xs.length (1 : Int) xs = _ from T.val_of_get (hm1'), hneg]
      simp

theorem law_plain (x1 : Nat) (x2 : Nat) (xs0 : List Int) (f0 : ∀ x ∈ xs0, (IntKind.min .i16 ≤ x ∧ x ≤ IntKind.max .i16)) (y0 : List.length xs0 ≤ maxLen) (f1 : flHas .f32 x1) (f2 : flHas .f32 x2) : (laws_FnExactPairsWithin.tr (xs0.length, x1, x2, xs0)).get = some true := law_holds x1 x2 xs0
theorem own : ownKnob Try.prog.godebug = none := by kernel_rfl
theorem laidOut : laidOutB Try.prog = true := by kernel_rfl
theorem ground {W : World} (h : W.ShapedOpen Try.prog) : Sx.Ground W := ground_of (by kernel_rfl) h
theorem lifted (os : Os) (started : os.Started) (H : Type) (enc : TypeId × Value → H) :
    ReturnsInHanded {} Try.checked os 12 .any (Rows.fnExactPairsWithinSpec.pre6 enc Try.prog Try.f12 Rows.fnExactPairsWithinRow.domain false) (Rows.fnExactPairsWithinSpec.post enc Try.prog Try.f12 false true false false) := by
  refine returnsInHanded_of_change_shaped (C := Try.checked) own started (by kernel_rfl) Try.func12
    (ChangeSpec.witness6 (enc := enc) (C := Try.checked) false ⟨#[], #[.slice none 0 0, .float .f32 0, .float .f32 0], []⟩ 8 (by kernel_rfl) (by kernel_rfl) (by kernel_rfl) (by kernel_rfl)) ?_
  intro W base args ds gs before hval0 hW hcnd _ hsh _
  have hG := ground hsh
  have hval : ∀ (j : Nat) t v, Try.f12.params[j]? = some t → args[j]? = some v → Value.okWide Try.prog W .any base t v := hval0
  have hW' := hW
  obtain ⟨p, q, hA0, hV, rfl, hfz, hnd⟩ := hW
  have hA : DataW.TrodAll enc Try.prog W 0 (fun _ => true) true Try.f12.params.toList args.toList ds p := hA0
  rw [Try.params12] at hA hval
  obtain ⟨v0, vs0, d0, ds0, p0, q0, hargs, rfl, rfl, h0, rr0⟩ := trodAll_cons hA
  obtain ⟨v1, vs1, d1, ds1, p1, q1, rfl, rfl, rfl, h1, rr1⟩ := trodAll_cons rr0
  obtain ⟨v2, vs2, d2, ds2, p2, q2, rfl, rfl, rfl, h2, rr2⟩ := trodAll_cons rr1
  obtain ⟨rfl, rfl, rfl⟩ := trodAll_nil rr2
  obtain rfl : args = #[v0, v1, v2] := by cases args; simp_all
  obtain ⟨rfl, rfl⟩ := trodVars_none hV
  have k0 := h0
  have lt0 : ∀ x ∈ p0, x.block < W.heap.size := by obtain ⟨m, hm⟩ := k0; exact DataW.trod_lt m _ _ _ hm
  obtain ⟨l0, xs0, w0, r0, f0, y0⟩ := open_its Try.underlying22 Try.underlying47 (by kernel_rfl) hG (hval 0 22 v0 rfl rfl) k0
  have k1 := h1
  have lt1 : ∀ x ∈ p1, x.block < W.heap.size := by obtain ⟨m, hm⟩ := k1; exact DataW.trod_lt m _ _ _ hm
  obtain ⟨x1, r1, f1⟩ := sc_fl Try.underlying26 (cell_of Try.underlying26 rfl (hval 1 26 v1 rfl rfl))
  have k2 := h2
  have lt2 : ∀ x ∈ p2, x.block < W.heap.size := by obtain ⟨m, hm⟩ := k2; exact DataW.trod_lt m _ _ _ hm
  obtain ⟨x2, r2, f2⟩ := sc_fl Try.underlying26 (cell_of Try.underlying26 rfl (hval 2 26 v2 rfl rfl))
  clear hA0 hval0
  refine (laws_FnExactPairsWithin.walk (xs0.length, x1, x2, xs0) (law_plain x1 x2 xs0 f0 y0 f1 f2) (ρ := fun i => (lget ([(l0, .is .i16 xs0)] : List (Sx.Loc × Cells)) i).map (·.1)) (Rs_cons' (r0 _ 0 rfl) (Rs_cons' (r1 _) (Rs_cons' (r2 _) Rs_nil'))) (HpR.ofRo [(l0, .is .i16 xs0)] ((List.forall_mem_cons.2 ⟨w0, List.forall_mem_nil _⟩)))).mono fun e W' ⟨he, bel⟩ => ?_
  subst he
  exact ⟨_, rfl, _, _, _, [], _, [], hW', trodAll_mk1 (shut_bool Try.underlying4 _), (trodAll_cons_mk (Below.trod laidOut (by kernel_rfl) (of_decide_eq_true (by kernel_rfl)) k0 bel lt0) (trodAll_cons_mk (Below.trod laidOut (by kernel_rfl) (of_decide_eq_true (by kernel_rfl)) k1 bel lt1) (trodAll_cons_mk (Below.trod laidOut (by kernel_rfl) (of_decide_eq_true (by kernel_rfl)) k2 bel lt2) trodAll_mk0))), rfl, bel.frame _, fun h => by cases h⟩
theorem over : Rows.fnExactPairsWithinRow.holds Try.pinned (OpenSpec.ofChange Rows.fnExactPairsWithinSpec) :=
  OpenClaim.holds_of_wide 12 Try.f12 rfl rfl rfl rfl rfl rfl rfl ⟨rfl, rfl, rfl, rfl, rfl⟩ rfl rfl rfl rfl rfl (by kernel_rfl) Try.func12 (by kernel_rfl)
    (of_decide_eq_true (by kernel_rfl)) (by unfold Func.isWrapper; first | (rw [if_pos (by decide +kernel)]; kernel_rfl) | (rw [if_neg (by decide +kernel)]; exact ⟨rfl, rfl⟩))
    (fun os started H enc _ => lifted os started H enc)
theorem proved : Rows.FnExactPairsWithinSaid := over
end Go.Proofs.Ythllapodgemlfaa
