/- For every input the call of FnExactAddWheel returns true, and each argument reads afterwards as it read before; there is no condition. -/
import Derived.Test.YtkfpmiggolmabaaWFnExactAddWheel
import Derived.Test.YtkfpmiggolmabaaSxS
import Derived.Test.YtkfpmiggolmabaaRows
import Derived.WalkKit
import Derived.ProofKit
import Derived.OpenShut
import Derived.ShutString
import Derived.ChangeOld
import Derived.Below
import Derived.Carry
import Derived.HandedShaped
namespace Go.Proofs.Ytkfpmiggolmabaa
open Go Go.RowKit Sx
open Go.ChangeShapes Go.WideShapes Go.ChangeAt
set_option linter.unusedVariables false
set_option linter.unusedSimpArgs false
set_option maxRecDepth 100000

theorem within_eq (x y z : Int) : impl_within x y z = spec_l00In x y z := by
  simp only [impl_within, impl_within.t, spec_l00In, spec_l00In.t, T.val, ge_iff_le]

theorem teeth_eq (x : Int) : impl_areTeeth x = spec_l01Teeth x := by
  simp only [impl_areTeeth, impl_areTeeth.t, spec_l01Teeth, spec_l01Teeth.t, T.val, within_eq]
theorem box_r (xs : List Int) (h : xs.length < 1099511627776) : ∃ e, spec_l05Ok.l2.r (xs.length, xs) 0 = some e ∧ impl_ValidBox.l2.r (xs.length, xs.length, (xs.length : Int), xs) 0 = some e := by
  obtain ⟨e, e', h1, h2, rfl⟩ := iter_two (step := spec_l05Ok.l2.st (xs.length, xs)) (step' := impl_ValidBox.l2.st (xs.length, xs.length, (xs.length : Int), xs)) (R := fun s t => s = t ∧ ∃ i : Nat, i ≤ xs.length ∧ s = (i : Int)) (E := fun e e' => e = e') (fun s => xs.length - s.toNat) (by
    rintro s t ⟨rfl, i, hi, rfl⟩
    simp only [spec_l05Ok.l2.st, spec_l05Ok.l2.s, impl_ValidBox.l2.st, impl_ValidBox.l2.s, T.get, bounds_nat, ble_decide, Int.toNat_natCast, Nat.mul_one, teeth_eq]
    by_cases hlt : i < xs.length
    · rw [decide_eq_true (by omega : (i : Int) < (xs.length : Int)), decide_eq_true hlt, decide_eq_true (by omega : i + 1 ≤ xs.length)]
      simp only [cond_true]
      have hw : IntKind.wrap .i64 ((i : Int) + 1) = ((i + 1 : Nat) : Int) := wrap64_succ (by omega)
      cases ht : spec_l01Teeth (IntKind.wrap .i64 (xs.getD i 0)) with
      | false => exact .inr ⟨_, _, rfl, rfl, rfl⟩
      | true =>
        simp only [Bool.not_true, cond_false]
        by_cases hz : 0 < i
        · have hw2 : IntKind.wrap .i64 ((i : Int) - 1) = ((i - 1 : Nat) : Int) := by
            rw [wrap64 (by omega) (by omega)]
            omega
          rw [decide_eq_true (by omega : (i : Int) > 0), hw, hw2, bounds_nat, Int.toNat_natCast, decide_eq_true (by omega : i - 1 < xs.length), decide_eq_true (by omega : i - 1 + 1 ≤ xs.length)]
          simp only [cond_true]
          cases decide (xs.getD i 0 ≤ xs.getD (i - 1) 0) with
          | true => exact .inr ⟨_, _, rfl, rfl, rfl⟩
          | false => exact .inl ⟨_, _, rfl, rfl, ⟨rfl, i + 1, by omega, rfl⟩, by omega⟩
        · rw [decide_eq_false (by omega : ¬ (i : Int) > 0), hw]
          exact .inl ⟨_, _, rfl, rfl, ⟨rfl, i + 1, by omega, rfl⟩, by omega⟩
    · rw [decide_eq_false (by omega : ¬ (i : Int) < (xs.length : Int))]
      exact .inr ⟨_, _, rfl, rfl, rfl⟩) manyRounds 0 0 ⟨rfl, 0, by omega, rfl⟩ (many_lt (by simp; omega))
  exact ⟨e, h1, h2⟩
theorem boxs_ok (xs : List Int) (h : xs.length < 1099511627776) : spec_l05Ok.ok xs.length xs = true := by
  obtain ⟨e, h1, h2⟩ := box_r xs h
  simp only [spec_l05Ok.ok, spec_l05Ok.t, T.ok, h1, Option.isSome_some, cond_true, Option.getD_some]
  cases Sum.isLeft e <;> rfl
theorem boxi_ok (xs : List Int) (h : xs.length < 1099511627776) : impl_ValidBox.ok xs.length xs = true := by
  obtain ⟨e, h1, h2⟩ := box_r xs h
  simp only [impl_ValidBox.ok, impl_ValidBox.t, T.ok, h2, Option.isSome_some, cond_true, Option.getD_some]
  cases Sum.isLeft e <;> rfl
theorem box_eq (xs : List Int) (h : xs.length < 1099511627776) : impl_ValidBox xs.length xs = spec_l05Ok xs.length xs := by
  obtain ⟨e, h1, h2⟩ := box_r xs h
  simp only [impl_ValidBox, impl_ValidBox.t, spec_l05Ok, spec_l05Ok.t, T.val, h1, h2, within_eq]
theorem box_le (xs : List Int) (h : xs.length < 1099511627776) (hb : spec_l05Ok xs.length xs = true) : 2 ≤ xs.length ∧ xs.length ≤ 24 := by
  obtain ⟨e, h1, h2⟩ := box_r xs h
  have hx : ∃ e, spec_l05Ok.l2.r (xs.length, xs) 0 = some e := ⟨e, h1⟩
  by_cases hl : spec_l00In (xs.length : Int) 2 24 = true
  · simp only [spec_l00In, spec_l00In.t, T.val] at hl
    cases h3 : decide ((xs.length : Int) ≥ 2) <;> rw [h3] at hl
    · cases hl
    · simp only [cond_true, decide_eq_true_eq] at hl h3
      omega
  · exfalso
    have hl' : spec_l00In (xs.length : Int) 2 24 = false := by simpa using hl
    have hk : ∀ e, spec_l05Ok.l2.r (xs.length, xs) 0 = some e → ∀ b, e = .inl b → b = false := by
      intro e he b hb
      obtain ⟨e', h3, h4⟩ := iter_ends (step := spec_l05Ok.l2.st (xs.length, xs)) (R := fun s => ∃ i : Nat, i ≤ xs.length ∧ s = (i : Int)) (E := fun e => ∀ b, e = .inl b → b = false) (fun s => xs.length - s.toNat) (by
        rintro s ⟨i, hi, rfl⟩
        simp only [spec_l05Ok.l2.st, spec_l05Ok.l2.s, T.get, bounds_nat, ble_decide, Int.toNat_natCast, Nat.mul_one]
        by_cases hlt : i < xs.length
        · rw [decide_eq_true (by omega : (i : Int) < (xs.length : Int)), decide_eq_true hlt, decide_eq_true (by omega : i + 1 ≤ xs.length)]
          simp only [cond_true]
          have hw : IntKind.wrap .i64 ((i : Int) + 1) = ((i + 1 : Nat) : Int) := wrap64_succ (by omega)
          cases ht : spec_l01Teeth (IntKind.wrap .i64 (xs.getD i 0)) with
          | false => exact .inr ⟨_, rfl, fun b hb => by cases hb; rfl⟩
          | true =>
            simp only [Bool.not_true, cond_false]
            by_cases hz : 0 < i
            · have hw2 : IntKind.wrap .i64 ((i : Int) - 1) = ((i - 1 : Nat) : Int) := by
                rw [wrap64 (by omega) (by omega)]
                omega
              rw [decide_eq_true (by omega : (i : Int) > 0), hw, hw2, bounds_nat, Int.toNat_natCast, decide_eq_true (by omega : i - 1 < xs.length), decide_eq_true (by omega : i - 1 + 1 ≤ xs.length)]
              simp only [cond_true]
              cases decide (xs.getD i 0 ≤ xs.getD (i - 1) 0) with
              | true => exact .inr ⟨_, rfl, fun b hb => by cases hb; rfl⟩
              | false => exact .inl ⟨_, rfl, ⟨i + 1, by omega, rfl⟩, by omega⟩
            · rw [decide_eq_false (by omega : ¬ (i : Int) > 0), hw]
              exact .inl ⟨_, rfl, ⟨i + 1, by omega, rfl⟩, by omega⟩
        · rw [decide_eq_false (by omega : ¬ (i : Int) < (xs.length : Int))]
          exact .inr ⟨_, rfl, fun b hb => by cases hb⟩) manyRounds 0 ⟨0, by omega, rfl⟩ (many_lt (by simp; omega))
      have h5 : spec_l05Ok.l2.r (xs.length, xs) 0 = some e' := h3
      rw [h5] at he
      cases he
      exact h4 b hb
    simp only [spec_l05Ok, spec_l05Ok.t, T.val, h1, hl', Option.isSome_some, Option.getD_some, cond_true] at hb
    cases e with
    | inl b =>
      have := hk _ h1 b rfl
      subst this
      simp [Sum.isLeft, getLeftD] at hb
    | inr u => simp [Sum.isLeft] at hb

theorem target_eq (x : Nat) : impl_isTarget x = spec_l05Target x := by
  simp only [impl_isTarget, impl_isTarget.t, impl_between, impl_between.t, spec_l05Target, spec_l05Target.t, T.val, fge_flip]

theorem part_0 : spec_l01Part 0 = true := by kernel_rfl
theorem asked_t (xs : List Int) (t w : Nat) (h : xs.length < 1099511627776) : (spec_l05Asked.t xs.length t w xs).get = some (bif spec_l05Ok xs.length xs then (bif spec_l05Target t && spec_l01Part w then 0 else 2) else 1) := by
  simp only [spec_l05Asked.t, T.get, boxs_ok xs h]
  cases spec_l05Ok xs.length xs <;> cases spec_l05Target t <;> cases spec_l01Part w <;> rfl
theorem bcode_t (xs : List Int) (b : Bool) (h : xs.length < 1099511627776) : (impl_boxCode.t xs.length b xs).get = some (bif spec_l05Ok xs.length xs then (bif b then 0 else 2) else 1) := by
  simp only [impl_boxCode.t, T.get, boxi_ok xs h, box_eq xs h]
  cases spec_l05Ok xs.length xs <;> cases b <;> rfl

theorem size_eq (x : Nat) (h : flHas .f32 x) : impl_size x = spec_l01Size x := by
  simp only [impl_size, impl_size.t, spec_l01Size, spec_l01Size.t, T.val]
  cases hl : flt .f32 x 0 with
  | false => rfl
  | true => exact sub_zero_neg .f32 x h hl

theorem off_eq (f t : Nat) : impl_offBy f t = spec_l05Off f t := by
  simp only [impl_offBy, impl_offBy.t, spec_l05Off, spec_l05Off.t, T.val, size_eq _ (fsub_has _ _ _)]
theorem quot_eq (a b : Int) : impl_quotient a b = spec_l01Quotient a b := by
  simp only [impl_quotient, impl_quotient.t, spec_l01Quotient, spec_l01Quotient.t, T.val]

/-- How far the factor of wheels i and k is off a target. -/
noncomputable def offP (t : Nat) (xs : List Int) (i k : Nat) : Nat := spec_l05Off (spec_l01Quotient (xs.getD i 0) (xs.getD k 0)) t
noncomputable def fsP (t : Nat) (xs : List Int) (i k : Nat) (s : Int × Int × Nat) : Int × Int × Nat := bif decide (i = k) then s else bif flt .f32 (offP t xs i k) s.2.2 then ((i : Int), (k : Int), offP t xs i k) else s
noncomputable def fiP (t : Nat) (xs : List Int) (i k : Nat) (s : Bool × Nat × Int × Int) : Bool × Nat × Int × Int := bif decide (i = k) then s else bif !s.1 then (true, offP t xs i k, (i : Int), (k : Int)) else bif flt .f32 (offP t xs i k) s.2.1 then (true, offP t xs i k, (i : Int), (k : Int)) else s
theorem eq_dec (i k : Nat) : ((i : Int) == (k : Int)) = decide (i = k) := by
  by_cases h : i = k
  · subst h; simp
  · rw [decide_eq_false h, beq_eq_false_iff_ne]
    omega
theorem ne_dec (i k : Nat) : ((i : Int) != (k : Int)) = !decide (i = k) := by
  unfold bne
  rw [eq_dec]
theorem innerS (t : Nat) (xs : List Int) (i : Nat) (hi : i < xs.length) (h : xs.length < 1099511627776) (s : Int × Int × Nat) : spec_l05Best.l8.r (xs.length, t, (i : Int), xs) (s.1, s.2.1, s.2.2, 0) = some (foldF (fsP t xs i) xs.length 0 s) := by
  refine (loop_fold (step := spec_l05Best.l8.st (xs.length, t, (i : Int), xs)) (fun c (s : Int × Int × Nat) => (s.1, s.2.1, s.2.2, c)) (fsP t xs i) (fun s => s) (fun _ => True) xs.length (by omega) s trivial (fun k s hk _ => ⟨?_, trivial⟩) (fun s _ => ?_)).1
  · simp only [spec_l05Best.l8.st, spec_l05Best.l8.s, T.get, bounds_nat, ble_decide, Int.toNat_natCast, Nat.mul_one, eq_dec]
    rw [decide_eq_true (by omega : (k : Int) < (xs.length : Int)), decide_eq_true hi, decide_eq_true hk, decide_eq_true (by omega : i + 1 ≤ xs.length), decide_eq_true (by omega : k + 1 ≤ xs.length)]
    simp only [cond_true, fsP, offP]
    cases decide (i = k) with
    | true => rfl
    | false =>
      simp only [cond_false]
      cases flt .f32 (spec_l05Off (spec_l01Quotient (xs.getD i 0) (xs.getD k 0)) t) s.2.2 <;> rfl
  · simp only [spec_l05Best.l8.st, spec_l05Best.l8.s, T.get]
    rw [decide_eq_false (by omega)]
    rfl
theorem outerS (t : Nat) (xs : List Int) (h : xs.length < 1099511627776) (s : Int × Int × Nat) : spec_l05Best.l5.r (xs.length, t, xs) (s.1, s.2.1, s.2.2, 0) = some (foldF (fun i => foldF (fsP t xs i) xs.length 0) xs.length 0 s) := by
  refine (loop_fold (step := spec_l05Best.l5.st (xs.length, t, xs)) (fun c (s : Int × Int × Nat) => (s.1, s.2.1, s.2.2, c)) (fun i => foldF (fsP t xs i) xs.length 0) (fun s => s) (fun _ => True) xs.length (by omega) s trivial (fun i s hi _ => ⟨?_, trivial⟩) (fun s _ => ?_)).1
  · simp only [spec_l05Best.l5.st, spec_l05Best.l5.s, T.get, innerS t xs i hi h s]
    rw [decide_eq_true (by omega : (i : Int) < (xs.length : Int))]
    rfl
  · simp only [spec_l05Best.l5.st, spec_l05Best.l5.s, T.get]
    rw [decide_eq_false (by omega)]
    rfl
theorem innerI (t : Nat) (xs : List Int) (i : Nat) (hi : i < xs.length) (h : xs.length < 1099511627776) (s : Bool × Nat × Int × Int) : impl_pairs.l4.r (xs.length, (i : Int), (xs.length : Int), (i : Int), (xs.length : Int), xs, t) (0, s.1, s.2.1, s.2.2.1, s.2.2.2) = some (foldF (fiP t xs i) xs.length 0 s) := by
  refine (loop_fold (step := impl_pairs.l4.st (xs.length, (i : Int), (xs.length : Int), (i : Int), (xs.length : Int), xs, t)) (fun c (s : Bool × Nat × Int × Int) => (c, s)) (fiP t xs i) (fun s => s) (fun _ => True) xs.length (by omega) s trivial (fun k s hk _ => ⟨?_, trivial⟩) (fun s _ => ?_)).1
  · simp only [impl_pairs.l4.st, impl_pairs.l4.s, T.get, bounds_nat, ble_decide, Int.toNat_natCast, Nat.mul_one, ne_dec, impl_bestPair_1, impl_bestPair_1.t, T.val, off_eq, quot_eq]
    rw [decide_eq_true (by omega : (k : Int) < (xs.length : Int)), decide_eq_true hi, decide_eq_true hk, decide_eq_true (by omega : i + 1 ≤ xs.length), decide_eq_true (by omega : k + 1 ≤ xs.length)]
    simp only [cond_true, fiP, offP]
    obtain ⟨f, b, x, y⟩ := s
    cases decide (i = k) with
    | true => rfl
    | false =>
      cases f with
      | false => rfl
      | true =>
        simp only [Bool.not_false, Bool.not_true, cond_true, cond_false]
  · simp only [impl_pairs.l4.st, impl_pairs.l4.s, T.get]
    rw [decide_eq_false (by omega)]
    rfl
theorem outerI (t : Nat) (xs : List Int) (h : xs.length < 1099511627776) (s : Bool × Nat × Int × Int) : impl_pairs.l1.r (xs.length, (xs.length : Int), xs, t) (0, s.1, s.2.1, s.2.2.1, s.2.2.2) = some (foldF (fun i => foldF (fiP t xs i) xs.length 0) xs.length 0 s) := by
  refine (loop_fold (step := impl_pairs.l1.st (xs.length, (xs.length : Int), xs, t)) (fun c (s : Bool × Nat × Int × Int) => (c, s)) (fun i => foldF (fiP t xs i) xs.length 0) (fun s => s) (fun _ => True) xs.length (by omega) s trivial (fun i s hi _ => ⟨?_, trivial⟩) (fun s _ => ?_)).1
  · simp only [impl_pairs.l1.st, impl_pairs.l1.s, T.get, innerI t xs i hi h s]
    rw [decide_eq_true (by omega : (i : Int) < (xs.length : Int))]
    rfl
  · simp only [impl_pairs.l1.st, impl_pairs.l1.s, T.get]
    rw [decide_eq_false (by omega)]
    rfl
def relP (s : Int × Int × Nat) (t : Bool × Nat × Int × Int) : Prop := t = (true, s.2.2, s.1, s.2.1)
theorem relP_step (t : Nat) (xs : List Int) (i k : Nat) (s : Int × Int × Nat) (u : Bool × Nat × Int × Int) (h : relP s u) : relP (fsP t xs i k s) (fiP t xs i k u) := by
  unfold relP at h ⊢
  subst h
  unfold fsP fiP
  cases decide (i = k) with
  | true => rfl
  | false =>
    simp only [Bool.not_true, cond_false]
    cases flt .f32 (offP t xs i k) s.2.2 <;> rfl
/-- The best pair of a box with two wheels at least. -/
theorem best_rel (t : Nat) (xs : List Int) (h2 : 2 ≤ xs.length) : relP (foldF (fun i => foldF (fsP t xs i) xs.length 0) xs.length 0 (0, 1, offP t xs 0 1)) (foldF (fun i => foldF (fiP t xs i) xs.length 0) xs.length 0 (false, 0, 0, 0)) := by
  obtain ⟨m, hm⟩ : ∃ m, xs.length = m + 2 := ⟨xs.length - 2, by omega⟩
  rw [hm]
  have inner : ∀ (n k i : Nat) s u, relP s u → relP (foldF (fsP t xs i) n k s) (foldF (fiP t xs i) n k u) := fun n k i s u hr => foldF_rel relP n k s u (fun j s u _ _ hr => relP_step t xs i j s u hr) hr
  show relP (foldF (fun i => foldF (fsP t xs i) (m + 2) 0) (m + 1) 1 (foldF (fsP t xs 0) m 2 (fsP t xs 0 1 (fsP t xs 0 0 (0, 1, offP t xs 0 1))))) (foldF (fun i => foldF (fiP t xs i) (m + 2) 0) (m + 1) 1 (foldF (fiP t xs 0) m 2 (fiP t xs 0 1 (fiP t xs 0 0 (false, 0, 0, 0)))))
  refine foldF_rel relP _ _ _ _ (fun i s u _ _ hr => inner _ _ _ _ _ hr) (inner _ _ _ _ _ ?_)
  have e1 : fsP t xs 0 1 (fsP t xs 0 0 (0, 1, offP t xs 0 1)) = (0, 1, offP t xs 0 1) := by
    unfold fsP
    simp only [decide_true, cond_true]
    rw [decide_eq_false (by omega : ¬ 0 = 1)]
    simp only [cond_false]
    cases flt .f32 (offP t xs 0 1) (offP t xs 0 1) <;> rfl
  rw [e1]
  rfl
theorem bests_t (t : Nat) (xs : List Int) (h2 : 2 ≤ xs.length) (h : xs.length < 1099511627776) : (spec_l05Best.t xs.length t xs).get = some (foldF (fun i => foldF (fsP t xs i) xs.length 0) xs.length 0 (0, 1, offP t xs 0 1)) := by
  have h1 : spec_l05Best.l5.r (xs.length, t, xs) (0, 1, spec_l05Off (spec_l01Quotient (xs.getD 0 0) (xs.getD 1 0)) t, 0) = some (foldF (fun i => foldF (fsP t xs i) xs.length 0) xs.length 0 (0, 1, offP t xs 0 1)) := outerS t xs h (0, 1, offP t xs 0 1)
  have b0 : bounds 0 xs.length = true := by
    unfold bounds
    rw [decide_eq_true (by omega), decide_eq_true (by omega)]
    rfl
  have b1 : bounds 1 xs.length = true := by
    unfold bounds
    rw [decide_eq_true (by omega), decide_eq_true (by omega)]
    rfl
  simp only [spec_l05Best.t, T.get, b0, b1, ble_decide, h1]
  rw [decide_eq_true (by omega : 1 ≤ xs.length), decide_eq_true (by omega : 2 ≤ xs.length)]
  rfl
theorem besti_t (t : Nat) (xs : List Int) (h2 : 2 ≤ xs.length) (h : xs.length < 1099511627776) : (impl_bestPair.t xs.length t xs).get = some (foldF (fun i => foldF (fsP t xs i) xs.length 0) xs.length 0 (0, 1, offP t xs 0 1)) := by
  have h1 : impl_pairs.l1.r (xs.length, (xs.length : Int), xs, t) (0, false, 0, 0, 0) = some _ := outerI t xs h (false, 0, 0, 0)
  have hr := best_rel t xs h2
  unfold relP at hr
  rw [hr] at h1
  generalize foldF (fun i => foldF (fsP t xs i) xs.length 0) xs.length 0 (0, 1, offP t xs 0 1) = r at h1
  have h3 : (impl_pairs.t xs.length xs t false 0 0 0).get = some (true, r.2.2, r.1, r.2.1) := by
    simp only [impl_pairs.t, T.get, h1]
    rfl
  simp only [impl_bestPair.t, T.get, show impl_pairs.ok xs.length xs t false 0 0 0 = true from T.ok_of_get (h3), show impl_pairs xs.length xs t false 0 0 0 = _ from T.val_of_get (h3)]
  rfl

theorem to_r (xs : List Int) (h : xs.length < 1099511627776) : laws_toInt16S.l3.r (xs.length, xs.length, xs) ((0 : Int), List.replicate (xs.length * 1) 0) = some xs := copy_run 0 xs (by omega)
theorem to_t (xs : List Int) (h : xs.length < 1099511627776) : (laws_toInt16S.t xs.length xs).get = some (xs.length, xs) := by
  simp only [laws_toInt16S.t, T.get, Int.toNat_natCast, to_r xs h, Option.isSome_some, cond_true, Option.getD_some]
  rw [decide_eq_true (by omega), decide_eq_true (by omega), decide_eq_true (by omega), decide_eq_true (by omega)]
  rfl
theorem to_ok (xs : List Int) (h : xs.length < 1099511627776) : laws_toInt16S.ok xs.length xs = true := T.ok_of_get (to_t xs h)
theorem to_eq (xs : List Int) (h : xs.length < 1099511627776) : laws_toInt16S xs.length xs = (xs.length, xs) := T.val_of_get (to_t xs h)

theorem eq_r (xs : List Int) (h : xs.length < 1099511627776) : laws_eqInt16S.l4.r (xs.length, xs.length, xs, xs) 0 = some (.inr ()) := by
  refine iter_count xs.length (by omega) (fun i hi => ?_) ?_
  · simp only [laws_eqInt16S.l4.st, laws_eqInt16S.l4.s, T.get, bounds_nat, ble_decide, Int.toNat_natCast, Nat.mul_one, bne_self_eq_false]
    rw [decide_eq_true (by omega), decide_eq_true hi, decide_eq_true (by omega)]
    rfl
  · simp only [laws_eqInt16S.l4.st, laws_eqInt16S.l4.s, T.get]
    rw [decide_eq_false (by omega)]
    rfl
theorem eqI_t (xs : List Int) (h : xs.length < 1099511627776) : (laws_eqInt16S.t xs.length xs.length xs xs).get = some true := by
  simp only [laws_eqInt16S.t, T.get, eq_r xs h]
  simp
theorem eqI_ok (xs : List Int) (h : xs.length < 1099511627776) : laws_eqInt16S.ok xs.length xs.length xs xs = true := T.ok_of_get (eqI_t xs h)
theorem eqI_eq (xs : List Int) (h : xs.length < 1099511627776) : laws_eqInt16S xs.length xs.length xs xs = true := T.val_of_get (eqI_t xs h)

theorem same_refl (x : Nat) : laws_sameFloat x x = true := same_self (s := laws_sameFloat.t) (fun _ _ => rfl) x

/-! A box with a wheel more: where it goes, and by how much its best pair is off. -/
theorem box_sorted (xs : List Int) (h : xs.length < 1099511627776) (hb : spec_l05Ok xs.length xs = true) : ∀ i, 0 < i → i < xs.length → xs.getD (i - 1) 0 < xs.getD i 0 := by
  obtain ⟨e, h1, h2⟩ := box_r xs h
  obtain ⟨e', h3, h4, h5⟩ := iter_ends (step := spec_l05Ok.l2.st (xs.length, xs)) (R := fun s => ∃ i : Nat, i ≤ xs.length ∧ s = (i : Int) ∧ ∀ j, 0 < j → j < i → xs.getD (j - 1) 0 < xs.getD j 0)
    (E := fun e => (∀ b, e = .inl b → b = false) ∧ (e = .inr () → ∀ j, 0 < j → j < xs.length → xs.getD (j - 1) 0 < xs.getD j 0)) (fun s => xs.length - s.toNat) (by
    rintro s ⟨i, hi, rfl, hs⟩
    simp only [spec_l05Ok.l2.st, spec_l05Ok.l2.s, T.get, bounds_nat, ble_decide, Int.toNat_natCast, Nat.mul_one]
    by_cases hlt : i < xs.length
    · rw [decide_eq_true (by omega : (i : Int) < (xs.length : Int)), decide_eq_true hlt, decide_eq_true (by omega : i + 1 ≤ xs.length)]
      simp only [cond_true]
      have hw : IntKind.wrap .i64 ((i : Int) + 1) = ((i + 1 : Nat) : Int) := wrap64_succ (by omega)
      cases ht : spec_l01Teeth (IntKind.wrap .i64 (xs.getD i 0)) with
      | false => exact .inr ⟨_, rfl, fun b hb => (by cases hb; rfl), fun hb => (by cases hb)⟩
      | true =>
        simp only [Bool.not_true, cond_false]
        by_cases hz : 0 < i
        · have hw2 : IntKind.wrap .i64 ((i : Int) - 1) = ((i - 1 : Nat) : Int) := by
            rw [wrap64 (by omega) (by omega)]
            omega
          rw [decide_eq_true (by omega : (i : Int) > 0), hw, hw2, bounds_nat, Int.toNat_natCast, decide_eq_true (by omega : i - 1 < xs.length), decide_eq_true (by omega : i - 1 + 1 ≤ xs.length)]
          simp only [cond_true]
          cases hd : decide (xs.getD i 0 ≤ xs.getD (i - 1) 0) with
          | true => exact .inr ⟨_, rfl, fun b hb => (by cases hb; rfl), fun hb => (by cases hb)⟩
          | false =>
            refine .inl ⟨_, rfl, ⟨i + 1, by omega, rfl, fun j h1 h2 => ?_⟩, by omega⟩
            rcases Nat.lt_or_ge j i with h6 | h6
            · exact hs j h1 h6
            · have e : j = i := by omega
              subst e
              have := of_decide_eq_false hd
              omega
        · rw [decide_eq_false (by omega : ¬ (i : Int) > 0), hw]
          exact .inl ⟨_, rfl, ⟨i + 1, by omega, rfl, fun j h1 h2 => by omega⟩, by omega⟩
    · rw [decide_eq_false (by omega : ¬ (i : Int) < (xs.length : Int))]
      exact .inr ⟨_, rfl, fun b hb => (by cases hb), fun _ j h1 h2 => hs j h1 (by omega)⟩) manyRounds 0 ⟨0, by omega, rfl, fun j h1 h2 => by omega⟩ (many_lt (by simp; omega))
  have h6 : spec_l05Ok.l2.r (xs.length, xs) 0 = some e' := h3
  cases e' with
  | inr u => exact h5 rfl
  | inl b =>
    have := h4 b rfl
    subst this
    simp only [spec_l05Ok, spec_l05Ok.t, T.val, h6, Option.isSome_some, Option.getD_some, cond_true] at hb
    simp [Sum.isLeft, getLeftD] at hb
theorem sorted_le {xs : List Int} (hs : ∀ i, 0 < i → i < xs.length → xs.getD (i - 1) 0 < xs.getD i 0) : ∀ d i, i + d < xs.length → xs.getD i 0 ≤ xs.getD (i + d) 0
  | 0, i, _ => Int.le_refl _
  | d + 1, i, h => by
    have h1 := sorted_le hs d i (by omega)
    have h2 := hs (i + (d + 1)) (by omega) h
    rw [show i + (d + 1) - 1 = i + d by omega] at h2
    omega
/-- The place of a number: all ahead of it are less, none from it on. -/
def At (xs : List Int) (n : Int) (p : Nat) : Prop := p ≤ xs.length ∧ (∀ j, j < p → xs.getD j 0 < n) ∧ ∀ j, p ≤ j → j < xs.length → n ≤ xs.getD j 0
theorem At.same {xs : List Int} {n : Int} {p q : Nat} (h : At xs n p) (g : At xs n q) : p = q := by
  obtain ⟨h1, h2, h3⟩ := h
  obtain ⟨g1, g2, g3⟩ := g
  rcases Nat.lt_trichotomy p q with hl | hl | hl
  · have a := g2 p hl
    have b := h3 p (Nat.le_refl _) (by omega)
    omega
  · exact hl
  · have a := h2 q hl
    have b := g3 q (Nat.le_refl _) (by omega)
    omega
theorem at_s (xs : List Int) (h : xs.length < 1099511627776) (hs : ∀ i, 0 < i → i < xs.length → xs.getD (i - 1) 0 < xs.getD i 0) (t : Nat) (b : Int) (l : Nat) (n : Int) :
    ∃ p : Nat, At xs n p ∧ spec_AddWheel.l12.r (xs.length, t, b, l, n, xs) 0 = some (p : Int) := by
  obtain ⟨e, h1, p, rfl, hp, ha, hz⟩ := iter_ends (step := spec_AddWheel.l12.st (xs.length, t, b, l, n, xs)) (R := fun s => ∃ i : Nat, i ≤ xs.length ∧ s = (i : Int) ∧ ∀ j, j < i → xs.getD j 0 < n)
    (E := fun e => ∃ p : Nat, e = (p : Int) ∧ p ≤ xs.length ∧ (∀ j, j < p → xs.getD j 0 < n) ∧ (p < xs.length → n ≤ xs.getD p 0)) (fun s => xs.length - s.toNat) (by
    rintro s ⟨i, hi, rfl, hl⟩
    simp only [spec_AddWheel.l12.st, spec_AddWheel.l12.s, T.get, bounds_nat, ble_decide, Int.toNat_natCast, Nat.mul_one]
    by_cases hlt : i < xs.length
    · rw [decide_eq_true (by omega : (i : Int) < (xs.length : Int)), decide_eq_true hlt, decide_eq_true (by omega : i + 1 ≤ xs.length)]
      simp only [cond_true]
      have hw : IntKind.wrap .i64 ((i : Int) + 1) = ((i + 1 : Nat) : Int) := wrap64_succ (by omega)
      rw [hw]
      cases hd : decide (xs.getD i 0 < n) with
      | true =>
        refine .inl ⟨_, rfl, ⟨i + 1, by omega, rfl, fun j hj => ?_⟩, by omega⟩
        rcases Nat.lt_or_ge j i with h6 | h6
        · exact hl j h6
        · have e : j = i := by omega
          subst e
          exact of_decide_eq_true hd
      | false =>
        have := of_decide_eq_false hd
        exact .inr ⟨_, rfl, i, rfl, hi, hl, fun _ => by omega⟩
    · rw [decide_eq_false (by omega : ¬ (i : Int) < (xs.length : Int))]
      exact .inr ⟨_, rfl, i, rfl, hi, hl, fun h => absurd h hlt⟩) manyRounds 0 ⟨0, by omega, rfl, fun j hj => by omega⟩ (many_lt (by simp; omega))
  refine ⟨p, ⟨hp, ha, fun j h2 h3 => ?_⟩, h1⟩
  have h4 := hz (by omega)
  have h5 := sorted_le hs (j - p) p (by omega)
  rw [show p + (j - p) = j by omega] at h5
  omega
theorem less_eq (x y : Int) : cmp_Less_int16 x y = decide (x < y) := by
  simp only [cmp_Less_int16, cmp_Less_int16.t, cmp_isNaN_int16, cmp_isNaN_int16.t, T.val, bne_self_eq_false, cond_false]
theorem half_eq (i j : Nat) (h : i + j < 9223372036854775808) : IntKind.wrap .i64 (Int.fdiv (IntKind.wrap .u64 (IntKind.wrap .i64 ((i : Int) + (j : Int)))) (2 ^ min (Int.toNat (1 : Int)) 64)) = (((i + j) / 2 : Nat) : Int) := by
  have e1 : IntKind.wrap .i64 ((i : Int) + (j : Int)) = ((i + j : Nat) : Int) := by
    rw [wrap64 (by omega) (by omega)]
    omega
  have w : IntKind.wrap .u64 ((i + j : Nat) : Int) = ((i + j : Nat) : Int) % 18446744073709551616 := rfl
  have e2 : ((i + j : Nat) : Int) % 18446744073709551616 = ((i + j : Nat) : Int) := by omega
  have e3 : (2 : Int) ^ min (Int.toNat (1 : Int)) 64 = 2 := rfl
  have e4 : Int.fdiv ((i + j : Nat) : Int) 2 = (((i + j) / 2 : Nat) : Int) := by
    rw [Int.fdiv_eq_ediv_of_nonneg _ (by omega)]
    omega
  rw [e1, w, e2, e3, e4, wrap64_nat (by omega)]
theorem at_i (xs : List Int) (h : xs.length < 1099511627776) (hs : ∀ i, 0 < i → i < xs.length → xs.getD (i - 1) 0 < xs.getD i 0) (n : Int) :
    ∃ p : Nat, At xs n p ∧ (slices_BinarySearch_int16_int16.t xs.length n xs).get = some ((p : Int), decide (p < xs.length) && (xs.getD p 0 == n)) := by
  obtain ⟨e, h1, p, rfl, hp⟩ := iter_ends (step := slices_BinarySearch_int16_int16.l3.st (xs.length, n, (xs.length : Int), xs)) (R := fun s => ∃ i j : Nat, i ≤ j ∧ j ≤ xs.length ∧ s = ((i : Int), (j : Int)) ∧ (∀ k, k < i → xs.getD k 0 < n) ∧ ∀ k, j ≤ k → k < xs.length → n ≤ xs.getD k 0)
    (E := fun e => ∃ p : Nat, e = (p : Int) ∧ At xs n p) (fun s => (s.2 - s.1).toNat) (by
    rintro s ⟨i, j, hij, hj, rfl, hl, hg⟩
    simp only [slices_BinarySearch_int16_int16.l3.st, slices_BinarySearch_int16_int16.l3.s, T.get]
    by_cases hlt : i < j
    · rw [decide_eq_true (by omega : (i : Int) < (j : Int)), half_eq i j (by omega)]
      have hm : (i + j) / 2 < xs.length := by omega
      have hw : IntKind.wrap .i64 ((((i + j) / 2 : Nat) : Int) + 1) = (((i + j) / 2 + 1 : Nat) : Int) := wrap64_succ (by omega)
      simp only [bounds_nat, ble_decide, Int.toNat_natCast, Nat.mul_one, less_eq, cond_true, hw]
      rw [decide_eq_true hm, decide_eq_true (by omega : (i + j) / 2 + 1 ≤ xs.length)]
      simp only [cond_true]
      cases hd : decide (xs.getD ((i + j) / 2) 0 < n) with
      | true =>
        have hd := of_decide_eq_true hd
        refine .inl ⟨_, rfl, ⟨(i + j) / 2 + 1, j, by omega, hj, rfl, fun k hk => ?_, hg⟩, by simp; omega⟩
        have h5 := sorted_le hs ((i + j) / 2 - k) k (by omega)
        rw [show k + ((i + j) / 2 - k) = (i + j) / 2 by omega] at h5
        omega
      | false =>
        have hd := of_decide_eq_false hd
        refine .inl ⟨_, rfl, ⟨i, (i + j) / 2, by omega, by omega, rfl, hl, fun k hk hk2 => ?_⟩, by simp; omega⟩
        have h5 := sorted_le hs (k - (i + j) / 2) ((i + j) / 2) (by omega)
        rw [show (i + j) / 2 + (k - (i + j) / 2) = k by omega] at h5
        omega
    · rw [decide_eq_false (by omega : ¬ (i : Int) < (j : Int))]
      have e : i = j := by omega
      subst e
      exact .inr ⟨_, rfl, i, rfl, hj, hl, hg⟩) manyRounds (0, (xs.length : Int)) ⟨0, xs.length, by omega, by omega, rfl, fun k hk => by omega, fun k h1 h2 => by omega⟩ (many_lt (by simp; omega))
  have h2 : slices_BinarySearch_int16_int16.l3.r (xs.length, n, (xs.length : Int), xs) (0, (xs.length : Int)) = some (p : Int) := h1
  refine ⟨p, hp, ?_⟩
  have hn : ∀ x, slices_isNaN_int16 x = false := fun x => by
    simp only [slices_isNaN_int16, slices_isNaN_int16.t, T.val, bne_self_eq_false]
  simp only [slices_BinarySearch_int16_int16.t, T.get, h2, Option.isSome_some, Option.getD_some, cond_true, bounds_nat, ble_decide, Int.toNat_natCast, Nat.mul_one, hn, cond_false]
  by_cases hlt : p < xs.length
  · rw [decide_eq_true (by omega : (p : Int) < (xs.length : Int)), decide_eq_true hlt, decide_eq_true (by omega : p + 1 ≤ xs.length)]
    simp only [cond_true, Bool.true_and]
    cases xs.getD p 0 == n <;> rfl
  · rw [decide_eq_false (by omega : ¬ (p : Int) < (xs.length : Int)), decide_eq_false hlt]
    rfl
/-- By how much the best pair is off, a wheel laid in at its place. -/
noncomputable def offN (t : Nat) (xs : List Int) (n : Int) (p : Nat) : Nat := (foldF (fun i => foldF (fsP t (insI xs p [n]) i) (insI xs p [n]).length 0) (insI xs p [n]).length 0 (0, 1, offP t (insI xs p [n]) 0 1)).2.2
theorem len_ins (xs : List Int) (n : Int) (p : Nat) (hp : p ≤ xs.length) : (insI xs p [n]).length = xs.length + 1 := insI_length xs p [n] hp
theorem take_all (xs : List Int) : List.take xs.length (List.drop 0 xs) = xs := by simp
theorem step_i (t : Nat) (xs : List Int) (h : xs.length < 1048576) (hp0 : 1 ≤ xs.length) (hs : ∀ i, 0 < i → i < xs.length → xs.getD (i - 1) 0 < xs.getD i 0) (a : Int) (l n : Nat) (p : Nat) (hn : n ≤ 200) (hp : At xs n p) :
    (impl_AddWheel.l8.st (xs.length, t, xs) (a, l, (n : Int))).get = some (.inl (bif decide (p < xs.length) && (xs.getD p 0 == (n : Int)) then (a, l, ((n + 1 : Nat) : Int)) else bif (a == 0) || flt .f32 (offN t xs n p) l then ((n : Int), offN t xs n p, ((n + 1 : Nat) : Int)) else (a, l, ((n + 1 : Nat) : Int)))) := by
  obtain ⟨q, hq, hb⟩ := at_i xs (by omega) hs n
  have := hq.same hp
  subst this
  have hw : IntKind.wrap .i16 ((n : Int) + 1) = ((n + 1 : Nat) : Int) := wrap16 (by omega) (by omega)
  have hw2 : IntKind.wrap .i64 (n : Int) = (n : Int) := wrap64_nat (by omega)
  have hl := len_ins xs n q hp.1
  have hbest := besti_t t (insI xs q [(n : Int)]) (by omega) (by omega)
  rw [hl] at hbest
  have hoff : offN t xs n q = (foldF (fun i => foldF (fsP t (insI xs q [(n : Int)]) i) (xs.length + 1) 0) (xs.length + 1) 0 (0, 1, offP t (insI xs q [(n : Int)]) 0 1)).2.2 := by
    unfold offN
    rw [hl]
  simp only [impl_AddWheel.l8.st, impl_AddWheel.l8.s, T.get, show slices_BinarySearch_int16_int16.ok xs.length n xs = true from T.ok_of_get (hb), show slices_BinarySearch_int16_int16 xs.length n xs = _ from T.val_of_get (hb), take_all, Int.toNat_natCast, hw, hw2, ble_decide, show impl_bestPair.ok (xs.length + 1) t (insI xs q [(n : Int)]) = true from T.ok_of_get (hbest), show impl_bestPair (xs.length + 1) t (insI xs q [(n : Int)]) = _ from T.val_of_get (hbest), ← hoff]
  have c0 : decide ((n : Int) ≤ 200) = true := decide_eq_true (by omega)
  have c1 : (decide (1 ≤ xs.length) && (decide (xs.length ≤ 1048576) && decide (0 + xs.length ≤ xs.length))) = true := by
    simp; omega
  have c2 : (Nat.beq xs.length xs.length && (decide (xs.length ≤ 1048576) && (decide (0 ≤ (q : Int)) && (decide (q ≤ xs.length) && (Nat.beq 1 1 && Nat.beq [(n : Int)].length 1))))) = true := by
    have := hp.1
    simp; omega
  simp only [c0, c1, c2, cond_true]
  cases decide (q < xs.length) && (xs.getD q 0 == (n : Int)) with
  | true => rfl
  | false =>
    simp only [cond_false]
    cases a == 0 with
    | true => rfl
    | false =>
      simp only [cond_false, Bool.false_or]
      cases flt .f32 (offN t xs n q) l <;> rfl
theorem step_s (t : Nat) (xs : List Int) (h : xs.length < 1048576) (hp0 : 1 ≤ xs.length) (hs : ∀ i, 0 < i → i < xs.length → xs.getD (i - 1) 0 < xs.getD i 0) (a : Int) (l n : Nat) (p : Nat) (hn : n ≤ 200) (hp : At xs n p) :
    (spec_AddWheel.l9.st (xs.length, t, xs) (a, l, (n : Int))).get = some (.inl (bif decide (p < xs.length) && (xs.getD p 0 == (n : Int)) then (a, l, ((n + 1 : Nat) : Int)) else bif decide (a < 0) || flt .f32 (offN t xs n p) l then ((n : Int), offN t xs n p, ((n + 1 : Nat) : Int)) else (a, l, ((n + 1 : Nat) : Int)))) := by
  obtain ⟨q, hq, hb⟩ := at_s xs (by omega) hs t a l n
  have := hq.same hp
  subst this
  have hw : IntKind.wrap .i16 ((n : Int) + 1) = ((n + 1 : Nat) : Int) := wrap16 (by omega) (by omega)
  have hw2 : IntKind.wrap .i64 (n : Int) = (n : Int) := wrap64_nat (by omega)
  have hl := len_ins xs n q hp.1
  have hq1 := hp.1
  have hbest := bests_t t (insI xs q [(n : Int)]) (by omega) (by omega)
  rw [hl] at hbest
  have hoff : offN t xs n q = (foldF (fun i => foldF (fsP t (insI xs q [(n : Int)]) i) (xs.length + 1) 0) (xs.length + 1) 0 (0, 1, offP t (insI xs q [(n : Int)]) 0 1)).2.2 := by
    unfold offN
    rw [hl]
  have eL : 0 + (q - 0) + 1 + (xs.length - q) = xs.length + 1 := by omega
  have t0 : Int.toNat (0 : Int) = 0 := rfl
  have eX : [] ++ List.take (q - 0) (List.drop 0 xs) ++ List.take 1 (List.drop 0 [(n : Int)]) ++ List.take (xs.length - q) (List.drop q xs) = insI xs q [(n : Int)] := by
    unfold insI
    rw [List.take_of_length_le (by simp : (List.drop q xs).length ≤ xs.length - q)]
    rfl
  simp only [spec_AddWheel.l9.st, spec_AddWheel.l9.s, T.get, hb, Option.isSome_some, Option.getD_some, Int.toNat_natCast, t0, Nat.mul_one, hw, hw2, ble_decide, bounds_nat]
  have c0 : decide ((n : Int) ≤ 200) = true := decide_eq_true (by omega)
  have l1 : (List.take q xs).length = q := by simp; omega
  have c1 : (decide ((0 : Int) ≤ 0) && decide ((0 : Int) ≤ (q : Int)) && decide ((q : Int) ≤ (xs.length : Int))) = true := by
    simp; omega
  have c2 : (decide (0 + (q - 0) ≤ xs.length) && (Nat.beq (List.length ([] : List Int)) 0 && decide ((0 + (q - 0)) * 2 ≤ 35184372088832) && decide (0 + (q - 0) ≤ 35184372088832))) = true := by
    simp; omega
  have c3 : (decide (1 ≤ List.length [(n : Int)]) && (Nat.beq (List.length ([] ++ List.take (q - 0) (List.drop 0 xs))) (0 + (q - 0)) && decide ((0 + (q - 0) + 1) * 2 ≤ 35184372088832) && decide (0 + (q - 0) + 1 ≤ 35184372088832))) = true := by
    simp; omega
  have c4 : (decide (0 ≤ (q : Int)) && decide ((q : Int) ≤ (xs.length : Int)) && decide ((xs.length : Int) ≤ (xs.length : Int))) = true := by
    simp; omega
  have c5 : (decide (q + (xs.length - q) ≤ xs.length) && (Nat.beq (List.length ([] ++ List.take (q - 0) (List.drop 0 xs) ++ List.take 1 (List.drop 0 [(n : Int)]))) (0 + (q - 0) + 1) && decide ((xs.length + 1) * 2 ≤ 35184372088832) && decide (xs.length + 1 ≤ 35184372088832))) = true := by
    simp; omega
  simp only [c0, c1, c2, c3, c4, c5, cond_true, eL, eX, show spec_l05Best.ok (xs.length + 1) t (insI xs q [(n : Int)]) = true from T.ok_of_get (hbest), show spec_l05Best (xs.length + 1) t (insI xs q [(n : Int)]) = _ from T.val_of_get (hbest), ← hoff]
  by_cases hlt : q < xs.length
  · rw [decide_eq_true (by omega : (q : Int) < (xs.length : Int)), decide_eq_true hlt, decide_eq_true (by omega : q + 1 ≤ xs.length)]
    simp only [cond_true, Bool.true_and]
    cases xs.getD q 0 == (n : Int) with
    | true => rfl
    | false =>
      simp only [cond_false]
      cases decide (a < 0) with
      | true => rfl
      | false =>
        simp only [cond_false, Bool.false_or]
        cases flt .f32 (offN t xs n q) l <;> rfl
  · rw [decide_eq_false (by omega : ¬ (q : Int) < (xs.length : Int)), decide_eq_false hlt]
    simp only [cond_false, Bool.false_and]
    cases decide (a < 0) with
    | true => rfl
    | false =>
      simp only [cond_false, Bool.false_or]
      cases flt .f32 (offN t xs n q) l <;> rfl
/-- The two searches go alike. -/
def Rel (xs : List Int) (s u : Int × Nat × Int) : Prop := ∃ n : Nat, 6 ≤ n ∧ n ≤ 201 ∧ s.2.2 = (n : Int) ∧ u.2.2 = (n : Int) ∧ s.2.1 = u.2.1 ∧
  ((s.1 = u.1 ∧ 6 ≤ s.1) ∨ (s.1 = -1 ∧ u.1 = 0 ∧ ∃ p : Nat, p ≤ xs.length ∧ n ≤ p + 6 ∧ ∀ j, j < p → xs.getD j 0 < (n : Int)))
theorem wheel_r (t : Nat) (xs : List Int) (h1 : 1 ≤ xs.length) (h23 : xs.length ≤ 24) (hs : ∀ i, 0 < i → i < xs.length → xs.getD (i - 1) 0 < xs.getD i 0) :
    ∃ e, spec_AddWheel.l9.r (xs.length, t, xs) (-1, 0, 6) = some e ∧ impl_AddWheel.l8.r (xs.length, t, xs) (0, 0, 6) = some e := by
  obtain ⟨e, e', h2, h3, rfl⟩ := iter_two (step := spec_AddWheel.l9.st (xs.length, t, xs)) (step' := impl_AddWheel.l8.st (xs.length, t, xs)) (R := Rel xs) (E := fun e e' => e = e') (fun s => 201 - s.2.2.toNat) (by
    rintro ⟨a, l, m⟩ ⟨b, l', m'⟩ ⟨n, hn6, hn, e1, e2, e3, hr⟩
    simp only at e1 e2 e3 hr
    subst e1
    subst e2
    subst e3
    rcases Nat.lt_or_ge n 201 with hlt | hge
    · obtain ⟨p, hp, _⟩ := at_s xs (by omega) hs t a l n
      rw [step_s t xs (by omega) h1 hs a l n p (by omega) hp, step_i t xs (by omega) h1 hs b l n p (by omega) hp]
      refine .inl ⟨_, _, rfl, rfl, ?_, ?_⟩
      · cases hf : decide (p < xs.length) && (xs.getD p 0 == (n : Int)) with
        | true =>
          rw [Bool.and_eq_true, decide_eq_true_eq, beq_iff_eq] at hf
          refine ⟨n + 1, by omega, by omega, rfl, rfl, rfl, ?_⟩
          rcases hr with hr | ⟨r1, r2, p0, r3, r4, r5⟩
          · exact .inl hr
          · refine .inr ⟨r1, r2, p + 1, by omega, ?_, fun j hj => ?_⟩
            · rcases Nat.lt_or_ge p p0 with h6 | h6
              · have := r5 p h6
                omega
              · omega
            · rcases Nat.lt_or_ge j p with h6 | h6
              · have := hp.2.1 j h6
                omega
              · have e : j = p := by omega
                subst e
                omega
        | false =>
          simp only [cond_false]
          rcases hr with ⟨r1, r2⟩ | ⟨r1, r2, _⟩
          · subst r1
            have c1 : decide (a < 0) = false := decide_eq_false (by omega)
            have c2 : (a == 0) = false := by
              rw [beq_eq_false_iff_ne]
              omega
            rw [c1, c2]
            simp only [Bool.false_or]
            cases flt .f32 (offN t xs n p) l with
            | true => exact ⟨n + 1, by omega, by omega, rfl, rfl, rfl, .inl ⟨rfl, by simp only [cond_true]; omega⟩⟩
            | false => exact ⟨n + 1, by omega, by omega, rfl, rfl, rfl, .inl ⟨rfl, r2⟩⟩
          · subst r1
            subst r2
            exact ⟨n + 1, by omega, by omega, rfl, rfl, rfl, .inl ⟨rfl, by show (6 : Int) ≤ (n : Int); omega⟩⟩
      · have : ∀ (c d : Bool) (x y : Int × Nat), 201 - (bif c then (a, l, ((n + 1 : Nat) : Int)) else bif d then ((n : Int), offN t xs n p, ((n + 1 : Nat) : Int)) else (a, l, ((n + 1 : Nat) : Int))).2.2.toNat < 201 - ((n : Nat) : Int).toNat := by
          intro c d x y
          cases c <;> cases d <;> simp <;> omega
        exact this _ _ (0, 0) (0, 0)
    · have e : n = 201 := by omega
      subst e
      have c0 : decide (((201 : Nat) : Int) ≤ 200) = false := by decide
      rcases hr with ⟨r1, r2⟩ | ⟨r1, r2, p0, r3, r4, _⟩
      · subst r1
        refine .inr ⟨(a, l), (a, l), ?_, ?_, rfl⟩
        · simp only [spec_AddWheel.l9.st, spec_AddWheel.l9.s, T.get, c0, cond_false]
        · simp only [impl_AddWheel.l8.st, impl_AddWheel.l8.s, T.get, c0, cond_false]
      · omega) manyRounds (-1, 0, 6) (0, 0, 6) ⟨6, by omega, by omega, rfl, rfl, rfl, .inr ⟨rfl, rfl, 0, by omega, by omega, fun j hj => by omega⟩⟩ (many_lt (by simp))
  exact ⟨e, h2, h3⟩

theorem wheel_t (xs : List Int) (t : Nat) (hx : xs.length < 1099511627776) : ∃ r, (spec_AddWheel.t xs.length t xs).get = some r ∧ (impl_AddWheel.t xs.length t xs).get = some r := by
  simp only [spec_AddWheel.t, impl_AddWheel.t, T.get, target_eq, show spec_l05Asked.ok xs.length t 0 xs = true from T.ok_of_get (asked_t xs t 0 hx), show spec_l05Asked xs.length t 0 xs = _ from T.val_of_get (asked_t xs t 0 hx), show impl_boxCode.ok xs.length (spec_l05Target t) xs = true from T.ok_of_get (bcode_t xs (spec_l05Target t) hx), show impl_boxCode xs.length (spec_l05Target t) xs = _ from T.val_of_get (bcode_t xs (spec_l05Target t) hx), part_0, Bool.and_true]
  cases hb : spec_l05Ok xs.length xs with
  | false => exact ⟨_, rfl, rfl⟩
  | true =>
    cases spec_l05Target t with
    | false => exact ⟨_, rfl, rfl⟩
    | true =>
      obtain ⟨h2, h3⟩ := box_le xs hx hb
      obtain ⟨e, h4, h5⟩ := wheel_r t xs (by omega) h3 (box_sorted xs hx hb)
      simp only [h4, h5]
      cases ((xs.length : Nat) : Int) == 24 with
      | true => exact ⟨_, rfl, rfl⟩
      | false => exact ⟨_, rfl, rfl⟩
theorem law_holds (x1 : Nat) (xs : List Int) : (laws_FnExactAddWheel.t xs.length x1 xs).get = some true := by
  simp only [laws_FnExactAddWheel.t, T.get]
  by_cases hb : (xs.length : Int) > 1048576
  · rw [decide_eq_true hb]
    rfl
  · rw [decide_eq_false hb]
    have hl : xs.length < 1099511627776 := by omega
    obtain ⟨r, h1, h2⟩ := wheel_t xs x1 hl
    simp only [to_ok xs hl, to_eq xs hl, eqI_ok xs hl, eqI_eq xs hl, show spec_AddWheel.ok xs.length x1 xs = true from T.ok_of_get (h1), show spec_AddWheel xs.length x1 xs = r from T.val_of_get (h1), show impl_AddWheel.ok xs.length x1 xs = true from T.ok_of_get (h2), show impl_AddWheel xs.length x1 xs = r from T.val_of_get (h2), open_wide, same_refl]
    simp

theorem law_plain (x1 : Nat) (xs0 : List Int) (f0 : ∀ x ∈ xs0, (IntKind.min .i16 ≤ x ∧ x ≤ IntKind.max .i16)) (y0 : List.length xs0 ≤ maxLen) (f1 : flHas .f32 x1) : (laws_FnExactAddWheel.tr (xs0.length, x1, xs0)).get = some true := law_holds x1 xs0
theorem own : ownKnob Try.prog.godebug = none := by kernel_rfl
theorem laidOut : laidOutB Try.prog = true := by kernel_rfl
theorem ground {W : World} (h : W.ShapedOpen Try.prog) : Sx.Ground W := ground_of (by kernel_rfl) h
theorem lifted (os : Os) (started : os.Started) (H : Type) (enc : TypeId × Value → H) :
    ReturnsInHanded {} Try.checked os 3 .any (Rows.fnExactAddWheelSpec.pre6 enc Try.prog Try.f3 Rows.fnExactAddWheelRow.domain false) (Rows.fnExactAddWheelSpec.post enc Try.prog Try.f3 false true false false) := by
  refine returnsInHanded_of_change_shaped (C := Try.checked) own started (by kernel_rfl) Try.func3
    (ChangeSpec.witness6 (enc := enc) (C := Try.checked) false ⟨#[], #[.slice none 0 0, .float .f32 0], []⟩ 8 (by kernel_rfl) (by kernel_rfl) (by kernel_rfl) (by kernel_rfl)) ?_
  intro W base args ds gs before hval0 hW hcnd _ hsh _
  have hG := ground hsh
  have hval : ∀ (j : Nat) t v, Try.f3.params[j]? = some t → args[j]? = some v → Value.okWide Try.prog W .any base t v := hval0
  have hW' := hW
  obtain ⟨p, q, hA0, hV, rfl, hfz, hnd⟩ := hW
  have hA : DataW.TrodAll enc Try.prog W 0 (fun _ => true) true Try.f3.params.toList args.toList ds p := hA0
  rw [Try.params3] at hA hval
  obtain ⟨v0, vs0, d0, ds0, p0, q0, hargs, rfl, rfl, h0, rr0⟩ := trodAll_cons hA
  obtain ⟨v1, vs1, d1, ds1, p1, q1, rfl, rfl, rfl, h1, rr1⟩ := trodAll_cons rr0
  obtain ⟨rfl, rfl, rfl⟩ := trodAll_nil rr1
  obtain rfl : args = #[v0, v1] := by cases args; simp_all
  obtain ⟨rfl, rfl⟩ := trodVars_none hV
  have k0 := h0
  have lt0 : ∀ x ∈ p0, x.block < W.heap.size := by obtain ⟨m, hm⟩ := k0; exact DataW.trod_lt m _ _ _ hm
  obtain ⟨l0, xs0, w0, r0, f0, y0⟩ := open_its Try.underlying22 Try.underlying56 (by kernel_rfl) hG (hval 0 22 v0 rfl rfl) k0
  have k1 := h1
  have lt1 : ∀ x ∈ p1, x.block < W.heap.size := by obtain ⟨m, hm⟩ := k1; exact DataW.trod_lt m _ _ _ hm
  obtain ⟨x1, r1, f1⟩ := sc_fl Try.underlying23 (cell_of Try.underlying23 rfl (hval 1 23 v1 rfl rfl))
  clear hA0 hval0
  refine (laws_FnExactAddWheel.walk (xs0.length, x1, xs0) (law_plain x1 xs0 f0 y0 f1) (ρ := fun i => (lget ([(l0, .is .i16 xs0)] : List (Sx.Loc × Cells)) i).map (·.1)) (Rs_cons' (r0 _ 0 rfl) (Rs_cons' (r1 _) Rs_nil')) (HpR.ofRo [(l0, .is .i16 xs0)] ((List.forall_mem_cons.2 ⟨w0, List.forall_mem_nil _⟩)))).mono fun e W' ⟨he, bel⟩ => ?_
  subst he
  exact ⟨_, rfl, _, _, _, [], _, [], hW', trodAll_mk1 (shut_bool Try.underlying4 _), (trodAll_cons_mk (Below.trod laidOut (by kernel_rfl) (of_decide_eq_true (by kernel_rfl)) k0 bel lt0) (trodAll_cons_mk (Below.trod laidOut (by kernel_rfl) (of_decide_eq_true (by kernel_rfl)) k1 bel lt1) trodAll_mk0)), rfl, bel.frame _, fun h => by cases h⟩
theorem over : Rows.fnExactAddWheelRow.holds Try.pinned (OpenSpec.ofChange Rows.fnExactAddWheelSpec) :=
  OpenClaim.holds_of_wide 3 Try.f3 rfl rfl rfl rfl rfl rfl rfl ⟨rfl, rfl, rfl, rfl, rfl⟩ rfl rfl rfl rfl rfl (by kernel_rfl) Try.func3 (by kernel_rfl)
    (of_decide_eq_true (by kernel_rfl)) (by unfold Func.isWrapper; first | (rw [if_pos (by decide +kernel)]; kernel_rfl) | (rw [if_neg (by decide +kernel)]; exact ⟨rfl, rfl⟩))
    (fun os started H enc _ => lifted os started H enc)
theorem proved : Rows.FnExactAddWheelSaid := over
end Go.Proofs.Ytkfpmiggolmabaa
