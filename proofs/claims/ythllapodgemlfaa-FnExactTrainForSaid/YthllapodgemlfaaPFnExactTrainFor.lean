/- For every input the call of FnExactTrainFor returns true, and each argument reads afterwards as it read before; there is no condition. -/
import Derived.Test.YthllapodgemlfaaWFnExactTrainFor
import Derived.Test.YthllapodgemlfaaSxS
import Derived.Test.YthllapodgemlfaaRows
import Derived.WalkKit
import Derived.ProofKit
import Derived.OpenShut
import Derived.ShutString
import Derived.ChangeOld
import Derived.Below
import Derived.Carry
import Derived.HandedShaped
namespace Go.Proofs.Ythllapodgemlfaa
open Go Go.RowKit Sx
open Go.ChangeShapes Go.WideShapes Go.ChangeAt
set_option linter.unusedVariables false
set_option linter.unusedSimpArgs false
set_option maxRecDepth 100000

theorem within_eq (x y z : Int) : impl_within x y z = spec_l00In x y z := by
  simp only [impl_within, impl_within.t, spec_l00In, spec_l00In.t, T.val, ge_iff_le]

theorem teeth_eq (x : Int) : impl_areTeeth x = spec_l01Teeth x := by
  simp only [impl_areTeeth, impl_areTeeth.t, spec_l01Teeth, spec_l01Teeth.t, T.val, within_eq]
theorem box_r (xs : List Int) (h : xs.length < 1099511627776) : ∃ e, spec_l05Ok.l2.r (xs.length, xs) 0 = some e ∧ impl_ValidBox.l2.r (xs.length, xs.length, (xs.length : Int), xs) 0 = some e := by
  obtain ⟨e, e', h1, h2, rfl⟩ := iter_two (step := spec_l05Ok.l2.st (xs.length, xs)) (step' := impl_ValidBox.l2.st (xs.length, xs.length, (xs.length : Int), xs)) (R := fun s t => s = t ∧ ∃ i : Nat, i ≤ xs.length ∧ s = (i : Int)) (E := fun e e' => e = e') (fun s => xs.length - s.toNat) (by
    rintro s t ⟨rfl, i, hi, rfl⟩
    simp only [spec_l05Ok.l2.st, spec_l05Ok.l2.s, impl_ValidBox.l2.st, impl_ValidBox.l2.s, T.get, bounds_nat, ble_decide, Int.toNat_natCast, Nat.mul_one, teeth_eq]
    by_cases hlt : i < xs.length
    · rw [decide_eq_true (by omega : (i : Int) < (xs.length : Int)), decide_eq_true hlt, decide_eq_true (by omega : i + 1 ≤ xs.length)]
      simp only [cond_true]
      have hw : IntKind.wrap .i64 ((i : Int) + 1) = ((i + 1 : Nat) : Int) := wrap64_succ (by omega)
      cases ht : spec_l01Teeth (IntKind.wrap .i64 (xs.getD i 0)) with
      | false => exact .inr ⟨_, _, rfl, rfl, rfl⟩
      | true =>
        simp only [Bool.not_true, cond_false]
        by_cases hz : 0 < i
        · have hw2 : IntKind.wrap .i64 ((i : Int) - 1) = ((i - 1 : Nat) : Int) := by
            rw [wrap64 (by omega) (by omega)]
            omega
          rw [decide_eq_true (by omega : (i : Int) > 0), hw, hw2, bounds_nat, Int.toNat_natCast, decide_eq_true (by omega : i - 1 < xs.length), decide_eq_true (by omega : i - 1 + 1 ≤ xs.length)]
          simp only [cond_true]
          cases decide (xs.getD i 0 ≤ xs.getD (i - 1) 0) with
          | true => exact .inr ⟨_, _, rfl, rfl, rfl⟩
          | false => exact .inl ⟨_, _, rfl, rfl, ⟨rfl, i + 1, by omega, rfl⟩, by omega⟩
        · rw [decide_eq_false (by omega : ¬ (i : Int) > 0), hw]
          exact .inl ⟨_, _, rfl, rfl, ⟨rfl, i + 1, by omega, rfl⟩, by omega⟩
    · rw [decide_eq_false (by omega : ¬ (i : Int) < (xs.length : Int))]
      exact .inr ⟨_, _, rfl, rfl, rfl⟩) manyRounds 0 0 ⟨rfl, 0, by omega, rfl⟩ (many_lt (by simp; omega))
  exact ⟨e, h1, h2⟩
theorem boxs_ok (xs : List Int) (h : xs.length < 1099511627776) : spec_l05Ok.ok xs.length xs = true := by
  obtain ⟨e, h1, h2⟩ := box_r xs h
  simp only [spec_l05Ok.ok, spec_l05Ok.t, T.ok, h1, Option.isSome_some, cond_true, Option.getD_some]
  cases Sum.isLeft e <;> rfl
theorem boxi_ok (xs : List Int) (h : xs.length < 1099511627776) : impl_ValidBox.ok xs.length xs = true := by
  obtain ⟨e, h1, h2⟩ := box_r xs h
  simp only [impl_ValidBox.ok, impl_ValidBox.t, T.ok, h2, Option.isSome_some, cond_true, Option.getD_some]
  cases Sum.isLeft e <;> rfl
theorem box_eq (xs : List Int) (h : xs.length < 1099511627776) : impl_ValidBox xs.length xs = spec_l05Ok xs.length xs := by
  obtain ⟨e, h1, h2⟩ := box_r xs h
  simp only [impl_ValidBox, impl_ValidBox.t, spec_l05Ok, spec_l05Ok.t, T.val, h1, h2, within_eq]
theorem box_le (xs : List Int) (h : xs.length < 1099511627776) (hb : spec_l05Ok xs.length xs = true) : 2 ≤ xs.length ∧ xs.length ≤ 24 := by
  obtain ⟨e, h1, h2⟩ := box_r xs h
  have hx : ∃ e, spec_l05Ok.l2.r (xs.length, xs) 0 = some e := ⟨e, h1⟩
  by_cases hl : spec_l00In (xs.length : Int) 2 24 = true
  · simp only [spec_l00In, spec_l00In.t, T.val] at hl
    cases h3 : decide ((xs.length : Int) ≥ 2) <;> rw [h3] at hl
    · cases hl
    · simp only [cond_true, decide_eq_true_eq] at hl h3
      omega
  · exfalso
    have hl' : spec_l00In (xs.length : Int) 2 24 = false := by simpa using hl
    have hk : ∀ e, spec_l05Ok.l2.r (xs.length, xs) 0 = some e → ∀ b, e = .inl b → b = false := by
      intro e he b hb
      obtain ⟨e', h3, h4⟩ := iter_ends (step := spec_l05Ok.l2.st (xs.length, xs)) (R := fun s => ∃ i : Nat, i ≤ xs.length ∧ s = (i : Int)) (E := fun e => ∀ b, e = .inl b → b = false) (fun s => xs.length - s.toNat) (by
        rintro s ⟨i, hi, rfl⟩
        simp only [spec_l05Ok.l2.st, spec_l05Ok.l2.s, T.get, bounds_nat, ble_decide, Int.toNat_natCast, Nat.mul_one]
        by_cases hlt : i < xs.length
        · rw [decide_eq_true (by omega : (i : Int) < (xs.length : Int)), decide_eq_true hlt, decide_eq_true (by omega : i + 1 ≤ xs.length)]
          simp only [cond_true]
          have hw : IntKind.wrap .i64 ((i : Int) + 1) = ((i + 1 : Nat) : Int) := wrap64_succ (by omega)
          cases ht : spec_l01Teeth (IntKind.wrap .i64 (xs.getD i 0)) with
          | false => exact .inr ⟨_, rfl, fun b hb => by cases hb; rfl⟩
          | true =>
            simp only [Bool.not_true, cond_false]
            by_cases hz : 0 < i
            · have hw2 : IntKind.wrap .i64 ((i : Int) - 1) = ((i - 1 : Nat) : Int) := by
                rw [wrap64 (by omega) (by omega)]
                omega
              rw [decide_eq_true (by omega : (i : Int) > 0), hw, hw2, bounds_nat, Int.toNat_natCast, decide_eq_true (by omega : i - 1 < xs.length), decide_eq_true (by omega : i - 1 + 1 ≤ xs.length)]
              simp only [cond_true]
              cases decide (xs.getD i 0 ≤ xs.getD (i - 1) 0) with
              | true => exact .inr ⟨_, rfl, fun b hb => by cases hb; rfl⟩
              | false => exact .inl ⟨_, rfl, ⟨i + 1, by omega, rfl⟩, by omega⟩
            · rw [decide_eq_false (by omega : ¬ (i : Int) > 0), hw]
              exact .inl ⟨_, rfl, ⟨i + 1, by omega, rfl⟩, by omega⟩
        · rw [decide_eq_false (by omega : ¬ (i : Int) < (xs.length : Int))]
          exact .inr ⟨_, rfl, fun b hb => by cases hb⟩) manyRounds 0 ⟨0, by omega, rfl⟩ (many_lt (by simp; omega))
      have h5 : spec_l05Ok.l2.r (xs.length, xs) 0 = some e' := h3
      rw [h5] at he
      cases he
      exact h4 b hb
    simp only [spec_l05Ok, spec_l05Ok.t, T.val, h1, hl', Option.isSome_some, Option.getD_some, cond_true] at hb
    cases e with
    | inl b =>
      have := hk _ h1 b rfl
      subst this
      simp [Sum.isLeft, getLeftD] at hb
    | inr u => simp [Sum.isLeft] at hb

theorem wheel_eq (x : Int) (xs : List Int) : impl_wheelsCode_1 x xs.length xs = !spec_l05Wheel xs.length x xs := by
  simp only [impl_wheelsCode_1, impl_wheelsCode_1.t, spec_l05Wheel, spec_l05Wheel.t, T.val, within_eq]
theorem out_t (ws xs : List Int) (h : ws.length < 9223372036854775807) : (slices_ContainsFunc_int64_int64.t ws.length ws xs.length xs).get = some (anyAt (fun i => !spec_l05Wheel xs.length (ws.getD i 0) xs) ws.length) := by
  have h0 : slices_IndexFunc_int64_int64.l2.r (ws.length, ((ws.length : Nat) : Int), ws, xs.length, xs) 0 = some (match firstAt (fun i => !spec_l05Wheel xs.length (ws.getD i 0) xs) ws.length 0 with | some i => (Sum.inl (i : Int) : Int ⊕ Unit) | none => Sum.inr ()) := by
    refine iter_first (fun i => !spec_l05Wheel xs.length (ws.getD i 0) xs) (fun i => (Sum.inl (i : Int) : Int ⊕ Unit)) (.inr ()) ws.length h (fun i hi => ?_) ?_
    · simp only [slices_IndexFunc_int64_int64.l2.st, slices_IndexFunc_int64_int64.l2.s, T.get, bounds_nat, ble_decide, Int.toNat_natCast, Nat.mul_one, wheel_eq]
      rw [decide_eq_true (by omega : (i : Int) < (ws.length : Int)), decide_eq_true hi, decide_eq_true (by omega : i + 1 ≤ ws.length)]
      cases spec_l05Wheel xs.length (ws.getD i 0) xs <;> rfl
    · simp only [slices_IndexFunc_int64_int64.l2.st, slices_IndexFunc_int64_int64.l2.s, T.get]
      rw [decide_eq_false (by omega)]
      rfl
  have h1 : (slices_IndexFunc_int64_int64.t ws.length ws xs.length xs).get = some (match firstAt (fun i => !spec_l05Wheel xs.length (ws.getD i 0) xs) ws.length 0 with | some i => (i : Int) | none => -1) := by
    simp only [slices_IndexFunc_int64_int64.t, T.get, h0, Option.isSome_some, cond_true, Option.getD_some]
    cases firstAt (fun i => !spec_l05Wheel xs.length (ws.getD i 0) xs) ws.length 0 <;> rfl
  simp only [slices_ContainsFunc_int64_int64.t, T.get, show slices_IndexFunc_int64_int64.ok ws.length ws xs.length xs = true from T.ok_of_get (h1), show slices_IndexFunc_int64_int64 ws.length ws xs.length xs = _ from T.val_of_get (h1), cond_true]
  rw [← firstAt_any]
  cases firstAt (fun i => !spec_l05Wheel xs.length (ws.getD i 0) xs) ws.length 0 with
  | none => rfl
  | some i =>
    simp only [Option.isSome_some, Option.some.injEq, decide_eq_true_eq]
    omega
theorem has_t (ws : List Int) (x : Int) (m : Nat) (hm : m ≤ ws.length) (h : ws.length < 9223372036854775807) : (slices_Contains_int64_int64.t m x ws).get = some (anyAt (fun i => x == ws.getD i 0) m) := by
  have h0 : slices_Index_int64_int64.l2.r (m, x, ((m : Nat) : Int), ws) 0 = some (match firstAt (fun i => x == ws.getD i 0) m 0 with | some i => (Sum.inl (i : Int) : Int ⊕ Unit) | none => Sum.inr ()) := by
    refine iter_first (fun i => x == ws.getD i 0) (fun i => (Sum.inl (i : Int) : Int ⊕ Unit)) (.inr ()) m (by omega) (fun i hi => ?_) ?_
    · simp only [slices_Index_int64_int64.l2.st, slices_Index_int64_int64.l2.s, T.get, bounds_nat, ble_decide, Int.toNat_natCast, Nat.mul_one, Nat.zero_add]
      rw [decide_eq_true (by omega : (i : Int) < (m : Int)), decide_eq_true hi, decide_eq_true (by omega : i + 1 ≤ ws.length)]
      cases x == ws.getD i 0 <;> rfl
    · simp only [slices_Index_int64_int64.l2.st, slices_Index_int64_int64.l2.s, T.get]
      rw [decide_eq_false (by omega)]
      rfl
  have h1 : (slices_Index_int64_int64.t m x ws).get = some (match firstAt (fun i => x == ws.getD i 0) m 0 with | some i => (i : Int) | none => -1) := by
    simp only [slices_Index_int64_int64.t, T.get, h0, Option.isSome_some, cond_true, Option.getD_some]
    cases firstAt (fun i => x == ws.getD i 0) m 0 <;> rfl
  simp only [slices_Contains_int64_int64.t, T.get, show slices_Index_int64_int64.ok m x ws = true from T.ok_of_get (h1), show slices_Index_int64_int64 m x ws = _ from T.val_of_get (h1), cond_true]
  rw [← firstAt_any]
  cases firstAt (fun i => x == ws.getD i 0) m 0 with
  | none => rfl
  | some i =>
    simp only [Option.isSome_some, Option.some.injEq, decide_eq_true_eq]
    omega
theorem twice_r (ws xs : List Int) (h : ws.length < 9223372036854775807) : impl_wheelsCode.l6.r (ws.length, ws.length, ((ws.length : Nat) : Int), xs, ws) 0 = some (bif anyAt (fun i => anyAt (fun j => ws.getD i 0 == ws.getD j 0) i) ws.length then (Sum.inl 4 : Int ⊕ Unit) else Sum.inr ()) := by
  have hf := iter_first (step := impl_wheelsCode.l6.st (ws.length, ws.length, ((ws.length : Nat) : Int), xs, ws)) (fun i => anyAt (fun j => ws.getD i 0 == ws.getD j 0) i) (fun i => (Sum.inl 4 : Int ⊕ Unit)) (.inr ()) ws.length h (fun i hi => ?_) ?_
  · rw [← firstAt_any]
    refine hf.trans ?_
    cases firstAt (fun i => anyAt (fun j => ws.getD i 0 == ws.getD j 0) i) ws.length 0 <;> rfl
  · simp only [impl_wheelsCode.l6.st, impl_wheelsCode.l6.s, T.get, bounds_nat, ble_decide, Int.toNat_natCast, Nat.mul_one, Int.toNat_zero, Nat.sub_zero, show slices_Contains_int64_int64.ok i (ws.getD i 0) ws = true from T.ok_of_get (has_t ws (ws.getD i 0) i (by omega) h), show slices_Contains_int64_int64 i (ws.getD i 0) ws = _ from T.val_of_get (has_t ws (ws.getD i 0) i (by omega) h)]
    rw [decide_eq_true (by omega : (i : Int) < (ws.length : Int)), decide_eq_true hi, decide_eq_true (by omega : i + 1 ≤ ws.length), decide_eq_true (by omega : (0 : Int) ≤ 0), decide_eq_true (by omega : (0 : Int) ≤ (i : Int)), decide_eq_true (by omega : (i : Int) ≤ (ws.length : Int))]
    cases anyAt (fun j => ws.getD i 0 == ws.getD j 0) i <;> rfl
  · simp only [impl_wheelsCode.l6.st, impl_wheelsCode.l6.s, T.get]
    rw [decide_eq_false (by omega)]
    rfl
theorem wcode_t (ws xs : List Int) (h : ws.length < 9223372036854775807) (hx : xs.length < 1099511627776) : (impl_wheelsCode.t xs.length ws.length xs ws).get = some (bif spec_l05Ok xs.length xs then (bif anyAt (fun i => !spec_l05Wheel xs.length (ws.getD i 0) xs) ws.length then 2 else bif anyAt (fun i => anyAt (fun j => ws.getD i 0 == ws.getD j 0) i) ws.length then 4 else 0) else 1) := by
  simp only [impl_wheelsCode.t, T.get, boxi_ok xs hx, box_eq xs hx, show slices_ContainsFunc_int64_int64.ok ws.length ws xs.length xs = true from T.ok_of_get (out_t ws xs h), show slices_ContainsFunc_int64_int64 ws.length ws xs.length xs = _ from T.val_of_get (out_t ws xs h), twice_r ws xs h, Option.isSome_some, Option.getD_some, cond_true]
  cases spec_l05Ok xs.length xs <;> cases anyAt (fun i => !spec_l05Wheel xs.length (ws.getD i 0) xs) ws.length <;> cases anyAt (fun i => anyAt (fun j => ws.getD i 0 == ws.getD j 0) i) ws.length <;> rfl
theorem wheel_in {xs : List Int} {a : Int} (hx : xs.length < 1099511627776) (h : spec_l05Wheel xs.length a xs = true) : bounds a xs.length = true ∧ Nat.ble (Int.toNat a * 1 + 1) xs.length = true := by
  simp only [spec_l05Wheel, spec_l05Wheel.t, spec_l00In, spec_l00In.t, T.val] at h
  cases h1 : decide (a ≥ 0) <;> rw [h1] at h
  · cases h
  · simp only [cond_true, decide_eq_true_eq] at h h1
    rcases Nat.eq_zero_or_pos xs.length with h0 | h0
    · rw [h0] at h
      have : IntKind.wrap .i64 (((0 : Nat) : Int) - 1) = -1 := by decide
      omega
    · have hw : IntKind.wrap .i64 ((xs.length : Int) - 1) = ((xs.length - 1 : Nat) : Int) := wrap64_of (by omega) (by omega)
      rw [hw] at h
      refine ⟨?_, Nat.ble_eq_true_of_le (by omega)⟩
      unfold bounds
      rw [decide_eq_true (by omega), decide_eq_true (by omega)]
      rfl

theorem choice_eq (a b c d : Int) : laws_toChoice a b c d = (a, b, c, d) := rfl
theorem wrap_i16 {a : Int} (h : IntKind.min .i16 ≤ a ∧ a ≤ IntKind.max .i16) : IntKind.wrap .i64 a = a := by
  obtain ⟨h1, h2⟩ := h
  have e1 : IntKind.min .i16 = -32768 := by decide
  have e2 : IntKind.max .i16 = 32767 := by decide
  exact wrap64 (by omega) (by omega)
theorem ccode_t (a b c d : Int) (xs : List Int) (hx : xs.length < 1099511627776) (ha : IntKind.wrap .i64 a = a) (hb : IntKind.wrap .i64 b = b) (hc : IntKind.wrap .i64 c = c) (hd : IntKind.wrap .i64 d = d) :
    ∃ r, (spec_l05Choice.t xs.length a b c d xs).get = some r ∧ (impl_choiceCode.t xs.length a b c d xs).get = some r ∧ (r = 0 → spec_l05Wheel xs.length a xs = true ∧ spec_l05Wheel xs.length b xs = true ∧ spec_l05Wheel xs.length c xs = true ∧ spec_l05Wheel xs.length d xs = true) := by
  have h := wcode_t [a, b, c, d] xs (by simp) hx
  have h' : (impl_wheelsCode.t xs.length 4 xs [a, b, c, d]).get = some _ := h
  simp only [spec_l05Choice.t, impl_choiceCode.t, T.get, boxs_ok xs hx, ha, hb, hc, hd, show impl_wheelsCode.ok xs.length 4 xs [a, b, c, d] = true from T.ok_of_get (h'), show impl_wheelsCode xs.length 4 xs [a, b, c, d] = _ from T.val_of_get (h'), anyAt, List.length_cons, List.length_nil, Nat.zero_add, List.getD_cons_zero, List.getD_cons_succ, Bool.false_or, cond_true]
  rw [BEq.comm (a := b) (b := a), BEq.comm (a := c) (b := a), BEq.comm (a := c) (b := b), BEq.comm (a := d) (b := a), BEq.comm (a := d) (b := b), BEq.comm (a := d) (b := c)]
  generalize (a == b) = p1
  generalize (a == c) = p2
  generalize (a == d) = p3
  generalize (b == c) = p4
  generalize (b == d) = p5
  generalize (c == d) = p6
  generalize spec_l05Wheel xs.length a xs = q1
  generalize spec_l05Wheel xs.length b xs = q2
  generalize spec_l05Wheel xs.length c xs = q3
  generalize spec_l05Wheel xs.length d xs = q4
  cases spec_l05Ok xs.length xs with
  | false => exact ⟨1, rfl, rfl, fun h => by cases h⟩
  | true =>
    cases q1 with
    | false => exact ⟨2, rfl, rfl, fun h => by cases h⟩
    | true =>
      cases q2 with
      | false => exact ⟨2, rfl, rfl, fun h => by cases h⟩
      | true =>
        cases q3 with
        | false => exact ⟨2, rfl, rfl, fun h => by cases h⟩
        | true =>
          cases q4 with
          | false => exact ⟨2, rfl, rfl, fun h => by cases h⟩
          | true =>
            cases p1 <;> cases p2 <;> cases p3 <;> cases p4 <;> cases p5 <;> cases p6 <;> exact ⟨_, rfl, rfl, fun _ => ⟨rfl, rfl, rfl, rfl⟩⟩

theorem to_r (xs : List Int) (h : xs.length < 1099511627776) : laws_toInt16S.l3.r (xs.length, xs.length, xs) ((0 : Int), List.replicate (xs.length * 1) 0) = some xs := copy_run 0 xs (by omega)
theorem to_t (xs : List Int) (h : xs.length < 1099511627776) : (laws_toInt16S.t xs.length xs).get = some (xs.length, xs) := by
  simp only [laws_toInt16S.t, T.get, Int.toNat_natCast, to_r xs h, Option.isSome_some, cond_true, Option.getD_some]
  rw [decide_eq_true (by omega), decide_eq_true (by omega), decide_eq_true (by omega), decide_eq_true (by omega)]
  rfl
theorem to_ok (xs : List Int) (h : xs.length < 1099511627776) : laws_toInt16S.ok xs.length xs = true := T.ok_of_get (to_t xs h)
theorem to_eq (xs : List Int) (h : xs.length < 1099511627776) : laws_toInt16S xs.length xs = (xs.length, xs) := T.val_of_get (to_t xs h)

theorem eq_r (xs : List Int) (h : xs.length < 1099511627776) : laws_eqInt16S.l4.r (xs.length, xs.length, xs, xs) 0 = some (.inr ()) := by
  refine iter_count xs.length (by omega) (fun i hi => ?_) ?_
  · simp only [laws_eqInt16S.l4.st, laws_eqInt16S.l4.s, T.get, bounds_nat, ble_decide, Int.toNat_natCast, Nat.mul_one, bne_self_eq_false]
    rw [decide_eq_true (by omega), decide_eq_true hi, decide_eq_true (by omega)]
    rfl
  · simp only [laws_eqInt16S.l4.st, laws_eqInt16S.l4.s, T.get]
    rw [decide_eq_false (by omega)]
    rfl
theorem eqI_t (xs : List Int) (h : xs.length < 1099511627776) : (laws_eqInt16S.t xs.length xs.length xs xs).get = some true := by
  simp only [laws_eqInt16S.t, T.get, eq_r xs h]
  simp
theorem eqI_ok (xs : List Int) (h : xs.length < 1099511627776) : laws_eqInt16S.ok xs.length xs.length xs xs = true := T.ok_of_get (eqI_t xs h)
theorem eqI_eq (xs : List Int) (h : xs.length < 1099511627776) : laws_eqInt16S xs.length xs.length xs xs = true := T.val_of_get (eqI_t xs h)

theorem markI_t (xs : List Int) (k : Nat) (hk : k + xs.length < 9223372036854775807) : ∃ ys, (laws_markInt16S.t xs.length (k : Int) xs).get = some (((k + xs.length : Nat) : Int), ys) := by
  obtain ⟨ys, h1, h2⟩ := mark_ends (step := laws_markInt16S.l2.st xs.length) (fun _ ys => ys.length = xs.length) k 1 xs.length (by omega) xs rfl (fun i ys hi hl => by
    refine ⟨ys.set i (IntKind.wrap .i16 ((k + i : Nat) : Int)), ?_, by rw [List.length_set]; exact hl⟩
    simp only [laws_markInt16S.l2.st, laws_markInt16S.l2.s, T.get, bounds_nat, ble_decide, Int.toNat_natCast, Nat.mul_one, Nat.one_mul, hl]
    rw [decide_eq_true (by omega : (i : Int) < (xs.length : Int)), decide_eq_true hi, decide_eq_true (by omega : i + 1 ≤ xs.length), wrap64_succ (by omega), wrap64_succ (by omega)]
    rfl) (fun ys hQ => by
    simp only [laws_markInt16S.l2.st, laws_markInt16S.l2.s, T.get]
    rw [decide_eq_false (by omega)]
    rfl)
  refine ⟨ys, ?_⟩
  have h3 : laws_markInt16S.l2.r xs.length ((k : Int), (0 : Int), xs) = some (((k + xs.length : Nat) : Int), ys) := by
    rw [Nat.one_mul] at h1
    exact h1
  simp only [laws_markInt16S.t, T.get, h3]
  rfl

theorem same_refl (x : Nat) : laws_sameFloat x x = true := same_self (s := laws_sameFloat.t) (fun _ _ => rfl) x

theorem eqT0_t : (laws_eqTrain.t 0 []).get = some true := by
  have h : laws_eqTrain.l4.r (0, (0 : Int), []) () = some () := iter_run (step := laws_eqTrain.l4.st (0, (0 : Int), [])) (f := fun _ => ()) (e := ()) (n := 0) (N := manyRounds) (k := 0) (many_lt (by omega)) (fun i hi => absurd hi (by omega)) rfl
  simp only [laws_eqTrain.t, T.get, h]
  rfl
theorem markT0_t : (laws_markTrain.t 1).get = some 1 := by
  have h : laws_markTrain.l2.r (1, (0 : Int)) () = some () := iter_run (step := laws_markTrain.l2.st (1, (0 : Int))) (f := fun _ => ()) (e := ()) (n := 0) (N := manyRounds) (k := 0) (many_lt (by omega)) (fun i hi => absurd hi (by omega)) rfl
  simp only [laws_markTrain.t, T.get, h]
  rfl
theorem heldT0_t : (laws_heldTrain.t 1).get = some 1 := by
  have h : laws_heldTrain.l2.r (1, (0 : Int)) () = some () := iter_run (step := laws_heldTrain.l2.st (1, (0 : Int))) (f := fun _ => ()) (e := ()) (n := 0) (N := manyRounds) (k := 0) (many_lt (by omega)) (fun i hi => absurd hi (by omega)) rfl
  simp only [laws_heldTrain.t, T.get, h]
  rfl
theorem eqPair_t (x0 x1 : Int) (x2 : Nat) : (laws_eqPair.t x0 x1 x2 x0 x1 x2).get = some true := by
  simp only [laws_eqPair.t, T.get, open_wide, same_refl]
  simp
theorem eqT_t (rows : List (List Sc)) (h : rows.length < 1099511627776) : (laws_eqTrain_w1.t rows.length rows.length rows rows).get = some true := by
  have h1 : laws_eqTrain_w1.l4.r (rows.length, rows.length, rows, rows) 0 = some (.inr ()) := by
    refine iter_count rows.length (by omega) (fun i hi => ?_) ?_
    · simp only [laws_eqTrain_w1.l4.st, laws_eqTrain_w1.l4.s, T.get, bounds_nat, ble_decide, Int.toNat_natCast, show ∀ x y z, laws_eqPair.ok x y z x y z = true from fun x y z => T.ok_of_get (eqPair_t x y z), show ∀ x y z, laws_eqPair x y z x y z = true from fun x y z => T.val_of_get (eqPair_t x y z)]
      rw [decide_eq_true (by omega), decide_eq_true hi, decide_eq_true (by omega)]
      rfl
    · simp only [laws_eqTrain_w1.l4.st, laws_eqTrain_w1.l4.s, T.get]
      rw [decide_eq_false (by omega)]
      rfl
  simp only [laws_eqTrain_w1.t, T.get, h1]
  simp
/-- The first i wheels are marked, from k on. -/
def markedT (k n i : Nat) (ys : List (List Sc)) : Prop := ys.length = n ∧ ∀ j, j < i → List.getD (ys.getD j []) 0 (.n 0) = .i (IntKind.wrap .i16 ((k + 3 * j : Nat) : Int)) ∧ List.getD (ys.getD j []) 1 (.n 0) = .i (IntKind.wrap .i16 ((k + 3 * j + 1 : Nat) : Int)) ∧ List.getD (ys.getD j []) 2 (.n 0) = .n (fofint .f32 ((k + 3 * j + 2 : Nat) : Int))
theorem markT_t (xs : List (List Sc)) (k : Nat) (hk : k + 3 * xs.length < 9223372036854775807) : ∃ ys, (laws_markTrain_w1.t xs.length (k : Int) xs).get = some (((k + 3 * xs.length : Nat) : Int), ys) ∧ markedT k xs.length xs.length ys := by
  obtain ⟨ys, h1, h2⟩ := mark_ends (step := laws_markTrain_w1.l2.st xs.length) (markedT k xs.length) k 3 xs.length (by omega) xs ⟨rfl, fun j hj => by omega⟩ (fun i ys hi hQ => by
    obtain ⟨hl, hm⟩ := hQ
    have e1 : IntKind.wrap .i64 (((k + 3 * i : Nat) : Int) + 1) = ((k + 3 * i + 1 : Nat) : Int) := wrap64_succ (by omega)
    have e2 : IntKind.wrap .i64 (((k + 3 * i + 1 : Nat) : Int) + 1) = ((k + 3 * i + 2 : Nat) : Int) := wrap64_of (by omega) (by omega)
    have e3 : IntKind.wrap .i64 (((k + 3 * i + 2 : Nat) : Int) + 1) = ((k + 3 * (i + 1) : Nat) : Int) := wrap64_of (by omega) (by omega)
    refine ⟨ys.set i (setCol (setCol (setCol (ys.getD i []) 0 (.i (IntKind.wrap .i16 ((k + 3 * i : Nat) : Int)))) 1 (.i (IntKind.wrap .i16 ((k + 3 * i + 1 : Nat) : Int)))) 2 (.n (fofint .f32 ((k + 3 * i + 2 : Nat) : Int)))), ?_, ⟨by rw [List.length_set]; exact hl, fun j hj => ?_⟩⟩
    · simp only [laws_markTrain_w1.l2.st, laws_markTrain_w1.l2.s, T.get, bounds_nat, ble_decide, Int.toNat_natCast, List.length_set, hl, e1, e2, e3, List.set_set, lD_same _ _ _ _ (show i < ys.length by omega)]
      rw [decide_eq_true (by omega : (i : Int) < (xs.length : Int)), decide_eq_true hi, decide_eq_true (by omega : i + 1 ≤ xs.length), wrap64_succ (by omega)]
      rfl
    · rcases Nat.lt_or_ge j i with h | h
      · rw [lD_ne _ _ _ _ _ (by omega)]
        exact hm j h
      · have : j = i := by omega
        subst this
        rw [lD_same _ _ _ _ (by omega), setCol_same, setCol_ne _ _ _ _ (by omega), setCol_ne _ _ _ _ (by omega), setCol_same, setCol_ne _ _ _ _ (by omega), setCol_same]
        exact ⟨rfl, rfl, rfl⟩) (fun ys hQ => by
    simp only [laws_markTrain_w1.l2.st, laws_markTrain_w1.l2.s, T.get]
    rw [decide_eq_false (by omega)]
    rfl)
  refine ⟨ys, ?_, h2⟩
  have h3 : laws_markTrain_w1.l2.r xs.length ((k : Int), (0 : Int), xs) = some (((k + 3 * xs.length : Nat) : Int), ys) := h1
  simp only [laws_markTrain_w1.t, T.get, h3]
  rfl
theorem heldT_t (n k : Nat) (ys : List (List Sc)) (hk : k + 3 * n < 9223372036854775807) (h : markedT k n n ys) : (laws_heldTrain_w1.t n (k : Int) ys).get = some (((k + 3 * n : Nat) : Int)) := by
  obtain ⟨hl, hm⟩ := h
  have h3 : laws_heldTrain_w1.l2.r (n, ys) ((k : Int), (0 : Int)) = some (.inr (((k + 3 * n : Nat) : Int))) := by
    refine held_run k 3 n (by omega) (fun i hi => ?_) ?_
    · have e1 : IntKind.wrap .i64 (((k + 3 * i : Nat) : Int) + 1) = ((k + 3 * i + 1 : Nat) : Int) := wrap64_succ (by omega)
      have e2 : IntKind.wrap .i64 (((k + 3 * i + 1 : Nat) : Int) + 1) = ((k + 3 * i + 2 : Nat) : Int) := wrap64_of (by omega) (by omega)
      have e3 : IntKind.wrap .i64 (((k + 3 * i + 2 : Nat) : Int) + 1) = ((k + 3 * (i + 1) : Nat) : Int) := wrap64_of (by omega) (by omega)
      simp only [laws_heldTrain_w1.l2.st, laws_heldTrain_w1.l2.s, T.get, bounds_nat, ble_decide, Int.toNat_natCast, hl, (hm i hi).1, (hm i hi).2.1, (hm i hi).2.2, Sc.nat, Sc.int, ofint_fne, e1, e2, e3, bne_self_eq_false]
      rw [decide_eq_true (by omega : (i : Int) < (n : Int)), decide_eq_true hi, decide_eq_true (by omega : i + 1 ≤ n), wrap64_succ (by omega)]
      rfl
    · simp only [laws_heldTrain_w1.l2.st, laws_heldTrain_w1.l2.s, T.get]
      rw [decide_eq_false (by omega)]
      rfl
  simp only [laws_heldTrain_w1.t, T.get, h3]
  rfl

theorem train_t (xs : List Int) (a b c d : Int) (hx : xs.length < 1099511627776) (ha : IntKind.wrap .i64 a = a) (hb : IntKind.wrap .i64 b = b) (hc : IntKind.wrap .i64 c = c) (hd : IntKind.wrap .i64 d = d) :
    (∃ k, (spec_TrainFor.t xs.length a b c d xs).get = some (0, k, []) ∧ (impl_TrainFor.t xs.length a b c d xs).get = some (.inl k)) ∨ (∃ rows, List.length rows = 2 ∧ (spec_TrainFor.t xs.length a b c d xs).get = some (2, 0, rows) ∧ (impl_TrainFor.t xs.length a b c d xs).get = some (.inr (2, 0, rows))) := by
  obtain ⟨r, h1, h2, h3⟩ := ccode_t a b c d xs hx ha hb hc hd
  simp only [spec_TrainFor.t, impl_TrainFor.t, T.get, show spec_l05Choice.ok xs.length a b c d xs = true from T.ok_of_get (h1), show spec_l05Choice xs.length a b c d xs = r from T.val_of_get (h1), show impl_choiceCode.ok xs.length a b c d xs = true from T.ok_of_get (h2), show impl_choiceCode xs.length a b c d xs = r from T.val_of_get (h2)]
  by_cases hr : r = 0
  · obtain ⟨wa, wb, wc, wd⟩ := h3 hr
    subst hr
    obtain ⟨a1, a2⟩ := wheel_in hx wa
    obtain ⟨b1, b2⟩ := wheel_in hx wb
    obtain ⟨c1, c2⟩ := wheel_in hx wc
    obtain ⟨d1, d2⟩ := wheel_in hx wd
    simp only [a1, a2, b1, b2, c1, c2, d1, d2]
    exact .inr ⟨_, rfl, rfl, rfl⟩
  · have : (r != 0) = true := by simpa using hr
    rw [this]
    exact .inl ⟨r, rfl, rfl⟩
/- FACTS -/
theorem law_holds (x1 x2 x3 x4 : Int) (xs : List Int) (f0 : ∀ x ∈ xs, (IntKind.min .i16 ≤ x ∧ x ≤ IntKind.max .i16)) (y0 : List.length xs ≤ maxLen) (f1 : IntKind.min .i16 ≤ x1 ∧ x1 ≤ IntKind.max .i16) (f2 : IntKind.min .i16 ≤ x2 ∧ x2 ≤ IntKind.max .i16) (f3 : IntKind.min .i16 ≤ x3 ∧ x3 ≤ IntKind.max .i16) (f4 : IntKind.min .i16 ≤ x4 ∧ x4 ≤ IntKind.max .i16) : (laws_FnExactTrainFor.t xs.length x1 x2 x3 x4 xs).get = some true := by
  simp only [laws_FnExactTrainFor.t, T.get]
  by_cases hb : (xs.length : Int) > 1048576
  · rw [decide_eq_true hb]
    rfl
  · rw [decide_eq_false hb]
    have hl : xs.length < 1099511627776 := by omega
    obtain ⟨ms, hm1⟩ := markI_t xs 1 (by omega)
    have hm1' : (laws_markInt16S.t xs.length (1 : Int) xs).get = some (((1 + xs.length : Nat) : Int), ms) := hm1
    have hneg : decide (((1 + xs.length : Nat) : Int) < 0) = false := decide_eq_false (by omega)
    simp only [to_ok xs hl, to_eq xs hl, choice_eq, eqI_ok xs hl, eqI_eq xs hl, show laws_markInt16S.ok xs.length (1 : Int) xs = true from T.ok_of_get (hm1'), show laws_markInt16S xs.length (1 : Int) xs = _ from T.val_of_get (hm1'), hneg, cond_true, cond_false]
    rcases train_t xs x1 x2 x3 x4 hl (wrap_i16 f1) (wrap_i16 f2) (wrap_i16 f3) (wrap_i16 f4) with ⟨c, h1, h2⟩ | ⟨rows, hn, h1, h2⟩
    · simp only [show spec_TrainFor.ok xs.length x1 x2 x3 x4 xs = true from T.ok_of_get (h1), show spec_TrainFor xs.length x1 x2 x3 x4 xs = _ from T.val_of_get (h1), show impl_TrainFor.ok xs.length x1 x2 x3 x4 xs = true from T.ok_of_get (h2), show impl_TrainFor xs.length x1 x2 x3 x4 xs = _ from T.val_of_get (h2), show laws_eqTrain.ok 0 [] = true from T.ok_of_get (eqT0_t), show laws_eqTrain 0 [] = _ from T.val_of_get (eqT0_t), show laws_markTrain.ok 1 = true from T.ok_of_get (markT0_t), show laws_markTrain 1 = _ from T.val_of_get (markT0_t), show laws_heldTrain.ok 1 = true from T.ok_of_get (heldT0_t), show laws_heldTrain 1 = _ from T.val_of_get (heldT0_t), getLeftD, Sum.isLeft]
      simp
    · rw [← hn] at h1 h2
      obtain ⟨ys, h3, h4⟩ := markT_t rows 1 (by omega)
      have h3' : (laws_markTrain_w1.t rows.length (1 : Int) rows).get = some (((1 + 3 * rows.length : Nat) : Int), ys) := h3
      have h5' : (laws_heldTrain_w1.t rows.length (1 : Int) ys).get = some (((1 + 3 * rows.length : Nat) : Int)) := heldT_t rows.length 1 ys (by omega) h4
      have hneg2 : decide (((1 + 3 * rows.length : Nat) : Int) < 0) = false := decide_eq_false (by omega)
      simp only [show spec_TrainFor.ok xs.length x1 x2 x3 x4 xs = true from T.ok_of_get (h1), show spec_TrainFor xs.length x1 x2 x3 x4 xs = _ from T.val_of_get (h1), show impl_TrainFor.ok xs.length x1 x2 x3 x4 xs = true from T.ok_of_get (h2), show impl_TrainFor xs.length x1 x2 x3 x4 xs = _ from T.val_of_get (h2), getRightD, Sum.isLeft, show laws_eqTrain_w1.ok rows.length rows.length rows rows = true from T.ok_of_get (eqT_t rows (by omega)), show laws_eqTrain_w1 rows.length rows.length rows rows = _ from T.val_of_get (eqT_t rows (by omega)), show laws_markTrain_w1.ok rows.length (1 : Int) rows = true from T.ok_of_get (h3'), show laws_markTrain_w1 rows.length (1 : Int) rows = _ from T.val_of_get (h3'), show laws_heldTrain_w1.ok rows.length (1 : Int) ys = true from T.ok_of_get (h5'), show laws_heldTrain_w1 rows.length (1 : Int) ys = _ from T.val_of_get (h5'), hneg2]
      simp

theorem law_plain (x1_0 : Int) (x1_1 : Int) (x1_2 : Int) (x1_3 : Int) (xs0 : List Int) (f0 : ∀ x ∈ xs0, (IntKind.min .i16 ≤ x ∧ x ≤ IntKind.max .i16)) (y0 : List.length xs0 ≤ maxLen) (f1_0 : (IntKind.min .i16 ≤ x1_0 ∧ x1_0 ≤ IntKind.max .i16)) (f1_1 : (IntKind.min .i16 ≤ x1_1 ∧ x1_1 ≤ IntKind.max .i16)) (f1_2 : (IntKind.min .i16 ≤ x1_2 ∧ x1_2 ≤ IntKind.max .i16)) (f1_3 : (IntKind.min .i16 ≤ x1_3 ∧ x1_3 ≤ IntKind.max .i16)) : (laws_FnExactTrainFor.tr (xs0.length, x1_0, x1_1, x1_2, x1_3, xs0)).get = some true := law_holds x1_0 x1_1 x1_2 x1_3 xs0 f0 y0 f1_0 f1_1 f1_2 f1_3
theorem own : ownKnob Try.prog.godebug = none := by kernel_rfl
theorem laidOut : laidOutB Try.prog = true := by kernel_rfl
theorem ground {W : World} (h : W.ShapedOpen Try.prog) : Sx.Ground W := ground_of (by kernel_rfl) h
theorem lifted (os : Os) (started : os.Started) (H : Type) (enc : TypeId × Value → H) :
    ReturnsInHanded {} Try.checked os 14 .any (Rows.fnExactTrainForSpec.pre6 enc Try.prog Try.f14 Rows.fnExactTrainForRow.domain false) (Rows.fnExactTrainForSpec.post enc Try.prog Try.f14 false true false false) := by
  refine returnsInHanded_of_change_shaped (C := Try.checked) own started (by kernel_rfl) Try.func14
    (ChangeSpec.witness6 (enc := enc) (C := Try.checked) false ⟨#[], #[.slice none 0 0, .agg #[.int .i16 0, .int .i16 0, .int .i16 0, .int .i16 0]], []⟩ 8 (by kernel_rfl) (by kernel_rfl) (by kernel_rfl) (by kernel_rfl)) ?_
  intro W base args ds gs before hval0 hW hcnd _ hsh _
  have hG := ground hsh
  have hval : ∀ (j : Nat) t v, Try.f14.params[j]? = some t → args[j]? = some v → Value.okWide Try.prog W .any base t v := hval0
  have hW' := hW
  obtain ⟨p, q, hA0, hV, rfl, hfz, hnd⟩ := hW
  have hA : DataW.TrodAll enc Try.prog W 0 (fun _ => true) true Try.f14.params.toList args.toList ds p := hA0
  rw [Try.params14] at hA hval
  obtain ⟨v0, vs0, d0, ds0, p0, q0, hargs, rfl, rfl, h0, rr0⟩ := trodAll_cons hA
  obtain ⟨v1, vs1, d1, ds1, p1, q1, rfl, rfl, rfl, h1, rr1⟩ := trodAll_cons rr0
  obtain ⟨rfl, rfl, rfl⟩ := trodAll_nil rr1
  obtain rfl : args = #[v0, v1] := by cases args; simp_all
  obtain ⟨rfl, rfl⟩ := trodVars_none hV
  have k0 := h0
  have lt0 : ∀ x ∈ p0, x.block < W.heap.size := by obtain ⟨m, hm⟩ := k0; exact DataW.trod_lt m _ _ _ hm
  obtain ⟨l0, xs0, w0, r0, f0, y0⟩ := open_its Try.underlying22 Try.underlying47 (by kernel_rfl) hG (hval 0 22 v0 rfl rfl) k0
  have k1 := h1
  have lt1 : ∀ x ∈ p1, x.block < W.heap.size := by obtain ⟨m, hm⟩ := k1; exact DataW.trod_lt m _ _ _ hm
  obtain ⟨cs1, rfl, hc1⟩ := open_row (ts := [47, 47, 47, 47]) Try.underlying49 rfl (by kernel_rfl) (by kernel_rfl) (hval 1 49 v1 rfl rfl)
  obtain ⟨u1_0, m1_0, e1, g1_0, hc1⟩ := hc1
  obtain ⟨x1_0, r1_0, f1_0⟩ := sc_it Try.underlying47 g1_0
  obtain ⟨u1_1, m1_1, rfl, g1_1, hc1⟩ := hc1
  obtain ⟨x1_1, r1_1, f1_1⟩ := sc_it Try.underlying47 g1_1
  obtain ⟨u1_2, m1_2, rfl, g1_2, hc1⟩ := hc1
  obtain ⟨x1_2, r1_2, f1_2⟩ := sc_it Try.underlying47 g1_2
  obtain ⟨u1_3, m1_3, rfl, g1_3, hc1⟩ := hc1
  obtain ⟨x1_3, r1_3, f1_3⟩ := sc_it Try.underlying47 g1_3
  obtain rfl := hc1
  clear hA0 hval0
  refine (laws_FnExactTrainFor.walk (xs0.length, x1_0, x1_1, x1_2, x1_3, xs0) (law_plain x1_0 x1_1 x1_2 x1_3 xs0 f0 y0 f1_0 f1_1 f1_2 f1_3) (ρ := fun i => (lget ([(l0, .is .i16 xs0)] : List (Sx.Loc × Cells)) i).map (·.1)) (Rs_cons' (r0 _ 0 rfl) (Rs_cons' (agg_R (by rw [e1]; exact (Rs_cons' (r1_0 _) (Rs_cons' (r1_1 _) (Rs_cons' (r1_2 _) (Rs_cons' (r1_3 _) Rs_nil')))))) Rs_nil')) (HpR.ofRo [(l0, .is .i16 xs0)] ((List.forall_mem_cons.2 ⟨w0, List.forall_mem_nil _⟩)))).mono fun e W' ⟨he, bel⟩ => ?_
  subst he
  exact ⟨_, rfl, _, _, _, [], _, [], hW', trodAll_mk1 (shut_bool Try.underlying4 _), (trodAll_cons_mk (Below.trod laidOut (by kernel_rfl) (of_decide_eq_true (by kernel_rfl)) k0 bel lt0) (trodAll_cons_mk (Below.trod laidOut (by kernel_rfl) (of_decide_eq_true (by kernel_rfl)) k1 bel lt1) trodAll_mk0)), rfl, bel.frame _, fun h => by cases h⟩
theorem over : Rows.fnExactTrainForRow.holds Try.pinned (OpenSpec.ofChange Rows.fnExactTrainForSpec) :=
  OpenClaim.holds_of_wide 14 Try.f14 rfl rfl rfl rfl rfl rfl rfl ⟨rfl, rfl, rfl, rfl, rfl⟩ rfl rfl rfl rfl rfl (by kernel_rfl) Try.func14 (by kernel_rfl)
    (of_decide_eq_true (by kernel_rfl)) (by unfold Func.isWrapper; first | (rw [if_pos (by decide +kernel)]; kernel_rfl) | (rw [if_neg (by decide +kernel)]; exact ⟨rfl, rfl⟩))
    (fun os started H enc _ => lifted os started H enc)
theorem proved : Rows.FnExactTrainForSaid := over
end Go.Proofs.Ythllapodgemlfaa
