/- For every input the call of FnExactBestChoice returns true, and each argument reads afterwards as it read before; there is no condition. -/
import Derived.Test.YthllapodgemlfaaWFnExactBestChoice
import Derived.Test.YthllapodgemlfaaSxS
import Derived.Test.YthllapodgemlfaaRows
import Derived.WalkKit
import Derived.ProofKit
import Derived.OpenShut
import Derived.ShutString
import Derived.ChangeOld
import Derived.Below
import Derived.Carry
import Derived.HandedShaped
namespace Go.Proofs.Ythllapodgemlfaa
open Go Go.RowKit Sx
open Go.ChangeShapes Go.WideShapes Go.ChangeAt
set_option linter.unusedVariables false
set_option linter.unusedSimpArgs false
set_option maxRecDepth 100000

theorem within_eq (x y z : Int) : impl_within x y z = spec_l00In x y z := by
  simp only [impl_within, impl_within.t, spec_l00In, spec_l00In.t, T.val, ge_iff_le]

theorem teeth_eq (x : Int) : impl_areTeeth x = spec_l01Teeth x := by
  simp only [impl_areTeeth, impl_areTeeth.t, spec_l01Teeth, spec_l01Teeth.t, T.val, within_eq]
theorem box_r (xs : List Int) (h : xs.length < 1099511627776) : ∃ e, spec_l05Ok.l2.r (xs.length, xs) 0 = some e ∧ impl_ValidBox.l2.r (xs.length, xs.length, (xs.length : Int), xs) 0 = some e := by
  obtain ⟨e, e', h1, h2, rfl⟩ := iter_two (step := spec_l05Ok.l2.st (xs.length, xs)) (step' := impl_ValidBox.l2.st (xs.length, xs.length, (xs.length : Int), xs)) (R := fun s t => s = t ∧ ∃ i : Nat, i ≤ xs.length ∧ s = (i : Int)) (E := fun e e' => e = e') (fun s => xs.length - s.toNat) (by
    rintro s t ⟨rfl, i, hi, rfl⟩
    simp only [spec_l05Ok.l2.st, spec_l05Ok.l2.s, impl_ValidBox.l2.st, impl_ValidBox.l2.s, T.get, bounds_nat, ble_decide, Int.toNat_natCast, Nat.mul_one, teeth_eq]
    by_cases hlt : i < xs.length
    · rw [decide_eq_true (by omega : (i : Int) < (xs.length : Int)), decide_eq_true hlt, decide_eq_true (by omega : i + 1 ≤ xs.length)]
      simp only [cond_true]
      have hw : IntKind.wrap .i64 ((i : Int) + 1) = ((i + 1 : Nat) : Int) := wrap64_succ (by omega)
      cases ht : spec_l01Teeth (IntKind.wrap .i64 (xs.getD i 0)) with
      | false => exact .inr ⟨_, _, rfl, rfl, rfl⟩
      | true =>
        simp only [Bool.not_true, cond_false]
        by_cases hz : 0 < i
        · have hw2 : IntKind.wrap .i64 ((i : Int) - 1) = ((i - 1 : Nat) : Int) := by
            rw [wrap64 (by omega) (by omega)]
            omega
          rw [decide_eq_true (by omega : (i : Int) > 0), hw, hw2, bounds_nat, Int.toNat_natCast, decide_eq_true (by omega : i - 1 < xs.length), decide_eq_true (by omega : i - 1 + 1 ≤ xs.length)]
          simp only [cond_true]
          cases decide (xs.getD i 0 ≤ xs.getD (i - 1) 0) with
          | true => exact .inr ⟨_, _, rfl, rfl, rfl⟩
          | false => exact .inl ⟨_, _, rfl, rfl, ⟨rfl, i + 1, by omega, rfl⟩, by omega⟩
        · rw [decide_eq_false (by omega : ¬ (i : Int) > 0), hw]
          exact .inl ⟨_, _, rfl, rfl, ⟨rfl, i + 1, by omega, rfl⟩, by omega⟩
    · rw [decide_eq_false (by omega : ¬ (i : Int) < (xs.length : Int))]
      exact .inr ⟨_, _, rfl, rfl, rfl⟩) manyRounds 0 0 ⟨rfl, 0, by omega, rfl⟩ (many_lt (by simp; omega))
  exact ⟨e, h1, h2⟩
theorem boxs_ok (xs : List Int) (h : xs.length < 1099511627776) : spec_l05Ok.ok xs.length xs = true := by
  obtain ⟨e, h1, h2⟩ := box_r xs h
  simp only [spec_l05Ok.ok, spec_l05Ok.t, T.ok, h1, Option.isSome_some, cond_true, Option.getD_some]
  cases Sum.isLeft e <;> rfl
theorem boxi_ok (xs : List Int) (h : xs.length < 1099511627776) : impl_ValidBox.ok xs.length xs = true := by
  obtain ⟨e, h1, h2⟩ := box_r xs h
  simp only [impl_ValidBox.ok, impl_ValidBox.t, T.ok, h2, Option.isSome_some, cond_true, Option.getD_some]
  cases Sum.isLeft e <;> rfl
theorem box_eq (xs : List Int) (h : xs.length < 1099511627776) : impl_ValidBox xs.length xs = spec_l05Ok xs.length xs := by
  obtain ⟨e, h1, h2⟩ := box_r xs h
  simp only [impl_ValidBox, impl_ValidBox.t, spec_l05Ok, spec_l05Ok.t, T.val, h1, h2, within_eq]
theorem box_le (xs : List Int) (h : xs.length < 1099511627776) (hb : spec_l05Ok xs.length xs = true) : 2 ≤ xs.length ∧ xs.length ≤ 24 := by
  obtain ⟨e, h1, h2⟩ := box_r xs h
  have hx : ∃ e, spec_l05Ok.l2.r (xs.length, xs) 0 = some e := ⟨e, h1⟩
  by_cases hl : spec_l00In (xs.length : Int) 2 24 = true
  · simp only [spec_l00In, spec_l00In.t, T.val] at hl
    cases h3 : decide ((xs.length : Int) ≥ 2) <;> rw [h3] at hl
    · cases hl
    · simp only [cond_true, decide_eq_true_eq] at hl h3
      omega
  · exfalso
    have hl' : spec_l00In (xs.length : Int) 2 24 = false := by simpa using hl
    have hk : ∀ e, spec_l05Ok.l2.r (xs.length, xs) 0 = some e → ∀ b, e = .inl b → b = false := by
      intro e he b hb
      obtain ⟨e', h3, h4⟩ := iter_ends (step := spec_l05Ok.l2.st (xs.length, xs)) (R := fun s => ∃ i : Nat, i ≤ xs.length ∧ s = (i : Int)) (E := fun e => ∀ b, e = .inl b → b = false) (fun s => xs.length - s.toNat) (by
        rintro s ⟨i, hi, rfl⟩
        simp only [spec_l05Ok.l2.st, spec_l05Ok.l2.s, T.get, bounds_nat, ble_decide, Int.toNat_natCast, Nat.mul_one]
        by_cases hlt : i < xs.length
        · rw [decide_eq_true (by omega : (i : Int) < (xs.length : Int)), decide_eq_true hlt, decide_eq_true (by omega : i + 1 ≤ xs.length)]
          simp only [cond_true]
          have hw : IntKind.wrap .i64 ((i : Int) + 1) = ((i + 1 : Nat) : Int) := wrap64_succ (by omega)
          cases ht : spec_l01Teeth (IntKind.wrap .i64 (xs.getD i 0)) with
          | false => exact .inr ⟨_, rfl, fun b hb => by cases hb; rfl⟩
          | true =>
            simp only [Bool.not_true, cond_false]
            by_cases hz : 0 < i
            · have hw2 : IntKind.wrap .i64 ((i : Int) - 1) = ((i - 1 : Nat) : Int) := by
                rw [wrap64 (by omega) (by omega)]
                omega
              rw [decide_eq_true (by omega : (i : Int) > 0), hw, hw2, bounds_nat, Int.toNat_natCast, decide_eq_true (by omega : i - 1 < xs.length), decide_eq_true (by omega : i - 1 + 1 ≤ xs.length)]
              simp only [cond_true]
              cases decide (xs.getD i 0 ≤ xs.getD (i - 1) 0) with
              | true => exact .inr ⟨_, rfl, fun b hb => by cases hb; rfl⟩
              | false => exact .inl ⟨_, rfl, ⟨i + 1, by omega, rfl⟩, by omega⟩
            · rw [decide_eq_false (by omega : ¬ (i : Int) > 0), hw]
              exact .inl ⟨_, rfl, ⟨i + 1, by omega, rfl⟩, by omega⟩
        · rw [decide_eq_false (by omega : ¬ (i : Int) < (xs.length : Int))]
          exact .inr ⟨_, rfl, fun b hb => by cases hb⟩) manyRounds 0 ⟨0, by omega, rfl⟩ (many_lt (by simp; omega))
      have h5 : spec_l05Ok.l2.r (xs.length, xs) 0 = some e' := h3
      rw [h5] at he
      cases he
      exact h4 b hb
    simp only [spec_l05Ok, spec_l05Ok.t, T.val, h1, hl', Option.isSome_some, Option.getD_some, cond_true] at hb
    cases e with
    | inl b =>
      have := hk _ h1 b rfl
      subst this
      simp [Sum.isLeft, getLeftD] at hb
    | inr u => simp [Sum.isLeft] at hb

theorem target_eq (x : Nat) : impl_isTarget x = spec_l05Target x := by
  simp only [impl_isTarget, impl_isTarget.t, impl_between, impl_between.t, spec_l05Target, spec_l05Target.t, T.val, fge_flip]

theorem part_0 : spec_l01Part 0 = true := by kernel_rfl
theorem asked_t (xs : List Int) (t w : Nat) (h : xs.length < 1099511627776) : (spec_l05Asked.t xs.length t w xs).get = some (bif spec_l05Ok xs.length xs then (bif spec_l05Target t && spec_l01Part w then 0 else 2) else 1) := by
  simp only [spec_l05Asked.t, T.get, boxs_ok xs h]
  cases spec_l05Ok xs.length xs <;> cases spec_l05Target t <;> cases spec_l01Part w <;> rfl
theorem bcode_t (xs : List Int) (b : Bool) (h : xs.length < 1099511627776) : (impl_boxCode.t xs.length b xs).get = some (bif spec_l05Ok xs.length xs then (bif b then 0 else 2) else 1) := by
  simp only [impl_boxCode.t, T.get, boxi_ok xs h, box_eq xs h]
  cases spec_l05Ok xs.length xs <;> cases b <;> rfl

theorem size_eq (x : Nat) (h : flHas .f32 x) : impl_size x = spec_l01Size x := by
  simp only [impl_size, impl_size.t, spec_l01Size, spec_l01Size.t, T.val]
  cases hl : flt .f32 x 0 with
  | false => rfl
  | true => exact sub_zero_neg .f32 x h hl

theorem off_eq (f t : Nat) : impl_offBy f t = spec_l05Off f t := by
  simp only [impl_offBy, impl_offBy.t, spec_l05Off, spec_l05Off.t, T.val, size_eq _ (fsub_has _ _ _)]
theorem quot_eq (a b : Int) : impl_quotient a b = spec_l01Quotient a b := by
  simp only [impl_quotient, impl_quotient.t, spec_l01Quotient, spec_l01Quotient.t, T.val]

theorem ne_dec (i k : Nat) : ((i : Int) != (k : Int)) = !decide (i = k) := by
  unfold bne
  congr 1
  by_cases h : i = k
  · subst h; simp
  · rw [decide_eq_false h, beq_eq_false_iff_ne]
    omega
theorem lv4 (n : Nat) (hn : n ≤ 24) (a b c : Nat) (ha : a < n) (hb : b < n) (hc : c < n) (q : List Quad) (L : Nat) (hL : L ≤ 400000) (hq : q.length ≤ L) :
    spec_l05Choices.l12.r ((n : Int), (a : Int), (b : Int), (c : Int)) (q.length, 0, encQ q) = some ((foldF (fun d => addQ a b c d) n 0 q).length, encQ (foldF (fun d => addQ a b c d) n 0 q)) ∧ (foldF (fun d => addQ a b c d) n 0 q).length ≤ L + n := by
  refine loopI_fold (step := spec_l05Choices.l12.st ((n : Int), (a : Int), (b : Int), (c : Int))) (fun x => IntKind.wrap .i16 (x + 1)) (fun (c : Int) (q : List Quad) => (q.length, c, encQ q)) (fun d => addQ a b c d) (fun q => (q.length, encQ q)) (fun i q => q.length ≤ L + i) n (by omega) (fun i hi => wrap16 (by omega) (by omega)) q hq (fun d q hd hI => ?_) (fun q hI => ?_)
  · have hc4 : (Nat.ble 4 (List.length [(a : Int), (b : Int), (c : Int), (d : Int)]) && (Nat.beq (encQ q).length (q.length * 4) && Nat.ble ((q.length + 1) * 8) 35184372088832 && Nat.ble (q.length + 1) 35184372088832)) = true := by
      rw [encQ_length, Nat.beq_refl, ble_decide, ble_decide, ble_decide, decide_eq_true (by simp : 4 ≤ List.length [(a : Int), (b : Int), (c : Int), (d : Int)]), decide_eq_true (by omega : (q.length + 1) * 8 ≤ 35184372088832), decide_eq_true (by omega : q.length + 1 ≤ 35184372088832)]
      rfl
    refine ⟨?_, ?_⟩
    · simp only [spec_l05Choices.l12.st, spec_l05Choices.l12.s, T.get, ne_dec, hc4]
      rw [decide_eq_true (by omega : (d : Int) < (n : Int))]
      simp only [addQ, dist4, cond_true]
      cases decide (a = b) <;> cases decide (a = c) <;> cases decide (a = d) <;> cases decide (b = c) <;> cases decide (b = d) <;> cases decide (c = d) <;> first | rfl | (simp only [Bool.not_false, Bool.and_true, cond_true, encQ_app, List.length_append, List.length_cons, List.length_nil]; rfl)
    · unfold addQ
      cases dist4 a b c d with
      | false => show q.length ≤ L + (d + 1); omega
      | true => simp only [cond_true, List.length_append, List.length_cons, List.length_nil]; omega
  · simp only [spec_l05Choices.l12.st, spec_l05Choices.l12.s, T.get]
    rw [decide_eq_false (by omega)]
    rfl
theorem lv3 (n : Nat) (hn : n ≤ 24) (a b : Nat) (ha : a < n) (hb : b < n) (q : List Quad) (L : Nat) (hL : L ≤ 390000) (hq : q.length ≤ L) :
    spec_l05Choices.l9.r ((n : Int), (a : Int), (b : Int)) (q.length, 0, encQ q) = some ((foldF (fun c => foldF (fun d => addQ a b c d) n 0) n 0 q).length, encQ (foldF (fun c => foldF (fun d => addQ a b c d) n 0) n 0 q)) ∧ (foldF (fun c => foldF (fun d => addQ a b c d) n 0) n 0 q).length ≤ L + n * 24 := by
  refine loopI_fold (step := spec_l05Choices.l9.st ((n : Int), (a : Int), (b : Int))) (fun x => IntKind.wrap .i16 (x + 1)) (fun (c : Int) (q : List Quad) => (q.length, c, encQ q)) (fun c => foldF (fun d => addQ a b c d) n 0) (fun q => (q.length, encQ q)) (fun i q => q.length ≤ L + i * 24) n (by omega) (fun i hi => wrap16 (by omega) (by omega)) q (by omega) (fun c q hc hI => ?_) (fun q hI => ?_)
  · obtain ⟨h1, h2⟩ := lv4 n hn a b c ha hb hc q (L + c * 24) (by omega) hI
    refine ⟨?_, by omega⟩
    have h1' : spec_l05Choices.l12.r ((n : Int), (a : Int), (b : Int), (c : Int)) (q.length, 0, encQ q) = _ := h1
    simp only [spec_l05Choices.l9.st, spec_l05Choices.l9.s, T.get, h1']
    rw [decide_eq_true (by omega : (c : Int) < (n : Int))]
    rfl
  · simp only [spec_l05Choices.l9.st, spec_l05Choices.l9.s, T.get]
    rw [decide_eq_false (by omega)]
    rfl
theorem lv2 (n : Nat) (hn : n ≤ 24) (a : Nat) (ha : a < n) (q : List Quad) (L : Nat) (hL : L ≤ 360000) (hq : q.length ≤ L) :
    spec_l05Choices.l6.r ((n : Int), (a : Int)) (q.length, 0, encQ q) = some ((foldF (fun b => foldF (fun c => foldF (fun d => addQ a b c d) n 0) n 0) n 0 q).length, encQ (foldF (fun b => foldF (fun c => foldF (fun d => addQ a b c d) n 0) n 0) n 0 q)) ∧ (foldF (fun b => foldF (fun c => foldF (fun d => addQ a b c d) n 0) n 0) n 0 q).length ≤ L + n * 576 := by
  refine loopI_fold (step := spec_l05Choices.l6.st ((n : Int), (a : Int))) (fun x => IntKind.wrap .i16 (x + 1)) (fun (c : Int) (q : List Quad) => (q.length, c, encQ q)) (fun b => foldF (fun c => foldF (fun d => addQ a b c d) n 0) n 0) (fun q => (q.length, encQ q)) (fun i q => q.length ≤ L + i * 576) n (by omega) (fun i hi => wrap16 (by omega) (by omega)) q (by omega) (fun b q hb hI => ?_) (fun q hI => ?_)
  · obtain ⟨h1, h2⟩ := lv3 n hn a b ha hb q (L + b * 576) (by omega) hI
    refine ⟨?_, by omega⟩
    have h1' : spec_l05Choices.l9.r ((n : Int), (a : Int), (b : Int)) (q.length, 0, encQ q) = _ := h1
    simp only [spec_l05Choices.l6.st, spec_l05Choices.l6.s, T.get, h1']
    rw [decide_eq_true (by omega : (b : Int) < (n : Int))]
    rfl
  · simp only [spec_l05Choices.l6.st, spec_l05Choices.l6.s, T.get]
    rw [decide_eq_false (by omega)]
    rfl
theorem lv1 (n : Nat) (hn : n ≤ 24) : spec_l05Choices.l3.r (n : Int) (0, 0, []) = some ((quads n).length, encQ (quads n)) ∧ (quads n).length ≤ n * 13824 := by
  refine loopI_fold (step := spec_l05Choices.l3.st (n : Int)) (fun x => IntKind.wrap .i16 (x + 1)) (fun (c : Int) (q : List Quad) => (q.length, c, encQ q)) (fun a => foldF (fun b => foldF (fun c => foldF (fun d => addQ a b c d) n 0) n 0) n 0) (fun q => (q.length, encQ q)) (fun i q => q.length ≤ i * 13824) n (by omega) (fun i hi => wrap16 (by omega) (by omega)) [] (by simp) (fun a q ha hI => ?_) (fun q hI => ?_)
  · obtain ⟨h1, h2⟩ := lv2 n hn a ha q (a * 13824) (by omega) hI
    refine ⟨?_, by omega⟩
    have h1' : spec_l05Choices.l6.r ((n : Int), (a : Int)) (q.length, 0, encQ q) = _ := h1
    simp only [spec_l05Choices.l3.st, spec_l05Choices.l3.s, T.get, h1']
    rw [decide_eq_true (by omega : (a : Int) < (n : Int))]
    rfl
  · simp only [spec_l05Choices.l3.st, spec_l05Choices.l3.s, T.get]
    rw [decide_eq_false (by omega)]
    rfl
theorem choices_t (n : Nat) (hn : n ≤ 24) : (spec_l05Choices.t (n : Int)).get = some ((quads n).length, encQ (quads n)) := by
  simp only [spec_l05Choices.t, T.get, (lv1 n hn).1]
  rfl
/-- The factor of a choice. -/
noncomputable def facQ (xs : List Int) (x : Quad) : Nat := fmul .f32 (spec_l01Quotient (xs.getD x.1 0) (xs.getD x.2.1 0)) (spec_l01Quotient (xs.getD x.2.2.1 0) (xs.getD x.2.2.2 0))
theorem fac_t (xs : List Int) (a b c d : Nat) (ha : a < xs.length) (hb : b < xs.length) (hc : c < xs.length) (hd : d < xs.length) : (spec_l05Factor.t xs.length (a : Int) (b : Int) (c : Int) (d : Int) xs).get = some (facQ xs (a, b, c, d)) := by
  simp only [spec_l05Factor.t, T.get, bounds_nat, ble_decide, Int.toNat_natCast, Nat.mul_one]
  rw [decide_eq_true ha, decide_eq_true hb, decide_eq_true hc, decide_eq_true hd, decide_eq_true (by omega : a + 1 ≤ xs.length), decide_eq_true (by omega : b + 1 ≤ xs.length), decide_eq_true (by omega : c + 1 ≤ xs.length), decide_eq_true (by omega : d + 1 ≤ xs.length)]
  rfl
theorem fac_at (xs : List Int) (i : Nat) (hi : i < (quads xs.length).length) : (spec_l05Factor.t xs.length ((encQ (quads xs.length)).getD (i * 4) 0) ((encQ (quads xs.length)).getD (i * 4 + 1) 0) ((encQ (quads xs.length)).getD (i * 4 + 1 + 1) 0) ((encQ (quads xs.length)).getD (i * 4 + 1 + 1 + 1) 0) xs).get = some (facQ xs ((quads xs.length).getD i default)) := by
  obtain ⟨h1, h2, h3, h4⟩ := encQ_get _ i hi
  have hm : (quads xs.length).getD i default ∈ quads xs.length := by
    simp [List.getD, List.getElem?_eq_getElem hi]
  obtain ⟨p1, p2, p3, p4⟩ := quads_lt _ _ hm
  rw [h1, h2, h3, h4]
  exact fac_t xs _ _ _ _ p1 p2 p3 p4

theorem to_r (xs : List Int) (h : xs.length < 1099511627776) : laws_toInt16S.l3.r (xs.length, xs.length, xs) ((0 : Int), List.replicate (xs.length * 1) 0) = some xs := copy_run 0 xs (by omega)
theorem to_t (xs : List Int) (h : xs.length < 1099511627776) : (laws_toInt16S.t xs.length xs).get = some (xs.length, xs) := by
  simp only [laws_toInt16S.t, T.get, Int.toNat_natCast, to_r xs h, Option.isSome_some, cond_true, Option.getD_some]
  rw [decide_eq_true (by omega), decide_eq_true (by omega), decide_eq_true (by omega), decide_eq_true (by omega)]
  rfl
theorem to_ok (xs : List Int) (h : xs.length < 1099511627776) : laws_toInt16S.ok xs.length xs = true := T.ok_of_get (to_t xs h)
theorem to_eq (xs : List Int) (h : xs.length < 1099511627776) : laws_toInt16S xs.length xs = (xs.length, xs) := T.val_of_get (to_t xs h)

theorem eq_r (xs : List Int) (h : xs.length < 1099511627776) : laws_eqInt16S.l4.r (xs.length, xs.length, xs, xs) 0 = some (.inr ()) := by
  refine iter_count xs.length (by omega) (fun i hi => ?_) ?_
  · simp only [laws_eqInt16S.l4.st, laws_eqInt16S.l4.s, T.get, bounds_nat, ble_decide, Int.toNat_natCast, Nat.mul_one, bne_self_eq_false]
    rw [decide_eq_true (by omega), decide_eq_true hi, decide_eq_true (by omega)]
    rfl
  · simp only [laws_eqInt16S.l4.st, laws_eqInt16S.l4.s, T.get]
    rw [decide_eq_false (by omega)]
    rfl
theorem eqI_t (xs : List Int) (h : xs.length < 1099511627776) : (laws_eqInt16S.t xs.length xs.length xs xs).get = some true := by
  simp only [laws_eqInt16S.t, T.get, eq_r xs h]
  simp
theorem eqI_ok (xs : List Int) (h : xs.length < 1099511627776) : laws_eqInt16S.ok xs.length xs.length xs xs = true := T.ok_of_get (eqI_t xs h)
theorem eqI_eq (xs : List Int) (h : xs.length < 1099511627776) : laws_eqInt16S xs.length xs.length xs xs = true := T.val_of_get (eqI_t xs h)

theorem same_refl (x : Nat) : laws_sameFloat x x = true := same_self (s := laws_sameFloat.t) (fun _ _ => rfl) x

abbrev BC := Bool × Nat × Int × Int × Int × Int
/-- A choice that is nearer is kept: the program's way, the reference's way. -/
noncomputable def keepI (t : Nat) (xs : List Int) (x : Quad) (s : BC) : BC := bif !s.1 then (true, spec_l05Off (facQ xs x) t, (x.1 : Int), (x.2.1 : Int), (x.2.2.1 : Int), (x.2.2.2 : Int)) else bif flt .f32 (spec_l05Off (facQ xs x) t) s.2.1 then (true, spec_l05Off (facQ xs x) t, (x.1 : Int), (x.2.1 : Int), (x.2.2.1 : Int), (x.2.2.2 : Int)) else s
noncomputable def keepS (t : Nat) (xs : List Int) (x : Quad) (s : Nat × Int × Int × Int × Int) : Nat × Int × Int × Int × Int := bif flt .f32 (spec_l05Off (facQ xs x) t) s.1 then (spec_l05Off (facQ xs x) t, (x.1 : Int), (x.2.1 : Int), (x.2.2.1 : Int), (x.2.2.2 : Int)) else s
theorem keep_rel (t : Nat) (xs : List Int) : ∀ (q : List Quad) (s : Nat × Int × Int × Int × Int), q.foldl (fun s x => keepI t xs x s) (true, s) = (true, q.foldl (fun s x => keepS t xs x s) s)
  | [], s => rfl
  | x :: r, s => by
    rw [List.foldl_cons, List.foldl_cons, ← keep_rel t xs r]
    congr 1
    unfold keepI keepS
    simp only [Bool.not_true, cond_false]
    cases flt .f32 (spec_l05Off (facQ xs x) t) s.1 <;> rfl
theorem best_r (t : Nat) (xs : List Int) (hx : xs.length ≤ 24) (hq0 : 0 < (quads xs.length).length) (s : Nat × Int × Int × Int × Int) : spec_BestChoice.l10.r (xs.length, t, (quads xs.length).length, xs, 0, 0, 0, 0, encQ (quads xs.length)) (s.1, 1, s.2.1, s.2.2.1, s.2.2.2.1, s.2.2.2.2) = some (((quads xs.length).drop 1).foldl (fun s x => keepS t xs x s) s) := by
  have hq := (lv1 xs.length hx).2
  have h := (loop_from (step := spec_BestChoice.l10.st (xs.length, t, (quads xs.length).length, xs, 0, 0, 0, 0, encQ (quads xs.length))) (fun c (s : Nat × Int × Int × Int × Int) => (s.1, c, s.2.1, s.2.2.1, s.2.2.2.1, s.2.2.2.2)) (fun i s => keepS t xs ((quads xs.length).getD i default) s) (fun s => s) (fun _ => True) (quads xs.length).length (by omega) (fun i s hi _ => ⟨?_, trivial⟩) (fun s _ => ?_) ((quads xs.length).length - 1) 1 manyRounds s (by omega) (many_lt (by omega)) trivial).1
  · rw [foldF_drop (keepS t xs) (quads xs.length) default _ _ _ (by omega)] at h
    exact h
  · simp only [spec_BestChoice.l10.st, spec_BestChoice.l10.s, T.get, bounds_nat, ble_decide, Int.toNat_natCast, encQ_length, show spec_l05Factor.ok xs.length ((encQ (quads xs.length)).getD (i * 4) 0) ((encQ (quads xs.length)).getD (i * 4 + 1) 0) ((encQ (quads xs.length)).getD (i * 4 + 1 + 1) 0) ((encQ (quads xs.length)).getD (i * 4 + 1 + 1 + 1) 0) xs = true from T.ok_of_get (fac_at xs i hi), show spec_l05Factor xs.length ((encQ (quads xs.length)).getD (i * 4) 0) ((encQ (quads xs.length)).getD (i * 4 + 1) 0) ((encQ (quads xs.length)).getD (i * 4 + 1 + 1) 0) ((encQ (quads xs.length)).getD (i * 4 + 1 + 1 + 1) 0) xs = _ from T.val_of_get (fac_at xs i hi)]
    obtain ⟨g1, g2, g3, g4⟩ := encQ_get _ i hi
    rw [decide_eq_true (by omega : (i : Int) < ((quads xs.length).length : Int)), decide_eq_true hi, decide_eq_true (by omega : i * 4 + 4 ≤ (quads xs.length).length * 4), g1, g2, g3, g4]
    simp only [cond_true, keepS]
    cases flt .f32 (spec_l05Off (facQ xs ((quads xs.length).getD i default)) t) s.1 <;> rfl
  · simp only [spec_BestChoice.l10.st, spec_BestChoice.l10.s, T.get]
    rw [decide_eq_false (by omega)]
    rfl
/-- What the innermost call does. -/
theorem one_eq (t : Nat) (xs : List Int) (a b c d : Nat) (ha : a < 32768) (hb : b < 32768) (hc : c < 32768) (hd : d < 32768) (s : BC) : impl_choices_1_1 (c : Int) (d : Int) (spec_l01Quotient (xs.getD c 0) (xs.getD d 0)) (a : Int) (b : Int) (spec_l01Quotient (xs.getD a 0) (xs.getD b 0)) t s.1 s.2.1 s.2.2.1 s.2.2.2.1 s.2.2.2.2.1 s.2.2.2.2.2 = nOne (keepI t xs) a b c d s := by
  have e : impl_BestChoice_1 (a : Int) (b : Int) (c : Int) (d : Int) (fmul .f32 (spec_l01Quotient (xs.getD a 0) (xs.getD b 0)) (spec_l01Quotient (xs.getD c 0) (xs.getD d 0))) t s.1 s.2.1 s.2.2.1 s.2.2.2.1 s.2.2.2.2.1 s.2.2.2.2.2 = keepI t xs (a, b, c, d) s := by
    simp only [impl_BestChoice_1, impl_BestChoice_1.t, T.val, off_eq]
    rfl
  simp only [nOne, impl_choices_1_1, impl_choices_1_1.t, T.val, ne_dec, wrap16 rfl ha, wrap16 rfl hb, wrap16 rfl hc, wrap16 rfl hd, e]
  generalize keepI t xs (a, b, c, d) s = z
  cases decide (c = a) <;> cases decide (c = b) <;> cases decide (d = a) <;> cases decide (d = b) <;> rfl
theorem d_r (t : Nat) (xs : List Int) (hx : xs.length ≤ 24) (a b c : Nat) (ha : a < xs.length) (hb : b < xs.length) (hc : c < xs.length) (s : BC) : impl_pairs_w1.l4.r (xs.length, (c : Int), (xs.length : Int), (c : Int), (xs.length : Int), xs, (a : Int), (b : Int), spec_l01Quotient (xs.getD a 0) (xs.getD b 0), t) (0, s) = some (nD (keepI t xs) xs.length a b c s) := by
  refine (loop_fold (step := impl_pairs_w1.l4.st (xs.length, (c : Int), (xs.length : Int), (c : Int), (xs.length : Int), xs, (a : Int), (b : Int), spec_l01Quotient (xs.getD a 0) (xs.getD b 0), t)) (fun x (s : BC) => (x, s)) (fun d s => bif decide (c = d) then s else nOne (keepI t xs) a b c d s) (fun s => s) (fun _ => True) xs.length (by omega) s trivial (fun d s hd _ => ⟨?_, trivial⟩) (fun s _ => ?_)).1
  · simp only [impl_pairs_w1.l4.st, impl_pairs_w1.l4.s, T.get, bounds_nat, ble_decide, Int.toNat_natCast, Nat.mul_one, ne_dec, quot_eq, one_eq t xs a b c d (by omega) (by omega) (by omega) (by omega) s]
    rw [decide_eq_true (by omega : (d : Int) < (xs.length : Int)), decide_eq_true hc, decide_eq_true hd, decide_eq_true (by omega : c + 1 ≤ xs.length), decide_eq_true (by omega : d + 1 ≤ xs.length)]
    cases decide (c = d) <;> rfl
  · simp only [impl_pairs_w1.l4.st, impl_pairs_w1.l4.s, T.get]
    rw [decide_eq_false (by omega)]
    rfl
theorem c_t (t : Nat) (xs : List Int) (hx : xs.length ≤ 24) (a b : Nat) (ha : a < xs.length) (hb : b < xs.length) (s : BC) : (impl_choices_1.t (a : Int) (b : Int) (spec_l01Quotient (xs.getD a 0) (xs.getD b 0)) xs.length xs t s.1 s.2.1 s.2.2.1 s.2.2.2.1 s.2.2.2.2.1 s.2.2.2.2.2).get = some (nC (keepI t xs) xs.length a b s) := by
  have h : impl_pairs_w1.l1.r (xs.length, (xs.length : Int), xs, (a : Int), (b : Int), spec_l01Quotient (xs.getD a 0) (xs.getD b 0), t) (0, s.1, s.2.1, s.2.2.1, s.2.2.2.1, s.2.2.2.2.1, s.2.2.2.2.2) = some (nC (keepI t xs) xs.length a b s) := by
    refine (loop_fold (step := impl_pairs_w1.l1.st (xs.length, (xs.length : Int), xs, (a : Int), (b : Int), spec_l01Quotient (xs.getD a 0) (xs.getD b 0), t)) (fun x (s : BC) => (x, s)) (fun c => nD (keepI t xs) xs.length a b c) (fun s => s) (fun _ => True) xs.length (by omega) s trivial (fun c s hc _ => ⟨?_, trivial⟩) (fun s _ => ?_)).1
    · have hd : impl_pairs_w1.l4.r (xs.length, (c : Int), (xs.length : Int), (c : Int), (xs.length : Int), xs, (a : Int), (b : Int), spec_l01Quotient (xs.getD a 0) (xs.getD b 0), t) (0, s.1, s.2.1, s.2.2.1, s.2.2.2.1, s.2.2.2.2.1, s.2.2.2.2.2) = some (nD (keepI t xs) xs.length a b c s) := d_r t xs hx a b c ha hb hc s
      simp only [impl_pairs_w1.l1.st, impl_pairs_w1.l1.s, T.get, hd]
      rw [decide_eq_true (by omega : (c : Int) < (xs.length : Int))]
      rfl
    · simp only [impl_pairs_w1.l1.st, impl_pairs_w1.l1.s, T.get]
      rw [decide_eq_false (by omega)]
      rfl
  have h2 : (impl_pairs_w1.t xs.length xs (a : Int) (b : Int) (spec_l01Quotient (xs.getD a 0) (xs.getD b 0)) t s.1 s.2.1 s.2.2.1 s.2.2.2.1 s.2.2.2.2.1 s.2.2.2.2.2).get = some (nC (keepI t xs) xs.length a b s) := by
    simp only [impl_pairs_w1.t, T.get, h, Option.isSome_some, Option.getD_some, cond_true]
  simp only [impl_choices_1.t, T.get, show impl_pairs_w1.ok xs.length xs (a : Int) (b : Int) (spec_l01Quotient (xs.getD a 0) (xs.getD b 0)) t s.1 s.2.1 s.2.2.1 s.2.2.2.1 s.2.2.2.2.1 s.2.2.2.2.2 = true from T.ok_of_get (h2), show impl_pairs_w1 xs.length xs (a : Int) (b : Int) (spec_l01Quotient (xs.getD a 0) (xs.getD b 0)) t s.1 s.2.1 s.2.2.1 s.2.2.2.1 s.2.2.2.2.1 s.2.2.2.2.2 = _ from T.val_of_get (h2)]
  rfl
theorem b_r (t : Nat) (xs : List Int) (hx : xs.length ≤ 24) (a : Nat) (ha : a < xs.length) (s : BC) : impl_pairs.l4.r (xs.length, (a : Int), (xs.length : Int), (a : Int), (xs.length : Int), xs, xs.length, t) (0, s) = some (nB (keepI t xs) xs.length a s) := by
  refine (loop_fold (step := impl_pairs.l4.st (xs.length, (a : Int), (xs.length : Int), (a : Int), (xs.length : Int), xs, xs.length, t)) (fun x (s : BC) => (x, s)) (fun b s => bif decide (a = b) then s else nC (keepI t xs) xs.length a b s) (fun s => s) (fun _ => True) xs.length (by omega) s trivial (fun b s hb _ => ⟨?_, trivial⟩) (fun s _ => ?_)).1
  · simp only [impl_pairs.l4.st, impl_pairs.l4.s, T.get, bounds_nat, ble_decide, Int.toNat_natCast, Nat.mul_one, ne_dec, quot_eq, show impl_choices_1.ok (a : Int) (b : Int) (spec_l01Quotient (xs.getD a 0) (xs.getD b 0)) xs.length xs t s.1 s.2.1 s.2.2.1 s.2.2.2.1 s.2.2.2.2.1 s.2.2.2.2.2 = true from T.ok_of_get (c_t t xs hx a b ha hb s), show impl_choices_1 (a : Int) (b : Int) (spec_l01Quotient (xs.getD a 0) (xs.getD b 0)) xs.length xs t s.1 s.2.1 s.2.2.1 s.2.2.2.1 s.2.2.2.2.1 s.2.2.2.2.2 = _ from T.val_of_get (c_t t xs hx a b ha hb s)]
    rw [decide_eq_true (by omega : (b : Int) < (xs.length : Int)), decide_eq_true ha, decide_eq_true hb, decide_eq_true (by omega : a + 1 ≤ xs.length), decide_eq_true (by omega : b + 1 ≤ xs.length)]
    cases decide (a = b) <;> rfl
  · simp only [impl_pairs.l4.st, impl_pairs.l4.s, T.get]
    rw [decide_eq_false (by omega)]
    rfl
theorem all_t (t : Nat) (xs : List Int) (hx : xs.length ≤ 24) : (impl_choices.t xs.length xs t false 0 0 0 0 0).get = some ((quads xs.length).foldl (fun s x => keepI t xs x s) (false, 0, 0, 0, 0, 0)) := by
  have h : impl_pairs.l1.r (xs.length, (xs.length : Int), xs, xs.length, t) (0, false, 0, 0, 0, 0, 0) = some (nA (keepI t xs) xs.length (false, 0, 0, 0, 0, 0)) := by
    refine (loop_fold (step := impl_pairs.l1.st (xs.length, (xs.length : Int), xs, xs.length, t)) (fun x (s : BC) => (x, s)) (fun a => nB (keepI t xs) xs.length a) (fun s => s) (fun _ => True) xs.length (by omega) (false, 0, 0, 0, 0, 0) trivial (fun a s ha _ => ⟨?_, trivial⟩) (fun s _ => ?_)).1
    · have hb : impl_pairs.l4.r (xs.length, (a : Int), (xs.length : Int), (a : Int), (xs.length : Int), xs, xs.length, t) (0, s.1, s.2.1, s.2.2.1, s.2.2.2.1, s.2.2.2.2.1, s.2.2.2.2.2) = some (nB (keepI t xs) xs.length a s) := b_r t xs hx a ha s
      simp only [impl_pairs.l1.st, impl_pairs.l1.s, T.get, hb]
      rw [decide_eq_true (by omega : (a : Int) < (xs.length : Int))]
      rfl
    · simp only [impl_pairs.l1.st, impl_pairs.l1.s, T.get]
      rw [decide_eq_false (by omega)]
      rfl
  rw [nA_quads] at h
  have h2 : (impl_pairs.t xs.length xs xs.length t false 0 0 0 0 0).get = some ((quads xs.length).foldl (fun s x => keepI t xs x s) (false, 0, 0, 0, 0, 0)) := by
    simp only [impl_pairs.t, T.get, h, Option.isSome_some, Option.getD_some, cond_true]
  simp only [impl_choices.t, T.get, show impl_pairs.ok xs.length xs xs.length t false 0 0 0 0 0 = true from T.ok_of_get (h2), show impl_pairs xs.length xs xs.length t false 0 0 0 0 0 = _ from T.val_of_get (h2), cond_true]
theorem best_t (xs : List Int) (t : Nat) (hx : xs.length < 1099511627776) : ∃ r, (spec_BestChoice.t xs.length t xs).get = some r ∧ (impl_BestChoice.t xs.length t xs).get = some r := by
  simp only [spec_BestChoice.t, impl_BestChoice.t, T.get, target_eq, show spec_l05Asked.ok xs.length t 0 xs = true from T.ok_of_get (asked_t xs t 0 hx), show spec_l05Asked xs.length t 0 xs = _ from T.val_of_get (asked_t xs t 0 hx), show impl_boxCode.ok xs.length (spec_l05Target t) xs = true from T.ok_of_get (bcode_t xs (spec_l05Target t) hx), show impl_boxCode xs.length (spec_l05Target t) xs = _ from T.val_of_get (bcode_t xs (spec_l05Target t) hx), part_0, Bool.and_true]
  cases hb : spec_l05Ok xs.length xs with
  | false => exact ⟨_, rfl, rfl⟩
  | true =>
    cases spec_l05Target t with
    | false => exact ⟨_, rfl, rfl⟩
    | true =>
      obtain ⟨_, h24⟩ := box_le xs hx hb
      have hw : IntKind.wrap .i16 (xs.length : Int) = (xs.length : Int) := wrap16 rfl (by omega)
      simp only [hw, show spec_l05Choices.ok (xs.length : Int) = true from T.ok_of_get (choices_t xs.length h24), show spec_l05Choices (xs.length : Int) = _ from T.val_of_get (choices_t xs.length h24), show impl_choices.ok xs.length xs t false 0 0 0 0 0 = true from T.ok_of_get (all_t t xs h24), show impl_choices xs.length xs t false 0 0 0 0 0 = _ from T.val_of_get (all_t t xs h24)]
      have hlt := quads_lt xs.length
      have hbest := best_r t xs h24
      generalize hqs : quads xs.length = qs at hlt hbest ⊢
      cases qs with
      | nil => exact ⟨_, rfl, rfl⟩
      | cons x r =>
        obtain ⟨p1, p2, p3, p4⟩ := hlt x (by simp)
        have hbest := hbest (by simp) (spec_l05Off (facQ xs x) t, (x.1 : Int), (x.2.1 : Int), (x.2.2.1 : Int), (x.2.2.2 : Int))
        have hi : (x :: r).foldl (fun s x => keepI t xs x s) (false, 0, 0, 0, 0, 0) = (true, r.foldl (fun s x => keepS t xs x s) (spec_l05Off (facQ xs x) t, (x.1 : Int), (x.2.1 : Int), (x.2.2.1 : Int), (x.2.2.2 : Int))) := by
          rw [List.foldl_cons, ← keep_rel]
          rfl
        rw [hi]
        obtain ⟨a, b, c, d⟩ := x
        have hf := fac_t xs a b c d p1 p2 p3 p4
        have hz : (((((a, b, c, d) :: r).length : Nat) : Int) == 0) = false := by
          rw [beq_eq_false_iff_ne]
          simp only [List.length_cons]
          omega
        have hb0 : bounds 0 ((a, b, c, d) :: r : List Quad).length = true := by
          unfold bounds
          rw [decide_eq_true (by omega), decide_eq_true (by simp only [List.length_cons]; omega)]
          rfl
        have hb4 : Nat.ble 4 (encQ ((a, b, c, d) :: r)).length = true := by
          rw [encQ_length, ble_decide, decide_eq_true]
          simp only [List.length_cons]
          omega
        have g : (encQ ((a, b, c, d) :: r)).getD 0 0 = (a : Int) ∧ (encQ ((a, b, c, d) :: r)).getD 1 0 = (b : Int) ∧ (encQ ((a, b, c, d) :: r)).getD 2 0 = (c : Int) ∧ (encQ ((a, b, c, d) :: r)).getD 3 0 = (d : Int) := ⟨rfl, rfl, rfl, rfl⟩
        obtain ⟨g1, g2, g3, g4⟩ := g
        dsimp only at hbest
        simp only [hz, hb0, hb4, g1, g2, g3, g4, show spec_l05Factor.ok xs.length (a : Int) (b : Int) (c : Int) (d : Int) xs = true from T.ok_of_get (hf), show spec_l05Factor xs.length (a : Int) (b : Int) (c : Int) (d : Int) xs = _ from T.val_of_get (hf), hbest, Option.isSome_some, Option.getD_some, cond_true, cond_false, List.drop_one, List.tail_cons]
        exact ⟨_, rfl, rfl⟩
theorem law_holds (x1 : Nat) (xs : List Int) : (laws_FnExactBestChoice.t xs.length x1 xs).get = some true := by
  have eqC_t : ∀ x0 x1 x2 x3, (laws_eqChoice.t x0 x1 x2 x3 x0 x1 x2 x3).get = some true := fun x0 x1 x2 x3 => by
    simp only [laws_eqChoice.t, T.get]
    simp
  simp only [laws_FnExactBestChoice.t, T.get]
  by_cases hb : (xs.length : Int) > 1048576
  · rw [decide_eq_true hb]
    rfl
  · rw [decide_eq_false hb]
    have hl : xs.length < 1099511627776 := by omega
    obtain ⟨r, h1, h2⟩ := best_t xs x1 hl
    simp only [to_ok xs hl, to_eq xs hl, eqI_ok xs hl, eqI_eq xs hl, show spec_BestChoice.ok xs.length x1 xs = true from T.ok_of_get (h1), show spec_BestChoice xs.length x1 xs = r from T.val_of_get (h1), show impl_BestChoice.ok xs.length x1 xs = true from T.ok_of_get (h2), show impl_BestChoice xs.length x1 xs = r from T.val_of_get (h2), open_wide, same_refl, show ∀ x0 x1 x2 x3, laws_eqChoice x0 x1 x2 x3 x0 x1 x2 x3 = true from fun x0 x1 x2 x3 => T.val_of_get (eqC_t x0 x1 x2 x3)]
    simp

theorem law_plain (x1 : Nat) (xs0 : List Int) (f0 : ∀ x ∈ xs0, (IntKind.min .i16 ≤ x ∧ x ≤ IntKind.max .i16)) (y0 : List.length xs0 ≤ maxLen) (f1 : flHas .f32 x1) : (laws_FnExactBestChoice.tr (xs0.length, x1, xs0)).get = some true := law_holds x1 xs0
theorem own : ownKnob Try.prog.godebug = none := by kernel_rfl
theorem laidOut : laidOutB Try.prog = true := by kernel_rfl
theorem ground {W : World} (h : W.ShapedOpen Try.prog) : Sx.Ground W := ground_of (by kernel_rfl) h
theorem lifted (os : Os) (started : os.Started) (H : Type) (enc : TypeId × Value → H) :
    ReturnsInHanded {} Try.checked os 13 .any (Rows.fnExactBestChoiceSpec.pre6 enc Try.prog Try.f13 Rows.fnExactBestChoiceRow.domain false) (Rows.fnExactBestChoiceSpec.post enc Try.prog Try.f13 false true false false) := by
  refine returnsInHanded_of_change_shaped (C := Try.checked) own started (by kernel_rfl) Try.func13
    (ChangeSpec.witness6 (enc := enc) (C := Try.checked) false ⟨#[], #[.slice none 0 0, .float .f32 0], []⟩ 8 (by kernel_rfl) (by kernel_rfl) (by kernel_rfl) (by kernel_rfl)) ?_
  intro W base args ds gs before hval0 hW hcnd _ hsh _
  have hG := ground hsh
  have hval : ∀ (j : Nat) t v, Try.f13.params[j]? = some t → args[j]? = some v → Value.okWide Try.prog W .any base t v := hval0
  have hW' := hW
  obtain ⟨p, q, hA0, hV, rfl, hfz, hnd⟩ := hW
  have hA : DataW.TrodAll enc Try.prog W 0 (fun _ => true) true Try.f13.params.toList args.toList ds p := hA0
  rw [Try.params13] at hA hval
  obtain ⟨v0, vs0, d0, ds0, p0, q0, hargs, rfl, rfl, h0, rr0⟩ := trodAll_cons hA
  obtain ⟨v1, vs1, d1, ds1, p1, q1, rfl, rfl, rfl, h1, rr1⟩ := trodAll_cons rr0
  obtain ⟨rfl, rfl, rfl⟩ := trodAll_nil rr1
  obtain rfl : args = #[v0, v1] := by cases args; simp_all
  obtain ⟨rfl, rfl⟩ := trodVars_none hV
  have k0 := h0
  have lt0 : ∀ x ∈ p0, x.block < W.heap.size := by obtain ⟨m, hm⟩ := k0; exact DataW.trod_lt m _ _ _ hm
  obtain ⟨l0, xs0, w0, r0, f0, y0⟩ := open_its Try.underlying22 Try.underlying47 (by kernel_rfl) hG (hval 0 22 v0 rfl rfl) k0
  have k1 := h1
  have lt1 : ∀ x ∈ p1, x.block < W.heap.size := by obtain ⟨m, hm⟩ := k1; exact DataW.trod_lt m _ _ _ hm
  obtain ⟨x1, r1, f1⟩ := sc_fl Try.underlying26 (cell_of Try.underlying26 rfl (hval 1 26 v1 rfl rfl))
  clear hA0 hval0
  refine (laws_FnExactBestChoice.walk (xs0.length, x1, xs0) (law_plain x1 xs0 f0 y0 f1) (ρ := fun i => (lget ([(l0, .is .i16 xs0)] : List (Sx.Loc × Cells)) i).map (·.1)) (Rs_cons' (r0 _ 0 rfl) (Rs_cons' (r1 _) Rs_nil')) (HpR.ofRo [(l0, .is .i16 xs0)] ((List.forall_mem_cons.2 ⟨w0, List.forall_mem_nil _⟩)))).mono fun e W' ⟨he, bel⟩ => ?_
  subst he
  exact ⟨_, rfl, _, _, _, [], _, [], hW', trodAll_mk1 (shut_bool Try.underlying4 _), (trodAll_cons_mk (Below.trod laidOut (by kernel_rfl) (of_decide_eq_true (by kernel_rfl)) k0 bel lt0) (trodAll_cons_mk (Below.trod laidOut (by kernel_rfl) (of_decide_eq_true (by kernel_rfl)) k1 bel lt1) trodAll_mk0)), rfl, bel.frame _, fun h => by cases h⟩
theorem over : Rows.fnExactBestChoiceRow.holds Try.pinned (OpenSpec.ofChange Rows.fnExactBestChoiceSpec) :=
  OpenClaim.holds_of_wide 13 Try.f13 rfl rfl rfl rfl rfl rfl rfl ⟨rfl, rfl, rfl, rfl, rfl⟩ rfl rfl rfl rfl rfl (by kernel_rfl) Try.func13 (by kernel_rfl)
    (of_decide_eq_true (by kernel_rfl)) (by unfold Func.isWrapper; first | (rw [if_pos (by decide +kernel)]; kernel_rfl) | (rw [if_neg (by decide +kernel)]; exact ⟨rfl, rfl⟩))
    (fun os started H enc _ => lifted os started H enc)
theorem proved : Rows.FnExactBestChoiceSaid := over
end Go.Proofs.Ythllapodgemlfaa
