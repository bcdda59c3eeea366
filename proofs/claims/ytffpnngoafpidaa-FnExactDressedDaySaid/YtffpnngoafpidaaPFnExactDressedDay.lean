/- For every input the call of FnExactDressedDay returns true, and each argument reads afterwards as it read before; there is no condition. -/
import Derived.Test.YtffpnngoafpidaaWFnExactDressedDay
import Derived.Test.YtffpnngoafpidaaSxS
import Derived.Test.YtffpnngoafpidaaRows
import Derived.WalkKit
import Derived.ProofKit
import Derived.OpenShut
import Derived.ShutString
import Derived.ChangeOld
import Derived.Below
import Derived.Carry
import Derived.HandedShaped
namespace Go.Proofs.Ytffpnngoafpidaa
open Go Go.RowKit Sx
open Go.ChangeShapes Go.WideShapes Go.ChangeAt
set_option linter.unusedVariables false
set_option linter.unusedSimpArgs false
set_option maxRecDepth 100000

theorem rate_eq (x : Nat) : impl_IsRate x = spec_l04Rate x := by
  simp only [impl_IsRate, impl_IsRate.t, impl_between, impl_between.t, spec_l04Rate, spec_l04Rate.t, T.val, fge_flip]

theorem part_eq (x : Nat) : impl_IsPart x = spec_l01Part x := by
  simp only [impl_IsPart, impl_IsPart.t, impl_between, impl_between.t, spec_l01Part, spec_l01Part.t, T.val, fge_flip]

theorem stone_eq (x0 x1 x2 x3 : Nat) : laws_toStone x0 x1 x2 x3 = (x0, x1, x2, x3) := rfl
theorem valid_eq (x0 x1 x2 x3 : Nat) : impl_ValidStone x0 x1 x2 x3 = spec_l04Ok x0 x1 x2 x3 := by
  simp only [impl_ValidStone, impl_ValidStone.t, spec_l04Ok, spec_l04Ok.t, T.val, rate_eq, part_eq]

theorem amount_eq (x : Nat) : impl_isAmount x = spec_l03Amount x := by
  simp only [impl_isAmount, impl_isAmount.t, impl_between, impl_between.t, spec_l03Amount, spec_l03Amount.t, T.val, fge_flip]

-- lies in the core (SxQ)

theorem rate_0 : spec_l04Rate 0 = true := by kernel_rfl
theorem load1_eq (x0 x1 x2 x3 a b : Nat) : impl_Stone_load a b x0 x1 x2 x3 = spec_l04Load x0 x1 x2 x3 a b := rfl
theorem sum_r (x0 x1 x2 x3 a b : Nat) : spec_l04Sum.l3.r (1, a, b, [x0, x1, x2, x3]) (0, 0) = some (fadd .f32 0 (spec_l04Load x0 x1 x2 x3 a b)) := by
  have hf := iter_run (step := spec_l04Sum.l3.st (1, a, b, [x0, x1, x2, x3])) (f := fun i => if i = 0 then (0, 0) else (fadd .f32 0 (spec_l04Load x0 x1 x2 x3 a b), 1)) (e := fadd .f32 0 (spec_l04Load x0 x1 x2 x3 a b)) (n := 1) (N := manyRounds) (k := 0)
    (many_lt (by omega)) (fun i hi => ?_) ?_
  · exact hf
  · have : i = 0 := by omega
    subst this
    rfl
  · rfl
theorem sum_t (x0 x1 x2 x3 a b : Nat) : (spec_l04Sum.t 1 a b [x0, x1, x2, x3]).get = some (fadd .f32 0 (spec_l04Load x0 x1 x2 x3 a b)) := by
  simp only [spec_l04Sum.t, T.get, sum_r]
  rfl
theorem sum_ok (x0 x1 x2 x3 a b : Nat) : spec_l04Sum.ok 1 a b [x0, x1, x2, x3] = true := T.ok_of_get (sum_t x0 x1 x2 x3 a b)
theorem sum_eq (x0 x1 x2 x3 a b : Nat) : spec_l04Sum 1 a b [x0, x1, x2, x3] = fadd .f32 0 (spec_l04Load x0 x1 x2 x3 a b) := T.val_of_get (sum_t x0 x1 x2 x3 a b)
theorem sum_gt (x0 x1 x2 x3 a b c : Nat) : fgt .f32 (spec_l04Sum 1 a b [x0, x1, x2, x3]) c = fgt .f32 (spec_l04Load x0 x1 x2 x3 a b) c := by
  rw [sum_eq]
  exact add_zero_gt .f32 _ c (fadd_has .f32 _ _)
theorem bisect (x0 x1 x2 x3 t f : Nat) (n : Int) (hn : n ≤ 60) : ∃ e, spec_l04Steady.l6.r (1, t, f, n, [x0, x1, x2, x3]) (0, 1149239296, 0) = some e ∧ impl_steady.l3.r (t, n, f, x0, x1, x2, x3) (0, 1149239296, 0) = some e := by
  obtain ⟨e, e', h1, h2, rfl⟩ := iter_two (step := spec_l04Steady.l6.st (1, t, f, n, [x0, x1, x2, x3])) (step' := impl_steady.l3.st (t, n, f, x0, x1, x2, x3)) (R := fun s t => s = t ∧ ∃ i : Nat, i ≤ 61 ∧ s.2.2 = (i : Int)) (E := fun e e' => e = e') (fun s => 61 - s.2.2.toNat) (by
    rintro ⟨a, b, c⟩ _ ⟨rfl, i, hi, hc⟩
    dsimp only at hc
    subst hc
    simp only [spec_l04Steady.l6.st, spec_l04Steady.l6.s, impl_steady.l3.st, impl_steady.l3.s, T.get, sum_ok, sum_gt, impl_halved, impl_halved.t, impl_Stone_steadySpeed_1, impl_Stone_steadySpeed_1.t, T.val, load1_eq]
    by_cases hlt : (i : Int) < n
    · rw [decide_eq_true hlt, wrap64_succ (by omega)]
      simp only [cond_true]
      cases fgt .f32 (spec_l04Load x0 x1 x2 x3 (fdiv .f32 (fadd .f32 a b) 1073741824) f) t with
      | true => exact .inl ⟨_, _, rfl, rfl, ⟨rfl, i + 1, by omega, rfl⟩, by dsimp only; omega⟩
      | false => exact .inl ⟨_, _, rfl, rfl, ⟨rfl, i + 1, by omega, rfl⟩, by dsimp only; omega⟩
    · rw [decide_eq_false hlt]
      exact .inr ⟨_, _, rfl, rfl, rfl⟩) manyRounds (0, 1149239296, 0) (0, 1149239296, 0) ⟨rfl, 0, by omega, rfl⟩ (many_lt (by simp))
  exact ⟨e, h1, h2⟩
theorem steady_t (x0 x1 x2 x3 t f : Nat) (n : Int) (hn : n ≤ 60) : ∃ r, (spec_l04Steady.t 1 t f n [x0, x1, x2, x3]).get = some r ∧ (impl_Stone_steadySpeed.t t f n x0 x1 x2 x3).get = some r := by
  obtain ⟨e, h1, h2⟩ := bisect x0 x1 x2 x3 t f n hn
  have h3 : (impl_steady.t t n f x0 x1 x2 x3).get = some e := by
    simp only [impl_steady.t, T.get, h2]
    rfl
  simp only [spec_l04Steady.t, impl_Stone_steadySpeed.t, T.get, sum_ok, sum_gt, impl_Stone_steadySpeed_1, impl_Stone_steadySpeed_1.t, T.val, load1_eq, h1, cond_true]
  rw [show impl_steady.ok t n f x0 x1 x2 x3 = true from T.ok_of_get h3, show impl_steady t n f x0 x1 x2 x3 = e from T.val_of_get h3]
  cases fgt .f32 (spec_l04Load x0 x1 x2 x3 0 f) t <;> exact ⟨_, rfl, rfl⟩

-- lies in the core (SxQ)

theorem least_eq (x : Nat) : impl_atLeast0 x = spec_l03Least x := by
  simp only [impl_atLeast0, impl_atLeast0.t, spec_l03Least, spec_l03Least.t, T.val]

theorem dull_eq (x0 x1 x2 x3 x4 : Nat) : impl_Stone_dull x4 x0 x1 x2 x3 = spec_l04Dulled x0 x1 x2 x3 x4 := by
  simp only [impl_Stone_dull, impl_Stone_dull.t, spec_l04Dulled, spec_l04Dulled.t, T.val, least_eq]
theorem hour_t (x0 x1 x2 x3 x4 x5 : Nat) : ∃ a b c d f, (spec_l04Hour.t x0 x1 x2 x3 x4 x5).get = some (a, b, c, d, f) ∧ (impl_Stone_hour.t x4 x5 x0 x1 x2 x3).get = some (f, a, b, c, d) := by
  obtain ⟨⟨s, ok⟩, h1, h2⟩ := steady_t x0 x1 x2 x3 x4 x5 40 (by omega)
  simp only [spec_l04Hour.t, impl_Stone_hour.t, T.get, impl_Stone_flour, impl_Stone_flour.t, spec_l04Flour, spec_l04Flour.t, T.val, fmin_amount, dull_eq,
    show spec_l04Steady.ok 1 x4 x5 40 [x0, x1, x2, x3] = true from T.ok_of_get h1, show spec_l04Steady 1 x4 x5 40 [x0, x1, x2, x3] = (s, ok) from T.val_of_get h1,
    show impl_Stone_steadySpeed.ok x4 x5 40 x0 x1 x2 x3 = true from T.ok_of_get h2, show impl_Stone_steadySpeed x4 x5 40 x0 x1 x2 x3 = (s, ok) from T.val_of_get h2]
  cases ok
  · exact ⟨_, _, _, _, _, rfl, rfl⟩
  · cases fgt .f32 (fmul .f32 (fmul .f32 s x5) x3) 1233125376 <;> exact ⟨_, _, _, _, _, rfl, rfl⟩

/-- Whether all loads are amounts. -/
noncomputable def allAm (xs : List Nat) : Bool := !anyAt (fun i => !spec_l03Amount (xs.getD i 0)) xs.length

theorem bad_eq (x : Nat) : impl_areAmounts_1 x = !spec_l03Amount x := by
  simp only [impl_areAmounts_1, impl_areAmounts_1.t, T.val, amount_eq]
theorem index_r (xs : List Nat) (h : xs.length < 9223372036854775807) : slices_IndexFunc_float32_float32.l2.r (xs.length, ((xs.length : Nat) : Int), xs) 0 = some (match firstAt (fun i => !spec_l03Amount (xs.getD i 0)) xs.length 0 with | some i => (Sum.inl (i : Int) : Int ⊕ Unit) | none => Sum.inr ()) := by
  refine iter_first (fun i => !spec_l03Amount (xs.getD i 0)) (fun i => (Sum.inl (i : Int) : Int ⊕ Unit)) (.inr ()) xs.length h (fun i hi => ?_) ?_
  · simp only [slices_IndexFunc_float32_float32.l2.st, slices_IndexFunc_float32_float32.l2.s, T.get, bounds_nat, ble_decide, Int.toNat_natCast, Nat.mul_one, bad_eq]
    rw [decide_eq_true (by omega : (i : Int) < (xs.length : Int)), decide_eq_true hi, decide_eq_true (by omega : i + 1 ≤ xs.length)]
    cases spec_l03Amount (xs.getD i 0) <;> rfl
  · simp only [slices_IndexFunc_float32_float32.l2.st, slices_IndexFunc_float32_float32.l2.s, T.get]
    rw [decide_eq_false (by omega)]
    rfl
theorem contains_t (xs : List Nat) (h : xs.length < 9223372036854775807) : (slices_ContainsFunc_float32_float32.t xs.length xs).get = some (!allAm xs) := by
  have h1 : (slices_IndexFunc_float32_float32.t xs.length xs).get = some (match firstAt (fun i => !spec_l03Amount (xs.getD i 0)) xs.length 0 with | some i => (i : Int) | none => -1) := by
    simp only [slices_IndexFunc_float32_float32.t, T.get, index_r xs h, Option.isSome_some, cond_true, Option.getD_some]
    cases firstAt (fun i => !spec_l03Amount (xs.getD i 0)) xs.length 0 <;> rfl
  simp only [slices_ContainsFunc_float32_float32.t, T.get, show slices_IndexFunc_float32_float32.ok xs.length xs = true from T.ok_of_get h1, show slices_IndexFunc_float32_float32 xs.length xs = _ from T.val_of_get h1, cond_true]
  unfold allAm
  rw [← firstAt_any, Bool.not_not]
  cases firstAt (fun i => !spec_l03Amount (xs.getD i 0)) xs.length 0 with
  | none => rfl
  | some i =>
    simp only [Option.isSome_some, Option.some.injEq, decide_eq_true_eq]
    omega

theorem foldF_false (p : Nat → Bool) : ∀ n k, foldF (fun i s => s && p i) n k false = false
  | 0, k => rfl
  | n + 1, k => foldF_false p n (k + 1)
theorem foldF_first (p : Nat → Bool) : ∀ n k, foldF (fun i s => s && p i) n k true = !(firstAt (fun i => !p i) n k).isSome
  | 0, k => rfl
  | n + 1, k => by
    unfold foldF firstAt
    cases p k with
    | true => exact foldF_first p n (k + 1)
    | false => exact foldF_false p n (k + 1)
theorem foldF_and (p : Nat → Bool) (n : Nat) (b : Bool) : foldF (fun i s => s && p i) n 0 b = (b && !anyAt (fun i => !p i) n) := by
  cases b with
  | false => exact foldF_false p n 0
  | true => rw [foldF_first, firstAt_any]; rfl

theorem day_t (x0 x1 x2 x3 x5 : Nat) (fine : Bool) (xs : List Nat) (h : xs.length < 1099511627776) : (spec_l04Day.t x0 x1 x2 x3 xs.length x5 fine xs).get = some (bif spec_l04Ok x0 x1 x2 x3 then (bif spec_l04Rate x5 && (fine && allAm xs) then (bif decide ((xs.length : Int) > 60) then 3 else 0) else 2) else 1) := by
  have h1 : ∀ c, spec_l04Day.l3.r (xs.length, c, xs) (fine, 0) = some (fine && allAm xs) := by
    intro c
    have hf := (loop_fold (step := spec_l04Day.l3.st (xs.length, c, xs)) (fun c (s : Bool) => (s, c)) (fun i s => s && spec_l03Amount (xs.getD i 0)) (fun s => s) (fun _ => True) xs.length (by omega) fine trivial (fun i s hi _ => ⟨?_, trivial⟩) (fun s _ => ?_)).1
    · rw [foldF_and] at hf
      exact hf
    · simp only [spec_l04Day.l3.st, spec_l04Day.l3.s, T.get, bounds_nat, ble_decide, Int.toNat_natCast, Nat.mul_one]
      rw [decide_eq_true (by omega : (i : Int) < (xs.length : Int)), decide_eq_true hi, decide_eq_true (by omega : i + 1 ≤ xs.length)]
      cases s <;> rfl
    · simp only [spec_l04Day.l3.st, spec_l04Day.l3.s, T.get]
      rw [decide_eq_false (by omega)]
      rfl
  have ha : spec_l04Asked x0 x1 x2 x3 0 x5 = bif spec_l04Ok x0 x1 x2 x3 then (bif spec_l04Rate x5 then 0 else 2) else 1 := by
    simp only [spec_l04Asked, spec_l04Asked.t, T.val, rate_0]
    cases spec_l04Ok x0 x1 x2 x3 <;> cases spec_l04Rate x5 <;> rfl
  simp only [spec_l04Day.t, T.get, h1, ha, Option.isSome_some, Option.getD_some]
  cases spec_l04Ok x0 x1 x2 x3 <;> cases spec_l04Rate x5 <;> cases fine <;> cases allAm xs <;> cases decide ((xs.length : Int) > 60) <;> rfl
theorem amounts_t (xs : List Nat) (h : xs.length < 9223372036854775807) : (impl_areAmounts.t xs.length xs).get = some (allAm xs) := by
  simp only [impl_areAmounts.t, T.get, show slices_ContainsFunc_float32_float32.ok xs.length xs = true from T.ok_of_get (contains_t xs h), show slices_ContainsFunc_float32_float32 xs.length xs = _ from T.val_of_get (contains_t xs h), cond_true, Bool.not_not]
theorem code_eq (x0 x1 x2 x3 : Nat) (b : Bool) : impl_stoneCode x0 x1 x2 x3 b = bif spec_l04Ok x0 x1 x2 x3 then (bif b then 0 else 2) else 1 := by
  simp only [impl_stoneCode, impl_stoneCode.t, T.val, valid_eq]
  cases spec_l04Ok x0 x1 x2 x3 <;> cases b <;> rfl
theorem cond1 (x : Nat) (l n : Nat) (hl : l = n) (hn : n ≤ 60) : (Nat.ble 1 (List.length [x]) && (Nat.beq l (n * 1) && Nat.ble ((n + 1) * 4) 35184372088832 && Nat.ble (n + 1) 35184372088832)) = true := by
  rw [hl, Nat.mul_one, Nat.beq_refl, ble_decide, ble_decide, ble_decide, decide_eq_true (by simp : 1 ≤ List.length [x]), decide_eq_true (by omega : (n + 1) * 4 ≤ 35184372088832), decide_eq_true (by omega : n + 1 ≤ 35184372088832)]
  rfl

theorem to_r (xs : List Nat) (h : xs.length < 1099511627776) : laws_toFloat32S.l3.r (xs.length, xs.length, xs) ((0 : Int), List.replicate (xs.length * 1) 0) = some xs := copy_run 0 xs (by omega)
theorem to_t (xs : List Nat) (h : xs.length < 1099511627776) : (laws_toFloat32S.t xs.length xs).get = some (xs.length, xs) := by
  simp only [laws_toFloat32S.t, T.get, Int.toNat_natCast, to_r xs h, Option.isSome_some, cond_true, Option.getD_some]
  rw [decide_eq_true (by omega), decide_eq_true (by omega), decide_eq_true (by omega), decide_eq_true (by omega)]
  rfl
theorem to_ok (xs : List Nat) (h : xs.length < 1099511627776) : laws_toFloat32S.ok xs.length xs = true := T.ok_of_get (to_t xs h)
theorem to_eq (xs : List Nat) (h : xs.length < 1099511627776) : laws_toFloat32S xs.length xs = (xs.length, xs) := T.val_of_get (to_t xs h)

theorem same_refl (x : Nat) : laws_sameFloat x x = true := same_self (s := laws_sameFloat.t) (fun _ _ => rfl) x

theorem eqStone_t (x0 x1 x2 x3 : Nat) : (laws_eqStone.t x0 x1 x2 x3 x0 x1 x2 x3).get = some true := by
  simp only [laws_eqStone.t, T.get, open_wide, same_refl]
  simp
theorem eqStone_ok (x0 x1 x2 x3 : Nat) : laws_eqStone.ok x0 x1 x2 x3 x0 x1 x2 x3 = true := T.ok_of_get (eqStone_t x0 x1 x2 x3)
theorem eqStone_eq (x0 x1 x2 x3 : Nat) : laws_eqStone x0 x1 x2 x3 x0 x1 x2 x3 = true := T.val_of_get (eqStone_t x0 x1 x2 x3)

theorem eqF0_t : (laws_eqFloat32S.t 0 []).get = some true := by
  have h : laws_eqFloat32S.l4.r (0, (0 : Int), []) () = some () := iter_run (step := laws_eqFloat32S.l4.st (0, (0 : Int), [])) (f := fun _ => ()) (e := ()) (n := 0) (N := manyRounds) (k := 0) (many_lt (by omega)) (fun i hi => absurd hi (by omega)) rfl
  simp only [laws_eqFloat32S.t, T.get, h]
  rfl
theorem markF0_t : (laws_markFloat32S_w1.t 1).get = some 1 := by
  have h : laws_markFloat32S_w1.l2.r (1, (0 : Int)) () = some () := iter_run (step := laws_markFloat32S_w1.l2.st (1, (0 : Int))) (f := fun _ => ()) (e := ()) (n := 0) (N := manyRounds) (k := 0) (many_lt (by omega)) (fun i hi => absurd hi (by omega)) rfl
  simp only [laws_markFloat32S_w1.t, T.get, h]
  rfl
theorem heldF0_t : (laws_heldFloat32S.t 1).get = some 1 := by
  have h : laws_heldFloat32S.l2.r (1, (0 : Int)) () = some () := iter_run (step := laws_heldFloat32S.l2.st (1, (0 : Int))) (f := fun _ => ()) (e := ()) (n := 0) (N := manyRounds) (k := 0) (many_lt (by omega)) (fun i hi => absurd hi (by omega)) rfl
  simp only [laws_heldFloat32S.t, T.get, h]
  rfl

theorem eq_r (xs : List Nat) (h : xs.length < 1099511627776) : laws_eqFloat32S_w1.l4.r (xs.length, xs.length, xs, xs) 0 = some (.inr ()) := by
  refine iter_count xs.length (by omega) (fun i hi => ?_) ?_
  · simp only [laws_eqFloat32S_w1.l4.st, laws_eqFloat32S_w1.l4.s, T.get, bounds_nat, ble_decide, open_wide, same_refl, Int.toNat_natCast, Nat.mul_one]
    rw [decide_eq_true (by omega), decide_eq_true hi, decide_eq_true (by omega)]
    rfl
  · simp only [laws_eqFloat32S_w1.l4.st, laws_eqFloat32S_w1.l4.s, T.get]
    rw [decide_eq_false (by omega)]
    rfl
theorem eqF_t (xs : List Nat) (h : xs.length < 1099511627776) : (laws_eqFloat32S_w1.t xs.length xs.length xs xs).get = some true := by
  simp only [laws_eqFloat32S_w1.t, T.get, eq_r xs h]
  simp
theorem eqF_ok (xs : List Nat) (h : xs.length < 1099511627776) : laws_eqFloat32S_w1.ok xs.length xs.length xs xs = true := T.ok_of_get (eqF_t xs h)
theorem eqF_eq (xs : List Nat) (h : xs.length < 1099511627776) : laws_eqFloat32S_w1 xs.length xs.length xs xs = true := T.val_of_get (eqF_t xs h)

/-- The first i numbers are marked, from k on. -/
def markedF (k n i : Nat) (ys : List Nat) : Prop := ys.length = n ∧ ∀ j, j < i → ys.getD j 0 = fofint .f32 ((k + j : Nat) : Int)
theorem markF_t (xs : List Nat) (k : Nat) (hk : k + xs.length < 9223372036854775807) : ∃ ys, (laws_markFloat32S.t xs.length (k : Int) xs).get = some (((k + xs.length : Nat) : Int), ys) ∧ markedF k xs.length xs.length ys := by
  obtain ⟨ys, h1, h2⟩ := mark_ends (step := laws_markFloat32S.l2.st xs.length) (markedF k xs.length) k 1 xs.length (by omega) xs ⟨rfl, fun j hj => by omega⟩ (fun i ys hi hQ => by
    obtain ⟨hl, hm⟩ := hQ
    refine ⟨ys.set i (fofint .f32 ((k + i : Nat) : Int)), ?_, ⟨by rw [List.length_set]; exact hl, fun j hj => ?_⟩⟩
    · simp only [laws_markFloat32S.l2.st, laws_markFloat32S.l2.s, T.get, bounds_nat, ble_decide, Int.toNat_natCast, Nat.mul_one, Nat.one_mul, hl]
      rw [decide_eq_true (by omega : (i : Int) < (xs.length : Int)), decide_eq_true hi, decide_eq_true (by omega : i + 1 ≤ xs.length), wrap64_succ (by omega), wrap64_succ (by omega)]
      rfl
    · rcases Nat.lt_or_ge j i with h | h
      · rw [lD_ne _ _ _ _ _ (by omega)]
        exact hm j h
      · have : j = i := by omega
        subst this
        exact lD_same _ _ _ _ (by omega)) (fun ys hQ => by
    simp only [laws_markFloat32S.l2.st, laws_markFloat32S.l2.s, T.get]
    rw [decide_eq_false (by omega)]
    rfl)
  refine ⟨ys, ?_, h2⟩
  have h3 : laws_markFloat32S.l2.r xs.length ((k : Int), (0 : Int), xs) = some (((k + xs.length : Nat) : Int), ys) := by
    rw [Nat.one_mul] at h1
    exact h1
  simp only [laws_markFloat32S.t, T.get, h3]
  rfl

theorem heldF_t (n k : Nat) (ys : List Nat) (hk : k + n < 9223372036854775807) (h : markedF k n n ys) : (laws_heldFloat32S_w1.t n (k : Int) ys).get = some (((k + n : Nat) : Int)) := by
  obtain ⟨hl, hm⟩ := h
  have h3 : laws_heldFloat32S_w1.l2.r (n, ys) ((k : Int), (0 : Int)) = some (.inr (((k + n : Nat) : Int))) := by
    refine held_run k 1 n (by omega) (fun i hi => ?_) ?_
    · simp only [laws_heldFloat32S_w1.l2.st, laws_heldFloat32S_w1.l2.s, T.get, bounds_nat, ble_decide, Int.toNat_natCast, Nat.mul_one, Nat.one_mul, hl, hm i hi, ofint_fne]
      rw [decide_eq_true (by omega : (i : Int) < (n : Int)), decide_eq_true hi, decide_eq_true (by omega : i + 1 ≤ n), wrap64_succ (by omega), wrap64_succ (by omega)]
      rfl
    · simp only [laws_heldFloat32S_w1.l2.st, laws_heldFloat32S_w1.l2.s, T.get, Nat.one_mul]
      rw [decide_eq_false (by omega)]
      rfl
  simp only [laws_heldFloat32S_w1.t, T.get, h3]
  rfl


theorem loop_r (x0 x1 x2 x3 x5 x6 : Nat) (xs : List Nat) (hl : xs.length ≤ 60) : ∃ a b c d n m out, spec_DressedDay.l7.r (xs.length, x5, x6, xs, 0, 0, 0, 0) (0, 0, 0, x0, x1, x2, x3, []) = some (n, m, a, b, c, d, out) ∧ impl_DressedDay.l8.r (x5, x6, xs.length, (xs.length : Int), xs, 0, 0, 0, 0) (0, 0, 0, x0, x1, x2, x3, []) = some (n, m, a, b, c, d, out) ∧ List.length out = n ∧ n ≤ 60 := by
  obtain ⟨e, e', h1, h2, h3, h4, rfl⟩ := iter_two (step := spec_DressedDay.l7.st (xs.length, x5, x6, xs, 0, 0, 0, 0)) (step' := impl_DressedDay.l8.st (x5, x6, xs.length, (xs.length : Int), xs, 0, 0, 0, 0)) (R := fun s t => s = t ∧ ∃ i : Nat, i ≤ xs.length ∧ s.1 = i ∧ s.2.2.1 = (i : Int) ∧ s.2.2.2.2.2.2.2.length = i) (E := fun e e' => e.2.2.2.2.2.2.length = e.1 ∧ e.1 ≤ 60 ∧ e = e') (fun s => xs.length - s.1) (by
    rintro ⟨n, m, k, a, b, c, d, out⟩ _ ⟨rfl, i, hi, hn, hk, ho⟩
    dsimp only at hn hk ho
    subst hn
    subst hk
    obtain ⟨a', b', c', d', f, q1, q2⟩ := hour_t a b c d (xs.getD n 0) x5
    simp only [spec_DressedDay.l7.st, spec_DressedDay.l7.s, impl_DressedDay.l8.st, impl_DressedDay.l8.s, T.get, bounds_nat, ble_decide, Int.toNat_natCast, Nat.mul_one, show spec_l04Hour.ok a b c d (xs.getD n 0) x5 = true from T.ok_of_get (q1), show spec_l04Hour a b c d (xs.getD n 0) x5 = (a', b', c', d', f) from T.val_of_get (q1), show impl_Stone_hour.ok (xs.getD n 0) x5 a b c d = true from T.ok_of_get (q2), show impl_Stone_hour (xs.getD n 0) x5 a b c d = (f, a', b', c', d') from T.val_of_get (q2)]
    by_cases hlt : n < xs.length
    · have hc := fun x => cond1 x out.length n ho (by omega)
      simp only [ble_decide, Nat.mul_one] at hc
      rw [decide_eq_true (by omega : (n : Int) < (xs.length : Int)), decide_eq_true hlt, decide_eq_true (by omega : n + 1 ≤ xs.length), wrap64_succ (by omega)]
      simp only [hc, cond_true]
      cases flt .f32 d x6 with
      | true => exact .inl ⟨_, _, rfl, rfl, ⟨rfl, n + 1, by omega, rfl, rfl, by simp [ho]⟩, by dsimp only; omega⟩
      | false => exact .inl ⟨_, _, rfl, rfl, ⟨rfl, n + 1, by omega, rfl, rfl, by simp [ho]⟩, by dsimp only; omega⟩
    · rw [decide_eq_false (by omega : ¬ (n : Int) < (xs.length : Int))]
      exact .inr ⟨_, _, rfl, rfl, ho, by dsimp only; omega, rfl⟩) manyRounds (0, 0, 0, x0, x1, x2, x3, []) (0, 0, 0, x0, x1, x2, x3, []) ⟨rfl, 0, by omega, rfl, rfl, rfl⟩ (many_lt (by dsimp only; omega))
  obtain ⟨n, m, a, b, c, d, out⟩ := e
  exact ⟨a, b, c, d, n, m, out, h1, h2, h3, h4⟩
theorem dressed_t (x0 x1 x2 x3 x5 x6 : Nat) (xs : List Nat) (h : xs.length < 1099511627776) :
    (∃ c, (spec_DressedDay.t x0 x1 x2 x3 xs.length x5 x6 xs).get = some (0, 0, 0, 0, 0, 0, c, []) ∧ (impl_DressedDay.t x0 x1 x2 x3 xs.length x5 x6 xs).get = some (.inl (0, 0, 0, 0, 0, c))) ∨
    (∃ a b c d n m out, List.length out = n ∧ n ≤ 60 ∧ (spec_DressedDay.t x0 x1 x2 x3 xs.length x5 x6 xs).get = some (a, b, c, d, n, m, 0, out) ∧ (impl_DressedDay.t x0 x1 x2 x3 xs.length x5 x6 xs).get = some (.inr (a, b, c, d, n, m, 0, out))) := by
  simp only [spec_DressedDay.t, impl_DressedDay.t, T.get, rate_eq, part_eq, code_eq, show spec_l04Day.ok x0 x1 x2 x3 xs.length x5 (spec_l01Part x6) xs = true from T.ok_of_get (day_t x0 x1 x2 x3 x5 (spec_l01Part x6) xs h), show spec_l04Day x0 x1 x2 x3 xs.length x5 (spec_l01Part x6) xs = _ from T.val_of_get (day_t x0 x1 x2 x3 x5 (spec_l01Part x6) xs h), show impl_areAmounts.ok xs.length xs = true from T.ok_of_get (amounts_t xs (by omega)), show impl_areAmounts xs.length xs = _ from T.val_of_get (amounts_t xs (by omega))]
  cases spec_l04Ok x0 x1 x2 x3 with
  | false => cases spec_l04Rate x5 <;> cases allAm xs <;> exact .inl ⟨_, rfl, rfl⟩
  | true =>
    cases spec_l04Rate x5 with
    | false => cases allAm xs <;> exact .inl ⟨_, rfl, rfl⟩
    | true =>
      cases allAm xs with
      | false => cases spec_l01Part x6 <;> exact .inl ⟨_, rfl, rfl⟩
      | true =>
        cases spec_l01Part x6 with
        | false => exact .inl ⟨_, rfl, rfl⟩
        | true =>
          by_cases hb : (xs.length : Int) > 60
          · rw [decide_eq_true hb]
            exact .inl ⟨_, rfl, rfl⟩
          · rw [decide_eq_false hb]
            obtain ⟨a, b, c, d, n, m, out, h1, h2, h3, h4⟩ := loop_r x0 x1 x2 x3 x5 x6 xs (by omega)
            rw [h1, h2]
            exact .inr ⟨a, b, c, d, n, m, out, h3, h4, rfl, rfl⟩
theorem law_holds (x0 x1 x2 x3 x5 x6 : Nat) (xs : List Nat) : (laws_FnExactDressedDay.t x0 x1 x2 x3 xs.length x5 x6 xs).get = some true := by
  simp only [laws_FnExactDressedDay.t, T.get]
  by_cases hb : (xs.length : Int) > 1048576
  · rw [decide_eq_true hb]
    rfl
  · rw [decide_eq_false hb]
    have hl : xs.length < 1099511627776 := by omega
    obtain ⟨ms, hm1, hm2⟩ := markF_t xs 1 (by omega)
    have hm1' : (laws_markFloat32S.t xs.length (1 : Int) xs).get = some (((1 + xs.length : Nat) : Int), ms) := hm1
    have hneg : decide (((1 + xs.length : Nat) : Int) < 0) = false := decide_eq_false (by omega)
    simp only [to_ok xs hl, to_eq xs hl, stone_eq, eqF_ok xs hl, eqF_eq xs hl, show laws_markFloat32S.ok xs.length (1 : Int) xs = true from T.ok_of_get (hm1'), show laws_markFloat32S xs.length (1 : Int) xs = _ from T.val_of_get (hm1'), hneg, cond_true, cond_false]
    rcases dressed_t x0 x1 x2 x3 x5 x6 xs hl with ⟨c, h1, h2⟩ | ⟨a, b, c, d, n, m, out, hn, hn2, h1, h2⟩
    · simp only [show spec_DressedDay.ok x0 x1 x2 x3 xs.length x5 x6 xs = true from T.ok_of_get (h1), show spec_DressedDay x0 x1 x2 x3 xs.length x5 x6 xs = _ from T.val_of_get (h1), show impl_DressedDay.ok x0 x1 x2 x3 xs.length x5 x6 xs = true from T.ok_of_get (h2), show impl_DressedDay x0 x1 x2 x3 xs.length x5 x6 xs = _ from T.val_of_get (h2), show laws_eqFloat32S.ok 0 [] = true from T.ok_of_get (eqF0_t), show laws_eqFloat32S 0 [] = _ from T.val_of_get (eqF0_t), show laws_markFloat32S_w1.ok 1 = true from T.ok_of_get (markF0_t), show laws_markFloat32S_w1 1 = _ from T.val_of_get (markF0_t), show laws_heldFloat32S.ok 1 = true from T.ok_of_get (heldF0_t), show laws_heldFloat32S 1 = _ from T.val_of_get (heldF0_t), getLeftD, Sum.isLeft, eqStone_ok, eqStone_eq]
      simp
    · subst hn
      obtain ⟨ys, h3, h4⟩ := markF_t out 1 (by omega)
      have h3' : (laws_markFloat32S.t out.length (1 : Int) out).get = some (((1 + out.length : Nat) : Int), ys) := h3
      have h5' : (laws_heldFloat32S_w1.t out.length (1 : Int) ys).get = some (((1 + out.length : Nat) : Int)) := heldF_t out.length 1 ys (by omega) h4
      have hneg2 : decide (((1 + out.length : Nat) : Int) < 0) = false := decide_eq_false (by omega)
      simp only [show spec_DressedDay.ok x0 x1 x2 x3 xs.length x5 x6 xs = true from T.ok_of_get (h1), show spec_DressedDay x0 x1 x2 x3 xs.length x5 x6 xs = _ from T.val_of_get (h1), show impl_DressedDay.ok x0 x1 x2 x3 xs.length x5 x6 xs = true from T.ok_of_get (h2), show impl_DressedDay x0 x1 x2 x3 xs.length x5 x6 xs = _ from T.val_of_get (h2), getRightD, Sum.isLeft, eqStone_ok, eqStone_eq, eqF_ok out (by omega), eqF_eq out (by omega), show laws_markFloat32S.ok out.length (1 : Int) out = true from T.ok_of_get (h3'), show laws_markFloat32S out.length (1 : Int) out = _ from T.val_of_get (h3'), show laws_heldFloat32S_w1.ok out.length (1 : Int) ys = true from T.ok_of_get (h5'), show laws_heldFloat32S_w1 out.length (1 : Int) ys = _ from T.val_of_get (h5'), hneg2]
      simp

theorem law_plain (x0_0 : Nat) (x0_1 : Nat) (x0_2 : Nat) (x0_3 : Nat) (x2 : Nat) (x3 : Nat) (xs1 : List Nat) (f0_0 : flHas .f32 x0_0) (f0_1 : flHas .f32 x0_1) (f0_2 : flHas .f32 x0_2) (f0_3 : flHas .f32 x0_3) (f1 : ∀ x ∈ xs1, flHas .f32 x) (y1 : List.length xs1 ≤ maxLen) (f2 : flHas .f32 x2) (f3 : flHas .f32 x3) : (laws_FnExactDressedDay.tr (x0_0, x0_1, x0_2, x0_3, xs1.length, x2, x3, xs1)).get = some true := law_holds x0_0 x0_1 x0_2 x0_3 x2 x3 xs1
theorem own : ownKnob Try.prog.godebug = none := by kernel_rfl
theorem laidOut : laidOutB Try.prog = true := by kernel_rfl
theorem ground {W : World} (h : W.ShapedOpen Try.prog) : Sx.Ground W := ground_of (by kernel_rfl) h
theorem lifted (os : Os) (started : os.Started) (H : Type) (enc : TypeId × Value → H) :
    ReturnsInHanded {} Try.checked os 6 .any (Rows.fnExactDressedDaySpec.pre6 enc Try.prog Try.f6 Rows.fnExactDressedDayRow.domain false) (Rows.fnExactDressedDaySpec.post enc Try.prog Try.f6 false true false false) := by
  refine returnsInHanded_of_change_shaped (C := Try.checked) own started (by kernel_rfl) Try.func6
    (ChangeSpec.witness6 (enc := enc) (C := Try.checked) false ⟨#[], #[.agg #[.float .f32 0, .float .f32 0, .float .f32 0, .float .f32 0], .slice none 0 0, .float .f32 0, .float .f32 0], []⟩ 8 (by kernel_rfl) (by kernel_rfl) (by kernel_rfl) (by kernel_rfl)) ?_
  intro W base args ds gs before hval0 hW hcnd _ hsh _
  have hG := ground hsh
  have hval : ∀ (j : Nat) t v, Try.f6.params[j]? = some t → args[j]? = some v → Value.okWide Try.prog W .any base t v := hval0
  have hW' := hW
  obtain ⟨p, q, hA0, hV, rfl, hfz, hnd⟩ := hW
  have hA : DataW.TrodAll enc Try.prog W 0 (fun _ => true) true Try.f6.params.toList args.toList ds p := hA0
  rw [Try.params6] at hA hval
  obtain ⟨v0, vs0, d0, ds0, p0, q0, hargs, rfl, rfl, h0, rr0⟩ := trodAll_cons hA
  obtain ⟨v1, vs1, d1, ds1, p1, q1, rfl, rfl, rfl, h1, rr1⟩ := trodAll_cons rr0
  obtain ⟨v2, vs2, d2, ds2, p2, q2, rfl, rfl, rfl, h2, rr2⟩ := trodAll_cons rr1
  obtain ⟨v3, vs3, d3, ds3, p3, q3, rfl, rfl, rfl, h3, rr3⟩ := trodAll_cons rr2
  obtain ⟨rfl, rfl, rfl⟩ := trodAll_nil rr3
  obtain rfl : args = #[v0, v1, v2, v3] := by cases args; simp_all
  obtain ⟨rfl, rfl⟩ := trodVars_none hV
  have k0 := h0
  have lt0 : ∀ x ∈ p0, x.block < W.heap.size := by obtain ⟨m, hm⟩ := k0; exact DataW.trod_lt m _ _ _ hm
  obtain ⟨cs0, rfl, hc0⟩ := open_row (ts := [22, 22, 22, 22]) Try.underlying24 rfl (by kernel_rfl) (by kernel_rfl) (hval 0 24 v0 rfl rfl)
  obtain ⟨u0_0, m0_0, e0, g0_0, hc0⟩ := hc0
  obtain ⟨x0_0, r0_0, f0_0⟩ := sc_fl Try.underlying22 g0_0
  obtain ⟨u0_1, m0_1, rfl, g0_1, hc0⟩ := hc0
  obtain ⟨x0_1, r0_1, f0_1⟩ := sc_fl Try.underlying22 g0_1
  obtain ⟨u0_2, m0_2, rfl, g0_2, hc0⟩ := hc0
  obtain ⟨x0_2, r0_2, f0_2⟩ := sc_fl Try.underlying22 g0_2
  obtain ⟨u0_3, m0_3, rfl, g0_3, hc0⟩ := hc0
  obtain ⟨x0_3, r0_3, f0_3⟩ := sc_fl Try.underlying22 g0_3
  obtain rfl := hc0
  have k1 := h1
  have lt1 : ∀ x ∈ p1, x.block < W.heap.size := by obtain ⟨m, hm⟩ := k1; exact DataW.trod_lt m _ _ _ hm
  obtain ⟨l1, xs1, w1, r1, f1, y1⟩ := open_fls Try.underlying25 Try.underlying22 (by kernel_rfl) hG (hval 1 25 v1 rfl rfl) k1
  have k2 := h2
  have lt2 : ∀ x ∈ p2, x.block < W.heap.size := by obtain ⟨m, hm⟩ := k2; exact DataW.trod_lt m _ _ _ hm
  obtain ⟨x2, r2, f2⟩ := sc_fl Try.underlying22 (cell_of Try.underlying22 rfl (hval 2 22 v2 rfl rfl))
  have k3 := h3
  have lt3 : ∀ x ∈ p3, x.block < W.heap.size := by obtain ⟨m, hm⟩ := k3; exact DataW.trod_lt m _ _ _ hm
  obtain ⟨x3, r3, f3⟩ := sc_fl Try.underlying22 (cell_of Try.underlying22 rfl (hval 3 22 v3 rfl rfl))
  clear hA0 hval0
  refine (laws_FnExactDressedDay.walk (x0_0, x0_1, x0_2, x0_3, xs1.length, x2, x3, xs1) (law_plain x0_0 x0_1 x0_2 x0_3 x2 x3 xs1 f0_0 f0_1 f0_2 f0_3 f1 y1 f2 f3) (ρ := fun i => (lget ([(l1, .fs .f32 xs1)] : List (Sx.Loc × Cells)) i).map (·.1)) (Rs_cons' (agg_R (by rw [e0]; exact (Rs_cons' (r0_0 _) (Rs_cons' (r0_1 _) (Rs_cons' (r0_2 _) (Rs_cons' (r0_3 _) Rs_nil')))))) (Rs_cons' (r1 _ 0 rfl) (Rs_cons' (r2 _) (Rs_cons' (r3 _) Rs_nil')))) (HpR.ofRo [(l1, .fs .f32 xs1)] ((List.forall_mem_cons.2 ⟨w1, List.forall_mem_nil _⟩)))).mono fun e W' ⟨he, bel⟩ => ?_
  subst he
  exact ⟨_, rfl, _, _, _, [], _, [], hW', trodAll_mk1 (shut_bool Try.underlying4 _), (trodAll_cons_mk (Below.trod laidOut (by kernel_rfl) (of_decide_eq_true (by kernel_rfl)) k0 bel lt0) (trodAll_cons_mk (Below.trod laidOut (by kernel_rfl) (of_decide_eq_true (by kernel_rfl)) k1 bel lt1) (trodAll_cons_mk (Below.trod laidOut (by kernel_rfl) (of_decide_eq_true (by kernel_rfl)) k2 bel lt2) (trodAll_cons_mk (Below.trod laidOut (by kernel_rfl) (of_decide_eq_true (by kernel_rfl)) k3 bel lt3) trodAll_mk0)))), rfl, bel.frame _, fun h => by cases h⟩
theorem over : Rows.fnExactDressedDayRow.holds Try.pinned (OpenSpec.ofChange Rows.fnExactDressedDaySpec) :=
  OpenClaim.holds_of_wide 6 Try.f6 rfl rfl rfl rfl rfl rfl rfl ⟨rfl, rfl, rfl, rfl, rfl⟩ rfl rfl rfl rfl rfl (by kernel_rfl) Try.func6 (by kernel_rfl)
    (of_decide_eq_true (by kernel_rfl)) (by unfold Func.isWrapper; first | (rw [if_pos (by decide +kernel)]; kernel_rfl) | (rw [if_neg (by decide +kernel)]; exact ⟨rfl, rfl⟩))
    (fun os started H enc _ => lifted os started H enc)
theorem proved : Rows.FnExactDressedDaySaid := over
end Go.Proofs.Ytffpnngoafpidaa
