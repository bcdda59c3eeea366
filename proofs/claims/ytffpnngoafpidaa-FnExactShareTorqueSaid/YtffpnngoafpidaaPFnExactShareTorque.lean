/- For every input the call of FnExactShareTorque returns true, and each argument reads afterwards as it read before; there is no condition. -/
import Derived.Test.YtffpnngoafpidaaWFnExactShareTorque
import Derived.Test.YtffpnngoafpidaaSxS
import Derived.Test.YtffpnngoafpidaaSxT
import Derived.Test.YtffpnngoafpidaaRows
import Derived.WalkKit
import Derived.ProofKit
import Derived.OpenShut
import Derived.ShutString
import Derived.ChangeOld
import Derived.Below
import Derived.Carry
import Derived.HandedShaped
namespace Go.Proofs.Ytffpnngoafpidaa
open Go Go.RowKit Sx
open Go.ChangeShapes Go.WideShapes Go.ChangeAt
set_option linter.unusedVariables false
set_option linter.unusedSimpArgs false
set_option maxRecDepth 100000

theorem rate_eq (x : Nat) : impl_IsRate x = spec_l04Rate x := by
  simp only [impl_IsRate, impl_IsRate.t, impl_between, impl_between.t, spec_l04Rate, spec_l04Rate.t, T.val, fge_flip]

theorem part_eq (x : Nat) : impl_IsPart x = spec_l01Part x := by
  simp only [impl_IsPart, impl_IsPart.t, impl_between, impl_between.t, spec_l01Part, spec_l01Part.t, T.val, fge_flip]

theorem stone_eq (x0 x1 x2 x3 : Nat) : laws_toStone x0 x1 x2 x3 = (x0, x1, x2, x3) := rfl
theorem valid_eq (x0 x1 x2 x3 : Nat) : impl_ValidStone x0 x1 x2 x3 = spec_l04Ok x0 x1 x2 x3 := by
  simp only [impl_ValidStone, impl_ValidStone.t, spec_l04Ok, spec_l04Ok.t, T.val, rate_eq, part_eq]

theorem same_refl (x : Nat) : laws_sameFloat x x = true := same_self (s := laws_sameFloat.t) (fun _ _ => rfl) x

theorem eqStone_t (x0 x1 x2 x3 : Nat) : (laws_eqStone.t x0 x1 x2 x3 x0 x1 x2 x3).get = some true := by
  simp only [laws_eqStone.t, T.get, open_wide, same_refl]
  simp
theorem eqStone_ok (x0 x1 x2 x3 : Nat) : laws_eqStone.ok x0 x1 x2 x3 x0 x1 x2 x3 = true := T.ok_of_get (eqStone_t x0 x1 x2 x3)
theorem eqStone_eq (x0 x1 x2 x3 : Nat) : laws_eqStone x0 x1 x2 x3 x0 x1 x2 x3 = true := T.val_of_get (eqStone_t x0 x1 x2 x3)

theorem getD_mem {α : Type} (l : List α) (j : Nat) (d : α) (h : j < l.length) : l.getD j d = l[j] := by
  simp [List.getD, List.getElem?_eq_getElem h]
theorem to4_r (n : Nat) (xs : List Nat) (hx : xs.length = n * 4) (hn : n < 1099511627776) : laws_toStoneS.l3.r (n, n, xs) ((0 : Int), List.replicate (n * 4) 0) = some xs := by
  obtain ⟨h1, h2, h3⟩ := loopI_fold (step := laws_toStoneS.l3.st (n, n, xs)) (fun k => IntKind.wrap .i64 (k + 1)) (fun i (ys : List Nat) => (i, ys)) (fun i ys => List.set (List.set (List.set (List.set ys (i * 4) (xs.getD (i * 4) 0)) (i * 4 + 1) (xs.getD (i * 4 + 1) 0)) (i * 4 + 1 + 1) (xs.getD (i * 4 + 1 + 1) 0)) (i * 4 + 1 + 1 + 1) (xs.getD (i * 4 + 1 + 1 + 1) 0)) (fun ys => ys)
    (fun i ys => ys.length = n * 4 ∧ ∀ j, j < i * 4 → ys.getD j 0 = xs.getD j 0) n (by omega) (fun i hi => wrap64_succ (by omega)) (List.replicate (n * 4) 0) ⟨by simp, fun j hj => by omega⟩ (fun i ys hi hQ => by
      obtain ⟨hl, hm⟩ := hQ
      refine ⟨?_, by simp only [List.length_set]; exact hl, fun j hj => ?_⟩
      · simp only [laws_toStoneS.l3.st, laws_toStoneS.l3.s, T.get, bounds_nat, ble_decide, Int.toNat_natCast, Nat.zero_add, hl, hx, stone_eq]
        rw [decide_eq_true (by omega : (i : Int) < (n : Int)), decide_eq_true hi, decide_eq_true (by omega : i * 4 + 4 ≤ n * 4)]
        rfl
      · by_cases e3 : i * 4 + 1 + 1 + 1 = j
        · subst e3
          exact lD_same _ _ _ _ (by simp only [List.length_set]; omega)
        · rw [lD_ne _ _ _ _ _ e3]
          by_cases e2 : i * 4 + 1 + 1 = j
          · subst e2
            exact lD_same _ _ _ _ (by simp only [List.length_set]; omega)
          · rw [lD_ne _ _ _ _ _ e2]
            by_cases e1 : i * 4 + 1 = j
            · subst e1
              exact lD_same _ _ _ _ (by simp only [List.length_set]; omega)
            · rw [lD_ne _ _ _ _ _ e1]
              by_cases e0 : i * 4 = j
              · subst e0
                exact lD_same _ _ _ _ (by omega)
              · rw [lD_ne _ _ _ _ _ e0]
                exact hm j (by omega)) (fun ys hQ => by
      simp only [laws_toStoneS.l3.st, laws_toStoneS.l3.s, T.get]
      rw [decide_eq_false (by omega)]
      rfl)
  have e : foldF (fun i ys => List.set (List.set (List.set (List.set ys (i * 4) (xs.getD (i * 4) 0)) (i * 4 + 1) (xs.getD (i * 4 + 1) 0)) (i * 4 + 1 + 1) (xs.getD (i * 4 + 1 + 1) 0)) (i * 4 + 1 + 1 + 1) (xs.getD (i * 4 + 1 + 1 + 1) 0)) n 0 (List.replicate (n * 4) 0) = xs := by
    refine List.ext_getElem (by rw [h2, hx]) fun j hj1 hj2 => ?_
    have := h3 j (by omega)
    rw [getD_mem _ _ _ hj1, getD_mem _ _ _ hj2] at this
    exact this
  rw [e] at h1
  exact h1
theorem to4_t (n : Nat) (xs : List Nat) (hx : xs.length = n * 4) (hn : n ≤ 1048576) : (laws_toStoneS.t n xs).get = some (n, xs) := by
  simp only [laws_toStoneS.t, T.get, Int.toNat_natCast, to4_r n xs hx (by omega), Option.isSome_some, cond_true, Option.getD_some]
  rw [decide_eq_true (by omega), decide_eq_true (by omega), decide_eq_true (by omega), decide_eq_true (by omega)]
  rfl
theorem eq4_t (n : Nat) (xs : List Nat) (hx : xs.length = n * 4) (hn : n ≤ 1048576) : (laws_eqStoneS.t n n xs xs).get = some true := by
  have h1 : laws_eqStoneS.l4.r (n, n, xs, xs) 0 = some (.inr ()) := by
    refine iter_count n (by omega) (fun i hi => ?_) ?_
    · simp only [laws_eqStoneS.l4.st, laws_eqStoneS.l4.s, T.get, bounds_nat, ble_decide, Int.toNat_natCast, eqStone_ok, eqStone_eq, hx]
      rw [decide_eq_true (by omega : (i : Int) < (n : Int)), decide_eq_true hi, decide_eq_true (by omega : i * 4 + 4 ≤ n * 4)]
      rfl
    · simp only [laws_eqStoneS.l4.st, laws_eqStoneS.l4.s, T.get]
      rw [decide_eq_false (by omega)]
      rfl
  simp only [laws_eqStoneS.t, T.get, h1]
  simp
theorem mark4_t (n : Nat) (xs : List Nat) (hx : xs.length = n * 4) (hn : n ≤ 1048576) : ∃ ys, (laws_markStoneS.t n 1 xs).get = some (((1 + 4 * n : Nat) : Int), ys) := by
  obtain ⟨ys, h1, h2⟩ := mark_ends (step := laws_markStoneS.l2.st n) (fun _ ys => ys.length = n * 4) 1 4 n (by omega) xs hx (fun i ys hi hl => by
    have e1 : IntKind.wrap .i64 (((1 + 4 * i : Nat) : Int) + 1) = ((1 + 4 * i + 1 : Nat) : Int) := wrap64_of (by omega) (by omega)
    have e2 : IntKind.wrap .i64 (((1 + 4 * i + 1 : Nat) : Int) + 1) = ((1 + 4 * i + 2 : Nat) : Int) := wrap64_of (by omega) (by omega)
    have e3 : IntKind.wrap .i64 (((1 + 4 * i + 2 : Nat) : Int) + 1) = ((1 + 4 * i + 3 : Nat) : Int) := wrap64_of (by omega) (by omega)
    have e4 : IntKind.wrap .i64 (((1 + 4 * i + 3 : Nat) : Int) + 1) = ((1 + 4 * (i + 1) : Nat) : Int) := wrap64_of (by omega) (by omega)
    refine ⟨List.set (List.set (List.set (List.set ys (i * 4 + 0) (fofint .f32 ((1 + 4 * i : Nat) : Int))) (i * 4 + 1) (fofint .f32 ((1 + 4 * i + 1 : Nat) : Int))) (i * 4 + 2) (fofint .f32 ((1 + 4 * i + 2 : Nat) : Int))) (i * 4 + 3) (fofint .f32 ((1 + 4 * i + 3 : Nat) : Int)), ?_, ?_⟩
    · simp only [laws_markStoneS.l2.st, laws_markStoneS.l2.s, T.get, bounds_nat, ble_decide, Int.toNat_natCast, List.length_set, hl, e1, e2, e3, e4]
      rw [decide_eq_true (by omega : (i : Int) < (n : Int)), decide_eq_true hi, decide_eq_true (by omega : i * 4 + 0 + 1 ≤ n * 4), decide_eq_true (by omega : i * 4 + 1 + 1 ≤ n * 4), decide_eq_true (by omega : i * 4 + 2 + 1 ≤ n * 4), decide_eq_true (by omega : i * 4 + 3 + 1 ≤ n * 4), wrap64_succ (by omega)]
      rfl
    · simp only [List.length_set]
      exact hl) (fun ys hQ => by
    simp only [laws_markStoneS.l2.st, laws_markStoneS.l2.s, T.get]
    rw [decide_eq_false (by omega)]
    rfl)
  refine ⟨ys, ?_⟩
  have h3 : laws_markStoneS.l2.r n ((1 : Int), (0 : Int), xs) = some (((1 + 4 * n : Nat) : Int), ys) := h1
  simp only [laws_markStoneS.t, T.get, h3]
  rfl

theorem amount_eq (x : Nat) : impl_isAmount x = spec_l03Amount x := by
  simp only [impl_isAmount, impl_isAmount.t, impl_between, impl_between.t, spec_l03Amount, spec_l03Amount.t, T.val, fge_flip]

-- lies in the core (SxQ)

theorem eqF0_t : (laws_eqFloat32S.t 0 []).get = some true := by
  have h : laws_eqFloat32S.l4.r (0, (0 : Int), []) () = some () := iter_run (step := laws_eqFloat32S.l4.st (0, (0 : Int), [])) (f := fun _ => ()) (e := ()) (n := 0) (N := manyRounds) (k := 0) (many_lt (by omega)) (fun i hi => absurd hi (by omega)) rfl
  simp only [laws_eqFloat32S.t, T.get, h]
  rfl
theorem markF0_t : (laws_markFloat32S.t 1).get = some 1 := by
  have h : laws_markFloat32S.l2.r (1, (0 : Int)) () = some () := iter_run (step := laws_markFloat32S.l2.st (1, (0 : Int))) (f := fun _ => ()) (e := ()) (n := 0) (N := manyRounds) (k := 0) (many_lt (by omega)) (fun i hi => absurd hi (by omega)) rfl
  simp only [laws_markFloat32S.t, T.get, h]
  rfl
theorem heldF0_t : (laws_heldFloat32S.t 1).get = some 1 := by
  have h : laws_heldFloat32S.l2.r (1, (0 : Int)) () = some () := iter_run (step := laws_heldFloat32S.l2.st (1, (0 : Int))) (f := fun _ => ()) (e := ()) (n := 0) (N := manyRounds) (k := 0) (many_lt (by omega)) (fun i hi => absurd hi (by omega)) rfl
  simp only [laws_heldFloat32S.t, T.get, h]
  rfl

theorem eq_r (xs : List Nat) (h : xs.length < 1099511627776) : laws_eqFloat32S_w1.l4.r (xs.length, xs.length, xs, xs) 0 = some (.inr ()) := by
  refine iter_count xs.length (by omega) (fun i hi => ?_) ?_
  · simp only [laws_eqFloat32S_w1.l4.st, laws_eqFloat32S_w1.l4.s, T.get, bounds_nat, ble_decide, open_wide, same_refl, Int.toNat_natCast, Nat.mul_one]
    rw [decide_eq_true (by omega), decide_eq_true hi, decide_eq_true (by omega)]
    rfl
  · simp only [laws_eqFloat32S_w1.l4.st, laws_eqFloat32S_w1.l4.s, T.get]
    rw [decide_eq_false (by omega)]
    rfl
theorem eqF_t (xs : List Nat) (h : xs.length < 1099511627776) : (laws_eqFloat32S_w1.t xs.length xs.length xs xs).get = some true := by
  simp only [laws_eqFloat32S_w1.t, T.get, eq_r xs h]
  simp
theorem eqF_ok (xs : List Nat) (h : xs.length < 1099511627776) : laws_eqFloat32S_w1.ok xs.length xs.length xs xs = true := T.ok_of_get (eqF_t xs h)
theorem eqF_eq (xs : List Nat) (h : xs.length < 1099511627776) : laws_eqFloat32S_w1 xs.length xs.length xs xs = true := T.val_of_get (eqF_t xs h)

/-- The first i numbers are marked, from k on. -/
def markedF (k n i : Nat) (ys : List Nat) : Prop := ys.length = n ∧ ∀ j, j < i → ys.getD j 0 = fofint .f32 ((k + j : Nat) : Int)
theorem markF_t (xs : List Nat) (k : Nat) (hk : k + xs.length < 9223372036854775807) : ∃ ys, (laws_markFloat32S_w1.t xs.length (k : Int) xs).get = some (((k + xs.length : Nat) : Int), ys) ∧ markedF k xs.length xs.length ys := by
  obtain ⟨ys, h1, h2⟩ := mark_ends (step := laws_markFloat32S_w1.l2.st xs.length) (markedF k xs.length) k 1 xs.length (by omega) xs ⟨rfl, fun j hj => by omega⟩ (fun i ys hi hQ => by
    obtain ⟨hl, hm⟩ := hQ
    refine ⟨ys.set i (fofint .f32 ((k + i : Nat) : Int)), ?_, ⟨by rw [List.length_set]; exact hl, fun j hj => ?_⟩⟩
    · simp only [laws_markFloat32S_w1.l2.st, laws_markFloat32S_w1.l2.s, T.get, bounds_nat, ble_decide, Int.toNat_natCast, Nat.mul_one, Nat.one_mul, hl]
      rw [decide_eq_true (by omega : (i : Int) < (xs.length : Int)), decide_eq_true hi, decide_eq_true (by omega : i + 1 ≤ xs.length), wrap64_succ (by omega), wrap64_succ (by omega)]
      rfl
    · rcases Nat.lt_or_ge j i with h | h
      · rw [lD_ne _ _ _ _ _ (by omega)]
        exact hm j h
      · have : j = i := by omega
        subst this
        exact lD_same _ _ _ _ (by omega)) (fun ys hQ => by
    simp only [laws_markFloat32S_w1.l2.st, laws_markFloat32S_w1.l2.s, T.get]
    rw [decide_eq_false (by omega)]
    rfl)
  refine ⟨ys, ?_, h2⟩
  have h3 : laws_markFloat32S_w1.l2.r xs.length ((k : Int), (0 : Int), xs) = some (((k + xs.length : Nat) : Int), ys) := by
    rw [Nat.one_mul] at h1
    exact h1
  simp only [laws_markFloat32S_w1.t, T.get, h3]
  rfl

theorem heldF_t (n k : Nat) (ys : List Nat) (hk : k + n < 9223372036854775807) (h : markedF k n n ys) : (laws_heldFloat32S_w1.t n (k : Int) ys).get = some (((k + n : Nat) : Int)) := by
  obtain ⟨hl, hm⟩ := h
  have h3 : laws_heldFloat32S_w1.l2.r (n, ys) ((k : Int), (0 : Int)) = some (.inr (((k + n : Nat) : Int))) := by
    refine held_run k 1 n (by omega) (fun i hi => ?_) ?_
    · simp only [laws_heldFloat32S_w1.l2.st, laws_heldFloat32S_w1.l2.s, T.get, bounds_nat, ble_decide, Int.toNat_natCast, Nat.mul_one, Nat.one_mul, hl, hm i hi, ofint_fne]
      rw [decide_eq_true (by omega : (i : Int) < (n : Int)), decide_eq_true hi, decide_eq_true (by omega : i + 1 ≤ n), wrap64_succ (by omega), wrap64_succ (by omega)]
      rfl
    · simp only [laws_heldFloat32S_w1.l2.st, laws_heldFloat32S_w1.l2.s, T.get, Nat.one_mul]
      rw [decide_eq_false (by omega)]
      rfl
  simp only [laws_heldFloat32S_w1.t, T.get, h3]
  rfl

theorem rate_0 : spec_l04Rate 0 = true := by kernel_rfl
/-- The load of the i-th stone. -/
noncomputable def ld (xs : List Nat) (a b i : Nat) : Nat := spec_l04Load (xs.getD (i * 4) 0) (xs.getD (i * 4 + 1) 0) (xs.getD (i * 4 + 1 + 1) 0) (xs.getD (i * 4 + 1 + 1 + 1) 0) a b
noncomputable def total (n : Nat) (xs : List Nat) (a b : Nat) : Nat := foldF (fun i s => fadd .f32 s (ld xs a b i)) n 0 0
theorem load_eq (xs : List Nat) (a b i : Nat) : impl_Stone_load a b (xs.getD (i * 4) 0) (xs.getD (i * 4 + 1) 0) (xs.getD (i * 4 + 1 + 1) 0) (xs.getD (i * 4 + 1 + 1 + 1) 0) = ld xs a b i := rfl
section
variable (n : Nat) (xs : List Nat) (hx : xs.length = n * 4) (hn : n ≤ 1048576)
include hx hn
theorem sum_t (a b : Nat) : (spec_l04Sum.t n a b xs).get = some (total n xs a b) := by
  obtain ⟨h1, _⟩ := loop_fold (step := spec_l04Sum.l3.st (n, a, b, xs)) (fun i (s : Nat) => (s, i)) (fun i s => fadd .f32 s (ld xs a b i)) (fun s => s) (fun _ => True) n (by omega) 0 trivial (fun i s hi _ => ⟨by
      simp only [spec_l04Sum.l3.st, spec_l04Sum.l3.s, T.get, bounds_nat, ble_decide, Int.toNat_natCast, hx]
      rw [decide_eq_true (by omega : (i : Int) < (n : Int)), decide_eq_true hi, decide_eq_true (by omega : i * 4 + 4 ≤ n * 4)]
      rfl, trivial⟩) (fun s _ => by
      simp only [spec_l04Sum.l3.st, spec_l04Sum.l3.s, T.get]
      rw [decide_eq_false (by omega)]
      rfl)
  have h2 : spec_l04Sum.l3.r (n, a, b, xs) (0, (0 : Int)) = some (total n xs a b) := h1
  simp only [spec_l04Sum.t, T.get, h2]
  rfl
theorem sum1_t (a b : Nat) : (impl_ShareTorque_1.t a n b xs).get = some (total n xs a b) := by
  obtain ⟨h1, _⟩ := loop_fold (step := impl_ShareTorque_1.l3.st (a, n, (n : Int), n, b, xs)) (fun i (s : Nat) => (s, i)) (fun i s => fadd .f32 s (ld xs a b i)) (fun s => s) (fun _ => True) n (by omega) 0 trivial (fun i s hi _ => ⟨by
      simp only [impl_ShareTorque_1.l3.st, impl_ShareTorque_1.l3.s, T.get, bounds_nat, ble_decide, Int.toNat_natCast, hx]
      rw [decide_eq_true (by omega : (i : Int) < (n : Int)), decide_eq_true hi, decide_eq_true (by omega : i * 4 + 4 ≤ n * 4)]
      rfl, trivial⟩) (fun s _ => by
      simp only [impl_ShareTorque_1.l3.st, impl_ShareTorque_1.l3.s, T.get]
      rw [decide_eq_false (by omega)]
      rfl)
  have h2 : impl_ShareTorque_1.l3.r (a, n, (n : Int), n, b, xs) (0, (0 : Int)) = some (total n xs a b) := h1
  simp only [impl_ShareTorque_1.t, T.get, h2]
  rfl
theorem bisect (t f : Nat) : ∃ e, spec_l04Steady.l6.r (n, t, f, 40, xs) (0, 1149239296, 0) = some e ∧ impl_steady.l3.r (t, 40, n, f, xs) (0, 1149239296, 0) = some e := by
  obtain ⟨e, e', h1, h2, rfl⟩ := iter_two (step := spec_l04Steady.l6.st (n, t, f, 40, xs)) (step' := impl_steady.l3.st (t, 40, n, f, xs)) (R := fun s t => s = t ∧ ∃ i : Nat, i ≤ 41 ∧ s.2.2 = (i : Int)) (E := fun e e' => e = e') (fun s => 41 - s.2.2.toNat) (by
    rintro ⟨a, b, c⟩ _ ⟨rfl, i, hi, hc⟩
    dsimp only at hc
    subst hc
    simp only [spec_l04Steady.l6.st, spec_l04Steady.l6.s, impl_steady.l3.st, impl_steady.l3.s, T.get, impl_halved, impl_halved.t, T.val, show spec_l04Sum.ok n (fdiv .f32 (fadd .f32 a b) 1073741824) f xs = true from T.ok_of_get (sum_t n xs hx hn _ _), show spec_l04Sum n (fdiv .f32 (fadd .f32 a b) 1073741824) f xs = _ from T.val_of_get (sum_t n xs hx hn _ _), show impl_ShareTorque_1.ok (fdiv .f32 (fadd .f32 a b) 1073741824) n f xs = true from T.ok_of_get (sum1_t n xs hx hn _ _), show impl_ShareTorque_1 (fdiv .f32 (fadd .f32 a b) 1073741824) n f xs = _ from T.val_of_get (sum1_t n xs hx hn _ _)]
    by_cases hlt : (i : Int) < 40
    · rw [decide_eq_true hlt, wrap64_succ (by omega)]
      simp only [cond_true]
      cases fgt .f32 (total n xs (fdiv .f32 (fadd .f32 a b) 1073741824) f) t with
      | true => exact .inl ⟨_, _, rfl, rfl, ⟨rfl, i + 1, by omega, rfl⟩, by dsimp only; omega⟩
      | false => exact .inl ⟨_, _, rfl, rfl, ⟨rfl, i + 1, by omega, rfl⟩, by dsimp only; omega⟩
    · rw [decide_eq_false hlt]
      exact .inr ⟨_, _, rfl, rfl, rfl⟩) manyRounds (0, 1149239296, 0) (0, 1149239296, 0) ⟨rfl, 0, by omega, rfl⟩ (many_lt (by simp))
  exact ⟨e, h1, h2⟩
/-- The loop that puts the loads in a list. -/
theorem loads (a b : Nat) (h60 : n ≤ 60) : ∃ out, List.length out = n ∧ spec_ShareTorque.l15.r (n, b, a, xs) (0, 0, []) = some (n, out) ∧ impl_ShareTorque.l12.r (a, n, (n : Int), xs, b) (0, 0, []) = some (n, out) := by
  let f : Nat → List Nat → List Nat := fun i s => s ++ [ld xs a b i]
  have key : ∀ (i : Nat) (s : List Nat), i < n → s.length = i → (f i s).length = i + 1 := fun i s _ h => by simp [f, h]
  obtain ⟨h1, h3⟩ := loopI_fold (step := spec_ShareTorque.l15.st (n, b, a, xs)) (fun k => IntKind.wrap .i64 (k + 1)) (fun i (s : List Nat) => (s.length, i, s)) f (fun s => (s.length, s)) (fun i s => s.length = i) n (by omega) (fun i hi => wrap64_succ (by omega)) [] rfl (fun i s hi hl => ⟨by
      have e : (Nat.ble 1 1 && (Nat.beq s.length s.length && Nat.ble ((s.length + 1) * 4) 35184372088832 && Nat.ble (s.length + 1) 35184372088832)) = true := by
        rw [ble_decide, ble_decide, ble_decide, decide_eq_true (by omega : 1 ≤ 1), decide_eq_true (by omega : (s.length + 1) * 4 ≤ 35184372088832), decide_eq_true (by omega : s.length + 1 ≤ 35184372088832), Nat.beq_refl]
        rfl
      simp only [spec_ShareTorque.l15.st, spec_ShareTorque.l15.s, T.get, bounds_nat, Int.toNat_natCast, hx, Nat.mul_one, List.length_singleton, e]
      simp only [ble_decide]
      rw [decide_eq_true (by omega : (i : Int) < (n : Int)), decide_eq_true hi, decide_eq_true (by omega : i * 4 + 4 ≤ n * 4)]
      simp only [f, List.length_append, List.length_singleton]
      rfl, key i s hi hl⟩) (fun s hl => by
      simp only [spec_ShareTorque.l15.st, spec_ShareTorque.l15.s, T.get]
      rw [decide_eq_false (by omega)]
      rfl)
  obtain ⟨h2, _⟩ := loopI_fold (step := impl_ShareTorque.l12.st (a, n, (n : Int), xs, b)) (fun k => IntKind.wrap .i64 (k + 1)) (fun i (s : List Nat) => (s.length, i, s)) f (fun s => (s.length, s)) (fun i s => s.length = i) n (by omega) (fun i hi => wrap64_succ (by omega)) [] rfl (fun i s hi hl => ⟨by
      have e : (Nat.ble 1 1 && (Nat.beq s.length s.length && Nat.ble ((s.length + 1) * 4) 35184372088832 && Nat.ble (s.length + 1) 35184372088832)) = true := by
        rw [ble_decide, ble_decide, ble_decide, decide_eq_true (by omega : 1 ≤ 1), decide_eq_true (by omega : (s.length + 1) * 4 ≤ 35184372088832), decide_eq_true (by omega : s.length + 1 ≤ 35184372088832), Nat.beq_refl]
        rfl
      simp only [impl_ShareTorque.l12.st, impl_ShareTorque.l12.s, T.get, bounds_nat, Int.toNat_natCast, hx, Nat.mul_one, List.length_singleton, e]
      simp only [ble_decide]
      rw [decide_eq_true (by omega : (i : Int) < (n : Int)), decide_eq_true hi, decide_eq_true (by omega : i * 4 + 4 ≤ n * 4)]
      simp only [f, List.length_append, List.length_singleton]
      rfl, key i s hi hl⟩) (fun s hl => by
      simp only [impl_ShareTorque.l12.st, impl_ShareTorque.l12.s, T.get]
      rw [decide_eq_false (by omega)]
      rfl)
  refine ⟨foldF f n 0 [], h3, ?_, ?_⟩
  · rw [h3] at h1
    exact h1
  · rw [h3] at h2
    exact h2
end
noncomputable def bad4 (xs : List Nat) (i : Nat) : Bool := !spec_l04Ok (xs.getD (i * 4) 0) (xs.getD (i * 4 + 1) 0) (xs.getD (i * 4 + 1 + 1) 0) (xs.getD (i * 4 + 1 + 1 + 1) 0)
theorem bad4_eq (xs : List Nat) (i : Nat) : impl_ShareTorque_2 (xs.getD (i * 4) 0) (xs.getD (i * 4 + 1) 0) (xs.getD (i * 4 + 1 + 1) 0) (xs.getD (i * 4 + 1 + 1 + 1) 0) = bad4 xs i := by
  simp only [impl_ShareTorque_2, impl_ShareTorque_2.t, T.val, valid_eq, bad4]
section
variable (n : Nat) (xs : List Nat) (hx : xs.length = n * 4) (hn : n ≤ 1048576)
include hx hn
theorem check_r (a b : Nat) : spec_ShareTorque.l3.r (n, a, b, 0, xs, []) 0 = some (match firstAt (bad4 xs) n 0 with | some _ => (Sum.inl 1 : Int ⊕ Unit) | none => Sum.inr ()) := by
  refine iter_first (ε := Int ⊕ Unit) (bad4 xs) (fun _ => .inl 1) (.inr ()) n (by omega) (fun i hi => ?_) ?_
  · simp only [spec_ShareTorque.l3.st, spec_ShareTorque.l3.s, T.get, bounds_nat, ble_decide, Int.toNat_natCast, hx]
    rw [decide_eq_true (by omega : (i : Int) < (n : Int)), decide_eq_true hi, decide_eq_true (by omega : i * 4 + 4 ≤ n * 4)]
    simp only [bad4, cond_true]
    cases spec_l04Ok (xs.getD (i * 4) 0) (xs.getD (i * 4 + 1) 0) (xs.getD (i * 4 + 1 + 1) 0) (xs.getD (i * 4 + 1 + 1 + 1) 0) <;> rfl
  · simp only [spec_ShareTorque.l3.st, spec_ShareTorque.l3.s, T.get]
    rw [decide_eq_false (by omega)]
    rfl
theorem code_t (a b : Nat) : (spec_ShareTorque.l3.r (n, a, b, 0, xs, []) 0) = some (bif (firstAt (bad4 xs) n 0).isSome then (Sum.inl 1 : Int ⊕ Unit) else Sum.inr ()) := by
  rw [check_r n xs hx hn a b]
  cases firstAt (bad4 xs) n 0 <;> rfl
theorem index_t : ∃ k : Int, (impl_Stone_2.t n xs).get = some k ∧ decide (k ≥ 0) = (firstAt (bad4 xs) n 0).isSome := by
  have h1 : impl_Stone_2.l2.r (n, (n : Int), xs) 0 = some (match firstAt (bad4 xs) n 0 with | some i => (Sum.inl (i : Int) : Int ⊕ Unit) | none => Sum.inr ()) := by
    refine iter_first (bad4 xs) (fun i => Sum.inl (i : Int)) (Sum.inr ()) n (by omega) (fun i hi => ?_) ?_
    · simp only [impl_Stone_2.l2.st, impl_Stone_2.l2.s, T.get, bounds_nat, ble_decide, Int.toNat_natCast, hx, bad4_eq]
      rw [decide_eq_true (by omega : (i : Int) < (n : Int)), decide_eq_true hi, decide_eq_true (by omega : i * 4 + 4 ≤ n * 4)]
      cases bad4 xs i <;> rfl
    · simp only [impl_Stone_2.l2.st, impl_Stone_2.l2.s, T.get]
      rw [decide_eq_false (by omega)]
      rfl
  simp only [impl_Stone_2.t, T.get, h1]
  cases hf : firstAt (bad4 xs) n 0 with
  | none => exact ⟨_, rfl, rfl⟩
  | some i => exact ⟨(i : Int), rfl, decide_eq_true (by omega)⟩
theorem bad_t : (impl_Stone.t n xs).get = some (firstAt (bad4 xs) n 0).isSome := by
  obtain ⟨k, h1, h2⟩ := index_t n xs hx hn
  simp only [impl_Stone.t, T.get, show impl_Stone_2.ok n xs = true from T.ok_of_get (h1), show impl_Stone_2 n xs = _ from T.val_of_get (h1), h2]
  rfl
theorem share_t (t f : Nat) :
    (∃ c, (spec_ShareTorque.t n t f xs).get = some (0, c, []) ∧ (impl_ShareTorque.t n t f xs).get = some (.inl c)) ∨
    (∃ out, List.length out ≤ 60 ∧ (spec_ShareTorque.t n t f xs).get = some (out.length, 0, out) ∧ (impl_ShareTorque.t n t f xs).get = some (.inr (out.length, 0, out))) := by
  obtain ⟨e, h1, h2⟩ := bisect n xs hx hn t f
  have hs : (spec_l04Steady.t n t f 40 xs).get = some (bif fgt .f32 (total n xs 0 f) t then (0, false) else (e, true)) := by
    simp only [spec_l04Steady.t, T.get, show spec_l04Sum.ok n 0 f xs = true from T.ok_of_get (sum_t n xs hx hn _ _), show spec_l04Sum n 0 f xs = _ from T.val_of_get (sum_t n xs hx hn _ _), h1]
    cases fgt .f32 (total n xs 0 f) t <;> rfl
  have hi : (impl_steady.t t 40 n f xs).get = some e := by
    simp only [impl_steady.t, T.get, h2]
    rfl
  simp only [spec_ShareTorque.t, impl_ShareTorque.t, T.get, code_t n xs hx hn, rate_eq, amount_eq, show impl_Stone.ok n xs = true from T.ok_of_get (bad_t n xs hx hn), show impl_Stone n xs = _ from T.val_of_get (bad_t n xs hx hn), show spec_l04Steady.ok n t f 40 xs = true from T.ok_of_get (hs), show spec_l04Steady n t f 40 xs = _ from T.val_of_get (hs), show impl_steady.ok t 40 n f xs = true from T.ok_of_get (hi), show impl_steady t 40 n f xs = _ from T.val_of_get (hi), show impl_ShareTorque_1.ok 0 n f xs = true from T.ok_of_get (sum1_t n xs hx hn _ _), show impl_ShareTorque_1 0 n f xs = _ from T.val_of_get (sum1_t n xs hx hn _ _)]
  cases (firstAt (bad4 xs) n 0).isSome with
  | true => exact .inl ⟨_, rfl, rfl⟩
  | false =>
    cases spec_l03Amount t with
    | false => exact .inl ⟨_, rfl, rfl⟩
    | true =>
      cases spec_l04Rate f with
      | false => exact .inl ⟨_, rfl, rfl⟩
      | true =>
        by_cases hb : (n : Int) > 60
        · rw [decide_eq_true hb]
          exact .inl ⟨_, rfl, rfl⟩
        · rw [decide_eq_false hb]
          cases hz : ((n : Int) == 0) with
          | true => cases fgt .f32 (total n xs 0 f) t <;> exact .inl ⟨_, rfl, rfl⟩
          | false =>
            cases fgt .f32 (total n xs 0 f) t with
            | true => exact .inl ⟨_, rfl, rfl⟩
            | false =>
              obtain ⟨out, h3, h4, h5⟩ := loads n xs hx hn e f (by omega)
              dsimp only [cond_false]
              rw [h4, h5, ← h3]
              exact .inr ⟨out, by omega, rfl, rfl⟩
end
theorem size4 (n : Nat) (xs : List Nat) (h : n ≤ maxLen) : decide (laws_szStoneS n 1048576 xs < 0) = true ∨ n ≤ 1048576 := by
  have hw : IntKind.wrap .i64 (1048576 - (n : Int)) = 1048576 - (n : Int) := wrap64 (by unfold maxLen at h; omega) (by omega)
  simp only [laws_szStoneS, laws_szStoneS.t, T.val, hw]
  by_cases hn : n ≤ 1048576
  · exact .inr hn
  · rw [decide_eq_true (by omega : 1048576 - (n : Int) < 0)]
    exact .inl rfl
theorem law_holds (n x1 x2 : Nat) (xs : List Nat) (FACTS : xs.length = n * 4) (hf : ∀ x ∈ xs, flHas .f32 x) (hm : n ≤ maxLen) (h1 : flHas .f32 x1) (h2 : flHas .f32 x2) : (laws_FnExactShareTorque.t n x1 x2 xs).get = some true := by
  have hx := FACTS
  simp only [laws_FnExactShareTorque.t, T.get]
  cases hs : decide (laws_szStoneS n 1048576 xs < 0) with
  | true => rfl
  | false =>
    have hn : n ≤ 1048576 := by
      rcases size4 n xs hm with h | h
      · rw [hs] at h; cases h
      · exact h
    obtain ⟨ms, hm1⟩ := mark4_t n xs hx hn
    have hneg : decide (((1 + 4 * n : Nat) : Int) < 0) = false := decide_eq_false (by omega)
    simp only [show laws_toStoneS.ok n xs = true from T.ok_of_get (to4_t n xs hx hn), show laws_toStoneS n xs = _ from T.val_of_get (to4_t n xs hx hn), show laws_eqStoneS.ok n n xs xs = true from T.ok_of_get (eq4_t n xs hx hn), show laws_eqStoneS n n xs xs = _ from T.val_of_get (eq4_t n xs hx hn), show laws_markStoneS.ok n (1 : Int) xs = true from T.ok_of_get (hm1), show laws_markStoneS n (1 : Int) xs = _ from T.val_of_get (hm1), hneg, cond_true, cond_false]
    rcases share_t n xs hx hn x1 x2 with ⟨c, h1, h2⟩ | ⟨out, hn2, h1, h2⟩
    · simp only [show spec_ShareTorque.ok n x1 x2 xs = true from T.ok_of_get (h1), show spec_ShareTorque n x1 x2 xs = _ from T.val_of_get (h1), show impl_ShareTorque.ok n x1 x2 xs = true from T.ok_of_get (h2), show impl_ShareTorque n x1 x2 xs = _ from T.val_of_get (h2), show laws_eqFloat32S.ok 0 [] = true from T.ok_of_get (eqF0_t), show laws_eqFloat32S 0 [] = _ from T.val_of_get (eqF0_t), show laws_markFloat32S.ok 1 = true from T.ok_of_get (markF0_t), show laws_markFloat32S 1 = _ from T.val_of_get (markF0_t), show laws_heldFloat32S.ok 1 = true from T.ok_of_get (heldF0_t), show laws_heldFloat32S 1 = _ from T.val_of_get (heldF0_t), getLeftD, Sum.isLeft]
      simp
    · obtain ⟨ys, h3, h4⟩ := markF_t out 1 (by omega)
      have h3' : (laws_markFloat32S_w1.t out.length (1 : Int) out).get = some (((1 + out.length : Nat) : Int), ys) := h3
      have h5' : (laws_heldFloat32S_w1.t out.length (1 : Int) ys).get = some (((1 + out.length : Nat) : Int)) := heldF_t out.length 1 ys (by omega) h4
      have hneg2 : decide (((1 + out.length : Nat) : Int) < 0) = false := decide_eq_false (by omega)
      simp only [show spec_ShareTorque.ok n x1 x2 xs = true from T.ok_of_get (h1), show spec_ShareTorque n x1 x2 xs = _ from T.val_of_get (h1), show impl_ShareTorque.ok n x1 x2 xs = true from T.ok_of_get (h2), show impl_ShareTorque n x1 x2 xs = _ from T.val_of_get (h2), getRightD, Sum.isLeft, eqF_ok out (by omega), eqF_eq out (by omega), show laws_markFloat32S_w1.ok out.length (1 : Int) out = true from T.ok_of_get (h3'), show laws_markFloat32S_w1 out.length (1 : Int) out = _ from T.val_of_get (h3'), show laws_heldFloat32S_w1.ok out.length (1 : Int) ys = true from T.ok_of_get (h5'), show laws_heldFloat32S_w1 out.length (1 : Int) ys = _ from T.val_of_get (h5'), hneg2]
      simp

theorem law_plain (n0 : Nat) (x1 : Nat) (x2 : Nat) (xs0 : List Nat) (z0 : List.length xs0 = n0 * 4) (f0 : ∀ x ∈ xs0, flHas .f32 x) (y0 : n0 ≤ maxLen) (f1 : flHas .f32 x1) (f2 : flHas .f32 x2) : (laws_FnExactShareTorque.tr (n0, x1, x2, xs0)).get = some true := law_holds n0 x1 x2 xs0 z0 f0 y0 f1 f2
theorem own : ownKnob Try.prog.godebug = none := by kernel_rfl
theorem laidOut : laidOutB Try.prog = true := by kernel_rfl
theorem ground {W : World} (h : W.ShapedOpen Try.prog) : Sx.Ground W := ground_of (by kernel_rfl) h
theorem lifted (os : Os) (started : os.Started) (H : Type) (enc : TypeId × Value → H) :
    ReturnsInHanded {} Try.checked os 4 .any (Rows.fnExactShareTorqueSpec.pre6 enc Try.prog Try.f4 Rows.fnExactShareTorqueRow.domain false) (Rows.fnExactShareTorqueSpec.post enc Try.prog Try.f4 false true false false) := by
  refine returnsInHanded_of_change_shaped (C := Try.checked) own started (by kernel_rfl) Try.func4
    (ChangeSpec.witness6 (enc := enc) (C := Try.checked) false ⟨#[], #[.slice none 0 0, .float .f32 0, .float .f32 0], []⟩ 8 (by kernel_rfl) (by kernel_rfl) (by kernel_rfl) (by kernel_rfl)) ?_
  intro W base args ds gs before hval0 hW hcnd _ hsh _
  have hG := ground hsh
  have hval : ∀ (j : Nat) t v, Try.f4.params[j]? = some t → args[j]? = some v → Value.okWide Try.prog W .any base t v := hval0
  have hW' := hW
  obtain ⟨p, q, hA0, hV, rfl, hfz, hnd⟩ := hW
  have hA : DataW.TrodAll enc Try.prog W 0 (fun _ => true) true Try.f4.params.toList args.toList ds p := hA0
  rw [Try.params4] at hA hval
  obtain ⟨v0, vs0, d0, ds0, p0, q0, hargs, rfl, rfl, h0, rr0⟩ := trodAll_cons hA
  obtain ⟨v1, vs1, d1, ds1, p1, q1, rfl, rfl, rfl, h1, rr1⟩ := trodAll_cons rr0
  obtain ⟨v2, vs2, d2, ds2, p2, q2, rfl, rfl, rfl, h2, rr2⟩ := trodAll_cons rr1
  obtain ⟨rfl, rfl, rfl⟩ := trodAll_nil rr2
  obtain rfl : args = #[v0, v1, v2] := by cases args; simp_all
  obtain ⟨rfl, rfl⟩ := trodVars_none hV
  have k0 := h0
  have lt0 : ∀ x ∈ p0, x.block < W.heap.size := by obtain ⟨m, hm⟩ := k0; exact DataW.trod_lt m _ _ _ hm
  obtain ⟨l0, n0, xs0, z0, w0, r0, f0, y0⟩ := open_flm (k := .f32) (m := 4) Try.underlying35 Try.underlying24 (by kernel_rfl) (by decide) (by kernel_rfl) hG (hval 0 35 v0 rfl rfl) k0
  have k1 := h1
  have lt1 : ∀ x ∈ p1, x.block < W.heap.size := by obtain ⟨m, hm⟩ := k1; exact DataW.trod_lt m _ _ _ hm
  obtain ⟨x1, r1, f1⟩ := sc_fl Try.underlying22 (cell_of Try.underlying22 rfl (hval 1 22 v1 rfl rfl))
  have k2 := h2
  have lt2 : ∀ x ∈ p2, x.block < W.heap.size := by obtain ⟨m, hm⟩ := k2; exact DataW.trod_lt m _ _ _ hm
  obtain ⟨x2, r2, f2⟩ := sc_fl Try.underlying22 (cell_of Try.underlying22 rfl (hval 2 22 v2 rfl rfl))
  clear hA0 hval0
  refine (laws_FnExactShareTorque.walk (n0, x1, x2, xs0) (law_plain n0 x1 x2 xs0 z0 f0 y0 f1 f2) (ρ := fun i => (lget ([(l0, .fs .f32 xs0)] : List (Sx.Loc × Cells)) i).map (·.1)) (Rs_cons' (r0 _ 0 rfl) (Rs_cons' (r1 _) (Rs_cons' (r2 _) Rs_nil'))) (HpR.ofRo [(l0, .fs .f32 xs0)] ((List.forall_mem_cons.2 ⟨w0, List.forall_mem_nil _⟩)))).mono fun e W' ⟨he, bel⟩ => ?_
  subst he
  exact ⟨_, rfl, _, _, _, [], _, [], hW', trodAll_mk1 (shut_bool Try.underlying4 _), (trodAll_cons_mk (Below.trod laidOut (by kernel_rfl) (of_decide_eq_true (by kernel_rfl)) k0 bel lt0) (trodAll_cons_mk (Below.trod laidOut (by kernel_rfl) (of_decide_eq_true (by kernel_rfl)) k1 bel lt1) (trodAll_cons_mk (Below.trod laidOut (by kernel_rfl) (of_decide_eq_true (by kernel_rfl)) k2 bel lt2) trodAll_mk0))), rfl, bel.frame _, fun h => by cases h⟩
theorem over : Rows.fnExactShareTorqueRow.holds Try.pinned (OpenSpec.ofChange Rows.fnExactShareTorqueSpec) :=
  OpenClaim.holds_of_wide 4 Try.f4 rfl rfl rfl rfl rfl rfl rfl ⟨rfl, rfl, rfl, rfl, rfl⟩ rfl rfl rfl rfl rfl (by kernel_rfl) Try.func4 (by kernel_rfl)
    (of_decide_eq_true (by kernel_rfl)) (by unfold Func.isWrapper; first | (rw [if_pos (by decide +kernel)]; kernel_rfl) | (rw [if_neg (by decide +kernel)]; exact ⟨rfl, rfl⟩))
    (fun os started H enc _ => lifted os started H enc)
theorem proved : Rows.FnExactShareTorqueSaid := over
end Go.Proofs.Ytffpnngoafpidaa
