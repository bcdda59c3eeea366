/- For every input the call of FnExactGrindHour returns true, and each argument reads afterwards as it read before; there is no condition. -/
import Derived.Test.YtnhjchjdnhebkaaWFnExactGrindHour
import Derived.Test.YtnhjchjdnhebkaaRows
import Derived.WalkKit
import Derived.ProofKit
import Derived.OpenShut
import Derived.ShutString
import Derived.ChangeOld
import Derived.Below
import Derived.Carry
import Derived.HandedShaped
namespace Go.Proofs.Ytnhjchjdnhebkaa
open Go Go.RowKit Sx
open Go.ChangeShapes Go.WideShapes Go.ChangeAt
set_option linter.unusedVariables false
set_option linter.unusedSimpArgs false
set_option maxRecDepth 100000

theorem rate_eq (x : Nat) : impl_IsRate x = spec_l04Rate x := by
  simp only [impl_IsRate, impl_IsRate.t, impl_between, impl_between.t, spec_l04Rate, spec_l04Rate.t, T.val, fge_flip]

theorem part_eq (x : Nat) : impl_IsPart x = spec_l01Part x := by
  simp only [impl_IsPart, impl_IsPart.t, impl_between, impl_between.t, spec_l01Part, spec_l01Part.t, T.val, fge_flip]

theorem stone_eq (x0 x1 x2 x3 : Nat) : laws_toStone x0 x1 x2 x3 = (x0, x1, x2, x3) := rfl
theorem valid_eq (x0 x1 x2 x3 : Nat) : impl_ValidStone x0 x1 x2 x3 = spec_l04Ok x0 x1 x2 x3 := by
  simp only [impl_ValidStone, impl_ValidStone.t, spec_l04Ok, spec_l04Ok.t, T.val, rate_eq, part_eq]

theorem amount_eq (x : Nat) : impl_isAmount x = spec_l03Amount x := by
  simp only [impl_isAmount, impl_isAmount.t, impl_between, impl_between.t, spec_l03Amount, spec_l03Amount.t, T.val, fge_flip]

theorem signed_zero (s : Bool) (a : Nat) : Ieee.signed s 0 a = 0 := by cases s <;> simp [Ieee.signed]
theorem zero_order (s : Bool) (e e' : Int) (d : Ieee.Datum) : (Ieee.Datum.number false 0 e').order d = (Ieee.Datum.number s 0 e).order d := by
  cases d with
  | nan t u => rfl
  | infinity t => rfl
  | number t n j =>
    simp only [Ieee.Datum.order, signed_zero, Option.some.injEq]
    have h : ∀ a b : Nat, compare (0 : Int) (Ieee.signed t n a) = compare (0 : Int) (Ieee.signed t n b) := by
      intro a b
      have pos : ∀ c : Nat, 0 < n → 0 < n <<< c := fun c hn => by
        rw [Nat.shiftLeft_eq]
        exact Nat.mul_pos hn (Nat.two_pow_pos _)
      rcases Nat.eq_zero_or_pos n with rfl | hn
      · rw [signed_zero, signed_zero]
      · have h1 := pos a hn
        have h2 := pos b hn
        cases t with
        | false =>
          have e1 : ∀ c : Nat, 0 < n <<< c → compare (0 : Int) (Ieee.signed false n c) = .lt := fun c hc => by
            refine Int.compare_eq_lt.2 ?_
            simp only [Ieee.signed, Bool.false_eq_true, if_false]
            omega
          rw [e1 a h1, e1 b h2]
        | true =>
          have e1 : ∀ c : Nat, 0 < n <<< c → compare (0 : Int) (Ieee.signed true n c) = .gt := fun c hc => by
            refine Int.compare_eq_gt.2 ?_
            simp only [Ieee.signed, if_true]
            omega
          rw [e1 a h1, e1 b h2]
    exact h _ _
/-- What 0 + v is compares as v does. -/
theorem add_zero_order (k : FloatKind) (v y : Nat) (hv : flHas k v) : k.format.order (fadd k 0 v) y = k.format.order v y := by
  have h0 : k.format.read 0 = .number false 0 k.format.leastPlace := by cases k <;> rfl
  cases hd : k.format.read v with
  | nan s t =>
    have h1 : k.format.add 0 v = none := by
      unfold Ieee.Format.add
      rw [h0, hd]
      rfl
    have h2 : isNaN k (fadd k 0 v) = true := by
      unfold fadd
      rw [h1, Option.getD_none, nz_nanOf]
      obtain ⟨s, t, h⟩ := decode_nanOf k
      exact isNaN_of_read h
    unfold Ieee.Format.order
    rw [datum_order_nan (k.format.read (fadd k 0 v)) _ h2, datum_order_nan _ _ (by rw [hd]; rfl)]
  | infinity s =>
    have hn : isNaN k v = false := by
      show (k.format.read v).isNaN = false
      rw [hd]
      rfl
    obtain ⟨r, h1, h2⟩ := sum_zero k.format (k.format.read v) hn fun s m e he => by rw [hd] at he; cases he
    have h3 : k.format.add 0 v = some v := by
      unfold Ieee.Format.add
      rw [h0, h1, Option.map_some, h2, write_read k.format (binade_le k) (two_sw k v hv) hn]
    unfold fadd
    rw [h3, Option.getD_some, nz_of_not hn]
  | number s m e =>
    have hn : isNaN k v = false := by
      show (k.format.read v).isNaN = false
      rw [hd]
      rfl
    by_cases hm : m = 0
    · subst hm
      have h3 : k.format.add 0 v = some 0 := by
        unfold Ieee.Format.add
        rw [h0, hd]
        simp only [Ieee.Datum.sum, signed_zero, Int.add_zero, if_true, Bool.false_and, Int.natAbs_zero, Option.map_some]
        cases k <;> rfl
      have h4 : fadd k 0 v = 0 := by
        unfold fadd
        rw [h3]
        cases k <;> rfl
      unfold Ieee.Format.order
      rw [h4, h0, hd]
      exact zero_order s e _ _
    · obtain ⟨r, h1, h2⟩ := sum_zero k.format (k.format.read v) hn fun s' m' e' he => by
        rw [hd] at he
        cases he
        exact ⟨hm, read_place _ hd⟩
      have h3 : k.format.add 0 v = some v := by
        unfold Ieee.Format.add
        rw [h0, h1, Option.map_some, h2, write_read k.format (binade_le k) (two_sw k v hv) hn]
      unfold fadd
      rw [h3, Option.getD_some, nz_of_not hn]
theorem add_zero_gt (k : FloatKind) (v y : Nat) (hv : flHas k v) : fgt k (fadd k 0 v) y = fgt k v y := by
  unfold fgt
  rw [add_zero_order k v y hv]

theorem rate_0 : spec_l04Rate 0 = true := by kernel_rfl
theorem load1_eq (x0 x1 x2 x3 a b : Nat) : impl_Stone_load a b x0 x1 x2 x3 = spec_l04Load x0 x1 x2 x3 a b := rfl
theorem sum_r (x0 x1 x2 x3 a b : Nat) : spec_l04Sum.l3.r (1, a, b, [x0, x1, x2, x3]) (0, 0) = some (fadd .f32 0 (spec_l04Load x0 x1 x2 x3 a b)) := by
  have hf := iter_run (step := spec_l04Sum.l3.st (1, a, b, [x0, x1, x2, x3])) (f := fun i => if i = 0 then (0, 0) else (fadd .f32 0 (spec_l04Load x0 x1 x2 x3 a b), 1)) (e := fadd .f32 0 (spec_l04Load x0 x1 x2 x3 a b)) (n := 1) (N := manyRounds) (k := 0)
    (many_lt (by omega)) (fun i hi => ?_) ?_
  · exact hf
  · have : i = 0 := by omega
    subst this
    rfl
  · rfl
theorem sum_t (x0 x1 x2 x3 a b : Nat) : (spec_l04Sum.t 1 a b [x0, x1, x2, x3]).get = some (fadd .f32 0 (spec_l04Load x0 x1 x2 x3 a b)) := by
  simp only [spec_l04Sum.t, T.get, sum_r]
  rfl
theorem sum_ok (x0 x1 x2 x3 a b : Nat) : spec_l04Sum.ok 1 a b [x0, x1, x2, x3] = true := T.ok_of_get (sum_t x0 x1 x2 x3 a b)
theorem sum_eq (x0 x1 x2 x3 a b : Nat) : spec_l04Sum 1 a b [x0, x1, x2, x3] = fadd .f32 0 (spec_l04Load x0 x1 x2 x3 a b) := T.val_of_get (sum_t x0 x1 x2 x3 a b)
theorem sum_gt (x0 x1 x2 x3 a b c : Nat) : fgt .f32 (spec_l04Sum 1 a b [x0, x1, x2, x3]) c = fgt .f32 (spec_l04Load x0 x1 x2 x3 a b) c := by
  rw [sum_eq]
  exact add_zero_gt .f32 _ c (fadd_has .f32 _ _)
theorem bisect (x0 x1 x2 x3 t f : Nat) (n : Int) (hn : n ≤ 60) : ∃ e, spec_l04Steady.l6.r (1, t, f, n, [x0, x1, x2, x3]) (0, 1149239296, 0) = some e ∧ impl_steady.l3.r (t, n, f, x0, x1, x2, x3) (0, 1149239296, 0) = some e := by
  obtain ⟨e, e', h1, h2, rfl⟩ := iter_two (step := spec_l04Steady.l6.st (1, t, f, n, [x0, x1, x2, x3])) (step' := impl_steady.l3.st (t, n, f, x0, x1, x2, x3)) (R := fun s t => s = t ∧ ∃ i : Nat, i ≤ 61 ∧ s.2.2 = (i : Int)) (E := fun e e' => e = e') (fun s => 61 - s.2.2.toNat) (by
    rintro ⟨a, b, c⟩ _ ⟨rfl, i, hi, hc⟩
    dsimp only at hc
    subst hc
    simp only [spec_l04Steady.l6.st, spec_l04Steady.l6.s, impl_steady.l3.st, impl_steady.l3.s, T.get, sum_ok, sum_gt, impl_halved, impl_halved.t, impl_Stone_steadySpeed_1, impl_Stone_steadySpeed_1.t, T.val, load1_eq]
    by_cases hlt : (i : Int) < n
    · rw [decide_eq_true hlt, wrap64_succ (by omega)]
      simp only [cond_true]
      cases fgt .f32 (spec_l04Load x0 x1 x2 x3 (fdiv .f32 (fadd .f32 a b) 1073741824) f) t with
      | true => exact .inl ⟨_, _, rfl, rfl, ⟨rfl, i + 1, by omega, rfl⟩, by dsimp only; omega⟩
      | false => exact .inl ⟨_, _, rfl, rfl, ⟨rfl, i + 1, by omega, rfl⟩, by dsimp only; omega⟩
    · rw [decide_eq_false hlt]
      exact .inr ⟨_, _, rfl, rfl, rfl⟩) manyRounds (0, 1149239296, 0) (0, 1149239296, 0) ⟨rfl, 0, by omega, rfl⟩ (many_lt (by simp))
  exact ⟨e, h1, h2⟩
theorem steady_t (x0 x1 x2 x3 t f : Nat) (n : Int) (hn : n ≤ 60) : ∃ r, (spec_l04Steady.t 1 t f n [x0, x1, x2, x3]).get = some r ∧ (impl_Stone_steadySpeed.t t f n x0 x1 x2 x3).get = some r := by
  obtain ⟨e, h1, h2⟩ := bisect x0 x1 x2 x3 t f n hn
  have h3 : (impl_steady.t t n f x0 x1 x2 x3).get = some e := by
    simp only [impl_steady.t, T.get, h2]
    rfl
  simp only [spec_l04Steady.t, impl_Stone_steadySpeed.t, T.get, sum_ok, sum_gt, impl_Stone_steadySpeed_1, impl_Stone_steadySpeed_1.t, T.val, load1_eq, h1, cond_true]
  rw [show impl_steady.ok t n f x0 x1 x2 x3 = true from T.ok_of_get h3, show impl_steady t n f x0 x1 x2 x3 = e from T.val_of_get h3]
  cases fgt .f32 (spec_l04Load x0 x1 x2 x3 0 f) t <;> exact ⟨_, rfl, rfl⟩

/-- Two floats that are equal and not nought are the same word. -/
theorem eq_word {k : FloatKind} {x y : Nat} (hx : flHas k x) (hy : flHas k y) (h : k.format.order x y = some .eq) (h0 : ∀ s e, k.format.read y ≠ .number s 0 e) : x = y := by
  have key : ∀ d d' : Ieee.Datum, d.order d' = some .eq → (∀ s e, d' ≠ .number s 0 e) → d.isNaN = false ∧ d'.isNaN = false ∧ k.format.write d = k.format.write d' := by
    intro d d' h h0
    cases d with
    | nan s t => cases h
    | infinity s =>
      cases d' with
      | nan s t => cases h
      | number s' m e => cases s <;> simp [Ieee.Datum.order] at h
      | infinity s' => cases s <;> cases s' <;> simp [Ieee.Datum.order] at h <;> exact ⟨rfl, rfl, rfl⟩
    | number s m i =>
      cases d' with
      | nan s t => cases h
      | infinity s' => cases s' <;> simp [Ieee.Datum.order] at h
      | number t n j =>
        refine ⟨rfl, rfl, ?_⟩
        simp only [Ieee.Datum.order, Option.some.injEq] at h
        have h1 : Ieee.signed s m (i - min i j).toNat = Ieee.signed t n (j - min i j).toNat := Int.compare_eq_eq.1 h
        have hn : n ≠ 0 := fun e => h0 t j (by rw [e])
        have hp : 0 < n <<< (j - min i j).toNat := by
          rw [Nat.shiftLeft_eq]
          exact Nat.mul_pos (by omega) (Nat.two_pow_pos _)
        have h2 : s = t ∧ m <<< (i - min i j).toNat = n <<< (j - min i j).toNat := by
          unfold Ieee.signed at h1
          generalize m <<< (i - min i j).toNat = a at h1 ⊢
          generalize n <<< (j - min i j).toNat = b at h1 hp ⊢
          cases s <;> cases t <;> simp at h1 ⊢ <;> omega
        obtain ⟨rfl, h3⟩ := h2
        have e1 := nearest_shift k.format s m (i - min i j).toNat i
        have e2 := nearest_shift k.format s n (j - min i j).toNat j
        rw [Nat.shiftLeft_eq, Nat.shiftLeft_eq] at h3
        show k.format.nearest s m i = k.format.nearest s n j
        rw [← e1, ← e2, h3, show i - ((i - min i j).toNat : Int) = j - ((j - min i j).toNat : Int) by omega]
  obtain ⟨h1, h2, h3⟩ := key _ _ h h0
  rw [← write_read k.format (binade_le k) (two_sw k x hx) h1, ← write_read k.format (binade_le k) (two_sw k y hy) h2, h3]

theorem canon_nan {k : FloatKind} {b : Nat} (h : isNaN k (nz k b) = true) : nz k b = nanOf k := by
  cases hb : isNaN k b with
  | true => exact nz_of_nan hb
  | false =>
    rw [nz_of_not hb] at h
    rw [hb] at h
    cases h
theorem order_none {k : FloatKind} {x y : Nat} (h : k.format.order x y = none) : isNaN k x = true ∨ isNaN k y = true := by
  cases hx : isNaN k x with
  | true => exact .inl rfl
  | false =>
    cases hy : isNaN k y with
    | true => exact .inr rfl
    | false =>
      exfalso
      have h1 : (k.format.read x).isNaN = false := hx
      have h2 : (k.format.read y).isNaN = false := hy
      have h3 : (k.format.read x).order (k.format.read y) = none := h
      cases hd : k.format.read x <;> cases he : k.format.read y <;> rw [hd] at h1 h3 <;> rw [he] at h2 h3 <;> first | (cases h1; done) | (cases h2; done) | (cases h3; done)

theorem fmin_lim {v y : Nat} {m : Nat} {e : Int} (hv : flHas .f32 v) (hc : isNaN .f32 v = true → v = nanOf .f32) (hy : flHas .f32 y) (hr : FloatKind.f32.format.read y = .number false m e) (hm : m ≠ 0) :
    fmin .f32 v y = bif fgt .f32 v y then y else v := by
  unfold fmin fgt
  cases ho : FloatKind.f32.format.order v y with
  | none =>
    rcases order_none ho with h | h
    · rw [hc h]; rfl
    · exfalso
      have : (FloatKind.f32.format.read y).isNaN = true := h
      rw [hr] at this
      cases this
  | some o =>
    cases o with
    | lt => rfl
    | gt => rfl
    | eq =>
      have e := eq_word hv hy ho fun s e h => by
        rw [hr] at h
        cases h
        exact hm rfl
      rw [e]
      cases (FloatKind.f32.decode y).neg <;> rfl
theorem fmin_amount (a b : Nat) : fmin .f32 (fmul .f32 a b) 1233125376 = bif fgt .f32 (fmul .f32 a b) 1233125376 then 1233125376 else fmul .f32 a b :=
  fmin_lim (fmul_has .f32 a b) (fun h => canon_nan h) (show flHas .f32 1233125376 from by unfold flHas; decide) (show FloatKind.f32.format.read 1233125376 = .number false 8388608 (-3) by kernel_rfl) (by omega)

theorem least_eq (x : Nat) : impl_atLeast0 x = spec_l03Least x := by
  simp only [impl_atLeast0, impl_atLeast0.t, spec_l03Least, spec_l03Least.t, T.val]
theorem dull_eq (x0 x1 x2 x3 x4 : Nat) : impl_Stone_dull x4 x0 x1 x2 x3 = spec_l04Dulled x0 x1 x2 x3 x4 := by
  simp only [impl_Stone_dull, impl_Stone_dull.t, spec_l04Dulled, spec_l04Dulled.t, T.val, least_eq]
theorem hour_t (x0 x1 x2 x3 x4 x5 : Nat) : ∃ a b c d f, (spec_l04Hour.t x0 x1 x2 x3 x4 x5).get = some (a, b, c, d, f) ∧ (impl_Stone_hour.t x4 x5 x0 x1 x2 x3).get = some (f, a, b, c, d) := by
  obtain ⟨⟨s, ok⟩, h1, h2⟩ := steady_t x0 x1 x2 x3 x4 x5 40 (by omega)
  simp only [spec_l04Hour.t, impl_Stone_hour.t, T.get, impl_Stone_flour, impl_Stone_flour.t, spec_l04Flour, spec_l04Flour.t, T.val, fmin_amount, dull_eq,
    show spec_l04Steady.ok 1 x4 x5 40 [x0, x1, x2, x3] = true from T.ok_of_get h1, show spec_l04Steady 1 x4 x5 40 [x0, x1, x2, x3] = (s, ok) from T.val_of_get h1,
    show impl_Stone_steadySpeed.ok x4 x5 40 x0 x1 x2 x3 = true from T.ok_of_get h2, show impl_Stone_steadySpeed x4 x5 40 x0 x1 x2 x3 = (s, ok) from T.val_of_get h2]
  cases ok
  · exact ⟨_, _, _, _, _, rfl, rfl⟩
  · cases fgt .f32 (fmul .f32 (fmul .f32 s x5) x3) 1233125376 <;> exact ⟨_, _, _, _, _, rfl, rfl⟩

theorem same_refl (x : Nat) : laws_sameFloat x x = true := same_self (s := laws_sameFloat.t) (fun _ _ => rfl) x

theorem eqStone_t (x0 x1 x2 x3 : Nat) : (laws_eqStone.t x0 x1 x2 x3 x0 x1 x2 x3).get = some true := by
  simp only [laws_eqStone.t, T.get, open_wide, same_refl]
  simp
theorem eqStone_ok (x0 x1 x2 x3 : Nat) : laws_eqStone.ok x0 x1 x2 x3 x0 x1 x2 x3 = true := T.ok_of_get (eqStone_t x0 x1 x2 x3)
theorem eqStone_eq (x0 x1 x2 x3 : Nat) : laws_eqStone x0 x1 x2 x3 x0 x1 x2 x3 = true := T.val_of_get (eqStone_t x0 x1 x2 x3)

theorem grind_t (x0 x1 x2 x3 x4 x5 : Nat) : ∃ r, (spec_GrindHour.t x0 x1 x2 x3 x4 x5).get = some r ∧ (impl_GrindHour.t x0 x1 x2 x3 x4 x5).get = some r := by
  obtain ⟨a, b, c, d, f, h1, h2⟩ := hour_t x0 x1 x2 x3 x4 x5
  simp only [spec_GrindHour.t, impl_GrindHour.t, T.get, spec_l04Turned, spec_l04Turned.t, spec_l04Asked, spec_l04Asked.t, impl_stoneCode, impl_stoneCode.t, T.val, valid_eq, rate_eq, amount_eq, rate_0,
    show spec_l04Hour.ok x0 x1 x2 x3 x4 x5 = true from T.ok_of_get h1, show spec_l04Hour x0 x1 x2 x3 x4 x5 = (a, b, c, d, f) from T.val_of_get h1,
    show impl_Stone_hour.ok x4 x5 x0 x1 x2 x3 = true from T.ok_of_get h2, show impl_Stone_hour x4 x5 x0 x1 x2 x3 = (f, a, b, c, d) from T.val_of_get h2]
  cases spec_l04Ok x0 x1 x2 x3 <;> cases spec_l04Rate x5 <;> cases spec_l03Amount x4 <;> exact ⟨_, rfl, rfl⟩
theorem law_holds (x0 x1 x2 x3 x4 x5 : Nat) : (laws_FnExactGrindHour.t x0 x1 x2 x3 x4 x5).get = some true := by
  obtain ⟨r, h1, h2⟩ := grind_t x0 x1 x2 x3 x4 x5
  simp only [laws_FnExactGrindHour.t, T.get, stone_eq, open_wide, show spec_GrindHour.ok x0 x1 x2 x3 x4 x5 = true from T.ok_of_get h1, show spec_GrindHour x0 x1 x2 x3 x4 x5 = r from T.val_of_get h1,
    show impl_GrindHour.ok x0 x1 x2 x3 x4 x5 = true from T.ok_of_get h2, show impl_GrindHour x0 x1 x2 x3 x4 x5 = r from T.val_of_get h2, same_refl, eqStone_ok, eqStone_eq]
  simp

theorem law_plain (x0_0 : Nat) (x0_1 : Nat) (x0_2 : Nat) (x0_3 : Nat) (x1 : Nat) (x2 : Nat) (f0_0 : flHas .f32 x0_0) (f0_1 : flHas .f32 x0_1) (f0_2 : flHas .f32 x0_2) (f0_3 : flHas .f32 x0_3) (f1 : flHas .f32 x1) (f2 : flHas .f32 x2) : (laws_FnExactGrindHour.tr (x0_0, x0_1, x0_2, x0_3, x1, x2)).get = some true := law_holds x0_0 x0_1 x0_2 x0_3 x1 x2
theorem own : ownKnob Try.prog.godebug = none := by kernel_rfl
theorem laidOut : laidOutB Try.prog = true := by kernel_rfl
theorem lifted (os : Os) (started : os.Started) (H : Type) (enc : TypeId × Value → H) :
    ReturnsInHanded {} Try.checked os 13 .any (Rows.fnExactGrindHourSpec.pre6 enc Try.prog Try.f13 Rows.fnExactGrindHourRow.domain false) (Rows.fnExactGrindHourSpec.post enc Try.prog Try.f13 false true false false) := by
  refine returnsInHanded_of_change (C := Try.checked) own started (by kernel_rfl) Try.func13
    (ChangeSpec.witness6 (enc := enc) (C := Try.checked) false ⟨#[], #[.agg #[.float .f32 0, .float .f32 0, .float .f32 0, .float .f32 0], .float .f32 0, .float .f32 0], []⟩ 8 (by kernel_rfl) (by kernel_rfl) (by kernel_rfl) (by kernel_rfl)) ?_
  intro W base args ds gs before hval0 hW hcnd _
  have hval : ∀ (j : Nat) t v, Try.f13.params[j]? = some t → args[j]? = some v → Value.okWide Try.prog W .any base t v := hval0
  have hW' := hW
  obtain ⟨p, q, hA0, hV, rfl, hfz, hnd⟩ := hW
  have hA : DataW.TrodAll enc Try.prog W 0 (fun _ => true) true Try.f13.params.toList args.toList ds p := hA0
  rw [Try.params13] at hA hval
  obtain ⟨v0, vs0, d0, ds0, p0, q0, hargs, rfl, rfl, h0, r0⟩ := trodAll_cons hA
  obtain ⟨v1, vs1, d1, ds1, p1, q1, rfl, rfl, rfl, h1, r1⟩ := trodAll_cons r0
  obtain ⟨v2, vs2, d2, ds2, p2, q2, rfl, rfl, rfl, h2, r2⟩ := trodAll_cons r1
  obtain ⟨rfl, rfl, rfl⟩ := trodAll_nil r2
  obtain rfl : args = #[v0, v1, v2] := by cases args; simp_all
  obtain ⟨rfl, rfl⟩ := trodVars_none hV
  have k0 := h0
  have lt0 : ∀ x ∈ p0, x.block < W.heap.size := by obtain ⟨m, hm⟩ := k0; exact DataW.trod_lt m _ _ _ hm
  obtain ⟨cs0, rfl, hc0⟩ := open_row (ts := [22, 22, 22, 22]) Try.underlying25 rfl (by kernel_rfl) (by kernel_rfl) (hval 0 25 v0 rfl rfl)
  obtain ⟨u0_0, m0_0, e0, g0_0, hc0⟩ := hc0
  obtain ⟨x0_0, r0_0, f0_0⟩ := sc_fl Try.underlying22 g0_0
  obtain ⟨u0_1, m0_1, rfl, g0_1, hc0⟩ := hc0
  obtain ⟨x0_1, r0_1, f0_1⟩ := sc_fl Try.underlying22 g0_1
  obtain ⟨u0_2, m0_2, rfl, g0_2, hc0⟩ := hc0
  obtain ⟨x0_2, r0_2, f0_2⟩ := sc_fl Try.underlying22 g0_2
  obtain ⟨u0_3, m0_3, rfl, g0_3, hc0⟩ := hc0
  obtain ⟨x0_3, r0_3, f0_3⟩ := sc_fl Try.underlying22 g0_3
  obtain rfl := hc0
  have k1 := h1
  have lt1 : ∀ x ∈ p1, x.block < W.heap.size := by obtain ⟨m, hm⟩ := k1; exact DataW.trod_lt m _ _ _ hm
  obtain ⟨x1, r1, f1⟩ := sc_fl Try.underlying22 (cell_of Try.underlying22 rfl (hval 1 22 v1 rfl rfl))
  have k2 := h2
  have lt2 : ∀ x ∈ p2, x.block < W.heap.size := by obtain ⟨m, hm⟩ := k2; exact DataW.trod_lt m _ _ _ hm
  obtain ⟨x2, r2, f2⟩ := sc_fl Try.underlying22 (cell_of Try.underlying22 rfl (hval 2 22 v2 rfl rfl))
  clear hA0 hval0
  refine (laws_FnExactGrindHour.walk (x0_0, x0_1, x0_2, x0_3, x1, x2) (law_plain x0_0 x0_1 x0_2 x0_3 x1 x2 f0_0 f0_1 f0_2 f0_3 f1 f2) (ρ := fun i => (lget ([] : List (Sx.Loc × Cells)) i).map (·.1)) (Rs_cons' (agg_R (by rw [e0]; exact (Rs_cons' (r0_0 _) (Rs_cons' (r0_1 _) (Rs_cons' (r0_2 _) (Rs_cons' (r0_3 _) Rs_nil')))))) (Rs_cons' (r1 _) (Rs_cons' (r2 _) Rs_nil'))) (HpR.ofRo [] (List.forall_mem_nil _))).mono fun e W' ⟨he, bel⟩ => ?_
  subst he
  exact ⟨_, rfl, _, _, _, [], _, [], hW', trodAll_mk1 (shut_bool Try.underlying4 _), (trodAll_cons_mk (Below.trod laidOut (by kernel_rfl) (of_decide_eq_true (by kernel_rfl)) k0 bel lt0) (trodAll_cons_mk (Below.trod laidOut (by kernel_rfl) (of_decide_eq_true (by kernel_rfl)) k1 bel lt1) (trodAll_cons_mk (Below.trod laidOut (by kernel_rfl) (of_decide_eq_true (by kernel_rfl)) k2 bel lt2) trodAll_mk0))), rfl, bel.frame _, fun h => by cases h⟩
theorem over : Rows.fnExactGrindHourRow.holds Try.pinned (OpenSpec.ofChange Rows.fnExactGrindHourSpec) :=
  OpenClaim.holds_of_wide 13 Try.f13 rfl rfl rfl rfl rfl rfl rfl ⟨rfl, rfl, rfl, rfl, rfl⟩ rfl rfl rfl rfl rfl (by kernel_rfl) Try.func13 (by kernel_rfl)
    (of_decide_eq_true (by kernel_rfl)) (by unfold Func.isWrapper; first | (rw [if_pos (by decide +kernel)]; kernel_rfl) | (rw [if_neg (by decide +kernel)]; exact ⟨rfl, rfl⟩))
    (fun os started H enc _ => lifted os started H enc)
theorem proved : Rows.FnExactGrindHourSaid := over
end Go.Proofs.Ytnhjchjdnhebkaa
