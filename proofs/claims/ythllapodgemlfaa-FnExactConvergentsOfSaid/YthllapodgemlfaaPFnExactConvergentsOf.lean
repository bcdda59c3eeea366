/- For every input the call of FnExactConvergentsOf returns true, and each argument reads afterwards as it read before; there is no condition. -/
import Derived.Test.YthllapodgemlfaaWFnExactConvergentsOf
import Derived.Test.YthllapodgemlfaaSxS
import Derived.Test.YthllapodgemlfaaRows
import Derived.WalkKit
import Derived.ProofKit
import Derived.OpenShut
import Derived.ShutString
import Derived.ChangeOld
import Derived.Below
import Derived.Carry
import Derived.HandedShaped
namespace Go.Proofs.Ythllapodgemlfaa
open Go Go.RowKit Sx
open Go.ChangeShapes Go.WideShapes Go.ChangeAt
set_option linter.unusedVariables false
set_option linter.unusedSimpArgs false
set_option maxRecDepth 100000

theorem target_eq (x : Nat) : impl_isTarget x = spec_l05Target x := by
  simp only [impl_isTarget, impl_isTarget.t, impl_between, impl_between.t, spec_l05Target, spec_l05Target.t, T.val, fge_flip]

theorem target_le {x : Nat} (h : spec_l05Target x = true) : fle .f32 981467136 x = true ∧ fle .f32 x 1149239296 = true := by
  simp only [spec_l05Target, spec_l05Target.t, T.val, fge_flip] at h
  cases h1 : fle .f32 981467136 x <;> rw [h1] at h
  · cases h
  · exact ⟨rfl, h⟩
/-- How often two divides m: d times at most. -/
def two (m : Nat) : Nat → Nat
  | 0 => 0
  | d + 1 => bif decide (m % 2 ^ (d + 1) = 0) then d + 1 else two m d
theorem two_le (m : Nat) : ∀ d, two m d ≤ d
  | 0 => Nat.le_refl _
  | d + 1 => by
    have := two_le m d
    unfold two
    cases decide (m % 2 ^ (d + 1) = 0) <;> simp <;> omega
theorem two_dvd (m : Nat) : ∀ d, m % 2 ^ two m d = 0
  | 0 => by simp [two, Nat.mod_one]
  | d + 1 => by
    have := two_dvd m d
    unfold two
    by_cases h : m % 2 ^ (d + 1) = 0
    · rw [decide_eq_true h]
      exact h
    · rw [decide_eq_false h]
      exact this
theorem two_max (m : Nat) : ∀ d, two m d < d → m % 2 ^ (two m d + 1) ≠ 0
  | 0, h => by omega
  | d + 1, h => by
    unfold two at h ⊢
    by_cases h0 : m % 2 ^ (d + 1) = 0
    · rw [decide_eq_true h0] at h
      simp at h
    · rw [decide_eq_false h0] at h ⊢
      simp only [cond_false] at h ⊢
      by_cases h1 : two m d = d
      · rw [h1]
        exact h0
      · have := two_le m d
        exact two_max m d (by omega)
theorem two_gcd (m d : Nat) : Nat.gcd m (2 ^ d) = 2 ^ two m d := by
  have hle := two_le m d
  have h1 : m = 2 ^ two m d * (m / 2 ^ two m d) := by
    have := Nat.div_add_mod m (2 ^ two m d)
    rw [two_dvd m d] at this
    omega
  have h2 : 2 ^ d = 2 ^ two m d * 2 ^ (d - two m d) := by
    rw [← Nat.pow_add]
    congr 1
    omega
  have h3 : Nat.gcd (m / 2 ^ two m d) (2 ^ (d - two m d)) = 1 := by
    by_cases hlt : two m d < d
    · refine Nat.Coprime.pow_right _ ?_
      show Nat.gcd _ 2 = 1
      have hodd : m / 2 ^ two m d % 2 = 1 := by
        have h4 := two_max m d hlt
        rw [Nat.pow_succ, Nat.mod_mul, two_dvd m d, Nat.zero_add] at h4
        rcases Nat.mod_two_eq_zero_or_one (m / 2 ^ two m d) with h5 | h5
        · rw [h5] at h4
          simp at h4
        · exact h5
      rw [Nat.gcd_comm, Nat.gcd_rec, hodd]
      rfl
    · rw [show d - two m d = 0 by omega, Nat.pow_zero, Nat.gcd_one_right]
  have h4 : Nat.gcd (2 ^ two m d * (m / 2 ^ two m d)) (2 ^ two m d * 2 ^ (d - two m d)) = 2 ^ two m d := by
    rw [Nat.gcd_mul_left, h3, Nat.mul_one]
  rw [← h1, ← h2] at h4
  exact h4
theorem wrap_dbl (z : Nat) (h : z * 2 ≤ 1152921504606846976) : IntKind.wrap .i64 ((z : Int) * 2) = ((z * 2 : Nat) : Int) := by
  rw [wrap64 (by omega) (by omega)]
  omega
theorem pow60 {c : Nat} (h : c + 1 ≤ 60) : 2 ^ c * 2 ≤ 1152921504606846976 := by
  rw [← Nat.pow_succ]
  exact Nat.pow_le_pow_right (n := 2) (by omega) h
theorem exact_r (m : Nat) (hm : m ≠ 0) (h53 : m < 2 ^ (52 + 1)) : ∀ (d c N : Nat), d + c ≤ 60 → d < N →
    iterT (impl_exact.l2.st (0, 0)) N (FloatKind.f64.format.nearest false m (-(d : Int)), ((2 ^ c : Nat) : Int)) = some (FloatKind.f64.format.nearest false m (-(two m d : Int)), ((2 ^ (c + (d - two m d)) : Nat) : Int))
  | d, c, 0, h1, h2 => by omega
  | d, c, N + 1, h1, h2 => by
    have hi := near64_int (m := m) (d := d) hm h53 (by omega)
    have hw := near64_whole (m := m) (d := d) hm h53 (by omega)
    have hok : ftoiOk .f64 .i64 (FloatKind.f64.format.nearest false m (-(d : Int))) = true := by
      unfold ftoiOk
      rw [hi]
      rfl
    have hft : ftoi .f64 .i64 (FloatKind.f64.format.nearest false m (-(d : Int))) = ((m / 2 ^ d : Nat) : Int) := by
      unfold ftoi
      rw [hi]
      rfl
    rw [iterT_succ]
    simp only [impl_exact.l2.st, impl_exact.l2.s, T.get, hok, hft, hw, cond_true]
    by_cases h0 : m % 2 ^ d = 0
    · rw [decide_eq_true h0]
      have ht : two m d = d := by
        cases d with
        | zero => rfl
        | succ d =>
          unfold two
          rw [decide_eq_true h0]
          rfl
      rw [ht, Nat.sub_self, Nat.add_zero]
      rfl
    · rw [decide_eq_false h0]
      cases d with
      | zero => simp [Nat.mod_one] at h0
      | succ d =>
        have hl : m.log2 ≤ 52 := log2_le_of_lt hm h53
        have ht : two m (d + 1) = two m d := by
          rw [two, decide_eq_false h0]
          rfl
        have hle := two_le m d
        simp only [Bool.not_false, cond_true]
        rw [near64_mul2 hm h53 (by omega) (by omega), show -((d + 1 : Nat) : Int) + 1 = -(d : Int) by omega]
        rw [wrap_dbl (2 ^ c) (pow60 (by omega)), ← Nat.pow_succ, ht, show c + (d + 1 - two m d) = c + 1 + (d - two m d) by omega]
        exact exact_r m hm h53 d (c + 1) N (by omega) (by omega)
theorem den_r (x y : Int) (z : Int) (k d : Nat) (hd : d ≤ 60) (hk : k + d = 150) : spec_l05Exact.l5.r (x, y, z) (1, (k : Int)) = some ((2 ^ d : Nat) : Int) := by
  have hf := iter_run (step := spec_l05Exact.l5.st (x, y, z)) (f := fun i => (((2 ^ i : Nat) : Int), ((k + i : Nat) : Int))) (e := ((2 ^ d : Nat) : Int)) (n := d) (N := manyRounds) (k := 0) (many_lt (by omega)) (fun i hi => ?_) ?_
  · exact hf
  · simp only [Nat.zero_add, spec_l05Exact.l5.st, spec_l05Exact.l5.s, T.get]
    rw [decide_eq_true (by omega : ((k + i : Nat) : Int) < 150), wrap64_succ (by omega)]
    rw [wrap_dbl (2 ^ i) (pow60 (by omega)), ← Nat.pow_succ]
    rfl
  · simp only [Nat.zero_add, spec_l05Exact.l5.st, spec_l05Exact.l5.s, T.get]
    rw [decide_eq_false (by omega : ¬ ((k + d : Nat) : Int) < 150)]
    rfl
theorem common_t (a b : Nat) (hb : b < 18446744073709551615) : (spec_l01Common.t (a : Int) (b : Int)).get = some ((Nat.gcd a b : Nat) : Int) := by
  have h1 : spec_l01Common.l1.r () ((a : Int), (b : Int)) = some ((Nat.gcd a b : Nat) : Int) := gcd_run (fun x y => by
    simp only [spec_l01Common.l1.st, spec_l01Common.l1.s, gcdStep, T.get]
    by_cases hy : y = 0
    · subst hy
      rfl
    · rw [decide_eq_true (by omega : ((y : Nat) : Int) > 0), show ((y : Int) != 0) = true by simp; omega]) a b hb
  simp only [spec_l01Common.t, T.get, h1]
  rfl
/-- A number from 1/1024 to 1024 as a fraction. -/
theorem exact_ex {a : Nat} (ha : flHas .f32 a) (ht : spec_l05Target a = true) :
    ∃ n j m d : Nat, (spec_l05Exact.t a).get = some ((n : Int), ((2 ^ j : Nat) : Int)) ∧ (impl_exact.t a).get = some ((n : Int), ((2 ^ j : Nat) : Int)) ∧
      FloatKind.f32.format.read a = .number false m (-(d : Int)) ∧ n * 2 ^ d = m * 2 ^ j ∧ 0 < n ∧ n < 16777216 ∧ j ≤ 33 ∧ n < 2048 * 2 ^ j ∧ Nat.gcd n (2 ^ j) = 1 := by
  obtain ⟨h1, h2⟩ := target_le ht
  obtain ⟨d, hd1, hd2, hr, hq⟩ := target_read ha h1 h2
  have ha' : a < 4294967296 := ha
  generalize hm : 8388608 + a % 8388608 = m at hr
  have hm1 : 8388608 ≤ m := by omega
  have hm2 : m < 16777216 := by omega
  have h53 : m < 2 ^ (52 + 1) := by
    have : (2 : Nat) ^ (52 + 1) = 9007199254740992 := by decide
    omega
  have hlog : m.log2 ≤ 52 := log2_le_of_lt (by omega) h53
  have hle := two_le m d
  have hdv : m = m / 2 ^ two m d * 2 ^ two m d := by
    have := Nat.div_add_mod m (2 ^ two m d)
    rw [two_dvd m d, Nat.mul_comm] at this
    omega
  have hpos : 0 < 2 ^ two m d := Nat.two_pow_pos _
  have hn0 : 0 < m / 2 ^ two m d := by
    refine Nat.pos_of_ne_zero fun h0 => ?_
    rw [h0] at hdv
    omega
  have hsplit : 2 ^ d = 2 ^ (d - two m d) * 2 ^ two m d := by
    rw [← Nat.pow_add]
    congr 1
    omega
  have hbig : m < 2048 * 2 ^ d := by
    have : 2 ^ 13 ≤ 2 ^ d := Nat.pow_le_pow_right (by omega) hd1
    omega
  refine ⟨m / 2 ^ two m d, d - two m d, m, d, ?_, ?_, hr, ?_, hn0, ?_, by omega, ?_, ?_⟩
  · have hnan : isNaN .f32 a = false := by
      show (FloatKind.f32.format.read a).isNaN = false
      rw [hr]
      rfl
    have hbits : IntKind.wrap .i64 (a : Int) = (a : Int) := wrap64_nat (Nat.lt_trans ha' (by decide))
    have hnum : IntKind.wrap .i64 (Int.tmod (a : Int) 8388608 + 8388608) = (m : Int) := by
      have : Int.tmod (a : Int) 8388608 = ((a % 8388608 : Nat) : Int) := (Int.ofNat_tmod a 8388608).symm
      rw [this, ← hm]
      exact (wrap64 (by omega) (by omega)).trans (by omega)
    have hexp : IntKind.wrap .i64 (Int.tdiv (a : Int) 8388608) = ((150 - d : Nat) : Int) := by
      have : Int.tdiv (a : Int) 8388608 = ((a / 8388608 : Nat) : Int) := (Int.ofNat_tdiv a 8388608).symm
      rw [this, hq]
      exact wrap64_nat (Nat.lt_of_le_of_lt (Nat.sub_le _ _) (by decide))
    have hden := fun x y z => den_r x y z (150 - d) d (by omega) (by omega)
    have hcom := common_t m (2 ^ d) (Nat.lt_of_le_of_lt (Nat.pow_le_pow_right (by omega) hd2 : 2 ^ d ≤ 2 ^ 33) (by decide))
    rw [two_gcd] at hcom
    have hz : (((2 ^ two m d : Nat) : Int) == 0) = false := by
      rw [beq_eq_false_iff_ne]
      omega
    have hp33 : 2 ^ (d - two m d) ≤ 2 ^ 33 := Nat.pow_le_pow_right (by omega) (by omega)
    have q1 : IntKind.wrap .i64 (Int.tdiv (m : Int) ((2 ^ two m d : Nat) : Int)) = ((m / 2 ^ two m d : Nat) : Int) := by
      have : Int.tdiv (m : Int) ((2 ^ two m d : Nat) : Int) = ((m / 2 ^ two m d : Nat) : Int) := (Int.ofNat_tdiv m (2 ^ two m d)).symm
      rw [this]
      exact wrap64_nat (Nat.lt_of_le_of_lt (Nat.div_le_self _ _) (Nat.lt_trans hm2 (by decide)))
    have q2 : IntKind.wrap .i64 (Int.tdiv ((2 ^ d : Nat) : Int) ((2 ^ two m d : Nat) : Int)) = ((2 ^ (d - two m d) : Nat) : Int) := by
      have : Int.tdiv ((2 ^ d : Nat) : Int) ((2 ^ two m d : Nat) : Int) = ((2 ^ d / 2 ^ two m d : Nat) : Int) := (Int.ofNat_tdiv (2 ^ d) (2 ^ two m d)).symm
      rw [this, hsplit, Nat.mul_div_cancel _ hpos]
      exact wrap64_nat (Nat.lt_of_le_of_lt hp33 (by decide))
    simp only [spec_l05Exact.t, T.get, hnan, hbits, hnum, hexp, hden, Option.isSome_some, Option.getD_some, show spec_l01Common.ok (m : Int) ((2 ^ d : Nat) : Int) = true from T.ok_of_get (hcom), show spec_l01Common (m : Int) ((2 ^ d : Nat) : Int) = ((2 ^ two m d : Nat) : Int) from T.val_of_get (hcom), hz, q1, q2, cond_true, cond_false]
  · have hf := fcv_wide hr (by omega) h53 (by omega) (by omega)
    have hx := exact_r m (by omega) h53 d 0 manyRounds (by omega) (many_lt (by omega))
    rw [Nat.zero_add] at hx
    have hi := near64_int (m := m) (d := two m d) (by omega) h53 (by omega)
    have hok : ftoiOk .f64 .i64 (FloatKind.f64.format.nearest false m (-(two m d : Int))) = true := by
      unfold ftoiOk
      rw [hi]
      rfl
    have hft : ftoi .f64 .i64 (FloatKind.f64.format.nearest false m (-(two m d : Int))) = ((m / 2 ^ two m d : Nat) : Int) := by
      unfold ftoi
      rw [hi]
      rfl
    have hx' : impl_exact.l2.r (0, 0) (FloatKind.f64.format.nearest false m (-(d : Int)), 1) = some (FloatKind.f64.format.nearest false m (-(two m d : Int)), ((2 ^ (d - two m d) : Nat) : Int)) := hx
    simp only [impl_exact.t, T.get, open_wide, hf, hx', Option.isSome_some, Option.getD_some, hok, hft, cond_true, cond_false]
  · have e : m / 2 ^ two m d * (2 ^ (d - two m d) * 2 ^ two m d) = m / 2 ^ two m d * 2 ^ two m d * 2 ^ (d - two m d) := by
      rw [Nat.mul_comm (2 ^ (d - two m d)), ← Nat.mul_assoc]
    rw [hsplit, e, ← hdv]
  · exact Nat.lt_of_le_of_lt (Nat.div_le_self _ _) hm2
  · rw [hsplit] at hbig
    have : m / 2 ^ two m d * 2 ^ two m d < 2048 * 2 ^ (d - two m d) * 2 ^ two m d := by
      rw [← hdv, Nat.mul_assoc]
      exact hbig
    exact Nat.lt_of_mul_lt_mul_right this
  · have := two_gcd m d
    have h3 : Nat.gcd (m / 2 ^ two m d * 2 ^ two m d) (2 ^ (d - two m d) * 2 ^ two m d) = 2 ^ two m d := by
      rw [← hdv, ← hsplit]
      exact this
    rw [Nat.gcd_mul_right] at h3
    exact Nat.eq_of_mul_eq_mul_right hpos (by rw [h3, Nat.one_mul])

theorem within_eq (x y z : Int) : impl_within x y z = spec_l00In x y z := by
  simp only [impl_within, impl_within.t, spec_l00In, spec_l00In.t, T.val, ge_iff_le]

theorem most_eq (x0 : Nat) (x1 : Int) : spec_l05Most x0 x1 = bif spec_l05Target x0 && spec_l00In x1 1 1000000 then 0 else 2 := by
  simp only [spec_l05Most, spec_l05Most.t, T.val]
  cases spec_l05Target x0 <;> cases spec_l00In x1 1 1000000 <;> rfl

theorem conv_r (n q : Nat) (m : Int) (hn : n < 4611686018427387904) (hq : q < 4611686018427387904) :
    ∃ l out, spec_l05Convergents.l7.r m ((n : Int), (q : Int), 0, 0, 1, 1, 0, []) = some (l, out) ∧ impl_ConvergentsOf.l5.r m (0, [], (n : Int), (q : Int), 0, 1, 1, 0) = some (l, out) ∧ List.length out = l * 2 ∧ l ≤ 40 := by
  obtain ⟨e, e', h1, h2, h3, h4, h5⟩ := iter_two (step := spec_l05Convergents.l7.st m) (step' := impl_ConvergentsOf.l5.st m)
    (R := fun s t => ∃ (a b : Nat) (l : Nat) (x y z w : Int) (out : List Int), s = ((a : Int), (b : Int), l, x, y, z, w, out) ∧ t = (l, out, (a : Int), (b : Int), x, y, z, w) ∧ a < 4611686018427387904 ∧ b < 4611686018427387904 ∧ l ≤ 40 ∧ out.length = l * 2) (E := fun e e' => e = e' ∧ e.2.length = e.1 * 2 ∧ e.1 ≤ 40) (fun s => 40 - s.2.2.1) (by
    rintro _ _ ⟨a, b, l, x, y, z, w, out, rfl, rfl, ha, hb, hl, ho⟩
    simp only [spec_l05Convergents.l7.st, spec_l05Convergents.l7.s, impl_ConvergentsOf.l5.st, impl_ConvergentsOf.l5.s, T.get]
    by_cases hb0 : b = 0
    · subst hb0
      exact .inr ⟨_, _, rfl, rfl, rfl, ho, hl⟩
    · have hbne : ((b : Int) != 0) = true := by simp; omega
      have hbeq : ((b : Int) == 0) = false := by simp; omega
      rw [decide_eq_true (by omega : (b : Int) > 0), hbne, hbeq]
      simp only [cond_true, cond_false]
      by_cases hlt : l < 40
      · rw [decide_eq_true (by omega : (l : Int) < 40)]
        have e1 : IntKind.wrap .i64 (Int.tdiv (a : Int) (b : Int)) = ((a / b : Nat) : Int) := by
          rw [← Int.ofNat_tdiv]
          exact wrap64_nat (Nat.lt_of_le_of_lt (Nat.div_le_self _ _) (by omega))
        have hdm := Nat.div_add_mod a b
        have hmod := Nat.mod_lt a (Nat.pos_of_ne_zero hb0)
        have hab : a / b * b ≤ a := Nat.div_mul_le_self a b
        have e2 : IntKind.wrap .i64 (((a / b : Nat) : Int) * (b : Int)) = ((a / b * b : Nat) : Int) := by
          rw [← Int.natCast_mul]
          exact wrap64_nat (by omega)
        have e3 : IntKind.wrap .i64 ((a : Int) - ((a / b * b : Nat) : Int)) = ((a % b : Nat) : Int) := by
          refine wrap64_of ?_ (by omega)
          rw [Nat.mul_comm] at hab ⊢
          omega
        rw [e1, e2, e3]
        generalize IntKind.wrap .i64 (IntKind.wrap .i64 (((a / b : Nat) : Int) * z) + x) = u
        generalize IntKind.wrap .i64 (IntKind.wrap .i64 (((a / b : Nat) : Int) * w) + y) = v
        simp only [cond_true]
        cases decide (v > m) with
        | true => exact .inr ⟨_, _, rfl, rfl, rfl, ho, hl⟩
        | false =>
          have hc : (Nat.ble 2 (List.length [u, v]) && (Nat.beq out.length (l * 2) && Nat.ble ((l + 1) * 16) 35184372088832 && Nat.ble (l + 1) 35184372088832)) = true := by
            rw [ho, Nat.beq_refl, ble_decide, ble_decide, ble_decide, decide_eq_true (by simp : 2 ≤ List.length [u, v]), decide_eq_true (by omega : (l + 1) * 16 ≤ 35184372088832), decide_eq_true (by omega : l + 1 ≤ 35184372088832)]
            rfl
          rw [hc]
          refine .inl ⟨_, _, rfl, rfl, ⟨b, a % b, l + 1, z, w, u, v, out ++ [u, v], rfl, rfl, hb, by omega, by omega, by simp [ho]; omega⟩, by dsimp only; omega⟩
      · rw [decide_eq_false (by omega : ¬ (l : Int) < 40)]
        exact .inr ⟨_, _, rfl, rfl, rfl, ho, hl⟩) manyRounds ((n : Int), (q : Int), 0, 0, 1, 1, 0, []) (0, [], (n : Int), (q : Int), 0, 1, 1, 0) ⟨n, q, 0, 0, 1, 1, 0, [], rfl, rfl, hn, hq, by omega, rfl⟩ (many_lt (by dsimp only; omega))
  subst h3
  exact ⟨e.1, e.2, h1, h2, h4, h5⟩
theorem conv_t (x0 : Nat) (x1 : Int) (hx : flHas .f32 x0) :
    (∃ c, (spec_ConvergentsOf.t x0 x1).get = some (0, c, []) ∧ (impl_ConvergentsOf.t x0 x1).get = some (.inl c)) ∨ (∃ n out, List.length out = n * 2 ∧ n ≤ 40 ∧ (spec_ConvergentsOf.t x0 x1).get = some (n, 0, out) ∧ (impl_ConvergentsOf.t x0 x1).get = some (.inr (n, 0, out))) := by
  simp only [spec_ConvergentsOf.t, impl_ConvergentsOf.t, T.get, target_eq, within_eq, most_eq]
  cases ht : spec_l05Target x0 with
  | false => exact .inl ⟨_, rfl, rfl⟩
  | true =>
    cases hi : spec_l00In x1 1 1000000 with
    | false => exact .inl ⟨_, rfl, rfl⟩
    | true =>
      obtain ⟨n, j, m, d, h1, h2, _, _, hn0, hn, hj, hnj, _⟩ := exact_ex hx ht
      have hp2 : 2 ^ j < 4611686018427387904 := Nat.lt_of_le_of_lt (Nat.pow_le_pow_right (by omega) hj) (by decide)
      obtain ⟨l, out, h3, h4, h5, h6⟩ := conv_r n (2 ^ j) x1 (by omega) hp2
      have h7 : (spec_l05Convergents.t x0 x1).get = some (l, out) := by
        simp only [spec_l05Convergents.t, T.get, show spec_l05Exact.ok x0 = true from T.ok_of_get (h1), show spec_l05Exact x0 = _ from T.val_of_get (h1), h3]
        rfl
      simp only [show spec_l05Convergents.ok x0 x1 = true from T.ok_of_get (h7), show spec_l05Convergents x0 x1 = _ from T.val_of_get (h7), show impl_exact.ok x0 = true from T.ok_of_get (h2), show impl_exact x0 = _ from T.val_of_get (h2), h4]
      exact .inr ⟨l, out, h5, h6, rfl, rfl⟩

theorem eqFr0_t : (laws_eqFractionS.t 0 []).get = some true := by
  have h : laws_eqFractionS.l4.r (0, (0 : Int), []) () = some () := iter_run (step := laws_eqFractionS.l4.st (0, (0 : Int), [])) (f := fun _ => ()) (e := ()) (n := 0) (N := manyRounds) (k := 0) (many_lt (by omega)) (fun i hi => absurd hi (by omega)) rfl
  simp only [laws_eqFractionS.t, T.get, h]
  rfl
theorem markFr0_t : (laws_markFractionS.t 1).get = some 1 := by
  have h : laws_markFractionS.l2.r (1, (0 : Int)) () = some () := iter_run (step := laws_markFractionS.l2.st (1, (0 : Int))) (f := fun _ => ()) (e := ()) (n := 0) (N := manyRounds) (k := 0) (many_lt (by omega)) (fun i hi => absurd hi (by omega)) rfl
  simp only [laws_markFractionS.t, T.get, h]
  rfl
theorem heldFr0_t : (laws_heldFractionS.t 1).get = some 1 := by
  have h : laws_heldFractionS.l2.r (1, (0 : Int)) () = some () := iter_run (step := laws_heldFractionS.l2.st (1, (0 : Int))) (f := fun _ => ()) (e := ()) (n := 0) (N := manyRounds) (k := 0) (many_lt (by omega)) (fun i hi => absurd hi (by omega)) rfl
  simp only [laws_heldFractionS.t, T.get, h]
  rfl
theorem eqFr_t (xs : List Int) (n : Nat) (hx : xs.length = n * 2) (h : n < 1099511627776) : (laws_eqFractionS_w1.t n n xs xs).get = some true := by
  have h1 : laws_eqFractionS_w1.l4.r (n, n, xs, xs) 0 = some (.inr ()) := by
    refine iter_count n (by omega) (fun i hi => ?_) ?_
    · simp only [laws_eqFractionS_w1.l4.st, laws_eqFractionS_w1.l4.s, T.get, bounds_nat, ble_decide, Int.toNat_natCast, laws_eqFraction, laws_eqFraction.t, T.val, bne_self_eq_false]
      rw [decide_eq_true (by omega), decide_eq_true hi, decide_eq_true (by omega)]
      rfl
    · simp only [laws_eqFractionS_w1.l4.st, laws_eqFractionS_w1.l4.s, T.get]
      rw [decide_eq_false (by omega)]
      rfl
  simp only [laws_eqFractionS_w1.t, T.get, h1]
  simp
/-- The first i fractions are marked, from k on. -/
def markedFr (k n i : Nat) (ys : List Int) : Prop := ys.length = n * 2 ∧ ∀ j, j < i → ys.getD (j * 2) 0 = ((k + 2 * j : Nat) : Int) ∧ ys.getD (j * 2 + 1) 0 = ((k + 2 * j + 1 : Nat) : Int)
theorem markFr_t (xs : List Int) (n k : Nat) (hx : xs.length = n * 2) (hk : k + 2 * n < 9223372036854775807) : ∃ ys, (laws_markFractionS_w1.t n (k : Int) xs).get = some (((k + 2 * n : Nat) : Int), ys) ∧ markedFr k n n ys := by
  obtain ⟨ys, h1, h2⟩ := mark_ends (step := laws_markFractionS_w1.l2.st n) (markedFr k n) k 2 n (by omega) xs ⟨hx, fun j hj => by omega⟩ (fun i ys hi hQ => by
    obtain ⟨hl, hm⟩ := hQ
    have e1 : IntKind.wrap .i64 (((k + 2 * i : Nat) : Int) + 1) = ((k + 2 * i + 1 : Nat) : Int) := wrap64_succ (by omega)
    have e2 : IntKind.wrap .i64 (((k + 2 * i + 1 : Nat) : Int) + 1) = ((k + 2 * (i + 1) : Nat) : Int) := wrap64_of (by omega) (by omega)
    refine ⟨(ys.set (i * 2) ((k + 2 * i : Nat) : Int)).set (i * 2 + 1) ((k + 2 * i + 1 : Nat) : Int), ?_, ⟨by rw [List.length_set, List.length_set]; exact hl, fun j hj => ?_⟩⟩
    · simp only [laws_markFractionS_w1.l2.st, laws_markFractionS_w1.l2.s, T.get, bounds_nat, ble_decide, Int.toNat_natCast, List.length_set, hl, e1, e2, Nat.add_zero]
      rw [decide_eq_true (by omega : (i : Int) < (n : Int)), decide_eq_true hi, decide_eq_true (by omega : i * 2 + 1 ≤ n * 2), decide_eq_true (by omega : i * 2 + 1 + 1 ≤ n * 2), wrap64_succ (by omega)]
      rfl
    · rcases Nat.lt_or_ge j i with h | h
      · rw [lD_ne _ _ _ _ _ (by omega), lD_ne _ _ _ _ _ (by omega), lD_ne _ _ _ _ _ (by omega), lD_ne _ _ _ _ _ (by omega)]
        exact hm j h
      · have : j = i := by omega
        subst this
        rw [lD_ne _ _ _ _ _ (by omega), lD_same _ _ _ _ (by omega), lD_same _ _ _ _ (by rw [List.length_set]; omega)]
        exact ⟨rfl, rfl⟩) (fun ys hQ => by
    simp only [laws_markFractionS_w1.l2.st, laws_markFractionS_w1.l2.s, T.get]
    rw [decide_eq_false (by omega)]
    rfl)
  refine ⟨ys, ?_, h2⟩
  have h3 : laws_markFractionS_w1.l2.r n ((k : Int), (0 : Int), xs) = some (((k + 2 * n : Nat) : Int), ys) := h1
  simp only [laws_markFractionS_w1.t, T.get, h3]
  rfl
theorem heldFr_t (n k : Nat) (ys : List Int) (hk : k + 2 * n < 9223372036854775807) (h : markedFr k n n ys) : (laws_heldFractionS_w1.t n (k : Int) ys).get = some (((k + 2 * n : Nat) : Int)) := by
  obtain ⟨hl, hm⟩ := h
  have h3 : laws_heldFractionS_w1.l2.r (n, ys) ((k : Int), (0 : Int)) = some (.inr (((k + 2 * n : Nat) : Int))) := by
    refine held_run k 2 n (by omega) (fun i hi => ?_) ?_
    · have e1 : IntKind.wrap .i64 (((k + 2 * i : Nat) : Int) + 1) = ((k + 2 * i + 1 : Nat) : Int) := wrap64_succ (by omega)
      have e2 : IntKind.wrap .i64 (((k + 2 * i + 1 : Nat) : Int) + 1) = ((k + 2 * (i + 1) : Nat) : Int) := wrap64_of (by omega) (by omega)
      simp only [laws_heldFractionS_w1.l2.st, laws_heldFractionS_w1.l2.s, T.get, bounds_nat, ble_decide, Int.toNat_natCast, Nat.add_zero, hl, (hm i hi).1, (hm i hi).2, e1, e2, bne_self_eq_false]
      rw [decide_eq_true (by omega : (i : Int) < (n : Int)), decide_eq_true hi, decide_eq_true (by omega : i * 2 + 1 ≤ n * 2), decide_eq_true (by omega : i * 2 + 1 + 1 ≤ n * 2), wrap64_succ (by omega)]
      rfl
    · simp only [laws_heldFractionS_w1.l2.st, laws_heldFractionS_w1.l2.s, T.get]
      rw [decide_eq_false (by omega)]
      rfl
  simp only [laws_heldFractionS_w1.t, T.get, h3]
  rfl

/- FACTS -/
theorem law_holds (x0 : Nat) (x1 : Int) (f0 : flHas .f32 x0) (f1 : IntKind.min .i64 ≤ x1 ∧ x1 ≤ IntKind.max .i64) : (laws_FnExactConvergentsOf.t x0 x1).get = some true := by
  simp only [laws_FnExactConvergentsOf.t, T.get]
  rcases conv_t x0 x1 f0 with ⟨c, h1, h2⟩ | ⟨n, out, hn, hn2, h1, h2⟩
  · simp only [show spec_ConvergentsOf.ok x0 x1 = true from T.ok_of_get (h1), show spec_ConvergentsOf x0 x1 = _ from T.val_of_get (h1), show impl_ConvergentsOf.ok x0 x1 = true from T.ok_of_get (h2), show impl_ConvergentsOf x0 x1 = _ from T.val_of_get (h2), show laws_eqFractionS.ok 0 [] = true from T.ok_of_get (eqFr0_t), show laws_eqFractionS 0 [] = _ from T.val_of_get (eqFr0_t), show laws_markFractionS.ok 1 = true from T.ok_of_get (markFr0_t), show laws_markFractionS 1 = _ from T.val_of_get (markFr0_t), show laws_heldFractionS.ok 1 = true from T.ok_of_get (heldFr0_t), show laws_heldFractionS 1 = _ from T.val_of_get (heldFr0_t), getLeftD, Sum.isLeft]
    simp
  · obtain ⟨ys, h3, h4⟩ := markFr_t out n 1 hn (by omega)
    have h3' : (laws_markFractionS_w1.t n (1 : Int) out).get = some (((1 + 2 * n : Nat) : Int), ys) := h3
    have h5' : (laws_heldFractionS_w1.t n (1 : Int) ys).get = some (((1 + 2 * n : Nat) : Int)) := heldFr_t n 1 ys (by omega) h4
    have hneg2 : decide (((1 + 2 * n : Nat) : Int) < 0) = false := decide_eq_false (by omega)
    simp only [show spec_ConvergentsOf.ok x0 x1 = true from T.ok_of_get (h1), show spec_ConvergentsOf x0 x1 = _ from T.val_of_get (h1), show impl_ConvergentsOf.ok x0 x1 = true from T.ok_of_get (h2), show impl_ConvergentsOf x0 x1 = _ from T.val_of_get (h2), getRightD, Sum.isLeft, show laws_eqFractionS_w1.ok n n out out = true from T.ok_of_get (eqFr_t out n hn (by omega)), show laws_eqFractionS_w1 n n out out = _ from T.val_of_get (eqFr_t out n hn (by omega)), show laws_markFractionS_w1.ok n (1 : Int) out = true from T.ok_of_get (h3'), show laws_markFractionS_w1 n (1 : Int) out = _ from T.val_of_get (h3'), show laws_heldFractionS_w1.ok n (1 : Int) ys = true from T.ok_of_get (h5'), show laws_heldFractionS_w1 n (1 : Int) ys = _ from T.val_of_get (h5'), hneg2]
    simp

theorem law_plain (x0 : Nat) (x1 : Int) (f0 : flHas .f32 x0) (f1 : (IntKind.min .i64 ≤ x1 ∧ x1 ≤ IntKind.max .i64)) : (laws_FnExactConvergentsOf.tr (x0, x1)).get = some true := law_holds x0 x1 f0 f1
theorem own : ownKnob Try.prog.godebug = none := by kernel_rfl
theorem laidOut : laidOutB Try.prog = true := by kernel_rfl
theorem lifted (os : Os) (started : os.Started) (H : Type) (enc : TypeId × Value → H) :
    ReturnsInHanded {} Try.checked os 8 .any (Rows.fnExactConvergentsOfSpec.pre6 enc Try.prog Try.f8 Rows.fnExactConvergentsOfRow.domain false) (Rows.fnExactConvergentsOfSpec.post enc Try.prog Try.f8 false true false false) := by
  refine returnsInHanded_of_change (C := Try.checked) own started (by kernel_rfl) Try.func8
    (ChangeSpec.witness6 (enc := enc) (C := Try.checked) false ⟨#[], #[.float .f32 0, .int .i64 0], []⟩ 8 (by kernel_rfl) (by kernel_rfl) (by kernel_rfl) (by kernel_rfl)) ?_
  intro W base args ds gs before hval0 hW hcnd _
  have hval : ∀ (j : Nat) t v, Try.f8.params[j]? = some t → args[j]? = some v → Value.okWide Try.prog W .any base t v := hval0
  have hW' := hW
  obtain ⟨p, q, hA0, hV, rfl, hfz, hnd⟩ := hW
  have hA : DataW.TrodAll enc Try.prog W 0 (fun _ => true) true Try.f8.params.toList args.toList ds p := hA0
  rw [Try.params8] at hA hval
  obtain ⟨v0, vs0, d0, ds0, p0, q0, hargs, rfl, rfl, h0, rr0⟩ := trodAll_cons hA
  obtain ⟨v1, vs1, d1, ds1, p1, q1, rfl, rfl, rfl, h1, rr1⟩ := trodAll_cons rr0
  obtain ⟨rfl, rfl, rfl⟩ := trodAll_nil rr1
  obtain rfl : args = #[v0, v1] := by cases args; simp_all
  obtain ⟨rfl, rfl⟩ := trodVars_none hV
  have k0 := h0
  have lt0 : ∀ x ∈ p0, x.block < W.heap.size := by obtain ⟨m, hm⟩ := k0; exact DataW.trod_lt m _ _ _ hm
  obtain ⟨x0, r0, f0⟩ := sc_fl Try.underlying26 (cell_of Try.underlying26 rfl (hval 0 26 v0 rfl rfl))
  have k1 := h1
  have lt1 : ∀ x ∈ p1, x.block < W.heap.size := by obtain ⟨m, hm⟩ := k1; exact DataW.trod_lt m _ _ _ hm
  obtain ⟨x1, r1, f1⟩ := sc_it Try.underlying2 (cell_of Try.underlying2 rfl (hval 1 2 v1 rfl rfl))
  clear hA0 hval0
  refine (laws_FnExactConvergentsOf.walk (x0, x1) (law_plain x0 x1 f0 f1) (ρ := fun i => (lget ([] : List (Sx.Loc × Cells)) i).map (·.1)) (Rs_cons' (r0 _) (Rs_cons' (r1 _) Rs_nil')) (HpR.ofRo [] (List.forall_mem_nil _))).mono fun e W' ⟨he, bel⟩ => ?_
  subst he
  exact ⟨_, rfl, _, _, _, [], _, [], hW', trodAll_mk1 (shut_bool Try.underlying4 _), (trodAll_cons_mk (Below.trod laidOut (by kernel_rfl) (of_decide_eq_true (by kernel_rfl)) k0 bel lt0) (trodAll_cons_mk (Below.trod laidOut (by kernel_rfl) (of_decide_eq_true (by kernel_rfl)) k1 bel lt1) trodAll_mk0)), rfl, bel.frame _, fun h => by cases h⟩
theorem over : Rows.fnExactConvergentsOfRow.holds Try.pinned (OpenSpec.ofChange Rows.fnExactConvergentsOfSpec) :=
  OpenClaim.holds_of_wide 8 Try.f8 rfl rfl rfl rfl rfl rfl rfl ⟨rfl, rfl, rfl, rfl, rfl⟩ rfl rfl rfl rfl rfl (by kernel_rfl) Try.func8 (by kernel_rfl)
    (of_decide_eq_true (by kernel_rfl)) (by unfold Func.isWrapper; first | (rw [if_pos (by decide +kernel)]; kernel_rfl) | (rw [if_neg (by decide +kernel)]; exact ⟨rfl, rfl⟩))
    (fun os started H enc _ => lifted os started H enc)
theorem proved : Rows.FnExactConvergentsOfSaid := over
end Go.Proofs.Ythllapodgemlfaa
