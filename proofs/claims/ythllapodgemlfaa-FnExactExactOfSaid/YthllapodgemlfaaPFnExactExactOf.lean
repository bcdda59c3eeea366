/- For every input the call of FnExactExactOf returns true, and each argument reads afterwards as it read before; there is no condition. -/
import Derived.Test.YthllapodgemlfaaWFnExactExactOf
import Derived.Test.YthllapodgemlfaaSxQ
import Derived.Test.YthllapodgemlfaaRows
import Derived.WalkKit
import Derived.ProofKit
import Derived.OpenShut
import Derived.ShutString
import Derived.ChangeOld
import Derived.Below
import Derived.Carry
import Derived.HandedShaped
namespace Go.Proofs.Ythllapodgemlfaa
open Go Go.RowKit Sx
open Go.ChangeShapes Go.WideShapes Go.ChangeAt
set_option linter.unusedVariables false
set_option linter.unusedSimpArgs false
set_option maxRecDepth 100000

theorem target_eq (x : Nat) : impl_isTarget x = spec_l05Target x := by
  simp only [impl_isTarget, impl_isTarget.t, impl_between, impl_between.t, spec_l05Target, spec_l05Target.t, T.val, fge_flip]
theorem target_le {x : Nat} (h : spec_l05Target x = true) : fle .f32 981467136 x = true ∧ fle .f32 x 1149239296 = true := by
  simp only [spec_l05Target, spec_l05Target.t, T.val, fge_flip] at h
  cases h1 : fle .f32 981467136 x <;> rw [h1] at h
  · cases h
  · exact ⟨rfl, h⟩
/-- How often two divides m: d times at most. -/
def two (m : Nat) : Nat → Nat
  | 0 => 0
  | d + 1 => bif decide (m % 2 ^ (d + 1) = 0) then d + 1 else two m d
theorem two_le (m : Nat) : ∀ d, two m d ≤ d
  | 0 => Nat.le_refl _
  | d + 1 => by
    have := two_le m d
    unfold two
    cases decide (m % 2 ^ (d + 1) = 0) <;> simp <;> omega
theorem two_dvd (m : Nat) : ∀ d, m % 2 ^ two m d = 0
  | 0 => by simp [two, Nat.mod_one]
  | d + 1 => by
    have := two_dvd m d
    unfold two
    by_cases h : m % 2 ^ (d + 1) = 0
    · rw [decide_eq_true h]
      exact h
    · rw [decide_eq_false h]
      exact this
theorem two_max (m : Nat) : ∀ d, two m d < d → m % 2 ^ (two m d + 1) ≠ 0
  | 0, h => by omega
  | d + 1, h => by
    unfold two at h ⊢
    by_cases h0 : m % 2 ^ (d + 1) = 0
    · rw [decide_eq_true h0] at h
      simp at h
    · rw [decide_eq_false h0] at h ⊢
      simp only [cond_false] at h ⊢
      by_cases h1 : two m d = d
      · rw [h1]
        exact h0
      · have := two_le m d
        exact two_max m d (by omega)
theorem two_gcd (m d : Nat) : Nat.gcd m (2 ^ d) = 2 ^ two m d := by
  have hle := two_le m d
  have h1 : m = 2 ^ two m d * (m / 2 ^ two m d) := by
    have := Nat.div_add_mod m (2 ^ two m d)
    rw [two_dvd m d] at this
    omega
  have h2 : 2 ^ d = 2 ^ two m d * 2 ^ (d - two m d) := by
    rw [← Nat.pow_add]
    congr 1
    omega
  have h3 : Nat.gcd (m / 2 ^ two m d) (2 ^ (d - two m d)) = 1 := by
    by_cases hlt : two m d < d
    · refine Nat.Coprime.pow_right _ ?_
      show Nat.gcd _ 2 = 1
      have hodd : m / 2 ^ two m d % 2 = 1 := by
        have h4 := two_max m d hlt
        rw [Nat.pow_succ, Nat.mod_mul, two_dvd m d, Nat.zero_add] at h4
        rcases Nat.mod_two_eq_zero_or_one (m / 2 ^ two m d) with h5 | h5
        · rw [h5] at h4
          simp at h4
        · exact h5
      rw [Nat.gcd_comm, Nat.gcd_rec, hodd]
      rfl
    · rw [show d - two m d = 0 by omega, Nat.pow_zero, Nat.gcd_one_right]
  have h4 : Nat.gcd (2 ^ two m d * (m / 2 ^ two m d)) (2 ^ two m d * 2 ^ (d - two m d)) = 2 ^ two m d := by
    rw [Nat.gcd_mul_left, h3, Nat.mul_one]
  rw [← h1, ← h2] at h4
  exact h4
theorem wrap_dbl (z : Nat) (h : z * 2 ≤ 1152921504606846976) : IntKind.wrap .i64 ((z : Int) * 2) = ((z * 2 : Nat) : Int) := by
  rw [wrap64 (by omega) (by omega)]
  omega
theorem pow60 {c : Nat} (h : c + 1 ≤ 60) : 2 ^ c * 2 ≤ 1152921504606846976 := by
  rw [← Nat.pow_succ]
  exact Nat.pow_le_pow_right (n := 2) (by omega) h
theorem exact_r (m : Nat) (hm : m ≠ 0) (h53 : m < 2 ^ (52 + 1)) : ∀ (d c N : Nat), d + c ≤ 60 → d < N →
    iterT (impl_exact.l2.st (0, 0)) N (FloatKind.f64.format.nearest false m (-(d : Int)), ((2 ^ c : Nat) : Int)) = some (FloatKind.f64.format.nearest false m (-(two m d : Int)), ((2 ^ (c + (d - two m d)) : Nat) : Int))
  | d, c, 0, h1, h2 => by omega
  | d, c, N + 1, h1, h2 => by
    have hi := near64_int (m := m) (d := d) hm h53 (by omega)
    have hw := near64_whole (m := m) (d := d) hm h53 (by omega)
    have hok : ftoiOk .f64 .i64 (FloatKind.f64.format.nearest false m (-(d : Int))) = true := by
      unfold ftoiOk
      rw [hi]
      rfl
    have hft : ftoi .f64 .i64 (FloatKind.f64.format.nearest false m (-(d : Int))) = ((m / 2 ^ d : Nat) : Int) := by
      unfold ftoi
      rw [hi]
      rfl
    rw [iterT_succ]
    simp only [impl_exact.l2.st, impl_exact.l2.s, T.get, hok, hft, hw, cond_true]
    by_cases h0 : m % 2 ^ d = 0
    · rw [decide_eq_true h0]
      have ht : two m d = d := by
        cases d with
        | zero => rfl
        | succ d =>
          unfold two
          rw [decide_eq_true h0]
          rfl
      rw [ht, Nat.sub_self, Nat.add_zero]
      rfl
    · rw [decide_eq_false h0]
      cases d with
      | zero => simp [Nat.mod_one] at h0
      | succ d =>
        have hl : m.log2 ≤ 52 := log2_le_of_lt hm h53
        have ht : two m (d + 1) = two m d := by
          rw [two, decide_eq_false h0]
          rfl
        have hle := two_le m d
        simp only [Bool.not_false, cond_true]
        rw [near64_mul2 hm h53 (by omega) (by omega), show -((d + 1 : Nat) : Int) + 1 = -(d : Int) by omega]
        rw [wrap_dbl (2 ^ c) (pow60 (by omega)), ← Nat.pow_succ, ht, show c + (d + 1 - two m d) = c + 1 + (d - two m d) by omega]
        exact exact_r m hm h53 d (c + 1) N (by omega) (by omega)
theorem den_r (x y : Int) (z : Int) (k d : Nat) (hd : d ≤ 60) (hk : k + d = 150) : spec_l05Exact.l5.r (x, y, z) (1, (k : Int)) = some ((2 ^ d : Nat) : Int) := by
  have hf := iter_run (step := spec_l05Exact.l5.st (x, y, z)) (f := fun i => (((2 ^ i : Nat) : Int), ((k + i : Nat) : Int))) (e := ((2 ^ d : Nat) : Int)) (n := d) (N := manyRounds) (k := 0) (many_lt (by omega)) (fun i hi => ?_) ?_
  · exact hf
  · simp only [Nat.zero_add, spec_l05Exact.l5.st, spec_l05Exact.l5.s, T.get]
    rw [decide_eq_true (by omega : ((k + i : Nat) : Int) < 150), wrap64_succ (by omega)]
    rw [wrap_dbl (2 ^ i) (pow60 (by omega)), ← Nat.pow_succ]
    rfl
  · simp only [Nat.zero_add, spec_l05Exact.l5.st, spec_l05Exact.l5.s, T.get]
    rw [decide_eq_false (by omega : ¬ ((k + d : Nat) : Int) < 150)]
    rfl
theorem common_t (a b : Nat) (hb : b < 18446744073709551615) : (spec_l01Common.t (a : Int) (b : Int)).get = some ((Nat.gcd a b : Nat) : Int) := by
  have h1 : spec_l01Common.l1.r () ((a : Int), (b : Int)) = some ((Nat.gcd a b : Nat) : Int) := gcd_run (fun x y => by
    simp only [spec_l01Common.l1.st, spec_l01Common.l1.s, gcdStep, T.get]
    by_cases hy : y = 0
    · subst hy
      rfl
    · rw [decide_eq_true (by omega : ((y : Nat) : Int) > 0), show ((y : Int) != 0) = true by simp; omega]) a b hb
  simp only [spec_l01Common.t, T.get, h1]
  rfl
/-- A number from 1/1024 to 1024 as a fraction. -/
theorem exact_ex {a : Nat} (ha : flHas .f32 a) (ht : spec_l05Target a = true) :
    ∃ n j m d : Nat, (spec_l05Exact.t a).get = some ((n : Int), ((2 ^ j : Nat) : Int)) ∧ (impl_exact.t a).get = some ((n : Int), ((2 ^ j : Nat) : Int)) ∧
      FloatKind.f32.format.read a = .number false m (-(d : Int)) ∧ n * 2 ^ d = m * 2 ^ j ∧ 0 < n ∧ n < 16777216 ∧ j ≤ 33 ∧ n < 2048 * 2 ^ j ∧ Nat.gcd n (2 ^ j) = 1 := by
  obtain ⟨h1, h2⟩ := target_le ht
  obtain ⟨d, hd1, hd2, hr, hq⟩ := target_read ha h1 h2
  have ha' : a < 4294967296 := ha
  generalize hm : 8388608 + a % 8388608 = m at hr
  have hm1 : 8388608 ≤ m := by omega
  have hm2 : m < 16777216 := by omega
  have h53 : m < 2 ^ (52 + 1) := by
    have : (2 : Nat) ^ (52 + 1) = 9007199254740992 := by decide
    omega
  have hlog : m.log2 ≤ 52 := log2_le_of_lt (by omega) h53
  have hle := two_le m d
  have hdv : m = m / 2 ^ two m d * 2 ^ two m d := by
    have := Nat.div_add_mod m (2 ^ two m d)
    rw [two_dvd m d, Nat.mul_comm] at this
    omega
  have hpos : 0 < 2 ^ two m d := Nat.two_pow_pos _
  have hn0 : 0 < m / 2 ^ two m d := by
    refine Nat.pos_of_ne_zero fun h0 => ?_
    rw [h0] at hdv
    omega
  have hsplit : 2 ^ d = 2 ^ (d - two m d) * 2 ^ two m d := by
    rw [← Nat.pow_add]
    congr 1
    omega
  have hbig : m < 2048 * 2 ^ d := by
    have : 2 ^ 13 ≤ 2 ^ d := Nat.pow_le_pow_right (by omega) hd1
    omega
  refine ⟨m / 2 ^ two m d, d - two m d, m, d, ?_, ?_, hr, ?_, hn0, ?_, by omega, ?_, ?_⟩
  · have hnan : isNaN .f32 a = false := by
      show (FloatKind.f32.format.read a).isNaN = false
      rw [hr]
      rfl
    have hbits : IntKind.wrap .i64 (a : Int) = (a : Int) := wrap64_nat (Nat.lt_trans ha' (by decide))
    have hnum : IntKind.wrap .i64 (Int.tmod (a : Int) 8388608 + 8388608) = (m : Int) := by
      have : Int.tmod (a : Int) 8388608 = ((a % 8388608 : Nat) : Int) := (Int.ofNat_tmod a 8388608).symm
      rw [this, ← hm]
      exact (wrap64 (by omega) (by omega)).trans (by omega)
    have hexp : IntKind.wrap .i64 (Int.tdiv (a : Int) 8388608) = ((150 - d : Nat) : Int) := by
      have : Int.tdiv (a : Int) 8388608 = ((a / 8388608 : Nat) : Int) := (Int.ofNat_tdiv a 8388608).symm
      rw [this, hq]
      exact wrap64_nat (Nat.lt_of_le_of_lt (Nat.sub_le _ _) (by decide))
    have hden := fun x y z => den_r x y z (150 - d) d (by omega) (by omega)
    have hcom := common_t m (2 ^ d) (Nat.lt_of_le_of_lt (Nat.pow_le_pow_right (by omega) hd2 : 2 ^ d ≤ 2 ^ 33) (by decide))
    rw [two_gcd] at hcom
    have hz : (((2 ^ two m d : Nat) : Int) == 0) = false := by
      rw [beq_eq_false_iff_ne]
      omega
    have hp33 : 2 ^ (d - two m d) ≤ 2 ^ 33 := Nat.pow_le_pow_right (by omega) (by omega)
    have q1 : IntKind.wrap .i64 (Int.tdiv (m : Int) ((2 ^ two m d : Nat) : Int)) = ((m / 2 ^ two m d : Nat) : Int) := by
      have : Int.tdiv (m : Int) ((2 ^ two m d : Nat) : Int) = ((m / 2 ^ two m d : Nat) : Int) := (Int.ofNat_tdiv m (2 ^ two m d)).symm
      rw [this]
      exact wrap64_nat (Nat.lt_of_le_of_lt (Nat.div_le_self _ _) (Nat.lt_trans hm2 (by decide)))
    have q2 : IntKind.wrap .i64 (Int.tdiv ((2 ^ d : Nat) : Int) ((2 ^ two m d : Nat) : Int)) = ((2 ^ (d - two m d) : Nat) : Int) := by
      have : Int.tdiv ((2 ^ d : Nat) : Int) ((2 ^ two m d : Nat) : Int) = ((2 ^ d / 2 ^ two m d : Nat) : Int) := (Int.ofNat_tdiv (2 ^ d) (2 ^ two m d)).symm
      rw [this, hsplit, Nat.mul_div_cancel _ hpos]
      exact wrap64_nat (Nat.lt_of_le_of_lt hp33 (by decide))
    simp only [spec_l05Exact.t, T.get, hnan, hbits, hnum, hexp, hden, Option.isSome_some, Option.getD_some, show spec_l01Common.ok (m : Int) ((2 ^ d : Nat) : Int) = true from T.ok_of_get (hcom), show spec_l01Common (m : Int) ((2 ^ d : Nat) : Int) = ((2 ^ two m d : Nat) : Int) from T.val_of_get (hcom), hz, q1, q2, cond_true, cond_false]
  · have hf := fcv_wide hr (by omega) h53 (by omega) (by omega)
    have hx := exact_r m (by omega) h53 d 0 manyRounds (by omega) (many_lt (by omega))
    rw [Nat.zero_add] at hx
    have hi := near64_int (m := m) (d := two m d) (by omega) h53 (by omega)
    have hok : ftoiOk .f64 .i64 (FloatKind.f64.format.nearest false m (-(two m d : Int))) = true := by
      unfold ftoiOk
      rw [hi]
      rfl
    have hft : ftoi .f64 .i64 (FloatKind.f64.format.nearest false m (-(two m d : Int))) = ((m / 2 ^ two m d : Nat) : Int) := by
      unfold ftoi
      rw [hi]
      rfl
    have hx' : impl_exact.l2.r (0, 0) (FloatKind.f64.format.nearest false m (-(d : Int)), 1) = some (FloatKind.f64.format.nearest false m (-(two m d : Int)), ((2 ^ (d - two m d) : Nat) : Int)) := hx
    simp only [impl_exact.t, T.get, open_wide, hf, hx', Option.isSome_some, Option.getD_some, hok, hft, cond_true, cond_false]
  · have e : m / 2 ^ two m d * (2 ^ (d - two m d) * 2 ^ two m d) = m / 2 ^ two m d * 2 ^ two m d * 2 ^ (d - two m d) := by
      rw [Nat.mul_comm (2 ^ (d - two m d)), ← Nat.mul_assoc]
    rw [hsplit, e, ← hdv]
  · exact Nat.lt_of_le_of_lt (Nat.div_le_self _ _) hm2
  · rw [hsplit] at hbig
    have : m / 2 ^ two m d * 2 ^ two m d < 2048 * 2 ^ (d - two m d) * 2 ^ two m d := by
      rw [← hdv, Nat.mul_assoc]
      exact hbig
    exact Nat.lt_of_mul_lt_mul_right this
  · have := two_gcd m d
    have h3 : Nat.gcd (m / 2 ^ two m d * 2 ^ two m d) (2 ^ (d - two m d) * 2 ^ two m d) = 2 ^ two m d := by
      rw [← hdv, ← hsplit]
      exact this
    rw [Nat.gcd_mul_right] at h3
    exact Nat.eq_of_mul_eq_mul_right hpos (by rw [h3, Nat.one_mul])

theorem of_t (x0 : Nat) (hx : flHas .f32 x0) : ∃ r, (spec_ExactOf.t x0).get = some r ∧ (impl_ExactOf.t x0).get = some r := by
  simp only [spec_ExactOf.t, impl_ExactOf.t, T.get, target_eq]
  cases ht : spec_l05Target x0 with
  | false => exact ⟨_, rfl, rfl⟩
  | true =>
    obtain ⟨n, j, m, d, h1, h2, _⟩ := exact_ex hx ht
    simp only [show spec_l05Exact.ok x0 = true from T.ok_of_get (h1), show spec_l05Exact x0 = _ from T.val_of_get (h1), show impl_exact.ok x0 = true from T.ok_of_get (h2), show impl_exact x0 = _ from T.val_of_get (h2)]
    exact ⟨_, rfl, rfl⟩
/- FACTS -/
theorem law_holds (x0 : Nat) (f0 : flHas .f32 x0) : (laws_FnExactExactOf.t x0).get = some true := by
  obtain ⟨r, h1, h2⟩ := of_t x0 f0
  simp only [laws_FnExactExactOf.t, T.get, show spec_ExactOf.ok x0 = true from T.ok_of_get (h1), show spec_ExactOf x0 = r from T.val_of_get (h1), show impl_ExactOf.ok x0 = true from T.ok_of_get (h2), show impl_ExactOf x0 = r from T.val_of_get (h2), laws_eqFraction, laws_eqFraction.t, T.val]
  simp

theorem law_plain (x0 : Nat) (f0 : flHas .f32 x0) : (laws_FnExactExactOf.tr x0).get = some true := law_holds x0 f0
theorem own : ownKnob Try.prog.godebug = none := by kernel_rfl
theorem laidOut : laidOutB Try.prog = true := by kernel_rfl
theorem lifted (os : Os) (started : os.Started) (H : Type) (enc : TypeId × Value → H) :
    ReturnsInHanded {} Try.checked os 5 .any (Rows.fnExactExactOfSpec.pre6 enc Try.prog Try.f5 Rows.fnExactExactOfRow.domain false) (Rows.fnExactExactOfSpec.post enc Try.prog Try.f5 false true false false) := by
  refine returnsInHanded_of_change (C := Try.checked) own started (by kernel_rfl) Try.func5
    (ChangeSpec.witness6 (enc := enc) (C := Try.checked) false ⟨#[], #[.float .f32 0], []⟩ 8 (by kernel_rfl) (by kernel_rfl) (by kernel_rfl) (by kernel_rfl)) ?_
  intro W base args ds gs before hval0 hW hcnd _
  have hval : ∀ (j : Nat) t v, Try.f5.params[j]? = some t → args[j]? = some v → Value.okWide Try.prog W .any base t v := hval0
  have hW' := hW
  obtain ⟨p, q, hA0, hV, rfl, hfz, hnd⟩ := hW
  have hA : DataW.TrodAll enc Try.prog W 0 (fun _ => true) true Try.f5.params.toList args.toList ds p := hA0
  rw [Try.params5] at hA hval
  obtain ⟨v0, vs0, d0, ds0, p0, q0, hargs, rfl, rfl, h0, r0⟩ := trodAll_cons hA
  obtain ⟨rfl, rfl, rfl⟩ := trodAll_nil r0
  obtain rfl : args = #[v0] := by cases args; simp_all
  obtain ⟨rfl, rfl⟩ := trodVars_none hV
  have k0 := h0
  have lt0 : ∀ x ∈ p0, x.block < W.heap.size := by obtain ⟨m, hm⟩ := k0; exact DataW.trod_lt m _ _ _ hm
  obtain ⟨x0, r0, f0⟩ := sc_fl Try.underlying26 (cell_of Try.underlying26 rfl (hval 0 26 v0 rfl rfl))
  clear hA0 hval0
  refine (laws_FnExactExactOf.walk x0 (law_plain x0 f0) (ρ := fun i => (lget ([] : List (Sx.Loc × Cells)) i).map (·.1)) (Rs_cons' (r0 _) Rs_nil') (HpR.ofRo [] (List.forall_mem_nil _))).mono fun e W' ⟨he, bel⟩ => ?_
  subst he
  exact ⟨_, rfl, _, _, _, [], _, [], hW', trodAll_mk1 (shut_bool Try.underlying4 _), (trodAll_cons_mk (Below.trod laidOut (by kernel_rfl) (of_decide_eq_true (by kernel_rfl)) k0 bel lt0) trodAll_mk0), rfl, bel.frame _, fun h => by cases h⟩
theorem over : Rows.fnExactExactOfRow.holds Try.pinned (OpenSpec.ofChange Rows.fnExactExactOfSpec) :=
  OpenClaim.holds_of_wide 5 Try.f5 rfl rfl rfl rfl rfl rfl rfl ⟨rfl, rfl, rfl, rfl, rfl⟩ rfl rfl rfl rfl rfl (by kernel_rfl) Try.func5 (by kernel_rfl)
    (of_decide_eq_true (by kernel_rfl)) (by unfold Func.isWrapper; first | (rw [if_pos (by decide +kernel)]; kernel_rfl) | (rw [if_neg (by decide +kernel)]; exact ⟨rfl, rfl⟩))
    (fun os started H enc _ => lifted os started H enc)
theorem proved : Rows.FnExactExactOfSaid := over
end Go.Proofs.Ythllapodgemlfaa
