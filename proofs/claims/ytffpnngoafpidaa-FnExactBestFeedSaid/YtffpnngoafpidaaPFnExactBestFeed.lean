/- For every input the call of FnExactBestFeed returns true, and each argument reads afterwards as it read before; there is no condition. -/
import Derived.Test.YtffpnngoafpidaaWFnExactBestFeed
import Derived.Test.YtffpnngoafpidaaSxS
import Derived.Test.YtffpnngoafpidaaRows
import Derived.WalkKit
import Derived.ProofKit
import Derived.OpenShut
import Derived.ShutString
import Derived.ChangeOld
import Derived.Below
import Derived.Carry
import Derived.HandedShaped
namespace Go.Proofs.Ytffpnngoafpidaa
open Go Go.RowKit Sx
open Go.ChangeShapes Go.WideShapes Go.ChangeAt
set_option linter.unusedVariables false
set_option linter.unusedSimpArgs false
set_option maxRecDepth 100000

theorem rate_eq (x : Nat) : impl_IsRate x = spec_l04Rate x := by
  simp only [impl_IsRate, impl_IsRate.t, impl_between, impl_between.t, spec_l04Rate, spec_l04Rate.t, T.val, fge_flip]

theorem part_eq (x : Nat) : impl_IsPart x = spec_l01Part x := by
  simp only [impl_IsPart, impl_IsPart.t, impl_between, impl_between.t, spec_l01Part, spec_l01Part.t, T.val, fge_flip]

theorem stone_eq (x0 x1 x2 x3 : Nat) : laws_toStone x0 x1 x2 x3 = (x0, x1, x2, x3) := rfl
theorem valid_eq (x0 x1 x2 x3 : Nat) : impl_ValidStone x0 x1 x2 x3 = spec_l04Ok x0 x1 x2 x3 := by
  simp only [impl_ValidStone, impl_ValidStone.t, spec_l04Ok, spec_l04Ok.t, T.val, rate_eq, part_eq]

theorem amount_eq (x : Nat) : impl_isAmount x = spec_l03Amount x := by
  simp only [impl_isAmount, impl_isAmount.t, impl_between, impl_between.t, spec_l03Amount, spec_l03Amount.t, T.val, fge_flip]

-- lies in the core (SxQ)

theorem rate_0 : spec_l04Rate 0 = true := by kernel_rfl
theorem load1_eq (x0 x1 x2 x3 a b : Nat) : impl_Stone_load a b x0 x1 x2 x3 = spec_l04Load x0 x1 x2 x3 a b := rfl
theorem sum_r (x0 x1 x2 x3 a b : Nat) : spec_l04Sum.l3.r (1, a, b, [x0, x1, x2, x3]) (0, 0) = some (fadd .f32 0 (spec_l04Load x0 x1 x2 x3 a b)) := by
  have hf := iter_run (step := spec_l04Sum.l3.st (1, a, b, [x0, x1, x2, x3])) (f := fun i => if i = 0 then (0, 0) else (fadd .f32 0 (spec_l04Load x0 x1 x2 x3 a b), 1)) (e := fadd .f32 0 (spec_l04Load x0 x1 x2 x3 a b)) (n := 1) (N := manyRounds) (k := 0)
    (many_lt (by omega)) (fun i hi => ?_) ?_
  · exact hf
  · have : i = 0 := by omega
    subst this
    rfl
  · rfl
theorem sum_t (x0 x1 x2 x3 a b : Nat) : (spec_l04Sum.t 1 a b [x0, x1, x2, x3]).get = some (fadd .f32 0 (spec_l04Load x0 x1 x2 x3 a b)) := by
  simp only [spec_l04Sum.t, T.get, sum_r]
  rfl
theorem sum_ok (x0 x1 x2 x3 a b : Nat) : spec_l04Sum.ok 1 a b [x0, x1, x2, x3] = true := T.ok_of_get (sum_t x0 x1 x2 x3 a b)
theorem sum_eq (x0 x1 x2 x3 a b : Nat) : spec_l04Sum 1 a b [x0, x1, x2, x3] = fadd .f32 0 (spec_l04Load x0 x1 x2 x3 a b) := T.val_of_get (sum_t x0 x1 x2 x3 a b)
theorem sum_gt (x0 x1 x2 x3 a b c : Nat) : fgt .f32 (spec_l04Sum 1 a b [x0, x1, x2, x3]) c = fgt .f32 (spec_l04Load x0 x1 x2 x3 a b) c := by
  rw [sum_eq]
  exact add_zero_gt .f32 _ c (fadd_has .f32 _ _)
theorem bisect (x0 x1 x2 x3 t f : Nat) (n : Int) (hn : n ≤ 60) : ∃ e, spec_l04Steady.l6.r (1, t, f, n, [x0, x1, x2, x3]) (0, 1149239296, 0) = some e ∧ impl_steady.l3.r (t, n, f, x0, x1, x2, x3) (0, 1149239296, 0) = some e := by
  obtain ⟨e, e', h1, h2, rfl⟩ := iter_two (step := spec_l04Steady.l6.st (1, t, f, n, [x0, x1, x2, x3])) (step' := impl_steady.l3.st (t, n, f, x0, x1, x2, x3)) (R := fun s t => s = t ∧ ∃ i : Nat, i ≤ 61 ∧ s.2.2 = (i : Int)) (E := fun e e' => e = e') (fun s => 61 - s.2.2.toNat) (by
    rintro ⟨a, b, c⟩ _ ⟨rfl, i, hi, hc⟩
    dsimp only at hc
    subst hc
    simp only [spec_l04Steady.l6.st, spec_l04Steady.l6.s, impl_steady.l3.st, impl_steady.l3.s, T.get, sum_ok, sum_gt, impl_halved, impl_halved.t, impl_Stone_steadySpeed_1, impl_Stone_steadySpeed_1.t, T.val, load1_eq]
    by_cases hlt : (i : Int) < n
    · rw [decide_eq_true hlt, wrap64_succ (by omega)]
      simp only [cond_true]
      cases fgt .f32 (spec_l04Load x0 x1 x2 x3 (fdiv .f32 (fadd .f32 a b) 1073741824) f) t with
      | true => exact .inl ⟨_, _, rfl, rfl, ⟨rfl, i + 1, by omega, rfl⟩, by dsimp only; omega⟩
      | false => exact .inl ⟨_, _, rfl, rfl, ⟨rfl, i + 1, by omega, rfl⟩, by dsimp only; omega⟩
    · rw [decide_eq_false hlt]
      exact .inr ⟨_, _, rfl, rfl, rfl⟩) manyRounds (0, 1149239296, 0) (0, 1149239296, 0) ⟨rfl, 0, by omega, rfl⟩ (many_lt (by simp))
  exact ⟨e, h1, h2⟩
theorem steady_t (x0 x1 x2 x3 t f : Nat) (n : Int) (hn : n ≤ 60) : ∃ r, (spec_l04Steady.t 1 t f n [x0, x1, x2, x3]).get = some r ∧ (impl_Stone_steadySpeed.t t f n x0 x1 x2 x3).get = some r := by
  obtain ⟨e, h1, h2⟩ := bisect x0 x1 x2 x3 t f n hn
  have h3 : (impl_steady.t t n f x0 x1 x2 x3).get = some e := by
    simp only [impl_steady.t, T.get, h2]
    rfl
  simp only [spec_l04Steady.t, impl_Stone_steadySpeed.t, T.get, sum_ok, sum_gt, impl_Stone_steadySpeed_1, impl_Stone_steadySpeed_1.t, T.val, load1_eq, h1, cond_true]
  rw [show impl_steady.ok t n f x0 x1 x2 x3 = true from T.ok_of_get h3, show impl_steady t n f x0 x1 x2 x3 = e from T.val_of_get h3]
  cases fgt .f32 (spec_l04Load x0 x1 x2 x3 0 f) t <;> exact ⟨_, rfl, rfl⟩

-- lies in the core (SxQ)

theorem least_eq (x : Nat) : impl_atLeast0 x = spec_l03Least x := by
  simp only [impl_atLeast0, impl_atLeast0.t, spec_l03Least, spec_l03Least.t, T.val]

theorem dull_eq (x0 x1 x2 x3 x4 : Nat) : impl_Stone_dull x4 x0 x1 x2 x3 = spec_l04Dulled x0 x1 x2 x3 x4 := by
  simp only [impl_Stone_dull, impl_Stone_dull.t, spec_l04Dulled, spec_l04Dulled.t, T.val, least_eq]
theorem hour_t (x0 x1 x2 x3 x4 x5 : Nat) : ∃ a b c d f, (spec_l04Hour.t x0 x1 x2 x3 x4 x5).get = some (a, b, c, d, f) ∧ (impl_Stone_hour.t x4 x5 x0 x1 x2 x3).get = some (f, a, b, c, d) := by
  obtain ⟨⟨s, ok⟩, h1, h2⟩ := steady_t x0 x1 x2 x3 x4 x5 40 (by omega)
  simp only [spec_l04Hour.t, impl_Stone_hour.t, T.get, impl_Stone_flour, impl_Stone_flour.t, spec_l04Flour, spec_l04Flour.t, T.val, fmin_amount, dull_eq,
    show spec_l04Steady.ok 1 x4 x5 40 [x0, x1, x2, x3] = true from T.ok_of_get h1, show spec_l04Steady 1 x4 x5 40 [x0, x1, x2, x3] = (s, ok) from T.val_of_get h1,
    show impl_Stone_steadySpeed.ok x4 x5 40 x0 x1 x2 x3 = true from T.ok_of_get h2, show impl_Stone_steadySpeed x4 x5 40 x0 x1 x2 x3 = (s, ok) from T.val_of_get h2]
  cases ok
  · exact ⟨_, _, _, _, _, rfl, rfl⟩
  · cases fgt .f32 (fmul .f32 (fmul .f32 s x5) x3) 1233125376 <;> exact ⟨_, _, _, _, _, rfl, rfl⟩

/-- A float that is a number, not below nought, and about 2 ^ K at most. -/
def Fin32 (K : Int) (b : Nat) : Prop := ∃ s m e, FloatKind.f32.format.read b = .number s m e ∧ (s = true → m = 0) ∧ m < 2 ^ 24 ∧ e + 23 ≤ K
theorem fin_mono {J K : Int} {b : Nat} (h : Fin32 J b) (hk : J ≤ K) : Fin32 K b := by
  obtain ⟨s, m, e, h1, h2, h3, h4⟩ := h
  exact ⟨s, m, e, h1, h2, h3, by omega⟩
theorem neg_zero : FloatKind.f32.format.read (FloatKind.f32.format.word true 0) = .number true 0 (-149) := by kernel_rfl
theorem fin_enc {s : Bool} {m : Nat} {p K : Int} (hs : s = true → m = 0) (hK : m ≠ 0 → p + (m.log2 : Int) ≤ K) (h0 : -126 ≤ K) (h1 : K ≤ 120) : Fin32 (K + 1) (nz .f32 (FloatKind.f32.format.nearest s m p)) := by
  rw [nz_of_not (nearest_num .f32 s m p)]
  have e1 : FloatKind.f32.format.leastPlace = -149 := by kernel_rfl
  have e2 : FloatKind.f32.format.fractionBits = 23 := rfl
  have e3 : FloatKind.f32.format.binade = 8388608 := by kernel_rfl
  have e4 : FloatKind.f32.format.infRung = 2139095040 := by kernel_rfl
  obtain ⟨m', e', h3, h4, h5⟩ := enc_le FloatKind.f32.format s m p K hK (by rw [e1, e2]; omega) (by rw [e1, e2, e3, e4]; omega)
  rw [e2] at h4 h5
  refine ⟨s, m', e', h3, fun h => ?_, h4, by omega⟩
  subst h
  have hm := hs rfl
  subst hm
  have e : FloatKind.f32.format.nearest true 0 p = FloatKind.f32.format.word true 0 := by simp [Ieee.Format.nearest]
  rw [e, neg_zero] at h3
  cases h3
  rfl
theorem log2_le {m a : Nat} (hm : m ≠ 0) (h : m < 2 ^ (a + 1)) : m.log2 ≤ a := by
  have := (Nat.log2_lt hm).2 h
  omega
theorem signed_nn {s : Bool} {m : Nat} (h : s = true → m = 0) (u : Nat) : Ieee.signed s m u = ((m * 2 ^ u : Nat) : Int) := by
  cases s with
  | false => exact signed_f m u
  | true => rw [h rfl, signed_zero]; simp
theorem fin_add {K : Int} {a b : Nat} (ha : Fin32 K a) (hb : Fin32 K b) (h0 : -126 ≤ K) (h1 : K ≤ 110) : Fin32 (K + 2) (fadd .f32 a b) := by
  obtain ⟨s, m, i, r1, s1, l1, k1⟩ := ha
  obtain ⟨t, n, j, r2, s2, l2, k2⟩ := hb
  unfold fadd Ieee.Format.add
  rw [r1, r2]
  simp only [Ieee.Datum.sum, Option.map_some, Option.getD_some, Ieee.Format.write]
  rw [signed_nn s1, signed_nn s2]
  generalize hx : (i - min i j).toNat = x
  generalize hy : (j - min i j).toNat = y
  have hsum : ((m * 2 ^ x : Nat) : Int) + ((n * 2 ^ y : Nat) : Int) = ((m * 2 ^ x + n * 2 ^ y : Nat) : Int) := by omega
  rw [hsum, Int.natAbs_natCast]
  have hlt : m * 2 ^ x + n * 2 ^ y < 2 ^ (24 + (max x y) + 1) := by
    have h3 : m * 2 ^ x ≤ 2 ^ 24 * 2 ^ (max x y) := Nat.mul_le_mul (Nat.le_of_lt l1) (Nat.pow_le_pow_right (by omega) (Nat.le_max_left _ _))
    have h4 : n * 2 ^ y < 2 ^ 24 * 2 ^ (max x y) := Nat.lt_of_lt_of_le (Nat.mul_lt_mul_of_pos_right l2 (Nat.two_pow_pos _)) (Nat.mul_le_mul_left _ (Nat.pow_le_pow_right (by omega) (Nat.le_max_right _ _)))
    rw [← Nat.pow_add] at h3 h4
    rw [Nat.pow_succ]
    omega
  generalize hz : m * 2 ^ x + n * 2 ^ y = z at hlt
  refine fin_mono (fin_enc (K := K + 1) (fun hs => ?_) (fun hz => ?_) (by omega) (by omega)) (by omega)
  · split at hs
    · rename_i h; omega
    · simp at hs; omega
  · have := log2_le hz hlt
    omega
theorem fin_mul {J K : Int} {a b : Nat} (ha : Fin32 J a) (hb : Fin32 K b) (h0 : -126 ≤ J + K) (h1 : J + K ≤ 110) : Fin32 (J + K + 2) (fmul .f32 a b) := by
  obtain ⟨s, m, i, r1, s1, l1, k1⟩ := ha
  obtain ⟨t, n, j, r2, s2, l2, k2⟩ := hb
  unfold fmul Ieee.Format.mul
  rw [r1, r2]
  simp only [Ieee.Datum.product, Option.map_some, Option.getD_some, Ieee.Format.write]
  refine fin_mono (fin_enc (K := J + K + 1) (fun hs => ?_) (fun hz => ?_) (by omega) (by omega)) (by omega)
  · cases s with
    | true => rw [s1 rfl, Nat.zero_mul]
    | false =>
      cases t with
      | true => rw [s2 rfl, Nat.mul_zero]
      | false => cases hs
  · have hlt : m * n < 2 ^ (47 + 1) := by
      have := Nat.mul_lt_mul'' l1 l2
      rwa [← Nat.pow_add] at this
    have := log2_le hz hlt
    omega
theorem fin_half {K : Int} {a : Nat} (ha : Fin32 K a) (h0 : -120 ≤ K) (h1 : K ≤ 110) : Fin32 K (fdiv .f32 a 1073741824) := by
  obtain ⟨s, m, i, r1, s1, l1, k1⟩ := ha
  have r2 : FloatKind.f32.format.read 1073741824 = .number false 8388608 (-22) := by kernel_rfl
  unfold fdiv Ieee.Format.div
  rw [r1, r2]
  have hl : Nat.log2 8388608 = 23 := by decide +kernel
  have hd : FloatKind.f32.format.fractionBits + 2 = 25 := rfl
  simp only [Ieee.Datum.quotient, hl, hd, Option.map_some, Option.getD_some, Ieee.Format.write, Bool.xor_false, Nat.shiftLeft_eq, reduceIte, show ¬ (8388608 = 0) by decide]
  by_cases hm : m = 0
  · subst hm
    refine fin_mono (fin_enc (K := K - 1) (fun hs => ?_) (fun hz => ?_) (by omega) (by omega)) (by omega)
    · simp
    · exact absurd (by simp) hz
  · have hlog : m.log2 ≤ 23 := log2_le hm l1
    have hlt : m < 2 ^ (m.log2 + 1) := Nat.lt_log2_self
    have hq : m * 2 ^ (25 + 23 - m.log2) / 8388608 < 2 ^ 26 := by
      refine (Nat.div_lt_iff_lt_mul (by decide)).2 ?_
      have h3 : m * 2 ^ (25 + 23 - m.log2) < 2 ^ (m.log2 + 1) * 2 ^ (25 + 23 - m.log2) := Nat.mul_lt_mul_of_pos_right hlt (Nat.two_pow_pos _)
      rw [← Nat.pow_add, show m.log2 + 1 + (25 + 23 - m.log2) = 49 by omega] at h3
      exact h3
    generalize m * 2 ^ (25 + 23 - m.log2) / 8388608 = q at hq
    generalize hb : (m * 2 ^ (25 + 23 - m.log2) % 8388608 != 0) = b
    have hbn := Bool.toNat_le b
    refine fin_mono (fin_enc (K := K - 1) (fun hs => absurd (s1 hs) hm) (fun hz => ?_) (by omega) (by omega)) (by omega)
    have := log2_le (a := 26) hz (by omega)
    omega
theorem fin_zero : Fin32 0 0 := ⟨false, 0, -149, by kernel_rfl, fun h => (by cases h), by decide, by omega⟩
theorem fin_top : Fin32 10 1149239296 := ⟨false, 8388608, -13, by kernel_rfl, fun h => (by cases h), by decide, by omega⟩
theorem fin_million : Fin32 20 1233125376 := ⟨false, 8388608, -3, by kernel_rfl, fun h => (by cases h), by decide, by omega⟩
theorem fin_gt {K : Int} {a : Nat} (ha : Fin32 K a) : fgt .f32 a 3212836864 = true := by
  obtain ⟨s, m, i, r1, s1, l1, k1⟩ := ha
  have r2 : FloatKind.f32.format.read 3212836864 = .number true 8388608 (-23) := by kernel_rfl
  unfold fgt Ieee.Format.order
  rw [r1, r2]
  simp only [Ieee.Datum.order]
  rw [signed_nn s1, signed_t]
  have hp : 0 < 8388608 * 2 ^ (-23 - min i (-23)).toNat := Nat.mul_pos (by decide) (Nat.two_pow_pos _)
  have : compare ((m * 2 ^ (i - min i (-23)).toNat : Nat) : Int) (-((8388608 * 2 ^ (-23 - min i (-23)).toNat : Nat) : Int)) = .gt := Int.compare_eq_gt.2 (by omega)
  rw [this]
  rfl
theorem read_shape {x : Nat} {s : Bool} {m : Nat} {i : Int} (h : FloatKind.f32.format.read x = .number s m i) : m < 2 ^ 24 ∧ (i = -149 ∨ 8388608 ≤ m) := by
  have e1 : FloatKind.f32.format.leastPlace = -149 := by kernel_rfl
  have e3 : FloatKind.f32.format.binade = 8388608 := by kernel_rfl
  unfold Ieee.Format.read at h
  dsimp only at h
  rw [e1, e3] at h
  split at h
  · rename_i hr
    cases h
    exact ⟨by omega, .inl rfl⟩
  · split at h
    · cases h
      have := Nat.mod_lt (x % FloatKind.f32.format.signWeight) (show 0 < 8388608 by decide)
      exact ⟨by omega, .inr (by omega)⟩
    · split at h <;> cases h
/-- What lies between nought and a bound that is a power of two. -/
theorem fin_range {x c : Nat} {e : Int} (hc : FloatKind.f32.format.read c = .number false 8388608 e) (h1 : fge .f32 x 0 = true) (h2 : fle .f32 x c = true) (he : -140 ≤ e) : Fin32 (e + 23) x := by
  have r0 : FloatKind.f32.format.read 0 = .number false 0 (-149) := by kernel_rfl
  unfold fge Ieee.Format.order at h1
  unfold fle Ieee.Format.order at h2
  rw [r0] at h1
  rw [hc] at h2
  cases hx : FloatKind.f32.format.read x with
  | nan s t => rw [hx] at h1; cases h1
  | infinity s => rw [hx] at h1 h2; cases s <;> simp [Ieee.Datum.order] at h1 h2
  | number s m i =>
    rw [hx] at h1 h2
    obtain ⟨l1, l2⟩ := read_shape hx
    simp only [Ieee.Datum.order, signed_zero] at h1
    have hs : s = true → m = 0 := by
      intro hs
      subst hs
      rw [signed_t] at h1
      have hge : ¬ (-((m * 2 ^ (i - min i (-149)).toNat : Nat) : Int) < 0) := by
        intro hlt
        rw [Int.compare_eq_lt.2 hlt] at h1
        cases h1
      have h3 : m * 2 ^ (i - min i (-149)).toNat = 0 := by omega
      rcases Nat.mul_eq_zero.1 h3 with h | h
      · exact h
      · exact absurd h (by have := Nat.two_pow_pos (i - min i (-149)).toNat; omega)
    refine ⟨s, m, i, hx, hs, l1, ?_⟩
    rcases l2 with l2 | l2
    · omega
    · refine Int.not_lt.1 fun hlt => ?_
      simp only [Ieee.Datum.order, signed_nn hs, signed_f] at h2
      have hmin : min i e = e := by omega
      rw [hmin, show (e - e).toNat = 0 by omega, Nat.pow_zero, Nat.mul_one] at h2
      have h5 : 8388608 * 2 ≤ m * 2 ^ (i - e).toNat := Nat.mul_le_mul l2 (by
        have : 2 ^ 1 ≤ 2 ^ (i - e).toNat := Nat.pow_le_pow_right (by omega) (by omega)
        exact this)
      have : compare ((m * 2 ^ (i - e).toNat : Nat) : Int) ((8388608 : Nat) : Int) = .gt := Int.compare_eq_gt.2 (by omega)
      rw [this] at h2
      cases h2
theorem fin_rate {x : Nat} (h : spec_l04Rate x = true) : Fin32 10 x := by
  simp only [spec_l04Rate, spec_l04Rate.t, T.val] at h
  cases h1 : fge .f32 x 0 with
  | false => rw [h1] at h; cases h
  | true =>
    rw [h1] at h
    exact fin_range (e := -13) (by kernel_rfl) h1 h (by omega)
theorem fin_part {x : Nat} (h : spec_l01Part x = true) : Fin32 0 x := by
  simp only [spec_l01Part, spec_l01Part.t, T.val] at h
  cases h1 : fge .f32 x 0 with
  | false => rw [h1] at h; cases h
  | true =>
    rw [h1] at h
    exact fin_range (e := -23) (by kernel_rfl) h1 h (by omega)

/-- Whether all feeds are rates. -/
noncomputable def allRate (xs : List Nat) : Bool := !anyAt (fun i => !spec_l04Rate (xs.getD i 0)) xs.length
theorem bad_eq (x : Nat) : impl_BestFeed_1 x = !spec_l04Rate x := by
  simp only [impl_BestFeed_1, impl_BestFeed_1.t, T.val, rate_eq]
theorem index_r (xs : List Nat) (h : xs.length < 9223372036854775807) : slices_IndexFunc_float32_float32.l2.r (xs.length, ((xs.length : Nat) : Int), xs) 0 = some (match firstAt (fun i => !spec_l04Rate (xs.getD i 0)) xs.length 0 with | some i => (Sum.inl (i : Int) : Int ⊕ Unit) | none => Sum.inr ()) := by
  refine iter_first (fun i => !spec_l04Rate (xs.getD i 0)) (fun i => (Sum.inl (i : Int) : Int ⊕ Unit)) (.inr ()) xs.length h (fun i hi => ?_) ?_
  · simp only [slices_IndexFunc_float32_float32.l2.st, slices_IndexFunc_float32_float32.l2.s, T.get, bounds_nat, ble_decide, Int.toNat_natCast, Nat.mul_one, bad_eq]
    rw [decide_eq_true (by omega : (i : Int) < (xs.length : Int)), decide_eq_true hi, decide_eq_true (by omega : i + 1 ≤ xs.length)]
    cases spec_l04Rate (xs.getD i 0) <;> rfl
  · simp only [slices_IndexFunc_float32_float32.l2.st, slices_IndexFunc_float32_float32.l2.s, T.get]
    rw [decide_eq_false (by omega)]
    rfl
theorem contains_t (xs : List Nat) (h : xs.length < 9223372036854775807) : (slices_ContainsFunc_float32_float32.t xs.length xs).get = some (!allRate xs) := by
  have h1 : (slices_IndexFunc_float32_float32.t xs.length xs).get = some (match firstAt (fun i => !spec_l04Rate (xs.getD i 0)) xs.length 0 with | some i => (i : Int) | none => -1) := by
    simp only [slices_IndexFunc_float32_float32.t, T.get, index_r xs h, Option.isSome_some, cond_true, Option.getD_some]
    cases firstAt (fun i => !spec_l04Rate (xs.getD i 0)) xs.length 0 <;> rfl
  simp only [slices_ContainsFunc_float32_float32.t, T.get, show slices_IndexFunc_float32_float32.ok xs.length xs = true from T.ok_of_get h1, show slices_IndexFunc_float32_float32 xs.length xs = _ from T.val_of_get h1, cond_true]
  unfold allRate
  rw [← firstAt_any, Bool.not_not]
  cases firstAt (fun i => !spec_l04Rate (xs.getD i 0)) xs.length 0 with
  | none => rfl
  | some i =>
    simp only [Option.isSome_some, Option.some.injEq, decide_eq_true_eq]
    omega

theorem foldF_false (p : Nat → Bool) : ∀ n k, foldF (fun i s => s && p i) n k false = false
  | 0, k => rfl
  | n + 1, k => foldF_false p n (k + 1)
theorem foldF_first (p : Nat → Bool) : ∀ n k, foldF (fun i s => s && p i) n k true = !(firstAt (fun i => !p i) n k).isSome
  | 0, k => rfl
  | n + 1, k => by
    unfold foldF firstAt
    cases p k with
    | true => exact foldF_first p n (k + 1)
    | false => exact foldF_false p n (k + 1)
theorem foldF_and (p : Nat → Bool) (n : Nat) (b : Bool) : foldF (fun i s => s && p i) n 0 b = (b && !anyAt (fun i => !p i) n) := by
  cases b with
  | false => exact foldF_false p n 0
  | true => rw [foldF_first, firstAt_any]; rfl

theorem to_r (xs : List Nat) (h : xs.length < 1099511627776) : laws_toFloat32S.l3.r (xs.length, xs.length, xs) ((0 : Int), List.replicate (xs.length * 1) 0) = some xs := copy_run 0 xs (by omega)
theorem to_t (xs : List Nat) (h : xs.length < 1099511627776) : (laws_toFloat32S.t xs.length xs).get = some (xs.length, xs) := by
  simp only [laws_toFloat32S.t, T.get, Int.toNat_natCast, to_r xs h, Option.isSome_some, cond_true, Option.getD_some]
  rw [decide_eq_true (by omega), decide_eq_true (by omega), decide_eq_true (by omega), decide_eq_true (by omega)]
  rfl
theorem to_ok (xs : List Nat) (h : xs.length < 1099511627776) : laws_toFloat32S.ok xs.length xs = true := T.ok_of_get (to_t xs h)
theorem to_eq (xs : List Nat) (h : xs.length < 1099511627776) : laws_toFloat32S xs.length xs = (xs.length, xs) := T.val_of_get (to_t xs h)

theorem same_refl (x : Nat) : laws_sameFloat x x = true := same_self (s := laws_sameFloat.t) (fun _ _ => rfl) x

theorem eq_r (xs : List Nat) (h : xs.length < 1099511627776) : laws_eqFloat32S.l4.r (xs.length, xs.length, xs, xs) 0 = some (.inr ()) := by
  refine iter_count xs.length (by omega) (fun i hi => ?_) ?_
  · simp only [laws_eqFloat32S.l4.st, laws_eqFloat32S.l4.s, T.get, bounds_nat, ble_decide, open_wide, same_refl, Int.toNat_natCast, Nat.mul_one]
    rw [decide_eq_true (by omega), decide_eq_true hi, decide_eq_true (by omega)]
    rfl
  · simp only [laws_eqFloat32S.l4.st, laws_eqFloat32S.l4.s, T.get]
    rw [decide_eq_false (by omega)]
    rfl
theorem eqF_t (xs : List Nat) (h : xs.length < 1099511627776) : (laws_eqFloat32S.t xs.length xs.length xs xs).get = some true := by
  simp only [laws_eqFloat32S.t, T.get, eq_r xs h]
  simp
theorem eqF_ok (xs : List Nat) (h : xs.length < 1099511627776) : laws_eqFloat32S.ok xs.length xs.length xs xs = true := T.ok_of_get (eqF_t xs h)
theorem eqF_eq (xs : List Nat) (h : xs.length < 1099511627776) : laws_eqFloat32S xs.length xs.length xs xs = true := T.val_of_get (eqF_t xs h)

/-- The speed that halving finds is a number. -/
theorem bisect_fin (x0 x1 x2 x3 t f : Nat) : ∃ e, spec_l04Steady.l6.r (1, t, f, 40, [x0, x1, x2, x3]) (0, 1149239296, 0) = some e ∧ Fin32 90 e := by
  obtain ⟨e, e', h1, h2, h3⟩ := iter_two (step := spec_l04Steady.l6.st (1, t, f, 40, [x0, x1, x2, x3])) (step' := spec_l04Steady.l6.st (1, t, f, 40, [x0, x1, x2, x3])) (R := fun s t => s = t ∧ ∃ i : Nat, i ≤ 40 ∧ s.2.2 = (i : Int) ∧ Fin32 (10 + 2 * (i : Int)) s.1 ∧ Fin32 (10 + 2 * (i : Int)) s.2.1) (E := fun e e' => Fin32 90 e) (fun s => 41 - s.2.2.toNat) (by
    rintro ⟨a, b, c⟩ _ ⟨rfl, i, hi, hc, ha, hb⟩
    dsimp only at hc ha hb
    subst hc
    simp only [spec_l04Steady.l6.st, spec_l04Steady.l6.s, T.get, sum_ok, sum_gt]
    by_cases hlt : (i : Int) < 40
    · have hq : Fin32 (10 + 2 * (i : Int) + 2) (fdiv .f32 (fadd .f32 a b) 1073741824) := fin_half (fin_add ha hb (by omega) (by omega)) (by omega) (by omega)
      rw [decide_eq_true hlt, wrap64_succ (by omega)]
      simp only [cond_true]
      cases fgt .f32 (spec_l04Load x0 x1 x2 x3 (fdiv .f32 (fadd .f32 a b) 1073741824) f) t with
      | true => exact .inl ⟨_, _, rfl, rfl, ⟨rfl, i + 1, by omega, rfl, fin_mono ha (by omega), fin_mono hq (by omega)⟩, by dsimp only; omega⟩
      | false => exact .inl ⟨_, _, rfl, rfl, ⟨rfl, i + 1, by omega, rfl, fin_mono hq (by omega), fin_mono hb (by omega)⟩, by dsimp only; omega⟩
    · rw [decide_eq_false hlt]
      exact .inr ⟨_, _, rfl, rfl, fin_mono ha (by omega)⟩) manyRounds (0, 1149239296, 0) (0, 1149239296, 0) ⟨rfl, 0, by omega, rfl, fin_mono fin_zero (by omega), fin_mono fin_top (by omega)⟩ (many_lt (by simp))
  exact ⟨e, h1, h3⟩
/-- The flour of an hour is a number. -/
theorem hour_fin {x0 x1 x2 x3 x4 x5 a b c d f : Nat} (h : (spec_l04Hour.t x0 x1 x2 x3 x4 x5).get = some (a, b, c, d, f)) (hr : spec_l04Rate x5 = true) (hg : spec_l01Part x3 = true) : Fin32 120 f := by
  obtain ⟨e, h1, h2⟩ := bisect_fin x0 x1 x2 x3 x4 x5
  have hs : (spec_l04Steady.t 1 x4 x5 40 [x0, x1, x2, x3]).get = some (bif fgt .f32 (spec_l04Load x0 x1 x2 x3 0 x5) x4 then (0, false) else (e, true)) := by
    simp only [spec_l04Steady.t, T.get, sum_ok, sum_gt, h1]
    cases fgt .f32 (spec_l04Load x0 x1 x2 x3 0 x5) x4 <;> rfl
  simp only [spec_l04Hour.t, T.get, show spec_l04Steady.ok 1 x4 x5 40 [x0, x1, x2, x3] = true from T.ok_of_get (hs), show spec_l04Steady 1 x4 x5 40 [x0, x1, x2, x3] = _ from T.val_of_get (hs)] at h
  cases hb : fgt .f32 (spec_l04Load x0 x1 x2 x3 0 x5) x4 with
  | true =>
    rw [hb] at h
    simp only [cond_true, Bool.not_false, Option.some.injEq, Prod.mk.injEq] at h
    rw [← h.2.2.2.2]
    exact fin_mono fin_zero (by omega)
  | false =>
    rw [hb] at h
    simp only [cond_true, cond_false, Bool.not_true] at h
    have hv : Fin32 120 (spec_l04Flour x0 x1 x2 x3 e x5) := by
      simp only [spec_l04Flour, spec_l04Flour.t, T.val]
      exact fin_mono (fin_mul (fin_mul h2 (fin_rate hr) (by omega) (by omega)) (fin_part hg) (by omega) (by omega)) (by omega)
    cases h3 : fgt .f32 (spec_l04Flour x0 x1 x2 x3 e x5) 1233125376 with
    | true =>
      rw [h3] at h
      simp only [cond_true, Option.some.injEq, Prod.mk.injEq] at h
      rw [← h.2.2.2.2]
      exact fin_mono fin_million (by omega)
    | false =>
      rw [h3] at h
      simp only [cond_false, Option.some.injEq, Prod.mk.injEq] at h
      rw [← h.2.2.2.2]
      exact hv
theorem ok_part {x0 x1 x2 x3 : Nat} (h : spec_l04Ok x0 x1 x2 x3 = true) : spec_l01Part x3 = true := by
  simp only [spec_l04Ok, spec_l04Ok.t, T.val] at h
  revert h
  cases spec_l04Rate x0 <;> cases spec_l04Rate x1 <;> cases spec_l04Rate x2 <;> first | exact fun h => h | exact fun h => (by cases h)
/-- The flour of an hour with a feed. -/
noncomputable def fl (x0 x1 x2 x3 t x : Nat) : Nat := (spec_l04Hour x0 x1 x2 x3 t x).2.2.2.2
theorem fl_spec (x0 x1 x2 x3 t x : Nat) : spec_l04Hour.ok x0 x1 x2 x3 t x = true ∧ impl_Stone_hour.ok t x x0 x1 x2 x3 = true ∧ (impl_Stone_hour t x x0 x1 x2 x3).1 = fl x0 x1 x2 x3 t x := by
  obtain ⟨a, b, c, d, f, h1, h2⟩ := hour_t x0 x1 x2 x3 t x
  refine ⟨T.ok_of_get h1, T.ok_of_get h2, ?_⟩
  unfold fl
  simp only [show spec_l04Hour.ok x0 x1 x2 x3 t x = true from T.ok_of_get (h1), show spec_l04Hour x0 x1 x2 x3 t x = _ from T.val_of_get (h1), show impl_Stone_hour.ok t x x0 x1 x2 x3 = true from T.ok_of_get (h2), show impl_Stone_hour t x x0 x1 x2 x3 = _ from T.val_of_get (h2)]
theorem fl_gt {x0 x1 x2 x3 x : Nat} (t : Nat) (hok : spec_l04Ok x0 x1 x2 x3 = true) (hr : spec_l04Rate x = true) : fgt .f32 (fl x0 x1 x2 x3 t x) 3212836864 = true := by
  obtain ⟨a, b, c, d, f, h1, h2⟩ := hour_t x0 x1 x2 x3 t x
  have := hour_fin h1 hr (ok_part hok)
  unfold fl
  simp only [show spec_l04Hour.ok x0 x1 x2 x3 t x = true from T.ok_of_get (h1), show spec_l04Hour x0 x1 x2 x3 t x = _ from T.val_of_get (h1)]
  exact fin_gt this
noncomputable def step (x0 x1 x2 x3 t : Nat) (xs : List Nat) (i : Nat) (s : Int × Nat) : Int × Nat := bif fgt .f32 (fl x0 x1 x2 x3 t (xs.getD i 0)) s.2 then ((i : Int), fl x0 x1 x2 x3 t (xs.getD i 0)) else s
theorem rates_r (x0 x1 x2 x3 t : Nat) (b : Bool) (xs : List Nat) (h : xs.length < 1099511627776) : spec_BestFeed.l5.r (t, xs.length, xs, x0, x1, x2, x3) (b, 0) = some (b && allRate xs) := by
  have hf := (loop_fold (step := spec_BestFeed.l5.st (t, xs.length, xs, x0, x1, x2, x3)) (fun c (s : Bool) => (s, c)) (fun i s => s && spec_l04Rate (xs.getD i 0)) (fun s => s) (fun _ => True) xs.length (by omega) b trivial (fun i s hi _ => ⟨?_, trivial⟩) (fun s _ => ?_)).1
  · rw [foldF_and] at hf
    exact hf
  · simp only [spec_BestFeed.l5.st, spec_BestFeed.l5.s, T.get, bounds_nat, ble_decide, Int.toNat_natCast, Nat.mul_one]
    rw [decide_eq_true (by omega : (i : Int) < (xs.length : Int)), decide_eq_true hi, decide_eq_true (by omega : i + 1 ≤ xs.length)]
    cases s <;> rfl
  · simp only [spec_BestFeed.l5.st, spec_BestFeed.l5.s, T.get]
    rw [decide_eq_false (by omega)]
    rfl
theorem spec_r (x0 x1 x2 x3 t : Nat) (xs : List Nat) (h : xs.length < 1099511627776) (h0 : 0 < xs.length) (s : Int × Nat) : spec_BestFeed.l17.r (t, xs.length, xs, x0, x1, x2, x3) (s.1, s.2, 1) = some (foldF (step x0 x1 x2 x3 t xs) (xs.length - 1) 1 s) := by
  have hf := (loop_from (step := spec_BestFeed.l17.st (t, xs.length, xs, x0, x1, x2, x3)) (fun c (s : Int × Nat) => (s.1, s.2, c)) (step x0 x1 x2 x3 t xs) (fun s => s) (fun _ => True) xs.length (by omega) (fun i s hi _ => ⟨?_, trivial⟩) (fun s _ => ?_) (xs.length - 1) 1 manyRounds s (by omega) (many_lt (by omega)) trivial).1
  · exact hf
  · obtain ⟨q1, q2, q3⟩ := fl_spec x0 x1 x2 x3 t (xs.getD i 0)
    simp only [spec_BestFeed.l17.st, spec_BestFeed.l17.s, T.get, bounds_nat, ble_decide, Int.toNat_natCast, Nat.mul_one, q1, step, show (spec_l04Hour x0 x1 x2 x3 t (xs.getD i 0)).2.2.2.2 = fl x0 x1 x2 x3 t (xs.getD i 0) from rfl]
    rw [decide_eq_true (by omega : (i : Int) < (xs.length : Int)), decide_eq_true hi, decide_eq_true (by omega : i + 1 ≤ xs.length)]
    cases fgt .f32 (fl x0 x1 x2 x3 t (xs.getD i 0)) s.2 <;> rfl
  · simp only [spec_BestFeed.l17.st, spec_BestFeed.l17.s, T.get]
    rw [decide_eq_false (by omega)]
    rfl
theorem impl_r (x0 x1 x2 x3 t : Nat) (xs : List Nat) (h : xs.length < 1099511627776) : impl_BestFeed.l10.r (t, xs.length, (xs.length : Int), xs, x0, x1, x2, x3) (0, 3212836864, 0) = some (foldF (step x0 x1 x2 x3 t xs) xs.length 0 (0, 3212836864)) := by
  have hf := (loop_fold (step := impl_BestFeed.l10.st (t, xs.length, (xs.length : Int), xs, x0, x1, x2, x3)) (fun c (s : Int × Nat) => (s.1, s.2, c)) (step x0 x1 x2 x3 t xs) (fun s => s) (fun _ => True) xs.length (by omega) (0, 3212836864) trivial (fun i s hi _ => ⟨?_, trivial⟩) (fun s _ => ?_)).1
  · exact hf
  · obtain ⟨q1, q2, q3⟩ := fl_spec x0 x1 x2 x3 t (xs.getD i 0)
    simp only [impl_BestFeed.l10.st, impl_BestFeed.l10.s, T.get, bounds_nat, ble_decide, Int.toNat_natCast, Nat.mul_one, q2, q3, step]
    rw [decide_eq_true (by omega : (i : Int) < (xs.length : Int)), decide_eq_true hi, decide_eq_true (by omega : i + 1 ≤ xs.length)]
    cases fgt .f32 (fl x0 x1 x2 x3 t (xs.getD i 0)) s.2 <;> rfl
  · simp only [impl_BestFeed.l10.st, impl_BestFeed.l10.s, T.get]
    rw [decide_eq_false (by omega)]
    rfl
theorem code_eq (x0 x1 x2 x3 : Nat) (b : Bool) : impl_stoneCode x0 x1 x2 x3 b = bif spec_l04Ok x0 x1 x2 x3 then (bif b then 0 else 2) else 1 := by
  simp only [impl_stoneCode, impl_stoneCode.t, T.val, valid_eq]
  cases spec_l04Ok x0 x1 x2 x3 <;> cases b <;> rfl
theorem best_t (x0 x1 x2 x3 t : Nat) (xs : List Nat) (h : xs.length < 1099511627776) : ∃ r, (spec_BestFeed.t x0 x1 x2 x3 t xs.length xs).get = some r ∧ (impl_BestFeed.t x0 x1 x2 x3 t xs.length xs).get = some r := by
  simp only [spec_BestFeed.t, impl_BestFeed.t, T.get, rates_r x0 x1 x2 x3 t _ xs h, amount_eq, code_eq, show slices_ContainsFunc_float32_float32.ok xs.length xs = true from T.ok_of_get (contains_t xs (by omega)), show slices_ContainsFunc_float32_float32 xs.length xs = _ from T.val_of_get (contains_t xs (by omega)), Bool.not_not]
  cases hok : spec_l04Ok x0 x1 x2 x3 with
  | false => cases spec_l03Amount t <;> cases allRate xs <;> exact ⟨_, rfl, rfl⟩
  | true =>
    cases spec_l03Amount t with
    | false => exact ⟨_, rfl, rfl⟩
    | true =>
      cases hall : allRate xs with
      | false => exact ⟨_, rfl, rfl⟩
      | true =>
        by_cases hb : (xs.length : Int) > 60
        · rw [decide_eq_true hb]
          exact ⟨_, rfl, rfl⟩
        · rw [decide_eq_false hb]
          cases hz : ((xs.length : Int) == 0) with
          | true => exact ⟨_, rfl, rfl⟩
          | false =>
            have h0 : 0 < xs.length := by
              rcases Nat.eq_zero_or_pos xs.length with h0 | h0
              · rw [h0] at hz; cases hz
              · exact h0
            have hr : spec_l04Rate (xs.getD 0 0) = true := by
              unfold allRate at hall
              cases hq : spec_l04Rate (xs.getD 0 0) with
              | true => rfl
              | false =>
                rw [anyAt_true.2 ⟨0, h0, by rw [hq]; rfl⟩] at hall
                cases hall
            obtain ⟨q1, q2, q3⟩ := fl_spec x0 x1 x2 x3 t (xs.getD 0 0)
            have e1 : foldF (step x0 x1 x2 x3 t xs) xs.length 0 (0, 3212836864) = foldF (step x0 x1 x2 x3 t xs) (xs.length - 1) 1 (0, fl x0 x1 x2 x3 t (xs.getD 0 0)) := by
              obtain ⟨n, hn⟩ : ∃ n, xs.length = n + 1 := ⟨xs.length - 1, by omega⟩
              rw [hn]
              show foldF _ n 1 (step x0 x1 x2 x3 t xs 0 (0, 3212836864)) = _
              simp only [step, fl_gt t hok hr, cond_true]
              rfl
            have hsp := spec_r x0 x1 x2 x3 t xs h h0 (0, fl x0 x1 x2 x3 t (xs.getD 0 0))
            have hb0 : bounds 0 xs.length = true := by
              have := bounds_nat 0 xs.length
              simp only [Int.natCast_zero] at this
              rw [this, decide_eq_true h0]
            simp only [impl_r x0 x1 x2 x3 t xs h, e1, hb0, ble_decide, decide_eq_true (show 1 ≤ xs.length by omega), q1, show (spec_l04Hour x0 x1 x2 x3 t (xs.getD 0 0)).2.2.2.2 = fl x0 x1 x2 x3 t (xs.getD 0 0) from rfl, hsp]
            exact ⟨_, rfl, rfl⟩
theorem law_holds (x0 x1 x2 x3 x4 : Nat) (xs : List Nat) : (laws_FnExactBestFeed.t x0 x1 x2 x3 x4 xs.length xs).get = some true := by
  simp only [laws_FnExactBestFeed.t, T.get]
  by_cases hb : (xs.length : Int) > 1048576
  · rw [decide_eq_true hb]
    rfl
  · rw [decide_eq_false hb]
    have hl : xs.length < 1099511627776 := by omega
    obtain ⟨r, h1, h2⟩ := best_t x0 x1 x2 x3 x4 xs hl
    simp only [to_ok xs hl, to_eq xs hl, stone_eq, eqF_ok xs hl, eqF_eq xs hl, cond_true, cond_false, show spec_BestFeed.ok x0 x1 x2 x3 x4 xs.length xs = true from T.ok_of_get (h1), show spec_BestFeed x0 x1 x2 x3 x4 xs.length xs = _ from T.val_of_get (h1), show impl_BestFeed.ok x0 x1 x2 x3 x4 xs.length xs = true from T.ok_of_get (h2), show impl_BestFeed x0 x1 x2 x3 x4 xs.length xs = _ from T.val_of_get (h2), open_wide, same_refl]
    simp

theorem law_plain (x0_0 : Nat) (x0_1 : Nat) (x0_2 : Nat) (x0_3 : Nat) (x1 : Nat) (xs2 : List Nat) (f0_0 : flHas .f32 x0_0) (f0_1 : flHas .f32 x0_1) (f0_2 : flHas .f32 x0_2) (f0_3 : flHas .f32 x0_3) (f1 : flHas .f32 x1) (f2 : ∀ x ∈ xs2, flHas .f32 x) (y2 : List.length xs2 ≤ maxLen) : (laws_FnExactBestFeed.tr (x0_0, x0_1, x0_2, x0_3, x1, xs2.length, xs2)).get = some true := law_holds x0_0 x0_1 x0_2 x0_3 x1 xs2
theorem own : ownKnob Try.prog.godebug = none := by kernel_rfl
theorem laidOut : laidOutB Try.prog = true := by kernel_rfl
theorem ground {W : World} (h : W.ShapedOpen Try.prog) : Sx.Ground W := ground_of (by kernel_rfl) h
theorem lifted (os : Os) (started : os.Started) (H : Type) (enc : TypeId × Value → H) :
    ReturnsInHanded {} Try.checked os 3 .any (Rows.fnExactBestFeedSpec.pre6 enc Try.prog Try.f3 Rows.fnExactBestFeedRow.domain false) (Rows.fnExactBestFeedSpec.post enc Try.prog Try.f3 false true false false) := by
  refine returnsInHanded_of_change_shaped (C := Try.checked) own started (by kernel_rfl) Try.func3
    (ChangeSpec.witness6 (enc := enc) (C := Try.checked) false ⟨#[], #[.agg #[.float .f32 0, .float .f32 0, .float .f32 0, .float .f32 0], .float .f32 0, .slice none 0 0], []⟩ 8 (by kernel_rfl) (by kernel_rfl) (by kernel_rfl) (by kernel_rfl)) ?_
  intro W base args ds gs before hval0 hW hcnd _ hsh _
  have hG := ground hsh
  have hval : ∀ (j : Nat) t v, Try.f3.params[j]? = some t → args[j]? = some v → Value.okWide Try.prog W .any base t v := hval0
  have hW' := hW
  obtain ⟨p, q, hA0, hV, rfl, hfz, hnd⟩ := hW
  have hA : DataW.TrodAll enc Try.prog W 0 (fun _ => true) true Try.f3.params.toList args.toList ds p := hA0
  rw [Try.params3] at hA hval
  obtain ⟨v0, vs0, d0, ds0, p0, q0, hargs, rfl, rfl, h0, rr0⟩ := trodAll_cons hA
  obtain ⟨v1, vs1, d1, ds1, p1, q1, rfl, rfl, rfl, h1, rr1⟩ := trodAll_cons rr0
  obtain ⟨v2, vs2, d2, ds2, p2, q2, rfl, rfl, rfl, h2, rr2⟩ := trodAll_cons rr1
  obtain ⟨rfl, rfl, rfl⟩ := trodAll_nil rr2
  obtain rfl : args = #[v0, v1, v2] := by cases args; simp_all
  obtain ⟨rfl, rfl⟩ := trodVars_none hV
  have k0 := h0
  have lt0 : ∀ x ∈ p0, x.block < W.heap.size := by obtain ⟨m, hm⟩ := k0; exact DataW.trod_lt m _ _ _ hm
  obtain ⟨cs0, rfl, hc0⟩ := open_row (ts := [22, 22, 22, 22]) Try.underlying24 rfl (by kernel_rfl) (by kernel_rfl) (hval 0 24 v0 rfl rfl)
  obtain ⟨u0_0, m0_0, e0, g0_0, hc0⟩ := hc0
  obtain ⟨x0_0, r0_0, f0_0⟩ := sc_fl Try.underlying22 g0_0
  obtain ⟨u0_1, m0_1, rfl, g0_1, hc0⟩ := hc0
  obtain ⟨x0_1, r0_1, f0_1⟩ := sc_fl Try.underlying22 g0_1
  obtain ⟨u0_2, m0_2, rfl, g0_2, hc0⟩ := hc0
  obtain ⟨x0_2, r0_2, f0_2⟩ := sc_fl Try.underlying22 g0_2
  obtain ⟨u0_3, m0_3, rfl, g0_3, hc0⟩ := hc0
  obtain ⟨x0_3, r0_3, f0_3⟩ := sc_fl Try.underlying22 g0_3
  obtain rfl := hc0
  have k1 := h1
  have lt1 : ∀ x ∈ p1, x.block < W.heap.size := by obtain ⟨m, hm⟩ := k1; exact DataW.trod_lt m _ _ _ hm
  obtain ⟨x1, r1, f1⟩ := sc_fl Try.underlying22 (cell_of Try.underlying22 rfl (hval 1 22 v1 rfl rfl))
  have k2 := h2
  have lt2 : ∀ x ∈ p2, x.block < W.heap.size := by obtain ⟨m, hm⟩ := k2; exact DataW.trod_lt m _ _ _ hm
  obtain ⟨l2, xs2, w2, r2, f2, y2⟩ := open_fls Try.underlying25 Try.underlying22 (by kernel_rfl) hG (hval 2 25 v2 rfl rfl) k2
  clear hA0 hval0
  refine (laws_FnExactBestFeed.walk (x0_0, x0_1, x0_2, x0_3, x1, xs2.length, xs2) (law_plain x0_0 x0_1 x0_2 x0_3 x1 xs2 f0_0 f0_1 f0_2 f0_3 f1 f2 y2) (ρ := fun i => (lget ([(l2, .fs .f32 xs2)] : List (Sx.Loc × Cells)) i).map (·.1)) (Rs_cons' (agg_R (by rw [e0]; exact (Rs_cons' (r0_0 _) (Rs_cons' (r0_1 _) (Rs_cons' (r0_2 _) (Rs_cons' (r0_3 _) Rs_nil')))))) (Rs_cons' (r1 _) (Rs_cons' (r2 _ 0 rfl) Rs_nil'))) (HpR.ofRo [(l2, .fs .f32 xs2)] ((List.forall_mem_cons.2 ⟨w2, List.forall_mem_nil _⟩)))).mono fun e W' ⟨he, bel⟩ => ?_
  subst he
  exact ⟨_, rfl, _, _, _, [], _, [], hW', trodAll_mk1 (shut_bool Try.underlying4 _), (trodAll_cons_mk (Below.trod laidOut (by kernel_rfl) (of_decide_eq_true (by kernel_rfl)) k0 bel lt0) (trodAll_cons_mk (Below.trod laidOut (by kernel_rfl) (of_decide_eq_true (by kernel_rfl)) k1 bel lt1) (trodAll_cons_mk (Below.trod laidOut (by kernel_rfl) (of_decide_eq_true (by kernel_rfl)) k2 bel lt2) trodAll_mk0))), rfl, bel.frame _, fun h => by cases h⟩
theorem over : Rows.fnExactBestFeedRow.holds Try.pinned (OpenSpec.ofChange Rows.fnExactBestFeedSpec) :=
  OpenClaim.holds_of_wide 3 Try.f3 rfl rfl rfl rfl rfl rfl rfl ⟨rfl, rfl, rfl, rfl, rfl⟩ rfl rfl rfl rfl rfl (by kernel_rfl) Try.func3 (by kernel_rfl)
    (of_decide_eq_true (by kernel_rfl)) (by unfold Func.isWrapper; first | (rw [if_pos (by decide +kernel)]; kernel_rfl) | (rw [if_neg (by decide +kernel)]; exact ⟨rfl, rfl⟩))
    (fun os started H enc _ => lifted os started H enc)
theorem proved : Rows.FnExactBestFeedSaid := over
end Go.Proofs.Ytffpnngoafpidaa
