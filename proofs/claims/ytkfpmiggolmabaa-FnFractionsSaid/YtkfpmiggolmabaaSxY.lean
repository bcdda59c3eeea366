/- Plain facts: the order of floats that are not below nought, by their words. -/
import Derived.Test.YtkfpmiggolmabaaSxX
namespace Go.Proofs.Ytkfpmiggolmabaa.Sx
open Go Go.RowKit
set_option linter.unusedVariables false
set_option linter.unusedSimpArgs false
set_option maxRecDepth 100000

/-- What a rung of a single stands for, in units of the last place. -/
def mag (r : Nat) : Nat := if r < 8388608 then r else (8388608 + r % 8388608) * 2 ^ (r / 8388608 - 1)
theorem mag_step (r : Nat) : mag r < mag (r + 1) := by
  unfold mag
  by_cases h : r < 8388608
  · rw [if_pos h]
    by_cases h1 : r + 1 < 8388608
    · rw [if_pos h1]; omega
    · rw [if_neg h1]
      have e : r + 1 = 8388608 := by omega
      rw [e]
      have : (8388608 + 8388608 % 8388608) * 2 ^ (8388608 / 8388608 - 1) = 8388608 := by decide
      omega
  · rw [if_neg h, if_neg (by omega)]
    by_cases h1 : r % 8388608 + 1 < 8388608
    · have e1 : (r + 1) % 8388608 = r % 8388608 + 1 := by omega
      have e2 : (r + 1) / 8388608 = r / 8388608 := by omega
      rw [e1, e2]
      exact Nat.mul_lt_mul_of_pos_right (by omega) (Nat.two_pow_pos _)
    · have e1 : (r + 1) % 8388608 = 0 := by omega
      have e2 : (r + 1) / 8388608 = r / 8388608 + 1 := by omega
      have e3 : r / 8388608 + 1 - 1 = (r / 8388608 - 1) + 1 := by omega
      rw [e1, e2, e3, Nat.pow_succ]
      have hp := Nat.two_pow_pos (r / 8388608 - 1)
      generalize 2 ^ (r / 8388608 - 1) = q at hp
      have h2 : (8388608 + r % 8388608) * q < (8388608 * 2) * q := Nat.mul_lt_mul_of_pos_right (by omega) hp
      have h3 : (8388608 + 0) * (q * 2) = (8388608 * 2) * q := by rw [Nat.add_zero, Nat.mul_assoc, Nat.mul_comm q 2, ← Nat.mul_assoc]
      omega
theorem mag_lt {r s : Nat} (h : r < s) : mag r < mag s := by
  induction s with
  | zero => omega
  | succ s ih =>
    rcases Nat.lt_or_ge r s with h1 | h1
    · exact Nat.lt_trans (ih h1) (mag_step s)
    · have : r = s := by omega
      subst this
      exact mag_step r
theorem mag_le_iff {r s : Nat} : mag r ≤ mag s ↔ r ≤ s := by
  constructor
  · intro h
    refine Nat.le_of_not_lt fun hlt => ?_
    have := mag_lt hlt
    omega
  · intro h
    rcases Nat.lt_or_ge r s with h1 | h1
    · exact Nat.le_of_lt (mag_lt h1)
    · have : r = s := by omega
      subst this
      exact Nat.le_refl _
/-- A word without its sign. -/
def rg (b : Nat) : Nat := b % 2147483648
/-- A number that is not below nought. -/
def Nn (b : Nat) : Prop := b < 2139095040 ∨ b = 2147483648
theorem nn_read {b : Nat} (h : Nn b) : ∃ s m e, FloatKind.f32.format.read b = .number s m e ∧ (s = true → m = 0) ∧ -149 ≤ e ∧ m * 2 ^ (e + 149).toNat = mag (rg b) := by
  have e1 : FloatKind.f32.format.leastPlace = -149 := by kernel_rfl
  have e2 : FloatKind.f32.format.signWeight = 2147483648 := by kernel_rfl
  have e3 : FloatKind.f32.format.binade = 8388608 := by kernel_rfl
  have e4 : FloatKind.f32.format.infRung = 2139095040 := by kernel_rfl
  rcases h with h | h
  · have hm : b % 2147483648 = b := by omega
    have hs : (b / 2147483648 % 2 == 1) = false := by
      have : b / 2147483648 = 0 := by omega
      rw [this]
      rfl
    unfold Ieee.Format.read rg mag
    dsimp only
    rw [e1, e2, e3, e4, hm, hs]
    by_cases hb : b < 8388608
    · rw [if_pos hb, if_pos hb]
      exact ⟨_, _, _, rfl, fun h => (by cases h), by omega, by simp⟩
    · rw [if_neg hb, if_pos h, if_neg hb]
      refine ⟨_, _, _, rfl, fun h => (by cases h), by omega, ?_⟩
      have : (-149 + ((b / 8388608 - 1 : Nat) : Int) + 149).toNat = b / 8388608 - 1 := by omega
      rw [this]
  · subst h
    exact ⟨true, 0, -149, by kernel_rfl, fun _ => rfl, by omega, by kernel_rfl⟩
theorem signed_nn' {s : Bool} {m : Nat} (h : s = true → m = 0) (u : Nat) : Ieee.signed s m u = ((m * 2 ^ u : Nat) : Int) := by
  cases s with
  | false => exact signed_f m u
  | true => rw [h rfl, signed_zero]; simp
/-- Of numbers that are not below nought the lesser has the lower rung. -/
theorem nn_order {a b : Nat} (ha : Nn a) (hb : Nn b) : FloatKind.f32.format.order a b = some (compare (rg a) (rg b)) := by
  obtain ⟨s, m, i, r1, s1, k1, v1⟩ := nn_read ha
  obtain ⟨t, n, j, r2, s2, k2, v2⟩ := nn_read hb
  unfold Ieee.Format.order
  rw [r1, r2]
  simp only [Ieee.Datum.order, Option.some.injEq]
  rw [signed_nn' s1, signed_nn' s2]
  have up : ∀ (x : Nat) (k : Int), -149 ≤ k → min i j ≤ k → x * 2 ^ (k + 149).toNat = (x * 2 ^ (k - min i j).toNat) * 2 ^ (min i j + 149).toNat := by
    intro x k h1 h2
    rw [Nat.mul_assoc, ← Nat.pow_add]
    congr 2
    omega
  rw [up m i k1 (by omega)] at v1
  rw [up n j k2 (by omega)] at v2
  have hp := Nat.two_pow_pos (min i j + 149).toNat
  generalize m * 2 ^ (i - min i j).toNat = A at v1
  generalize n * 2 ^ (j - min i j).toNat = B at v2
  generalize 2 ^ (min i j + 149).toNat = D at v1 v2 hp
  rcases Nat.lt_trichotomy (rg a) (rg b) with h | h | h
  · have h1 := mag_lt h
    rw [← v1, ← v2] at h1
    have h2 : A < B := Nat.lt_of_mul_lt_mul_right h1
    rw [Nat.compare_eq_lt.2 h, Int.compare_eq_lt.2 (by omega)]
  · rw [h] at v1
    have h2 : A = B := Nat.eq_of_mul_eq_mul_right hp (v1.trans v2.symm)
    rw [Nat.compare_eq_eq.2 h, h2, Int.compare_eq_eq.2 rfl]
  · have h1 := mag_lt h
    rw [← v1, ← v2] at h1
    have h2 : B < A := Nat.lt_of_mul_lt_mul_right h1
    rw [Nat.compare_eq_gt.2 h, Int.compare_eq_gt.2 (by omega)]
theorem near_le (m : Nat) (p : Int) : FloatKind.f32.format.nearest false m p ≤ 2139095040 := by
  obtain ⟨r, h1, h2⟩ := nearest_word FloatKind.f32.format false m p
  have e4 : FloatKind.f32.format.infRung = 2139095040 := by kernel_rfl
  rw [h1]
  rw [e4] at h2
  exact h2
theorem near_zero (s : Bool) (p : Int) : FloatKind.f32.format.nearest s 0 p = FloatKind.f32.format.word s 0 := by simp [Ieee.Format.nearest]
/-- The word of a number that is not below nought, without its sign. -/
theorem rg_near {s : Bool} {m : Nat} (h : s = true → m = 0) (p : Int) : rg (nz .f32 (FloatKind.f32.format.nearest s m p)) = FloatKind.f32.format.nearest false m p := by
  rw [nz_of_not (nearest_num .f32 s m p)]
  cases s with
  | false =>
    have := near_le m p
    unfold rg
    omega
  | true =>
    rw [h rfl, near_zero, near_zero]
    kernel_rfl
theorem nearest_at {m : Nat} {e : Int} (he : -149 ≤ e) : FloatKind.f32.format.nearest false m e = FloatKind.f32.format.nearest false (m * 2 ^ (e + 149).toNat) (-149) := by
  have h := nearest_shift FloatKind.f32.format false m (e + 149).toNat e
  rw [← h]
  congr 1
  omega
/-- A sum of numbers that are not below nought, by its rung. -/
theorem rg_add {a b : Nat} (ha : Nn a) (hb : Nn b) : rg (fadd .f32 a b) = FloatKind.f32.format.nearest false (mag (rg a) + mag (rg b)) (-149) := by
  obtain ⟨s, m, i, r1, s1, k1, v1⟩ := nn_read ha
  obtain ⟨t, n, j, r2, s2, k2, v2⟩ := nn_read hb
  unfold fadd Ieee.Format.add
  rw [r1, r2]
  simp only [Ieee.Datum.sum, Option.map_some, Option.getD_some, Ieee.Format.write]
  rw [signed_nn' s1, signed_nn' s2]
  have hsum : ((m * 2 ^ (i - min i j).toNat : Nat) : Int) + ((n * 2 ^ (j - min i j).toNat : Nat) : Int) = ((m * 2 ^ (i - min i j).toNat + n * 2 ^ (j - min i j).toNat : Nat) : Int) := by omega
  rw [hsum, Int.natAbs_natCast]
  have up : ∀ (x : Nat) (k : Int), -149 ≤ k → min i j ≤ k → x * 2 ^ (k + 149).toNat = (x * 2 ^ (k - min i j).toNat) * 2 ^ (min i j + 149).toNat := by
    intro x k h1 h2
    rw [Nat.mul_assoc, ← Nat.pow_add]
    congr 2
    omega
  rw [up m i k1 (by omega)] at v1
  rw [up n j k2 (by omega)] at v2
  generalize m * 2 ^ (i - min i j).toNat = A at v1 ⊢
  generalize n * 2 ^ (j - min i j).toNat = B at v2 ⊢
  rw [rg_near, nearest_at (show -149 ≤ min i j by omega), Nat.add_mul, v1, v2]
  intro h
  split at h
  · rename_i h0; omega
  · simp at h; omega
/-- A product of numbers that are not below nought, by its rung. -/
theorem rg_mul {a b : Nat} (ha : Nn a) (hb : Nn b) : rg (fmul .f32 a b) = FloatKind.f32.format.nearest false (mag (rg a) * mag (rg b)) (-298) := by
  obtain ⟨s, m, i, r1, s1, k1, v1⟩ := nn_read ha
  obtain ⟨t, n, j, r2, s2, k2, v2⟩ := nn_read hb
  unfold fmul Ieee.Format.mul
  rw [r1, r2]
  simp only [Ieee.Datum.product, Option.map_some, Option.getD_some, Ieee.Format.write]
  rw [rg_near]
  · have h := nearest_shift FloatKind.f32.format false (m * n) ((i + 149).toNat + (j + 149).toNat) (i + j)
    rw [← h, ← v1, ← v2]
    have e : m * n * 2 ^ ((i + 149).toNat + (j + 149).toNat) = m * 2 ^ (i + 149).toNat * (n * 2 ^ (j + 149).toNat) := by
      rw [Nat.pow_add]
      simp only [Nat.mul_assoc, Nat.mul_left_comm]
    rw [e]
    congr 1
    omega
  · intro h
    cases s with
    | true => rw [s1 rfl, Nat.zero_mul]
    | false =>
      cases t with
      | true => rw [s2 rfl, Nat.mul_zero]
      | false => cases h
theorem add_mono {a b c d : Nat} (ha : Nn a) (hb : Nn b) (hc : Nn c) (hd : Nn d) (h1 : rg a ≤ rg b) (h2 : rg c ≤ rg d) : rg (fadd .f32 a c) ≤ rg (fadd .f32 b d) := by
  rw [rg_add ha hc, rg_add hb hd]
  exact nearest_mono _ _ (Nat.add_le_add (mag_le_iff.2 h1) (mag_le_iff.2 h2))
theorem mul_mono {a b c d : Nat} (ha : Nn a) (hb : Nn b) (hc : Nn c) (hd : Nn d) (h1 : rg a ≤ rg b) (h2 : rg c ≤ rg d) : rg (fmul .f32 a c) ≤ rg (fmul .f32 b d) := by
  rw [rg_mul ha hc, rg_mul hb hd]
  exact nearest_mono _ _ (Nat.mul_le_mul (mag_le_iff.2 h1) (mag_le_iff.2 h2))
end Go.Proofs.Ytkfpmiggolmabaa.Sx
