/- Plain facts: halving between two floats stays between them. -/
import Derived.Test.YtkfpmiggolmabaaSxY
namespace Go.Proofs.Ytkfpmiggolmabaa.Sx
open Go Go.RowKit
set_option linter.unusedVariables false
set_option linter.unusedSimpArgs false
set_option maxRecDepth 100000

/-- A rung's own magnitude is written as that rung. -/
theorem near_mag {r : Nat} (h : r < 2139095040) : FloatKind.f32.format.nearest false (mag r) (-149) = r := by
  obtain ⟨s, m, e, h1, h2, h3, h4⟩ := nn_read (b := r) (.inl h)
  have hr : rg r = r := by unfold rg; omega
  rw [hr] at h4
  have hs : flHas .f32 r := by unfold flHas; show r < 4294967296; omega
  have hn : (FloatKind.f32.format.read r).isNaN = false := by rw [h1]; rfl
  have hw := write_read FloatKind.f32.format (binade_le .f32) (two_sw .f32 r hs) hn
  rw [h1] at hw
  have hw' : FloatKind.f32.format.nearest s m e = r := hw
  have h5 := rg_near h2 e
  rw [hw'] at h5
  have hq : isNaN .f32 r = false := hn
  rw [nz_of_not hq, hr, nearest_at h3, h4] at h5
  exact h5.symm
/-- The rung of twice a rung's number. -/
def dbl (r : Nat) : Nat := if r < 8388608 then 2 * r else r + 8388608
theorem mag_dbl (r : Nat) : mag (dbl r) = 2 * mag r := by
  unfold dbl mag
  by_cases h : r < 8388608
  · rw [if_pos h, if_pos h]
    by_cases h2 : 2 * r < 8388608
    · rw [if_pos h2]
    · rw [if_neg h2]
      have e1 : 2 * r % 8388608 = 2 * r - 8388608 := by omega
      have e2 : 2 * r / 8388608 - 1 = 0 := by omega
      rw [e1, e2, Nat.pow_zero]
      omega
  · rw [if_neg h, if_neg h, if_neg (by omega)]
    have e1 : (r + 8388608) % 8388608 = r % 8388608 := by omega
    have e2 : (r + 8388608) / 8388608 - 1 = (r / 8388608 - 1) + 1 := by omega
    rw [e1, e2, Nat.pow_succ, ← Nat.mul_assoc, Nat.mul_comm 2]
theorem near_dbl {r : Nat} (h : r ≤ 2130706431) : FloatKind.f32.format.nearest false (2 * mag r) (-149) = dbl r := by
  rw [← mag_dbl]
  refine near_mag ?_
  unfold dbl
  split <;> omega
theorem near_half (r : Nat) (h : r < 2139095040) : FloatKind.f32.format.nearest false (2 * mag r) (-150) = r := by
  have := nearest_shift FloatKind.f32.format false (mag r) 1 (-149)
  rw [near_mag h] at this
  rw [Nat.mul_comm]
  exact this
/-- Half of a number that is not below nought, by its rung. -/
theorem rg_half {a : Nat} (ha : Nn a) : rg (fdiv .f32 a 1073741824) = FloatKind.f32.format.nearest false (mag (rg a)) (-150) := by
  obtain ⟨s, m, i, r1, s1, k1, v1⟩ := nn_read ha
  have r2 : FloatKind.f32.format.read 1073741824 = .number false 8388608 (-22) := by kernel_rfl
  unfold fdiv Ieee.Format.div
  rw [r1, r2]
  have hl : Nat.log2 8388608 = 23 := by decide +kernel
  have hd : FloatKind.f32.format.fractionBits + 2 = 25 := rfl
  simp only [Ieee.Datum.quotient, hl, hd, Option.map_some, Option.getD_some, Ieee.Format.write, Bool.xor_false, Nat.shiftLeft_eq, reduceIte, show ¬ (8388608 = 0) by decide]
  by_cases hm : m = 0
  · subst hm
    have v0 : mag (rg a) = 0 := by rw [← v1, Nat.zero_mul]
    have e : 2 * (0 * 2 ^ (25 + 23 - Nat.log2 0) / 8388608) + (0 * 2 ^ (25 + 23 - Nat.log2 0) % 8388608 != 0).toNat = 0 := by simp
    rw [e, rg_near (fun _ => rfl), v0, near_zero, near_zero]
  · have hlt : m < 2 ^ 24 := by
      obtain ⟨s', m', e', q1, q2, q3⟩ : ∃ s' m' e', FloatKind.f32.format.read a = .number s' m' e' ∧ m' < 2 ^ 24 ∧ True := by
        refine ⟨s, m, i, r1, ?_, trivial⟩
        have e1 : FloatKind.f32.format.leastPlace = -149 := by kernel_rfl
        have e3 : FloatKind.f32.format.binade = 8388608 := by kernel_rfl
        have h := r1
        unfold Ieee.Format.read at h
        dsimp only at h
        rw [e1, e3] at h
        split at h
        · rename_i hr
          cases h
          omega
        · split at h
          · cases h
            have := Nat.mod_lt (a % FloatKind.f32.format.signWeight) (show 0 < 8388608 by decide)
            omega
          · split at h <;> cases h
      rw [r1] at q1
      cases q1
      exact q2
    have hlog : m.log2 ≤ 23 := by
      have := (Nat.log2_lt hm).2 hlt
      omega
    have hmore : 2 ^ (25 + 23 - m.log2) = 8388608 * 2 ^ (25 - m.log2) := by
      have : (8388608 : Nat) = 2 ^ 23 := by decide
      rw [this, ← Nat.pow_add]
      congr 1
      omega
    have e1 : m * 2 ^ (25 + 23 - m.log2) / 8388608 = m * 2 ^ (25 - m.log2) := by
      rw [hmore, Nat.mul_left_comm, Nat.mul_div_cancel_left _ (by decide)]
    have e2 : m * 2 ^ (25 + 23 - m.log2) % 8388608 = 0 := by
      rw [hmore, Nat.mul_left_comm]
      exact Nat.mul_mod_right _ _
    rw [e1, e2]
    have e3 : 2 * (m * 2 ^ (25 - m.log2)) + (0 != 0 : Bool).toNat = m * 2 ^ (26 - m.log2) := by
      have : 26 - m.log2 = (25 - m.log2) + 1 := by omega
      rw [this, Nat.pow_succ]
      show 2 * (m * 2 ^ (25 - m.log2)) + 0 = m * (2 ^ (25 - m.log2) * 2)
      rw [Nat.add_zero, Nat.mul_comm, Nat.mul_assoc]
    rw [e3, rg_near (fun h => by rw [s1 h, Nat.zero_mul])]
    have h1 := nearest_shift FloatKind.f32.format false m (26 - m.log2) (i - 1)
    have e4 : (i - -22 - ((25 + 23 - m.log2 : Nat) : Int) - 1) = i - 1 - ((26 - m.log2 : Nat) : Int) := by omega
    rw [e4, h1]
    have h2 := nearest_shift FloatKind.f32.format false m (i + 149).toNat (i - 1)
    rw [← h2, v1]
    congr 1
    omega
/-- A sum or what else is written of a number that is not below nought is one, if it is no infinity. -/
theorem nn_word {s : Bool} {m : Nat} {p : Int} (h : s = true → m = 0) (hr : rg (nz .f32 (FloatKind.f32.format.nearest s m p)) < 2139095040) : Nn (nz .f32 (FloatKind.f32.format.nearest s m p)) := by
  rw [nz_of_not (nearest_num .f32 s m p)] at hr ⊢
  cases s with
  | false =>
    have := near_le m p
    refine .inl ?_
    unfold rg at hr
    omega
  | true =>
    rw [h rfl, near_zero]
    refine .inr ?_
    kernel_rfl
theorem nn_add {a b : Nat} (ha : Nn a) (hb : Nn b) (hr : rg (fadd .f32 a b) < 2139095040) : Nn (fadd .f32 a b) := by
  obtain ⟨s, m, i, r1, s1, k1, v1⟩ := nn_read ha
  obtain ⟨t, n, j, r2, s2, k2, v2⟩ := nn_read hb
  unfold fadd Ieee.Format.add at hr ⊢
  rw [r1, r2] at hr ⊢
  simp only [Ieee.Datum.sum, Option.map_some, Option.getD_some, Ieee.Format.write] at hr ⊢
  refine nn_word (fun h => ?_) hr
  rw [signed_nn' s1, signed_nn' s2] at h ⊢
  have hsum : ((m * 2 ^ (i - min i j).toNat : Nat) : Int) + ((n * 2 ^ (j - min i j).toNat : Nat) : Int) = ((m * 2 ^ (i - min i j).toNat + n * 2 ^ (j - min i j).toNat : Nat) : Int) := by omega
  rw [hsum] at h ⊢
  rw [Int.natAbs_natCast]
  generalize m * 2 ^ (i - min i j).toNat + n * 2 ^ (j - min i j).toNat = z at h ⊢
  split at h
  · rename_i h0; omega
  · simp at h; omega
theorem nn_half {a : Nat} (ha : Nn a) (hr : rg (fdiv .f32 a 1073741824) < 2139095040) : Nn (fdiv .f32 a 1073741824) := by
  obtain ⟨s, m, i, r1, s1, k1, v1⟩ := nn_read ha
  have r2 : FloatKind.f32.format.read 1073741824 = .number false 8388608 (-22) := by kernel_rfl
  unfold fdiv Ieee.Format.div at hr ⊢
  rw [r1, r2] at hr ⊢
  simp only [Ieee.Datum.quotient, Option.map_some, Option.getD_some, Ieee.Format.write, Bool.xor_false, Nat.shiftLeft_eq, reduceIte, show ¬ (8388608 = 0) by decide] at hr ⊢
  exact nn_word (fun h => by rw [s1 h]; simp) hr
/-- The middle of two numbers lies between them. -/
theorem half_between {a b : Nat} (ha : Nn a) (hb : Nn b) (h : rg a ≤ rg b) (hB : rg b ≤ 2113929216) :
    Nn (fdiv .f32 (fadd .f32 a b) 1073741824) ∧ rg a ≤ rg (fdiv .f32 (fadd .f32 a b) 1073741824) ∧ rg (fdiv .f32 (fadd .f32 a b) 1073741824) ≤ rg b := by
  have hd : dbl (rg b) < 2139095040 := by unfold dbl; split <;> omega
  have hup : rg (fadd .f32 a b) ≤ dbl (rg b) := by
    rw [rg_add ha hb, ← near_dbl (show rg b ≤ 2130706431 by omega)]
    have := mag_le_iff.2 h
    exact nearest_mono _ _ (by omega)
  have hlo : dbl (rg a) ≤ rg (fadd .f32 a b) := by
    rw [rg_add ha hb, ← near_dbl (show rg a ≤ 2130706431 by omega)]
    have := mag_le_iff.2 h
    exact nearest_mono _ _ (by omega)
  have hs := nn_add ha hb (by omega)
  have e := rg_half hs
  have h1 : rg (fdiv .f32 (fadd .f32 a b) 1073741824) ≤ rg b := by
    rw [e]
    have := nearest_mono FloatKind.f32.format (-150) (mag_le_iff.2 hup)
    rw [mag_dbl, near_half (rg b) (by omega)] at this
    exact this
  have h2 : rg a ≤ rg (fdiv .f32 (fadd .f32 a b) 1073741824) := by
    rw [e]
    have := nearest_mono FloatKind.f32.format (-150) (mag_le_iff.2 hlo)
    rw [mag_dbl, near_half (rg a) (by omega)] at this
    exact this
  exact ⟨nn_half hs (by omega), h2, h1⟩
theorem nn_mul {a b : Nat} (ha : Nn a) (hb : Nn b) (hr : rg (fmul .f32 a b) < 2139095040) : Nn (fmul .f32 a b) := by
  obtain ⟨s, m, i, r1, s1, k1, v1⟩ := nn_read ha
  obtain ⟨t, n, j, r2, s2, k2, v2⟩ := nn_read hb
  unfold fmul Ieee.Format.mul at hr ⊢
  rw [r1, r2] at hr ⊢
  simp only [Ieee.Datum.product, Option.map_some, Option.getD_some, Ieee.Format.write] at hr ⊢
  refine nn_word (fun h => ?_) hr
  cases s with
  | true => rw [s1 rfl, Nat.zero_mul]
  | false =>
    cases t with
    | true => rw [s2 rfl, Nat.mul_zero]
    | false => cases h
end Go.Proofs.Ytkfpmiggolmabaa.Sx
