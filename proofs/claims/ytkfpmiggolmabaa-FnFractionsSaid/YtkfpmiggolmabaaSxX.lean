/- Plain facts: rounding keeps the order. -/
import Derived.Test.YtkfpmiggolmabaaSxR
namespace Go.Proofs.Ytkfpmiggolmabaa.Sx
open Go Go.RowKit
set_option linter.unusedVariables false
set_option linter.unusedSimpArgs false
set_option maxRecDepth 100000

theorem rn_mono {m n : Nat} (d : Nat) (h : m ≤ n) : rn m d ≤ rn n d := by
  unfold rn
  have hq : m / 2 ^ d ≤ n / 2 ^ d := Nat.div_le_div_right h
  rcases Nat.lt_or_ge (m / 2 ^ d) (n / 2 ^ d) with hlt | hge
  · have := Bool.toNat_le (decide (2 ^ d < 2 * (m % 2 ^ d)) || (decide (2 ^ d = 2 * (m % 2 ^ d)) && decide (m / 2 ^ d % 2 = 1)))
    omega
  · have he : m / 2 ^ d = n / 2 ^ d := Nat.le_antisymm hq hge
    have hr : m % 2 ^ d ≤ n % 2 ^ d := by
      have h1 := Nat.div_add_mod m (2 ^ d)
      have h2 := Nat.div_add_mod n (2 ^ d)
      rw [he] at h1
      omega
    rw [he]
    refine Nat.add_le_add_left ?_ _
    generalize m % 2 ^ d = r at hr
    generalize n % 2 ^ d = r' at hr
    generalize n / 2 ^ d = q
    generalize 2 ^ d = D
    by_cases h1 : D < 2 * r
    · rw [decide_eq_true h1, decide_eq_true (by omega : D < 2 * r')]
      simp
    · rw [decide_eq_false h1]
      by_cases h2 : D = 2 * r
      · by_cases h3 : D < 2 * r'
        · rw [decide_eq_true h3]
          simp only [Bool.true_or, Bool.toNat_true]
          exact Bool.toNat_le _
        · have : r = r' := by omega
          subst this
          rw [decide_eq_false h1]
          exact Nat.le_refl _
      · rw [decide_eq_false h2]
        simp
/-- How low a number that is written may stand. -/
theorem nearest_ge (f : Ieee.Format) (n : Nat) (p : Int) (hn : n ≠ 0) (hl : f.leastPlace ≤ p + (n.log2 : Int) - (f.fractionBits : Int)) :
    min (((p + (n.log2 : Int) - (f.fractionBits : Int) - f.leastPlace).toNat + 1) * f.binade) f.infRung ≤ f.nearest false n p := by
  unfold Ieee.Format.nearest
  rw [if_neg hn]
  dsimp only
  rw [Int.max_eq_left hl]
  generalize hlast : p + (n.log2 : Int) - (f.fractionBits : Int) = last at hl
  show _ ≤ min _ _
  refine Nat.le_min.2 ⟨Nat.le_trans (Nat.min_le_left _ _) ?_, Nat.min_le_right _ _⟩
  rw [Nat.add_mul, Nat.one_mul]
  refine Nat.add_le_add_left ?_ _
  rw [cut_rn, Nat.shiftLeft_eq]
  have hlog : 2 ^ n.log2 ≤ n := Nat.log2_self_le hn
  rcases Int.le_total last p with h | h
  · rw [show (last - p).toNat = 0 by omega, rn_zero]
    have h1 : 2 ^ n.log2 * 2 ^ (p - last).toNat ≤ n * 2 ^ (p - last).toNat := Nat.mul_le_mul_right _ hlog
    rw [← Nat.pow_add, show n.log2 + (p - last).toNat = f.fractionBits by omega] at h1
    exact h1
  · rw [show (p - last).toNat = 0 by omega, Nat.pow_zero, Nat.mul_one]
    refine Nat.le_trans ?_ (Nat.le_add_right (n / 2 ^ (last - p).toNat) _)
    refine (Nat.le_div_iff_mul_le (Nat.two_pow_pos _)).2 ?_
    show 2 ^ f.fractionBits * 2 ^ (last - p).toNat ≤ n
    rw [← Nat.pow_add, show f.fractionBits + (last - p).toNat = n.log2 by omega]
    exact hlog
/-- Rounding keeps the order. -/
theorem nearest_mono (f : Ieee.Format) {m n : Nat} (p : Int) (h : m ≤ n) : f.nearest false m p ≤ f.nearest false n p := by
  by_cases hm : m = 0
  · subst hm
    have : f.nearest false 0 p = 0 := by simp [Ieee.Format.nearest, Ieee.Format.word]
    rw [this]
    exact Nat.zero_le _
  · have hn : n ≠ 0 := by omega
    have hlog : m.log2 ≤ n.log2 := by
      have h1 : 2 ^ m.log2 ≤ n := Nat.le_trans (Nat.log2_self_le hm) h
      exact (Nat.le_log2 hn).2 h1
    by_cases hlast : max (p + (m.log2 : Int) - (f.fractionBits : Int)) f.leastPlace = max (p + (n.log2 : Int) - (f.fractionBits : Int)) f.leastPlace
    · unfold Ieee.Format.nearest
      rw [if_neg hm, if_neg hn]
      dsimp only
      rw [hlast]
      generalize max (p + (n.log2 : Int) - (f.fractionBits : Int)) f.leastPlace = last
      show min _ _ ≤ min _ _
      refine Nat.le_min.2 ⟨Nat.le_trans (Nat.min_le_left _ _) (Nat.add_le_add_left ?_ _), Nat.min_le_right _ _⟩
      rw [cut_rn, cut_rn, Nat.shiftLeft_eq, Nat.shiftLeft_eq]
      exact rn_mono _ (Nat.mul_le_mul_right _ h)
    · have hlt : max (p + (m.log2 : Int) - (f.fractionBits : Int)) f.leastPlace < p + (n.log2 : Int) - (f.fractionBits : Int) := by omega
      obtain ⟨r, h1, h2⟩ := nearest_le f false m p (max (p + (m.log2 : Int)) (f.leastPlace + (f.fractionBits : Int))) hm (Int.le_max_left _ _) (Int.le_max_right _ _)
      have h3 := nearest_ge f n p hn (by omega)
      have hinf : f.nearest false m p ≤ f.infRung := by
        obtain ⟨r', g1, g2⟩ := nearest_word f false m p
        rw [g1]
        exact g2
      rw [h1] at hinf ⊢
      have hr : f.word false r = r := rfl
      rw [hr] at hinf ⊢
      refine Nat.le_trans (Nat.le_min.2 ⟨Nat.le_trans h2 (Nat.mul_le_mul_right _ ?_), hinf⟩) h3
      omega
end Go.Proofs.Ytkfpmiggolmabaa.Sx
