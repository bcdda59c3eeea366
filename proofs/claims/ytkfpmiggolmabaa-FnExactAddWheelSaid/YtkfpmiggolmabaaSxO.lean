/- Plain facts: rounding to the nearest, exactness. -/
import Derived.Test.YtkfpmiggolmabaaSxJ
namespace Go.Proofs.Ytkfpmiggolmabaa.Sx
open Go Go.RowKit
set_option linter.unusedVariables false
set_option linter.unusedSimpArgs false
section
open Ieee
/-- n / 2 ^ d to the nearest, ties to the even one. -/
def rn (n d : Nat) : Nat := n / 2 ^ d + (decide (2 ^ d < 2 * (n % 2 ^ d)) || (decide (2 ^ d = 2 * (n % 2 ^ d)) && decide (n / 2 ^ d % 2 = 1))).toNat
theorem cut_rn (neg : Bool) (n d : Nat) : Toward.even.cut neg n d = rn n d := by
  have key : ∀ e, Toward.even.cut neg n d = rn n e → rn n e = rn n d → Toward.even.cut neg n d = rn n d := fun e h1 h2 => h1.trans h2
  by_cases h : d ≤ n.log2 + 2
  · unfold Toward.cut rn
    rw [Nat.min_eq_left h, Nat.one_shiftLeft]
    simp only [beq_iff_eq, Nat.beq_eq_true_eq]
    congr 1
  · have hlt : n < 2 ^ (n.log2 + 1) := Nat.lt_log2_self
    have h1 : n < 2 ^ (n.log2 + 2) := Nat.lt_trans hlt (Nat.pow_lt_pow_right (by omega) (by omega))
    have h3 : 2 * n < 2 ^ (n.log2 + 2) := by rw [Nat.pow_succ 2 (n.log2 + 1)]; omega
    have h4 : 2 ^ (n.log2 + 2) ≤ 2 ^ d := Nat.pow_le_pow_right (by omega) (by omega)
    have z : ∀ e, 2 * n < 2 ^ e → rn n e = 0 := by
      intro e he
      unfold rn
      rw [Nat.div_eq_of_lt (by omega), Nat.mod_eq_of_lt (by omega)]
      rw [decide_eq_false (by omega : ¬ 2 ^ e < 2 * n), decide_eq_false (by omega : ¬ 2 ^ e = 2 * n)]
      rfl
    rw [z d (by omega)]
    unfold Toward.cut
    rw [Nat.min_eq_right (by omega), Nat.one_shiftLeft]
    simp only
    rw [Nat.div_eq_of_lt h1, Nat.mod_eq_of_lt h1]
    have e1 : (decide (2 ^ (n.log2 + 2) < 2 * n) : Bool) = false := decide_eq_false (by omega)
    have e2 : (2 ^ (n.log2 + 2) == 2 * n) = false := by
      rw [beq_eq_false_iff_ne]
      omega
    rw [e1, e2]
    rfl
theorem rn_shift (n d k : Nat) : rn (n * 2 ^ k) (d + k) = rn n d := by
  have hk : 0 < 2 ^ k := Nat.two_pow_pos k
  unfold rn
  rw [Nat.pow_add, Nat.mul_div_mul_right _ _ hk, Nat.mul_mod_mul_right, ← Nat.mul_assoc]
  congr 3
  · exact decide_eq_decide.2 ⟨fun h => Nat.lt_of_mul_lt_mul_right h, fun h => Nat.mul_lt_mul_of_pos_right h hk⟩
  · congr 1
    exact decide_eq_decide.2 ⟨fun h => Nat.eq_of_mul_eq_mul_right hk h, fun h => congrArg (· * 2 ^ k) h⟩
theorem rn_zero (n : Nat) : rn n 0 = n := by
  unfold rn
  simp [Nat.mod_one]
/-- What is written does not hang on how the number is told: m * 2 ^ k at a place that is k lower is the same. -/
theorem nearest_shift (f : Format) (neg : Bool) (m k : Nat) (p : Int) : f.nearest neg (m * 2 ^ k) (p - k) = f.nearest neg m p := by
  have hk : 0 < 2 ^ k := Nat.two_pow_pos k
  by_cases h0 : m = 0
  · subst h0
    simp [Format.nearest]
  · have h1 : m * 2 ^ k ≠ 0 := Nat.mul_ne_zero h0 (by omega)
    have hl : (m * 2 ^ k).log2 = m.log2 + k := by
      have : m * 2 ^ k = m <<< k := (Nat.shiftLeft_eq m k).symm
      rw [Nat.log2_eq_iff h1]
      have h2 := Nat.log2_self_le h0
      have h3 : m < 2 ^ (m.log2 + 1) := Nat.lt_log2_self
      constructor
      · rw [Nat.pow_add]
        exact Nat.mul_le_mul_right _ h2
      · rw [show m.log2 + k + 1 = (m.log2 + 1) + k by omega, Nat.pow_add]
        exact Nat.mul_lt_mul_of_pos_right h3 hk
    unfold Format.nearest
    rw [if_neg h0, if_neg h1, hl]
    have e : p - (k : Int) + ((m.log2 + k : Nat) : Int) - (f.fractionBits : Int) = p + (m.log2 : Int) - (f.fractionBits : Int) := by omega
    rw [e]
    simp only
    generalize max (p + (m.log2 : Int) - (f.fractionBits : Int)) f.leastPlace = last
    rw [cut_rn, cut_rn, Nat.shiftLeft_eq, Nat.shiftLeft_eq]
    congr 3
    rcases Int.le_total last (p - k) with h | h
    · rw [show (last - (p - k)).toNat = 0 by omega, show (last - p).toNat = 0 by omega, rn_zero, rn_zero, Nat.mul_assoc, ← Nat.pow_add]
      congr 2
      omega
    · rcases Int.le_total last p with h' | h'
      · rw [show (p - k - last).toNat = 0 by omega, show (last - p).toNat = 0 by omega, rn_zero, Nat.pow_zero, Nat.mul_one]
        have e2 : 2 ^ k = 2 ^ (p - last).toNat * 2 ^ (last - (p - k)).toNat := by
          rw [← Nat.pow_add]
          congr 1
          omega
        rw [e2, ← Nat.mul_assoc]
        have := rn_shift (m * 2 ^ (p - last).toNat) 0 (last - (p - k)).toNat
        rw [Nat.zero_add, rn_zero] at this
        exact this
      · rw [show (p - k - last).toNat = 0 by omega, show (p - last).toNat = 0 by omega, Nat.pow_zero, Nat.mul_one, Nat.mul_one, show (last - (p - k)).toNat = (last - p).toNat + k by omega]
        exact rn_shift m _ k
/-- The sign and the rung of a word make the word. -/
theorem word_of (f : Format) {x : Nat} (hx : x < 2 * f.signWeight) : f.word (x / f.signWeight % 2 == 1) (x % f.signWeight) = x := by
  have hs : 0 < f.signWeight := Nat.two_pow_pos _
  have hm := Nat.div_add_mod x f.signWeight
  have hd : x / f.signWeight < 2 := (Nat.div_lt_iff_lt_mul hs).2 hx
  unfold Format.word
  have hq : x / f.signWeight = 0 ∨ x / f.signWeight = 1 := by
    generalize x / f.signWeight = q at hd
    omega
  rcases hq with h | h
  · rw [h] at hm ⊢
    simp at hm ⊢
    exact hm
  · rw [h] at hm ⊢
    simp at hm ⊢
    exact hm
theorem log2_eq_of {m k : Nat} (h1 : 2 ^ k ≤ m) (h2 : m < 2 ^ (k + 1)) : m.log2 = k := (Nat.log2_eq_iff (by have := Nat.two_pow_pos k; omega)).2 ⟨h1, h2⟩
/-- What is read and written again is the word. -/
theorem write_read (f : Format) (hf : f.binade ≤ f.infRung) {x : Nat} (hx : x < 2 * f.signWeight) (hn : (f.read x).isNaN = false) : f.write (f.read x) = x := by
  have hs : 0 < f.signWeight := Nat.two_pow_pos _
  have hw := word_of f hx
  unfold Format.read at hn ⊢
  dsimp only at hn ⊢
  generalize hneg : (x / f.signWeight % 2 == 1) = neg at hw hn ⊢
  generalize hr : x % f.signWeight = r at hw hn ⊢
  split
  · rename_i h
    unfold Format.write Format.nearest
    dsimp only
    split
    · rename_i h0
      rw [h0] at hw
      exact hw
    · rename_i h0
      have hl : r.log2 < f.fractionBits := (Nat.log2_lt h0).2 h
      have e : max (f.leastPlace + (r.log2 : Int) - (f.fractionBits : Int)) f.leastPlace = f.leastPlace := by omega
      rw [e, Int.sub_self, cut_rn, Int.toNat_zero, rn_zero, Nat.shiftLeft_zero, Nat.zero_mul, Nat.zero_add, Nat.min_eq_left (by omega)]
      exact hw
  · rename_i h
    split
    · rename_i h1
      have hb : 0 < f.binade := Nat.two_pow_pos _
      have hdiv : 1 ≤ r / f.binade := (Nat.le_div_iff_mul_le hb).2 (by omega)
      have hmod : r % f.binade < f.binade := Nat.mod_lt _ hb
      have hl : (f.binade + r % f.binade).log2 = f.fractionBits := by
        apply log2_eq_of
        · show f.binade ≤ _
          omega
        · have : 2 ^ (f.fractionBits + 1) = 2 * f.binade := by
            rw [Nat.pow_succ]
            show f.binade * 2 = _
            omega
          omega
      unfold Format.write Format.nearest
      dsimp only
      rw [if_neg (by omega), hl]
      have e : max (f.leastPlace + ((r / f.binade - 1 : Nat) : Int) + (f.fractionBits : Int) - (f.fractionBits : Int)) f.leastPlace = f.leastPlace + ((r / f.binade - 1 : Nat) : Int) := by omega
      rw [e, Int.sub_self, cut_rn, Int.toNat_zero, rn_zero, Nat.shiftLeft_zero]
      have e2 : (f.leastPlace + ((r / f.binade - 1 : Nat) : Int) - f.leastPlace).toNat = r / f.binade - 1 := by omega
      rw [e2]
      have e3 : (r / f.binade - 1) * f.binade + (f.binade + r % f.binade) = r := by
        have h2 := Nat.div_add_mod r f.binade
        rw [Nat.sub_mul, Nat.one_mul, Nat.mul_comm (r / f.binade)]
        have : f.binade ≤ f.binade * (r / f.binade) := Nat.le_mul_of_pos_right _ hdiv
        omega
      rw [e3, Nat.min_eq_left (by omega)]
      exact hw
    · split
      · rename_i h2
        show f.word neg f.infRung = x
        rw [← h2]
        exact hw
      · rename_i h1 h2
        simp only [if_neg h, if_neg h1, if_neg h2, Datum.isNaN] at hn
        cases hn
theorem read_neg (k : FloatKind) (x : Nat) : k.format.read (Op.negFloat k x) = (k.format.read x).opposite := by
  have hs : 0 < k.format.signWeight := Nat.two_pow_pos _
  have h1 : Op.negFloat k x % k.format.signWeight = x % k.format.signWeight := by
    unfold Op.negFloat Ieee.Format.signWeight
    rw [Nat.xor_mod_two_pow, Nat.mod_self, Nat.xor_zero]
  have h2 : (Op.negFloat k x / k.format.signWeight % 2 == 1) = !(x / k.format.signWeight % 2 == 1) := by
    unfold Op.negFloat Ieee.Format.signWeight
    rw [Nat.xor_div_two_pow, Nat.div_self (Nat.two_pow_pos _)]
    have : (x / 2 ^ (k.format.exponentBits + k.format.fractionBits) ^^^ 1) % 2 = (x / 2 ^ (k.format.exponentBits + k.format.fractionBits) + 1) % 2 := by
      have := Nat.xor_mod_two_pow (a := x / 2 ^ (k.format.exponentBits + k.format.fractionBits)) (b := 1) (n := 1)
      rw [Nat.pow_one] at this
      rw [this]
      rcases Nat.mod_two_eq_zero_or_one (x / 2 ^ (k.format.exponentBits + k.format.fractionBits)) with h | h <;> rw [h] <;> simp <;> omega
    rw [this]
    generalize x / 2 ^ (k.format.exponentBits + k.format.fractionBits) = y
    rcases Nat.mod_two_eq_zero_or_one y with h | h
    · have : (y + 1) % 2 = 1 := by omega
      rw [h, this]
      rfl
    · have : (y + 1) % 2 = 0 := by omega
      rw [h, this]
      rfl
  unfold Format.read
  dsimp only
  rw [h1, h2]
  split
  · rfl
  · split
    · rfl
    · split <;> rfl
/-- Nothing and something: something. -/
theorem sum_zero (f : Format) (d : Datum) (hn : d.isNaN = false) (hp : ∀ s m e, d = .number s m e → m ≠ 0 ∧ f.leastPlace ≤ e) : ∃ r, (Datum.number false 0 f.leastPlace).sum d = some r ∧ f.write r = f.write d := by
  cases d with
  | nan s t => cases hn
  | infinity s => exact ⟨.infinity s, rfl, rfl⟩
  | number s m e =>
    obtain ⟨h0, he⟩ := hp s m e rfl
    have hm : min f.leastPlace e = f.leastPlace := by omega
    have hpos : 0 < m <<< (e - f.leastPlace).toNat := by
      rw [Nat.shiftLeft_eq]
      exact Nat.mul_pos (by omega) (Nat.two_pow_pos _)
    have hk : f.leastPlace = e - ((e - f.leastPlace).toNat : Int) := by omega
    have hw : f.nearest s (m <<< (e - f.leastPlace).toNat) f.leastPlace = f.nearest s m e := by
      have := nearest_shift f s m (e - f.leastPlace).toNat e
      rw [← hk, ← Nat.shiftLeft_eq] at this
      exact this
    refine ⟨_, rfl, ?_⟩
    have hz : ∀ k, signed false 0 k = 0 := fun k => by simp [signed]
    simp only [hm, hz, Int.zero_add]
    cases s with
    | false =>
      have h1 : signed false m (e - f.leastPlace).toNat = ((m <<< (e - f.leastPlace).toNat : Nat) : Int) := rfl
      rw [h1, if_neg (by omega)]
      show f.nearest _ _ _ = f.nearest _ _ _
      rw [decide_eq_false (by omega), Int.natAbs_natCast]
      exact hw
    | true =>
      have h1 : signed true m (e - f.leastPlace).toNat = -((m <<< (e - f.leastPlace).toNat : Nat) : Int) := rfl
      rw [h1, if_neg (by omega)]
      show f.nearest _ _ _ = f.nearest _ _ _
      rw [decide_eq_true (by omega), Int.natAbs_neg, Int.natAbs_natCast]
      exact hw
theorem read_place (f : Format) {x : Nat} {s : Bool} {m : Nat} {e : Int} (h : f.read x = .number s m e) : f.leastPlace ≤ e := by
  unfold Format.read at h
  dsimp only at h
  split at h
  · cases h; omega
  · split at h
    · cases h; omega
    · split at h <;> cases h
theorem binade_le (k : FloatKind) : k.format.binade ≤ k.format.infRung := by cases k <;> decide
theorem two_sw (k : FloatKind) (c : Nat) (h : flHas k c) : c < 2 * k.format.signWeight := by
  cases k
  · have e1 : FloatKind.f32.format.signWeight = 2147483648 := by decide
    rw [e1]
    exact h
  · have e1 : FloatKind.f64.format.signWeight = 9223372036854775808 := by decide
    rw [e1]
    exact h
theorem neg_has (k : FloatKind) (c : Nat) (h : flHas k c) : flHas k (Op.negFloat k c) := by
  have hw : ∀ n : Nat, c < 2 ^ (n + 1) → c ^^^ 2 ^ n < 2 ^ (n + 1) := fun n hc => Nat.xor_lt_two_pow hc (Nat.pow_lt_pow_right (by omega) (by omega))
  cases k
  · exact hw 31 h
  · exact hw 63 h
end
theorem datum_lt_zero {k : FloatKind} {d : Ieee.Datum} (h : d.order (k.format.read 0) = some .lt) : d.isNaN = false ∧ ∀ s m e, d = .number s m e → m ≠ 0 := by
  have h0 : k.format.read 0 = .number false 0 k.format.leastPlace := by cases k <;> rfl
  rw [h0] at h
  cases d with
  | nan s t => cases h
  | infinity s => exact ⟨rfl, fun s m e h => by cases h⟩
  | number s m e =>
    refine ⟨rfl, fun s' m' e' h' hm => ?_⟩
    cases h'
    subst hm
    simp only [Ieee.Datum.order, Ieee.signed, Nat.zero_shiftLeft, Option.some.injEq] at h
    cases s <;> simp at h
/-- 0 - x is -x for an x below zero. -/
theorem sub_zero_neg (k : FloatKind) (x : Nat) (hx : flHas k x) (h : flt k x 0 = true) : fsub k 0 x = fneg k x := by
  unfold flt at h
  have ho : k.format.order x 0 = some .lt := by simpa using h
  obtain ⟨h1, h2⟩ := datum_lt_zero (k := k) (d := k.format.read x) ho
  have h0 : k.format.read 0 = .number false 0 k.format.leastPlace := by cases k <;> rfl
  have hopp : (k.format.read x).opposite.isNaN = false := by
    cases hr : k.format.read x <;> rw [hr] at h1 <;> first | rfl | cases h1
  obtain ⟨r, h3, h4⟩ := sum_zero k.format (k.format.read x).opposite hopp fun s m e he => by
    cases hr : k.format.read x with
    | number s' m' e' =>
      rw [hr] at he
      cases he
      exact ⟨h2 s' _ _ hr, read_place _ hr⟩
    | infinity s' => rw [hr] at he; cases he
    | nan s' t => rw [hr] at he; cases he
  have h5 : k.format.sub 0 x = some (Op.negFloat k x) := by
    unfold Ieee.Format.sub
    rw [h0, h3, Option.map_some, h4, ← read_neg]
    rw [write_read k.format (binade_le k) (two_sw k _ (neg_has k x hx)) (by rw [read_neg]; exact hopp)]
  unfold fsub fneg
  rw [h5]
  rfl
theorem opt_has (k : FloatKind) (r : Option Nat) (h : ∀ b, r = some b → b < 2 ^ k.format.width) : flHas k (nz k (r.getD (nanOf k))) := by
  refine nz_has ?_
  cases r with
  | none =>
    cases k
    · exact (by decide : (2143289344 : Nat) < 2 ^ 32)
    · exact (by decide : (9221120237041090560 : Nat) < 2 ^ 64)
  | some b =>
    have := h b rfl
    cases k <;> exact this
theorem fadd_has (k : FloatKind) (x y : Nat) : flHas k (fadd k x y) := opt_has k _ fun b h => k.format.add_lt h
theorem fsub_has (k : FloatKind) (x y : Nat) : flHas k (fsub k x y) := opt_has k _ fun b h => k.format.sub_lt h
theorem fmul_has (k : FloatKind) (x y : Nat) : flHas k (fmul k x y) := opt_has k _ fun b h => k.format.mul_lt h
theorem fdiv_has (k : FloatKind) (x y : Nat) : flHas k (fdiv k x y) := opt_has k _ fun b h => k.format.div_lt h
end Go.Proofs.Ytkfpmiggolmabaa.Sx
