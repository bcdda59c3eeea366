/- Plain facts: differences and quotients of floats not below nought, by their rungs. -/
import Derived.Test.YtkfpmiggolmabaaSxZ
namespace Go.Proofs.Ytkfpmiggolmabaa.Sx
open Go Go.RowKit
set_option linter.unusedVariables false
set_option linter.unusedSimpArgs false
set_option maxRecDepth 100000

theorem nn_rg {a : Nat} (h : Nn a) : rg a < 2139095040 := by
  unfold rg
  rcases h with h | h <;> omega
theorem signed_opp {s : Bool} {m : Nat} (h : s = true → m = 0) (u : Nat) : Ieee.signed (!s) m u = -((m * 2 ^ u : Nat) : Int) := by
  cases s with
  | false => exact signed_t m u
  | true => rw [h rfl]; simp [signed_zero]
theorem word_false (f : Ieee.Format) (r : Nat) : f.word false r = r := rfl
/-- The word of a sign. -/
theorem near_sign' (f : Ieee.Format) (s : Bool) (m : Nat) (p : Int) : f.nearest s m p = f.word s (f.nearest false m p) := by
  unfold Ieee.Format.nearest
  by_cases h : m = 0
  · rw [if_pos h, if_pos h, word_false]
  · rw [if_neg h, if_neg h]
    dsimp only
    rw [cut_rn, cut_rn, word_false]
theorem near_sign (s : Bool) (m : Nat) (p : Int) : FloatKind.f32.format.nearest s m p = FloatKind.f32.format.word s (FloatKind.f32.format.nearest false m p) := near_sign' _ s m p
theorem near_one {m : Nat} (h : m ≠ 0) : 1 ≤ FloatKind.f32.format.nearest false m (-149) := by
  have h1 := near_mag (r := 1) (by decide)
  have h2 : mag 1 = 1 := by decide
  rw [h2] at h1
  have := nearest_mono FloatKind.f32.format (-149) (show 1 ≤ m by omega)
  omega
/-- A difference whose second is no greater. -/
theorem sub_ge {a b : Nat} (ha : Nn a) (hb : Nn b) (h : rg b ≤ rg a) : Nn (fsub .f32 a b) ∧ rg (fsub .f32 a b) = FloatKind.f32.format.nearest false (mag (rg a) - mag (rg b)) (-149) := by
  have hm := mag_le_iff.2 h
  have hra := nn_rg ha
  have key : ∃ s m p, fsub .f32 a b = nz .f32 (FloatKind.f32.format.nearest s m p) ∧ (s = true → m = 0) ∧ FloatKind.f32.format.nearest false m p = FloatKind.f32.format.nearest false (mag (rg a) - mag (rg b)) (-149) := by
    obtain ⟨s, m, i, r1, s1, k1, v1⟩ := nn_read ha
    obtain ⟨t, n, j, r2, s2, k2, v2⟩ := nn_read hb
    unfold fsub Ieee.Format.sub
    rw [r1, r2]
    simp only [Ieee.Datum.opposite, Ieee.Datum.sum, Option.map_some, Option.getD_some, Ieee.Format.write]
    rw [signed_nn' s1, signed_opp s2]
    have up : ∀ (x : Nat) (k : Int), -149 ≤ k → min i j ≤ k → x * 2 ^ (k + 149).toNat = (x * 2 ^ (k - min i j).toNat) * 2 ^ (min i j + 149).toNat := by
      intro x k h1 h2
      rw [Nat.mul_assoc, ← Nat.pow_add]
      congr 2
      omega
    rw [up m i k1 (by omega)] at v1
    rw [up n j k2 (by omega)] at v2
    have hp := Nat.two_pow_pos (min i j + 149).toNat
    generalize m * 2 ^ (i - min i j).toNat = A at v1 ⊢
    generalize n * 2 ^ (j - min i j).toNat = B at v2 ⊢
    have hBA : B ≤ A := by
      rw [← v1, ← v2] at hm
      exact Nat.le_of_mul_le_mul_right hm hp
    have e : (A : Int) + -(B : Int) = ((A - B : Nat) : Int) := by omega
    rw [e, Int.natAbs_natCast]
    refine ⟨_, _, _, rfl, fun h => ?_, ?_⟩
    · split at h
      · rename_i h0; omega
      · simp at h; omega
    · rw [nearest_at (show -149 ≤ min i j by omega), Nat.sub_mul, v1, v2]
  obtain ⟨s, m, p, e, hs, hv⟩ := key
  have hr : rg (fsub .f32 a b) = FloatKind.f32.format.nearest false (mag (rg a) - mag (rg b)) (-149) := by
    rw [e, rg_near hs, hv]
  refine ⟨?_, hr⟩
  have hle : FloatKind.f32.format.nearest false (mag (rg a) - mag (rg b)) (-149) ≤ rg a := by
    have := nearest_mono FloatKind.f32.format (-149) (Nat.sub_le (mag (rg a)) (mag (rg b)))
    rw [near_mag hra] at this
    exact this
  rw [e] at hr ⊢
  exact nn_word hs (by omega)
/-- A difference whose second is greater: it lies below nought, as far as the other way round above. -/
theorem sub_lt {a b : Nat} (ha : Nn a) (hb : Nn b) (h : rg a < rg b) : fsub .f32 a b = 2147483648 + rg (fsub .f32 b a) ∧ 1 ≤ rg (fsub .f32 b a) ∧ fsub .f32 b a = rg (fsub .f32 b a) ∧ rg (fsub .f32 b a) < 2139095040 := by
  have hm := mag_lt h
  obtain ⟨q1, q2⟩ := sub_ge hb ha (Nat.le_of_lt h)
  have h1 : 1 ≤ rg (fsub .f32 b a) := by
    rw [q2]
    exact near_one (by omega)
  have hr := nn_rg q1
  refine ⟨?_, h1, ?_, hr⟩
  · rw [q2]
    obtain ⟨s, m, i, r1, s1, k1, v1⟩ := nn_read ha
    obtain ⟨t, n, j, r2, s2, k2, v2⟩ := nn_read hb
    unfold fsub Ieee.Format.sub
    rw [r1, r2]
    simp only [Ieee.Datum.opposite, Ieee.Datum.sum, Option.map_some, Option.getD_some, Ieee.Format.write]
    rw [signed_nn' s1, signed_opp s2]
    have up : ∀ (x : Nat) (k : Int), -149 ≤ k → min i j ≤ k → x * 2 ^ (k + 149).toNat = (x * 2 ^ (k - min i j).toNat) * 2 ^ (min i j + 149).toNat := by
      intro x k h1 h2
      rw [Nat.mul_assoc, ← Nat.pow_add]
      congr 2
      omega
    rw [up m i k1 (by omega)] at v1
    rw [up n j k2 (by omega)] at v2
    have hp := Nat.two_pow_pos (min i j + 149).toNat
    generalize m * 2 ^ (i - min i j).toNat = A at v1 ⊢
    generalize n * 2 ^ (j - min i j).toNat = B at v2 ⊢
    have hBA : A < B := by
      rw [← v1, ← v2] at hm
      exact Nat.lt_of_mul_lt_mul_right hm
    have e : ((A : Int) + -(B : Int)).natAbs = B - A := by omega
    have e2 : (decide ((A : Int) + -(B : Int) < 0)) = true := decide_eq_true (by omega)
    rw [e, if_neg (show ¬ ((A : Int) + -(B : Int) = 0) by omega), e2, near_sign, nz_of_not]
    · have ew : ∀ r, FloatKind.f32.format.word true r = 2147483648 + r := fun r => by
        have : FloatKind.f32.format.signWeight = 2147483648 := by kernel_rfl
        show FloatKind.f32.format.signWeight + r = _
        rw [this]
      rw [ew, nearest_at (show -149 ≤ min i j by omega), Nat.sub_mul, v1, v2]
    · rw [← near_sign]
      exact nearest_num .f32 true _ _
  · rcases q1 with q | q
    · unfold rg
      omega
    · rw [q] at h1
      exact absurd h1 (by decide)
theorem sub_le {a b : Nat} (ha : Nn a) (hb : Nn b) (h : rg b ≤ rg a) : rg (fsub .f32 a b) ≤ rg a := by
  rw [(sub_ge ha hb h).2]
  have := nearest_mono FloatKind.f32.format (-149) (Nat.sub_le (mag (rg a)) (mag (rg b)))
  rw [near_mag (nn_rg ha)] at this
  exact this
theorem sub_mono {a b c d : Nat} (ha : Nn a) (hb : Nn b) (hc : Nn c) (hd : Nn d) (h : rg b ≤ rg a) (h1 : rg a ≤ rg c) (h2 : rg d ≤ rg b) : rg (fsub .f32 a b) ≤ rg (fsub .f32 c d) := by
  rw [(sub_ge ha hb h).2, (sub_ge hc hd (by omega)).2]
  have := mag_le_iff.2 h1
  have := mag_le_iff.2 h2
  exact nearest_mono _ _ (by omega)
theorem sub_self {a : Nat} (ha : Nn a) : rg (fsub .f32 a a) = 0 := by
  rw [(sub_ge ha ha (Nat.le_refl _)).2, Nat.sub_self, near_zero]
  rfl
/-! Quotients. -/
theorem rn_sticky {q t r s d : Nat} (hr : r < 2 ^ t) (hs : s ≤ 1) (hd : 2 ≤ d) : rn (2 * (q * 2 ^ t + r) + s) (d + t) = rn (2 * q + (decide (2 * r + s ≠ 0)).toNat) d := by
  obtain ⟨H, hH⟩ : ∃ H, 2 ^ d = 4 * H := ⟨2 ^ (d - 2), by
    have : d = (d - 2) + 2 := by omega
    rw [this, Nat.pow_add, show d - 2 + 2 - 2 = d - 2 by omega]
    omega⟩
  have hHp : 0 < H := by have := Nat.two_pow_pos d; omega
  unfold rn
  rw [Nat.pow_add, hH]
  have hT := Nat.two_pow_pos t
  generalize 2 ^ t = T at hr hT
  have ha := Nat.div_add_mod (2 * q) (4 * H)
  have hb := Nat.mod_lt (2 * q) (show 0 < 4 * H by omega)
  generalize haq : 2 * q / (4 * H) = a at ha
  generalize hbq : 2 * q % (4 * H) = b at ha hb
  have hbe : ∃ b', b = 2 * b' := ⟨b / 2, by
    have : 4 * H * a = 2 * (2 * (H * a)) := by rw [Nat.mul_assoc]; omega
    omega⟩
  obtain ⟨b', rfl⟩ := hbe
  have hs2 : (decide (2 * r + s ≠ 0)).toNat ≤ 1 := Bool.toNat_le _
  have hw : 2 * r + s < 2 * T := by omega
  have e2 : (2 * q + (decide (2 * r + s ≠ 0)).toNat) / (4 * H) = a ∧ (2 * q + (decide (2 * r + s ≠ 0)).toNat) % (4 * H) = 2 * b' + (decide (2 * r + s ≠ 0)).toNat := by
    rw [Nat.div_mod_unique (by omega)]
    exact ⟨by rw [← ha]; omega, by omega⟩
  have e1 : (2 * (q * T + r) + s) / (4 * H * T) = a ∧ (2 * (q * T + r) + s) % (4 * H * T) = 2 * b' * T + (2 * r + s) := by
    rw [Nat.div_mod_unique (Nat.mul_pos (by omega) hT)]
    have hx : 2 * (q * T + r) + s = (2 * q) * T + (2 * r + s) := by rw [Nat.mul_add, Nat.mul_assoc]; omega
    refine ⟨?_, ?_⟩
    · rw [hx, ← ha, Nat.add_mul]
      have : 4 * H * T * a = 4 * H * a * T := by rw [Nat.mul_assoc, Nat.mul_comm T a, ← Nat.mul_assoc]
      omega
    · have : (2 * b' + 2) * T ≤ 4 * H * T := Nat.mul_le_mul_right _ (by omega)
      rw [Nat.add_mul] at this
      omega
  rw [e1.1, e1.2, e2.1, e2.2]
  refine congrArg (a + ·) ?_
  have em : 4 * H * T = 2 * (2 * H * T) := by rw [Nat.mul_assoc, Nat.mul_assoc]; omega
  rw [em]
  rcases Nat.lt_trichotomy b' H with h | h | h
  · have h3 : (2 * b' + 2) * T ≤ 2 * H * T := Nat.mul_le_mul_right _ (by omega)
    rw [Nat.add_mul] at h3
    rw [decide_eq_false (show ¬ 2 * (2 * H * T) < 2 * (2 * b' * T + (2 * r + s)) by omega), decide_eq_false (show ¬ 2 * (2 * H * T) = 2 * (2 * b' * T + (2 * r + s)) by omega),
      decide_eq_false (show ¬ 4 * H < 2 * (2 * b' + (decide (2 * r + s ≠ 0)).toNat) by omega), decide_eq_false (show ¬ 4 * H = 2 * (2 * b' + (decide (2 * r + s ≠ 0)).toNat) by omega)]
  · subst h
    by_cases hz : 2 * r + s = 0
    · rw [hz]
      simp only [ne_eq, not_true_eq_false, decide_false, Bool.toNat_false, Nat.add_zero]
      rw [decide_eq_false (show ¬ 2 * (2 * b' * T) < 2 * (2 * b' * T) by omega), decide_eq_false (show ¬ 4 * b' < 2 * (2 * b') by omega), decide_eq_true (show 4 * b' = 2 * (2 * b') by omega)]
      rfl
    · have ht : (decide (2 * r + s ≠ 0)).toNat = 1 := by rw [decide_eq_true hz]; rfl
      rw [ht, decide_eq_true (show 2 * (2 * b' * T) < 2 * (2 * b' * T + (2 * r + s)) by omega), decide_eq_true (show 4 * b' < 2 * (2 * b' + 1) by omega)]
      rfl
  · have h3 : (2 * H + 2) * T ≤ 2 * b' * T := Nat.mul_le_mul_right _ (by omega)
    rw [Nat.add_mul] at h3
    rw [decide_eq_true (show 2 * (2 * H * T) < 2 * (2 * b' * T + (2 * r + s)) by omega), decide_eq_true (show 4 * H < 2 * (2 * b' + (decide (2 * r + s ≠ 0)).toNat) by omega)]
    rfl
theorem log2_is {m L : Nat} (h1 : 2 ^ L ≤ m) (h2 : m < 2 ^ (L + 1)) : m.log2 = L := by
  have hm : m ≠ 0 := by have := Nat.two_pow_pos L; omega
  have h3 := (Nat.le_log2 hm).2 h1
  have h4 := (Nat.log2_lt hm).2 h2
  omega
theorem near_sticky {q t r s : Nat} (p : Int) (hr : r < 2 ^ t) (hs : s ≤ 1) (hq : 2 ^ 24 ≤ q) : FloatKind.f32.format.nearest false (2 * (q * 2 ^ t + r) + s) (p - t) = FloatKind.f32.format.nearest false (2 * q + (decide (2 * r + s ≠ 0)).toNat) p := by
  have e1 : FloatKind.f32.format.leastPlace = -149 := by kernel_rfl
  have e2 : FloatKind.f32.format.fractionBits = 23 := rfl
  have hq' : 16777216 ≤ q := hq
  have hs2 : (decide (2 * r + s ≠ 0)).toNat ≤ 1 := Bool.toNat_le _
  have hT := Nat.two_pow_pos t
  obtain ⟨L, hL⟩ : ∃ L, (2 * q).log2 = L := ⟨_, rfl⟩
  have hn : 2 * q ≠ 0 := by omega
  have l1 : 2 ^ L ≤ 2 * q := by rw [← hL]; exact Nat.log2_self_le hn
  have l2 : 2 * q < 2 ^ (L + 1) := by rw [← hL]; exact Nat.lt_log2_self
  have l0 : 25 ≤ L := by
    rw [← hL]
    exact (Nat.le_log2 hn).2 (show 2 ^ 25 ≤ 2 * q by omega)
  have l3 : 2 * q + 2 ≤ 2 ^ (L + 1) := by
    have : 2 ^ (L + 1) = 2 * 2 ^ L := by rw [Nat.pow_succ]; omega
    omega
  have g2 : (2 * q + (decide (2 * r + s ≠ 0)).toNat).log2 = L := log2_is (by omega) (by omega)
  have hx : 2 * (q * 2 ^ t + r) + s = (2 * q) * 2 ^ t + (2 * r + s) := by rw [Nat.mul_add, Nat.mul_assoc]; omega
  have g1 : (2 * (q * 2 ^ t + r) + s).log2 = L + t := by
    rw [hx]
    refine log2_is ?_ ?_
    · rw [Nat.pow_add]
      have := Nat.mul_le_mul_right (2 ^ t) l1
      omega
    · have h3 : (2 * q + 2) * 2 ^ t ≤ 2 ^ (L + 1) * 2 ^ t := Nat.mul_le_mul_right _ l3
      rw [Nat.add_mul] at h3
      rw [show L + t + 1 = L + 1 + t by omega, Nat.pow_add]
      omega
  have hne1 : 2 * (q * 2 ^ t + r) + s ≠ 0 := by
    have := Nat.mul_pos (show 0 < 2 * q by omega) hT
    omega
  have hne2 : 2 * q + (decide (2 * r + s ≠ 0)).toNat ≠ 0 := by omega
  unfold Ieee.Format.nearest
  rw [if_neg hne1, if_neg hne2]
  dsimp only
  rw [g1, g2, e1, e2, cut_rn, cut_rn, Nat.shiftLeft_eq, Nat.shiftLeft_eq]
  have hl : max (p - (t : Int) + ((L + t : Nat) : Int) - ((23 : Nat) : Int)) (-149) = max (p + (L : Int) - ((23 : Nat) : Int)) (-149) := by omega
  rw [hl]
  generalize hlast : max (p + (L : Int) - ((23 : Nat) : Int)) (-149) = last
  have hge : p + 2 ≤ last := by omega
  obtain ⟨d, hd⟩ : ∃ d : Nat, last = p + d := ⟨(last - p).toNat, by omega⟩
  have hd3 : 2 ≤ d := by omega
  rw [show (p - (t : Int) - last).toNat = 0 by omega, show (p - last).toNat = 0 by omega, show (last - (p - (t : Int))).toNat = d + t by omega, show (last - p).toNat = d by omega, Nat.pow_zero, Nat.mul_one, Nat.mul_one, rn_sticky hr hs (by omega)]
/-- A quotient's digits, with what is left over told behind. -/
def qs (M N K : Nat) : Nat := 2 * (M * 2 ^ K / N) + (M * 2 ^ K % N != 0).toNat
theorem qs_more {M N : Nat} (K t : Nat) (hN : 0 < N) (p : Int) (hq : 2 ^ 24 ≤ M * 2 ^ K / N) : FloatKind.f32.format.nearest false (qs M N (K + t)) (p - t) = FloatKind.f32.format.nearest false (qs M N K) p := by
  unfold qs
  rw [Nat.pow_add, ← Nat.mul_assoc]
  generalize M * 2 ^ K = x at hq
  have hT := Nat.two_pow_pos t
  have h1 := Nat.div_add_mod x N
  have h2 := Nat.mod_lt x hN
  generalize hqx : x / N = q at hq h1 ⊢
  generalize hrx : x % N = r at h1 h2 ⊢
  have h3 := Nat.div_add_mod (r * 2 ^ t) N
  have h4 := Nat.mod_lt (r * 2 ^ t) hN
  have hlt : r * 2 ^ t / N < 2 ^ t := (Nat.div_lt_iff_lt_mul hN).2 (by
    rw [Nat.mul_comm (2 ^ t)]
    exact Nat.mul_lt_mul_of_pos_right h2 hT)
  generalize hr2 : r * 2 ^ t / N = r2 at h3 hlt
  generalize hs2 : r * 2 ^ t % N = s2 at h3 h4
  have e : x * 2 ^ t / N = q * 2 ^ t + r2 ∧ x * 2 ^ t % N = s2 := by
    rw [Nat.div_mod_unique hN]
    refine ⟨?_, h4⟩
    rw [← h1, Nat.add_mul, ← h3, Nat.mul_add, Nat.mul_assoc]
    omega
  rw [e.1, e.2]
  have hz : (decide (2 * r2 + (s2 != 0).toNat ≠ 0)) = (r != 0) := by
    by_cases hr : r = 0
    · subst hr
      rw [Nat.zero_mul] at h3
      have h5 : r2 = 0 := by
        rcases Nat.eq_zero_or_pos r2 with h | h
        · exact h
        · have := Nat.mul_pos hN h; omega
      have h6 : s2 = 0 := by omega
      rw [h5, h6]
      rfl
    · have hp : 0 < r * 2 ^ t := Nat.mul_pos (by omega) hT
      have : (r != 0) = true := by simpa using hr
      rw [this]
      refine decide_eq_true fun hc => ?_
      have h5 : r2 = 0 := by omega
      have h6 : s2 = 0 := by
        have : (s2 != 0).toNat = 0 := by omega
        cases hb : (s2 != 0) with
        | true => rw [hb] at this; cases this
        | false => simpa using hb
      rw [h5, h6] at h3
      omega
  have := near_sticky (q := q) (t := t) (r := r2) (s := (s2 != 0).toNat) p hlt (Bool.toNat_le _) hq
  rw [hz] at this
  exact this
theorem qs_scale (m n u v K : Nat) (hn : 0 < n) : qs (m * 2 ^ u) (n * 2 ^ v) (K + v) = qs m n (u + K) := by
  have e : m * 2 ^ u * 2 ^ (K + v) = (m * 2 ^ (u + K)) * 2 ^ v := by
    rw [Nat.mul_assoc, ← Nat.pow_add, Nat.mul_assoc, ← Nat.pow_add]
    congr 2
    omega
  unfold qs
  rw [e, Nat.mul_div_mul_right _ _ (Nat.two_pow_pos v), Nat.mul_mod_mul_right]
  congr 2
  have hp := Nat.two_pow_pos v
  generalize m * 2 ^ (u + K) % n = r
  by_cases h : r = 0
  · subst h; simp
  · have h1 : r * 2 ^ v ≠ 0 := by
      have := Nat.mul_pos (show 0 < r by omega) hp
      omega
    have a1 : (r * 2 ^ v != 0) = true := by simpa using h1
    have a2 : (r != 0) = true := by simpa using h
    rw [a1, a2]
theorem read_small {a : Nat} {s : Bool} {m : Nat} {i : Int} (h : FloatKind.f32.format.read a = .number s m i) : m < 2 ^ 24 ∧ i ≤ 104 := by
  have e1 : FloatKind.f32.format.leastPlace = -149 := by kernel_rfl
  have e3 : FloatKind.f32.format.binade = 8388608 := by kernel_rfl
  have e4 : FloatKind.f32.format.infRung = 2139095040 := by kernel_rfl
  unfold Ieee.Format.read at h
  dsimp only at h
  rw [e1, e3, e4] at h
  split at h
  · rename_i hr
    cases h
    omega
  · split at h
    · cases h
      have := Nat.mod_lt (a % FloatKind.f32.format.signWeight) (show 0 < 8388608 by decide)
      omega
    · split at h <;> cases h
/-- A quotient of numbers that are not below nought, by its rung: of as many digits as one likes. -/
theorem div_raw {a b : Nat} (ha : Nn a) (hb : Nn b) (h0 : rg b ≠ 0) : ∃ s m p, fdiv .f32 a b = nz .f32 (FloatKind.f32.format.nearest s m p) ∧ (s = true → m = 0) ∧ ∀ K, 1000 ≤ K → FloatKind.f32.format.nearest false m p = FloatKind.f32.format.nearest false (qs (mag (rg a)) (mag (rg b)) K) (-K - 1) := by
  obtain ⟨s, m, i, r1, s1, k1, v1⟩ := nn_read ha
  obtain ⟨t, n, j, r2, s2, k2, v2⟩ := nn_read hb
  have hmb : 0 < mag (rg b) := by
    have := mag_lt (show 0 < rg b by omega)
    omega
  have hn : n ≠ 0 := by
    intro h
    rw [h, Nat.zero_mul] at v2
    omega
  have ht : t = false := by
    cases t with
    | false => rfl
    | true => exact absurd (s2 rfl) hn
  subst ht
  obtain ⟨b1, b2⟩ := read_small r1
  obtain ⟨b3, b4⟩ := read_small r2
  unfold fdiv Ieee.Format.div
  rw [r1, r2]
  have hd : FloatKind.f32.format.fractionBits + 2 = 25 := rfl
  simp only [Ieee.Datum.quotient, hd, Option.map_some, Option.getD_some, Ieee.Format.write, Bool.xor_false, Nat.shiftLeft_eq, if_neg hn]
  refine ⟨_, _, _, rfl, fun h => ?_, fun K hK => ?_⟩
  · rw [s1 h]; simp
  · rw [← v1, ← v2]
    have hnl : n.log2 ≤ 23 := by have := (Nat.log2_lt hn).2 b3; omega
    obtain ⟨u, hu⟩ : ∃ u : Nat, i = (u : Int) - 149 := ⟨(i + 149).toNat, by omega⟩
    obtain ⟨v, hv⟩ : ∃ v : Nat, j = (v : Int) - 149 := ⟨(j + 149).toNat, by omega⟩
    rw [show (i + 149).toNat = u by omega, show (j + 149).toNat = v by omega]
    have eK : K = (K - v) + v := by omega
    rw [eK, qs_scale m n u v (K - v) (by omega)]
    by_cases hm : m = 0
    · subst hm
      have e1 : ∀ x, qs 0 n x = 0 := fun x => by unfold qs; simp
      rw [e1]
      have e2 : 2 * (0 * 2 ^ (25 + n.log2 - Nat.log2 0) / n) + (0 * 2 ^ (25 + n.log2 - Nat.log2 0) % n != 0).toNat = 0 := by simp
      rw [e2, near_zero, near_zero]
    · obtain ⟨k, hk⟩ : ∃ k, 25 + n.log2 - m.log2 = k := ⟨_, rfl⟩
      have hml : m.log2 ≤ 23 := by have := (Nat.log2_lt hm).2 b1; omega
      rw [hk]
      have hq : 2 ^ 24 ≤ m * 2 ^ k / n := by
        refine (Nat.le_div_iff_mul_le (by omega)).2 ?_
        have h1 : 2 ^ m.log2 ≤ m := Nat.log2_self_le hm
        have h2 : n < 2 ^ (n.log2 + 1) := Nat.lt_log2_self
        have h3 : 2 ^ 24 * n ≤ 2 ^ 24 * 2 ^ (n.log2 + 1) := Nat.mul_le_mul_left _ (Nat.le_of_lt h2)
        have h4 : 2 ^ m.log2 * 2 ^ k ≤ m * 2 ^ k := Nat.mul_le_mul_right _ h1
        rw [← Nat.pow_add] at h3 h4
        have h5 : 24 + (n.log2 + 1) = m.log2 + k := by omega
        rw [h5] at h3
        exact Nat.le_trans h3 h4
      have hmore := qs_more (M := m) (N := n) k (u + (K - v) - k) (by omega) (i - j - (k : Int) - 1) hq
      have e1 : k + (u + (K - v) - k) = u + (K - v) := by omega
      rw [e1] at hmore
      have e2 : i - j - (k : Int) - 1 - ((u + (K - v) - k : Nat) : Int) = -((K - v + v : Nat) : Int) - 1 := by omega
      rw [e2] at hmore
      rw [hmore]
      rfl
theorem rg_div {a b : Nat} (ha : Nn a) (hb : Nn b) (h0 : rg b ≠ 0) (K : Nat) (hK : 1000 ≤ K) : rg (fdiv .f32 a b) = FloatKind.f32.format.nearest false (qs (mag (rg a)) (mag (rg b)) K) (-K - 1) := by
  obtain ⟨s, m, p, e, hs, hv⟩ := div_raw ha hb h0
  rw [e, rg_near hs, hv K hK]
theorem nn_div {a b : Nat} (ha : Nn a) (hb : Nn b) (h0 : rg b ≠ 0) (hr : rg (fdiv .f32 a b) < 2139095040) : Nn (fdiv .f32 a b) := by
  obtain ⟨s, m, p, e, hs, hv⟩ := div_raw ha hb h0
  rw [e] at hr ⊢
  exact nn_word hs hr
theorem mag_pos {r : Nat} (h : r ≠ 0) : 0 < mag r := by
  have := mag_lt (show 0 < r by omega)
  omega
/-- Of two quotients the one that is no greater is written no higher. -/
theorem div_mono {a b c d : Nat} (ha : Nn a) (hb : Nn b) (hc : Nn c) (hd : Nn d) (hb0 : rg b ≠ 0) (hd0 : rg d ≠ 0) (h : mag (rg a) * mag (rg d) ≤ mag (rg c) * mag (rg b)) : rg (fdiv .f32 a b) ≤ rg (fdiv .f32 c d) := by
  rw [rg_div ha hb hb0 1000 (Nat.le_refl _), rg_div hc hd hd0 1000 (Nat.le_refl _)]
  refine nearest_mono _ _ ?_
  have hB := mag_pos hb0
  have hD := mag_pos hd0
  generalize mag (rg a) = A at h
  generalize mag (rg b) = B at h hB
  generalize mag (rg c) = C at h
  generalize mag (rg d) = D at h hD
  unfold qs
  have h' : A * 2 ^ 1000 * D ≤ C * 2 ^ 1000 * B := by
    have := Nat.mul_le_mul_right (2 ^ 1000) h
    rw [Nat.mul_right_comm A, Nat.mul_right_comm C]
    exact this
  generalize A * 2 ^ 1000 = x at h'
  generalize C * 2 ^ 1000 = y at h'
  have q1 := Nat.div_add_mod x B
  have q2 := Nat.div_add_mod y D
  have q3 := Nat.mod_lt y hD
  have hle : x / B ≤ y / D := by
    refine (Nat.le_div_iff_mul_le hD).2 ?_
    refine Nat.le_of_mul_le_mul_right (c := B) ?_ hB
    have : x / B * D * B = (B * (x / B)) * D := by rw [Nat.mul_comm B, Nat.mul_right_comm]
    rw [this]
    exact Nat.le_trans (Nat.mul_le_mul_right _ (by omega)) h'
  have t1 := Bool.toNat_le (x % B != 0)
  have t2 := Bool.toNat_le (y % D != 0)
  rcases Nat.lt_or_ge (x / B) (y / D) with hlt | hge
  · omega
  · have he : x / B = y / D := by omega
    by_cases hy : y % D = 0
    · have hx : x % B = 0 := by
        have h1 : x * D ≤ (D * (y / D)) * B := by
          have : D * (y / D) = y := by omega
          rw [this]
          exact h'
        have h2 : (D * (y / D)) * B = (B * (x / B)) * D := by
          rw [he, Nat.mul_comm D, Nat.mul_assoc, Nat.mul_comm D B, ← Nat.mul_assoc, Nat.mul_comm (y / D) B]
        rw [h2] at h1
        have := Nat.le_of_mul_le_mul_right h1 hD
        omega
      rw [he, hx, hy]
      exact Nat.le_refl _
    · have : (y % D != 0) = true := by simpa using hy
      rw [he, this]
      have : (true : Bool).toNat = 1 := rfl
      omega
theorem qs_unit (M L : Nat) : qs M (2 ^ 149) (L + 149) = M * 2 ^ (L + 1) := by
  unfold qs
  rw [Nat.pow_add, ← Nat.mul_assoc, Nat.mul_div_cancel _ (Nat.two_pow_pos 149), Nat.mul_mod_left, Nat.pow_succ]
  generalize 2 ^ L = P
  have e8 : ((0 : Nat) != 0).toNat = 0 := rfl
  rw [e8, Nat.add_zero, Nat.mul_comm 2, Nat.mul_assoc]
/-- By one. -/
theorem div_one {a : Nat} (ha : Nn a) : rg (fdiv .f32 a 1065353216) = rg a := by
  have h1 : Nn 1065353216 := .inl (by decide)
  obtain ⟨L, hL⟩ : ∃ L, L = 851 := ⟨_, rfl⟩
  rw [rg_div ha h1 (by decide) (L + 149) (by omega)]
  have e : mag (rg 1065353216) = 2 ^ 149 := by
    have : rg 1065353216 = 1065353216 := by decide
    rw [this]
    unfold mag
    rw [if_neg (by decide)]
  rw [e, qs_unit]
  have h2 := nearest_shift FloatKind.f32.format false (mag (rg a)) (L + 1) (-149)
  have e3 : (-149 : Int) - ((L + 1 : Nat) : Int) = -((L + 149 : Nat) : Int) - 1 := by omega
  rw [e3] at h2
  rw [h2, near_mag (nn_rg ha)]
theorem div_le {a b : Nat} (ha : Nn a) (hb : Nn b) (h1 : 1065353216 ≤ rg b) : rg (fdiv .f32 a b) ≤ rg a := by
  have ho : Nn 1065353216 := .inl (by decide)
  have hr : rg 1065353216 = 1065353216 := by decide
  have := div_mono ha hb ha ho (by omega) (by decide) (Nat.mul_le_mul_left _ (mag_le_iff.2 (by rw [hr]; exact h1)))
  rwa [div_one ha] at this
theorem div_le_one {a b : Nat} (ha : Nn a) (hb : Nn b) (h0 : rg b ≠ 0) (h : rg a ≤ rg b) : rg (fdiv .f32 a b) ≤ 1065353216 := by
  have ho : Nn 1065353216 := .inl (by decide)
  have hr : rg 1065353216 = 1065353216 := by decide
  have := div_mono ha hb ho ho h0 (by decide) (by rw [Nat.mul_comm]; exact Nat.mul_le_mul_left _ (mag_le_iff.2 h))
  rwa [div_one ho, hr] at this
theorem min_step (z k B I : Nat) : min ((z + 1) * B + k) I = min (min (z * B + k) I + B) I := by
  rw [Nat.add_mul, Nat.one_mul]
  omega
theorem near_scale {m : Nat} {p : Int} (hm : m ≠ 0) (hp : -149 ≤ p + (m.log2 : Int) - 23) : FloatKind.f32.format.nearest false m (p + 1) = min (FloatKind.f32.format.nearest false m p + 8388608) 2139095040 := by
  have e1 : FloatKind.f32.format.leastPlace = -149 := by kernel_rfl
  have e2 : FloatKind.f32.format.fractionBits = 23 := rfl
  have e3 : FloatKind.f32.format.binade = 8388608 := by kernel_rfl
  have e4 : FloatKind.f32.format.infRung = 2139095040 := by kernel_rfl
  unfold Ieee.Format.nearest
  rw [if_neg hm, if_neg hm]
  dsimp only
  rw [e1, e2, e3, e4, show max (p + 1 + (m.log2 : Int) - ((23 : Nat) : Int)) (-149) = max (p + (m.log2 : Int) - ((23 : Nat) : Int)) (-149) + 1 by omega]
  generalize hl : max (p + (m.log2 : Int) - ((23 : Nat) : Int)) (-149) = l
  rw [show p + 1 - (l + 1) = p - l by omega, show l + 1 - (p + 1) = l - p by omega, show (l + 1 - -149).toNat = (l - -149).toNat + 1 by omega]
  rw [word_false, word_false]
  generalize Ieee.Toward.cut _ _ _ _ = kept
  generalize (l - -149).toNat = z
  exact min_step z kept 8388608 2139095040
/-- A number below nought, by its word. -/
theorem neg_read {r : Nat} (h : r < 2139095040) : ∃ m e, FloatKind.f32.format.read (2147483648 + r) = .number true m e ∧ FloatKind.f32.format.read r = .number false m e ∧ -149 ≤ e ∧ m * 2 ^ (e + 149).toNat = mag r := by
  have e1 : FloatKind.f32.format.leastPlace = -149 := by kernel_rfl
  have e2 : FloatKind.f32.format.signWeight = 2147483648 := by kernel_rfl
  have e3 : FloatKind.f32.format.binade = 8388608 := by kernel_rfl
  have e4 : FloatKind.f32.format.infRung = 2139095040 := by kernel_rfl
  have hm : (2147483648 + r) % 2147483648 = r := by omega
  have hm' : r % 2147483648 = r := by omega
  have hs : ((2147483648 + r) / 2147483648 % 2 == 1) = true := by
    have : (2147483648 + r) / 2147483648 = 1 := by omega
    rw [this]
    rfl
  have hs' : (r / 2147483648 % 2 == 1) = false := by
    have : r / 2147483648 = 0 := by omega
    rw [this]
    rfl
  unfold Ieee.Format.read mag
  dsimp only
  rw [e1, e2, e3, e4, hm, hs, hm', hs']
  by_cases hb : r < 8388608
  · rw [if_pos hb, if_pos hb, if_pos hb]
    exact ⟨_, _, rfl, rfl, by omega, by simp⟩
  · rw [if_neg hb, if_neg hb, if_pos h, if_neg hb, if_pos h]
    refine ⟨_, _, rfl, rfl, by omega, ?_⟩
    have : (-149 + ((r / 8388608 - 1 : Nat) : Int) + 149).toNat = r / 8388608 - 1 := by omega
    rw [this]
theorem neg_order {r b : Nat} (h0 : 0 < r) (h : r < 2139095040) (hb : Nn b) : FloatKind.f32.format.order (2147483648 + r) b = some .lt := by
  obtain ⟨m, i, r1, _, k1, v1⟩ := neg_read h
  obtain ⟨t, n, j, r2, s2, k2, v2⟩ := nn_read hb
  have hm : 0 < m := by
    refine Nat.pos_of_ne_zero fun h => ?_
    rw [h, Nat.zero_mul] at v1
    have := mag_pos (show r ≠ 0 by omega)
    omega
  unfold Ieee.Format.order
  rw [r1, r2]
  simp only [Ieee.Datum.order, Option.some.injEq]
  rw [signed_nn' s2, signed_t]
  have hp : 0 < m * 2 ^ (i - min i j).toNat := Nat.mul_pos hm (Nat.two_pow_pos _)
  exact Int.compare_eq_lt.2 (by omega)
end Go.Proofs.Ytkfpmiggolmabaa.Sx
