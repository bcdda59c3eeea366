/- For every input the call of FnFractions returns true, and each argument reads afterwards as it read before; there is no condition. -/
import Derived.Test.YtkfpmiggolmabaaWFnFractions
import Derived.Test.YtkfpmiggolmabaaSxS
import Derived.Test.YtkfpmiggolmabaaSxA1
import Derived.Test.YtkfpmiggolmabaaRows
import Derived.WalkKit
import Derived.ProofKit
import Derived.OpenShut
import Derived.ShutString
import Derived.ChangeOld
import Derived.Below
import Derived.Carry
import Derived.HandedShaped
namespace Go.Proofs.Ytkfpmiggolmabaa
open Go Go.RowKit Sx
open Go.ChangeShapes Go.WideShapes Go.ChangeAt
set_option linter.unusedVariables false
set_option linter.unusedSimpArgs false
set_option maxRecDepth 100000

/-! Numbers that are not below nought: their order is that of their rungs; bounded ones. -/
theorem fle_nn {a b : Nat} (ha : Nn a) (hb : Nn b) : fle .f32 a b = decide (rg a ≤ rg b) := by
  unfold fle
  rw [nn_order ha hb]
  rcases Nat.lt_trichotomy (rg a) (rg b) with h | h | h
  · rw [Nat.compare_eq_lt.2 h, decide_eq_true (by omega)]; rfl
  · rw [Nat.compare_eq_eq.2 h, decide_eq_true (by omega)]; rfl
  · rw [Nat.compare_eq_gt.2 h, decide_eq_false (by omega)]; rfl
theorem fgt_nn {a b : Nat} (ha : Nn a) (hb : Nn b) : fgt .f32 a b = decide (rg b < rg a) := by
  unfold fgt
  rw [nn_order ha hb]
  rcases Nat.lt_trichotomy (rg a) (rg b) with h | h | h
  · rw [Nat.compare_eq_lt.2 h, decide_eq_false (by omega)]; rfl
  · rw [Nat.compare_eq_eq.2 h, decide_eq_false (by omega)]; rfl
  · rw [Nat.compare_eq_gt.2 h, decide_eq_true (by omega)]; rfl
theorem flt_nn {a b : Nat} (ha : Nn a) (hb : Nn b) : flt .f32 a b = decide (rg a < rg b) := by rw [← fgt_flip, fgt_nn hb ha]
/-- Not below nought, and no more than a bound, by its word. -/
def Nb (K x : Nat) : Prop := Nn x ∧ rg x ≤ K
theorem nb_self {K : Nat} (h : K < 2139095040) : Nn K ∧ rg K = K := ⟨.inl h, by unfold rg; omega⟩
theorem nb_mono {J K x : Nat} (h : Nb J x) (hk : J ≤ K) : Nb K x := ⟨h.1, Nat.le_trans h.2 hk⟩
theorem nb_add {J K L a b : Nat} (ha : Nb J a) (hb : Nb K b) (hJ : J < 2139095040) (hK : K < 2139095040) (h : decide (rg (fadd .f32 J K) ≤ L) = true) (hL : L < 2139095040) : Nb L (fadd .f32 a b) := by
  have h1 : rg (fadd .f32 a b) ≤ L := Nat.le_trans (add_mono ha.1 (nb_self hJ).1 hb.1 (nb_self hK).1 (by rw [(nb_self hJ).2]; exact ha.2) (by rw [(nb_self hK).2]; exact hb.2)) (of_decide_eq_true h)
  exact ⟨nn_add ha.1 hb.1 (by omega), h1⟩
theorem nb_mul {J K L a b : Nat} (ha : Nb J a) (hb : Nb K b) (hJ : J < 2139095040) (hK : K < 2139095040) (h : decide (rg (fmul .f32 J K) ≤ L) = true) (hL : L < 2139095040) : Nb L (fmul .f32 a b) := by
  have h1 : rg (fmul .f32 a b) ≤ L := Nat.le_trans (mul_mono ha.1 (nb_self hJ).1 hb.1 (nb_self hK).1 (by rw [(nb_self hJ).2]; exact ha.2) (by rw [(nb_self hK).2]; exact hb.2)) (of_decide_eq_true h)
  exact ⟨nn_mul ha.1 hb.1 (by omega), h1⟩

/-! Draws out of bytes: they always end, and what is drawn lies below what was asked for. -/
theorem ibits255 (a : Int) : 0 ≤ ibits .and .u64 a 255 ∧ ibits .and .u64 a 255 ≤ 255 := by
  have e : (BitVec.ofInt 64 a &&& BitVec.ofInt 64 255).toNat ≤ 255 := by
    rw [BitVec.toNat_and]
    exact Nat.le_trans Nat.and_le_right (by decide)
  have h : ibits .and .u64 a 255 = IntKind.wrap .u64 (((BitVec.ofInt 64 a &&& BitVec.ofInt 64 255).toNat : Nat) : Int) := rfl
  rw [h]
  generalize (BitVec.ofInt 64 a &&& BitVec.ofInt 64 255).toNat = q at e
  have w : IntKind.wrap .u64 (q : Int) = (q : Int) % 18446744073709551616 := rfl
  rw [w]
  omega
/-- A source of bytes that may be drawn from. -/
def srcOk (n : Nat) (xs : List Int) : Prop := xs.length = n ∧ n ≤ 4611686018427387904 ∧ ∀ x ∈ xs, 0 ≤ x ∧ x ≤ 255
theorem src_get {n : Nat} {xs : List Int} (h : srcOk n xs) (i : Nat) : 0 ≤ xs.getD i 0 ∧ xs.getD i 0 ≤ 255 := by
  by_cases hi : i < xs.length
  · have : xs.getD i 0 = xs[i] := by simp [List.getD, List.getElem?_eq_getElem hi]
    rw [this]
    exact h.2.2 _ (List.getElem_mem hi)
  · have : xs.getD i 0 = 0 := by simp [List.getD, List.getElem?_eq_none (by omega : xs.length ≤ i)]
    rw [this]
    omega
theorem next_t {n : Nat} {xs : List Int} (hs : srcOk n xs) (pos : Nat) (h : Int) (hp : pos < 4611686018427387904) : ∃ v h', (spec_l00Src_next.t n (pos : Int) h xs).get = some (v, n, ((pos + 1 : Nat) : Int), h') ∧ 0 ≤ v ∧ v ≤ 255 := by
  have hw : ∀ a, IntKind.wrap .i64 (ibits .and .u64 a 255) = ibits .and .u64 a 255 := fun a => by
    have := ibits255 a
    exact wrap64 (by omega) (by omega)
  have hg := src_get hs pos
  have hwg : IntKind.wrap .i64 (xs.getD pos 0) = xs.getD pos 0 := wrap64 (by omega) (by omega)
  simp only [spec_l00Src_next.t, T.get, bounds_nat, ble_decide, Int.toNat_natCast, Nat.mul_one, Nat.zero_add, hs.1, hw, wrap64_succ (show pos + 1 < 9223372036854775808 by omega), hwg]
  by_cases hlt : pos < n
  · rw [decide_eq_true (by omega : (pos : Int) < (n : Int)), decide_eq_true hlt, decide_eq_true (by omega : pos + 1 ≤ n), decide_eq_true (by omega : ((pos + 1 : Nat) : Int) ≤ (n : Int))]
    exact ⟨_, _, rfl, hg.1, hg.2⟩
  · rw [decide_eq_false (by omega : ¬ (pos : Int) < (n : Int))]
    cases hc : decide (((pos + 1 : Nat) : Int) ≤ (n : Int)) with
    | true => exact ⟨_, _, rfl, by omega, by omega⟩
    | false => exact ⟨_, _, rfl, (ibits255 _).1, (ibits255 _).2⟩
theorem pick_t {n : Nat} {xs : List Int} (hs : srcOk n xs) (k : Nat) (pos : Nat) (h : Int) (hp : pos < 4611686018427387000) : ∃ (v pos' : Nat) (h' : Int), (spec_l00Src_pick.t (k : Int) n (pos : Int) h xs).get = some ((v : Int), n, (pos' : Int), h') ∧ (v = 0 ∨ v < k) ∧ pos' ≤ pos + 2 := by
  simp only [spec_l00Src_pick.t, T.get]
  by_cases h1 : k ≤ 1
  · rw [decide_eq_true (by omega : (k : Int) ≤ 1)]
    exact ⟨0, pos, h, rfl, .inl rfl, by omega⟩
  · rw [decide_eq_false (by omega : ¬ (k : Int) ≤ 1)]
    obtain ⟨v, h', q1, q2, q3⟩ := next_t hs pos h (by omega)
    obtain ⟨v2, h2, r1, r2, r3⟩ := next_t hs (pos + 1) h' (by omega)
    obtain ⟨v, rfl⟩ : ∃ w : Nat, v = w := ⟨v.toNat, by omega⟩
    obtain ⟨v2, rfl⟩ : ∃ w : Nat, v2 = w := ⟨v2.toNat, by omega⟩
    have hk0 : ((k : Int) == 0) = false := by
      rw [beq_eq_false_iff_ne]
      omega
    have e0 : IntKind.wrap .i64 ((v : Int) * 256) = ((v * 256 : Nat) : Int) := wrap64_of (by omega) (by omega)
    have e1 : IntKind.wrap .i64 (((v * 256 : Nat) : Int) + (v2 : Int)) = ((v * 256 + v2 : Nat) : Int) := wrap64_of (by omega) (by omega)
    have t1 : Int.tmod ((v * 256 + v2 : Nat) : Int) (k : Int) = (((v * 256 + v2) % k : Nat) : Int) := by rw [Int.ofNat_tmod]
    have t2 : Int.tmod (v : Int) (k : Int) = ((v % k : Nat) : Int) := by rw [Int.ofNat_tmod]
    simp only [show spec_l00Src_next.ok n (pos : Int) h xs = true from T.ok_of_get (q1), show spec_l00Src_next n (pos : Int) h xs = _ from T.val_of_get (q1), show spec_l00Src_next.ok n ((pos + 1 : Nat) : Int) h' xs = true from T.ok_of_get (r1), show spec_l00Src_next n ((pos + 1 : Nat) : Int) h' xs = _ from T.val_of_get (r1), hk0, e0, e1, t1, t2]
    by_cases h2 : k > 200
    · rw [decide_eq_true (by omega : (k : Int) > 200)]
      exact ⟨_, pos + 1 + 1, _, rfl, .inr (Nat.mod_lt _ (by omega)), by omega⟩
    · rw [decide_eq_false (by omega : ¬ (k : Int) > 200)]
      exact ⟨_, pos + 1, _, rfl, .inr (Nat.mod_lt _ (by omega)), by omega⟩

theorem one_t {n : Nat} {xs : List Int} (hs : srcOk n xs) (k : Nat) (pos : Nat) (h : Int) (hp : pos < 4611686018427387000) : ∃ (b : Bool) (pos' : Nat) (h' : Int), (spec_l00Src_one.t (k : Int) n (pos : Int) h xs).get = some (b, n, (pos' : Int), h') ∧ pos' ≤ pos + 2 := by
  obtain ⟨v, pos', h', q1, _, q3⟩ := pick_t hs k pos h hp
  simp only [spec_l00Src_one.t, T.get, show spec_l00Src_pick.ok (k : Int) n (pos : Int) h xs = true from T.ok_of_get (q1), show spec_l00Src_pick (k : Int) n (pos : Int) h xs = _ from T.val_of_get (q1)]
  exact ⟨_, pos', h', rfl, q3⟩

theorem target_eq (x : Nat) : impl_isTarget x = spec_l05Target x := by
  simp only [impl_isTarget, impl_isTarget.t, impl_between, impl_between.t, spec_l05Target, spec_l05Target.t, T.val, fge_flip]

theorem target_le {x : Nat} (h : spec_l05Target x = true) : fle .f32 981467136 x = true ∧ fle .f32 x 1149239296 = true := by
  simp only [spec_l05Target, spec_l05Target.t, T.val, fge_flip] at h
  cases h1 : fle .f32 981467136 x <;> rw [h1] at h
  · cases h
  · exact ⟨rfl, h⟩
/-- How often two divides m: d times at most. -/
def two (m : Nat) : Nat → Nat
  | 0 => 0
  | d + 1 => bif decide (m % 2 ^ (d + 1) = 0) then d + 1 else two m d
theorem two_le (m : Nat) : ∀ d, two m d ≤ d
  | 0 => Nat.le_refl _
  | d + 1 => by
    have := two_le m d
    unfold two
    cases decide (m % 2 ^ (d + 1) = 0) <;> simp <;> omega
theorem two_dvd (m : Nat) : ∀ d, m % 2 ^ two m d = 0
  | 0 => by simp [two, Nat.mod_one]
  | d + 1 => by
    have := two_dvd m d
    unfold two
    by_cases h : m % 2 ^ (d + 1) = 0
    · rw [decide_eq_true h]
      exact h
    · rw [decide_eq_false h]
      exact this
theorem two_max (m : Nat) : ∀ d, two m d < d → m % 2 ^ (two m d + 1) ≠ 0
  | 0, h => by omega
  | d + 1, h => by
    unfold two at h ⊢
    by_cases h0 : m % 2 ^ (d + 1) = 0
    · rw [decide_eq_true h0] at h
      simp at h
    · rw [decide_eq_false h0] at h ⊢
      simp only [cond_false] at h ⊢
      by_cases h1 : two m d = d
      · rw [h1]
        exact h0
      · have := two_le m d
        exact two_max m d (by omega)
theorem two_gcd (m d : Nat) : Nat.gcd m (2 ^ d) = 2 ^ two m d := by
  have hle := two_le m d
  have h1 : m = 2 ^ two m d * (m / 2 ^ two m d) := by
    have := Nat.div_add_mod m (2 ^ two m d)
    rw [two_dvd m d] at this
    omega
  have h2 : 2 ^ d = 2 ^ two m d * 2 ^ (d - two m d) := by
    rw [← Nat.pow_add]
    congr 1
    omega
  have h3 : Nat.gcd (m / 2 ^ two m d) (2 ^ (d - two m d)) = 1 := by
    by_cases hlt : two m d < d
    · refine Nat.Coprime.pow_right _ ?_
      show Nat.gcd _ 2 = 1
      have hodd : m / 2 ^ two m d % 2 = 1 := by
        have h4 := two_max m d hlt
        rw [Nat.pow_succ, Nat.mod_mul, two_dvd m d, Nat.zero_add] at h4
        rcases Nat.mod_two_eq_zero_or_one (m / 2 ^ two m d) with h5 | h5
        · rw [h5] at h4
          simp at h4
        · exact h5
      rw [Nat.gcd_comm, Nat.gcd_rec, hodd]
      rfl
    · rw [show d - two m d = 0 by omega, Nat.pow_zero, Nat.gcd_one_right]
  have h4 : Nat.gcd (2 ^ two m d * (m / 2 ^ two m d)) (2 ^ two m d * 2 ^ (d - two m d)) = 2 ^ two m d := by
    rw [Nat.gcd_mul_left, h3, Nat.mul_one]
  rw [← h1, ← h2] at h4
  exact h4
theorem wrap_dbl (z : Nat) (h : z * 2 ≤ 1152921504606846976) : IntKind.wrap .i64 ((z : Int) * 2) = ((z * 2 : Nat) : Int) := by
  rw [wrap64 (by omega) (by omega)]
  omega
theorem pow60 {c : Nat} (h : c + 1 ≤ 60) : 2 ^ c * 2 ≤ 1152921504606846976 := by
  rw [← Nat.pow_succ]
  exact Nat.pow_le_pow_right (n := 2) (by omega) h
theorem exact_r (m : Nat) (hm : m ≠ 0) (h53 : m < 2 ^ (52 + 1)) : ∀ (d c N : Nat), d + c ≤ 60 → d < N →
    iterT (impl_exact.l2.st (0, 0)) N (FloatKind.f64.format.nearest false m (-(d : Int)), ((2 ^ c : Nat) : Int)) = some (FloatKind.f64.format.nearest false m (-(two m d : Int)), ((2 ^ (c + (d - two m d)) : Nat) : Int))
  | d, c, 0, h1, h2 => by omega
  | d, c, N + 1, h1, h2 => by
    have hi := near64_int (m := m) (d := d) hm h53 (by omega)
    have hw := near64_whole (m := m) (d := d) hm h53 (by omega)
    have hok : ftoiOk .f64 .i64 (FloatKind.f64.format.nearest false m (-(d : Int))) = true := by
      unfold ftoiOk
      rw [hi]
      rfl
    have hft : ftoi .f64 .i64 (FloatKind.f64.format.nearest false m (-(d : Int))) = ((m / 2 ^ d : Nat) : Int) := by
      unfold ftoi
      rw [hi]
      rfl
    rw [iterT_succ]
    simp only [impl_exact.l2.st, impl_exact.l2.s, T.get, hok, hft, hw, cond_true]
    by_cases h0 : m % 2 ^ d = 0
    · rw [decide_eq_true h0]
      have ht : two m d = d := by
        cases d with
        | zero => rfl
        | succ d =>
          unfold two
          rw [decide_eq_true h0]
          rfl
      rw [ht, Nat.sub_self, Nat.add_zero]
      rfl
    · rw [decide_eq_false h0]
      cases d with
      | zero => simp [Nat.mod_one] at h0
      | succ d =>
        have hl : m.log2 ≤ 52 := log2_le_of_lt hm h53
        have ht : two m (d + 1) = two m d := by
          rw [two, decide_eq_false h0]
          rfl
        have hle := two_le m d
        simp only [Bool.not_false, cond_true]
        rw [near64_mul2 hm h53 (by omega) (by omega), show -((d + 1 : Nat) : Int) + 1 = -(d : Int) by omega]
        rw [wrap_dbl (2 ^ c) (pow60 (by omega)), ← Nat.pow_succ, ht, show c + (d + 1 - two m d) = c + 1 + (d - two m d) by omega]
        exact exact_r m hm h53 d (c + 1) N (by omega) (by omega)
theorem den_r (x y : Int) (z : Int) (k d : Nat) (hd : d ≤ 60) (hk : k + d = 150) : spec_l05Exact.l5.r (x, y, z) (1, (k : Int)) = some ((2 ^ d : Nat) : Int) := by
  have hf := iter_run (step := spec_l05Exact.l5.st (x, y, z)) (f := fun i => (((2 ^ i : Nat) : Int), ((k + i : Nat) : Int))) (e := ((2 ^ d : Nat) : Int)) (n := d) (N := manyRounds) (k := 0) (many_lt (by omega)) (fun i hi => ?_) ?_
  · exact hf
  · simp only [Nat.zero_add, spec_l05Exact.l5.st, spec_l05Exact.l5.s, T.get]
    rw [decide_eq_true (by omega : ((k + i : Nat) : Int) < 150), wrap64_succ (by omega)]
    rw [wrap_dbl (2 ^ i) (pow60 (by omega)), ← Nat.pow_succ]
    rfl
  · simp only [Nat.zero_add, spec_l05Exact.l5.st, spec_l05Exact.l5.s, T.get]
    rw [decide_eq_false (by omega : ¬ ((k + d : Nat) : Int) < 150)]
    rfl
theorem common_t (a b : Nat) (hb : b < 18446744073709551615) : (spec_l01Common.t (a : Int) (b : Int)).get = some ((Nat.gcd a b : Nat) : Int) := by
  have h1 : spec_l01Common.l1.r () ((a : Int), (b : Int)) = some ((Nat.gcd a b : Nat) : Int) := gcd_run (fun x y => by
    simp only [spec_l01Common.l1.st, spec_l01Common.l1.s, gcdStep, T.get]
    by_cases hy : y = 0
    · subst hy
      rfl
    · rw [decide_eq_true (by omega : ((y : Nat) : Int) > 0), show ((y : Int) != 0) = true by simp; omega]) a b hb
  simp only [spec_l01Common.t, T.get, h1]
  rfl
/-- A number from 1/1024 to 1024 as a fraction. -/
theorem exact_ex {a : Nat} (ha : flHas .f32 a) (ht : spec_l05Target a = true) :
    ∃ n j m d : Nat, (spec_l05Exact.t a).get = some ((n : Int), ((2 ^ j : Nat) : Int)) ∧ (impl_exact.t a).get = some ((n : Int), ((2 ^ j : Nat) : Int)) ∧
      FloatKind.f32.format.read a = .number false m (-(d : Int)) ∧ n * 2 ^ d = m * 2 ^ j ∧ 0 < n ∧ n < 16777216 ∧ j ≤ 33 ∧ n < 2048 * 2 ^ j ∧ Nat.gcd n (2 ^ j) = 1 := by
  obtain ⟨h1, h2⟩ := target_le ht
  obtain ⟨d, hd1, hd2, hr, hq⟩ := target_read ha h1 h2
  have ha' : a < 4294967296 := ha
  generalize hm : 8388608 + a % 8388608 = m at hr
  have hm1 : 8388608 ≤ m := by omega
  have hm2 : m < 16777216 := by omega
  have h53 : m < 2 ^ (52 + 1) := by
    have : (2 : Nat) ^ (52 + 1) = 9007199254740992 := by decide
    omega
  have hlog : m.log2 ≤ 52 := log2_le_of_lt (by omega) h53
  have hle := two_le m d
  have hdv : m = m / 2 ^ two m d * 2 ^ two m d := by
    have := Nat.div_add_mod m (2 ^ two m d)
    rw [two_dvd m d, Nat.mul_comm] at this
    omega
  have hpos : 0 < 2 ^ two m d := Nat.two_pow_pos _
  have hn0 : 0 < m / 2 ^ two m d := by
    refine Nat.pos_of_ne_zero fun h0 => ?_
    rw [h0] at hdv
    omega
  have hsplit : 2 ^ d = 2 ^ (d - two m d) * 2 ^ two m d := by
    rw [← Nat.pow_add]
    congr 1
    omega
  have hbig : m < 2048 * 2 ^ d := by
    have : 2 ^ 13 ≤ 2 ^ d := Nat.pow_le_pow_right (by omega) hd1
    omega
  refine ⟨m / 2 ^ two m d, d - two m d, m, d, ?_, ?_, hr, ?_, hn0, ?_, by omega, ?_, ?_⟩
  · have hnan : isNaN .f32 a = false := by
      show (FloatKind.f32.format.read a).isNaN = false
      rw [hr]
      rfl
    have hbits : IntKind.wrap .i64 (a : Int) = (a : Int) := wrap64_nat (Nat.lt_trans ha' (by decide))
    have hnum : IntKind.wrap .i64 (Int.tmod (a : Int) 8388608 + 8388608) = (m : Int) := by
      have : Int.tmod (a : Int) 8388608 = ((a % 8388608 : Nat) : Int) := (Int.ofNat_tmod a 8388608).symm
      rw [this, ← hm]
      exact (wrap64 (by omega) (by omega)).trans (by omega)
    have hexp : IntKind.wrap .i64 (Int.tdiv (a : Int) 8388608) = ((150 - d : Nat) : Int) := by
      have : Int.tdiv (a : Int) 8388608 = ((a / 8388608 : Nat) : Int) := (Int.ofNat_tdiv a 8388608).symm
      rw [this, hq]
      exact wrap64_nat (Nat.lt_of_le_of_lt (Nat.sub_le _ _) (by decide))
    have hden := fun x y z => den_r x y z (150 - d) d (by omega) (by omega)
    have hcom := common_t m (2 ^ d) (Nat.lt_of_le_of_lt (Nat.pow_le_pow_right (by omega) hd2 : 2 ^ d ≤ 2 ^ 33) (by decide))
    rw [two_gcd] at hcom
    have hz : (((2 ^ two m d : Nat) : Int) == 0) = false := by
      rw [beq_eq_false_iff_ne]
      omega
    have hp33 : 2 ^ (d - two m d) ≤ 2 ^ 33 := Nat.pow_le_pow_right (by omega) (by omega)
    have q1 : IntKind.wrap .i64 (Int.tdiv (m : Int) ((2 ^ two m d : Nat) : Int)) = ((m / 2 ^ two m d : Nat) : Int) := by
      have : Int.tdiv (m : Int) ((2 ^ two m d : Nat) : Int) = ((m / 2 ^ two m d : Nat) : Int) := (Int.ofNat_tdiv m (2 ^ two m d)).symm
      rw [this]
      exact wrap64_nat (Nat.lt_of_le_of_lt (Nat.div_le_self _ _) (Nat.lt_trans hm2 (by decide)))
    have q2 : IntKind.wrap .i64 (Int.tdiv ((2 ^ d : Nat) : Int) ((2 ^ two m d : Nat) : Int)) = ((2 ^ (d - two m d) : Nat) : Int) := by
      have : Int.tdiv ((2 ^ d : Nat) : Int) ((2 ^ two m d : Nat) : Int) = ((2 ^ d / 2 ^ two m d : Nat) : Int) := (Int.ofNat_tdiv (2 ^ d) (2 ^ two m d)).symm
      rw [this, hsplit, Nat.mul_div_cancel _ hpos]
      exact wrap64_nat (Nat.lt_of_le_of_lt hp33 (by decide))
    simp only [spec_l05Exact.t, T.get, hnan, hbits, hnum, hexp, hden, Option.isSome_some, Option.getD_some, show spec_l01Common.ok (m : Int) ((2 ^ d : Nat) : Int) = true from T.ok_of_get (hcom), show spec_l01Common (m : Int) ((2 ^ d : Nat) : Int) = ((2 ^ two m d : Nat) : Int) from T.val_of_get (hcom), hz, q1, q2, cond_true, cond_false]
  · have hf := fcv_wide hr (by omega) h53 (by omega) (by omega)
    have hx := exact_r m (by omega) h53 d 0 manyRounds (by omega) (many_lt (by omega))
    rw [Nat.zero_add] at hx
    have hi := near64_int (m := m) (d := two m d) (by omega) h53 (by omega)
    have hok : ftoiOk .f64 .i64 (FloatKind.f64.format.nearest false m (-(two m d : Int))) = true := by
      unfold ftoiOk
      rw [hi]
      rfl
    have hft : ftoi .f64 .i64 (FloatKind.f64.format.nearest false m (-(two m d : Int))) = ((m / 2 ^ two m d : Nat) : Int) := by
      unfold ftoi
      rw [hi]
      rfl
    have hx' : impl_exact.l2.r (0, 0) (FloatKind.f64.format.nearest false m (-(d : Int)), 1) = some (FloatKind.f64.format.nearest false m (-(two m d : Int)), ((2 ^ (d - two m d) : Nat) : Int)) := hx
    simp only [impl_exact.t, T.get, open_wide, hf, hx', Option.isSome_some, Option.getD_some, hok, hft, cond_true, cond_false]
  · have e : m / 2 ^ two m d * (2 ^ (d - two m d) * 2 ^ two m d) = m / 2 ^ two m d * 2 ^ two m d * 2 ^ (d - two m d) := by
      rw [Nat.mul_comm (2 ^ (d - two m d)), ← Nat.mul_assoc]
    rw [hsplit, e, ← hdv]
  · exact Nat.lt_of_le_of_lt (Nat.div_le_self _ _) hm2
  · rw [hsplit] at hbig
    have : m / 2 ^ two m d * 2 ^ two m d < 2048 * 2 ^ (d - two m d) * 2 ^ two m d := by
      rw [← hdv, Nat.mul_assoc]
      exact hbig
    exact Nat.lt_of_mul_lt_mul_right this
  · have := two_gcd m d
    have h3 : Nat.gcd (m / 2 ^ two m d * 2 ^ two m d) (2 ^ (d - two m d) * 2 ^ two m d) = 2 ^ two m d := by
      rw [← hdv, ← hsplit]
      exact this
    rw [Nat.gcd_mul_right] at h3
    exact Nat.eq_of_mul_eq_mul_right hpos (by rw [h3, Nat.one_mul])

theorem within_eq (x y z : Int) : impl_within x y z = spec_l00In x y z := by
  simp only [impl_within, impl_within.t, spec_l00In, spec_l00In.t, T.val, ge_iff_le]

theorem most_eq (x0 : Nat) (x1 : Int) : spec_l05Most x0 x1 = bif spec_l05Target x0 && spec_l00In x1 1 1000000 then 0 else 2 := by
  simp only [spec_l05Most, spec_l05Most.t, T.val]
  cases spec_l05Target x0 <;> cases spec_l00In x1 1 1000000 <;> rfl

theorem conv_r (n q : Nat) (m : Int) (hn : n < 4611686018427387904) (hq : q < 4611686018427387904) :
    ∃ l out, spec_l05Convergents.l7.r m ((n : Int), (q : Int), 0, 0, 1, 1, 0, []) = some (l, out) ∧ impl_ConvergentsOf.l5.r m (0, [], (n : Int), (q : Int), 0, 1, 1, 0) = some (l, out) ∧ List.length out = l * 2 ∧ l ≤ 40 := by
  obtain ⟨e, e', h1, h2, h3, h4, h5⟩ := iter_two (step := spec_l05Convergents.l7.st m) (step' := impl_ConvergentsOf.l5.st m)
    (R := fun s t => ∃ (a b : Nat) (l : Nat) (x y z w : Int) (out : List Int), s = ((a : Int), (b : Int), l, x, y, z, w, out) ∧ t = (l, out, (a : Int), (b : Int), x, y, z, w) ∧ a < 4611686018427387904 ∧ b < 4611686018427387904 ∧ l ≤ 40 ∧ out.length = l * 2) (E := fun e e' => e = e' ∧ e.2.length = e.1 * 2 ∧ e.1 ≤ 40) (fun s => 40 - s.2.2.1) (by
    rintro _ _ ⟨a, b, l, x, y, z, w, out, rfl, rfl, ha, hb, hl, ho⟩
    simp only [spec_l05Convergents.l7.st, spec_l05Convergents.l7.s, impl_ConvergentsOf.l5.st, impl_ConvergentsOf.l5.s, T.get]
    by_cases hb0 : b = 0
    · subst hb0
      exact .inr ⟨_, _, rfl, rfl, rfl, ho, hl⟩
    · have hbne : ((b : Int) != 0) = true := by simp; omega
      have hbeq : ((b : Int) == 0) = false := by simp; omega
      rw [decide_eq_true (by omega : (b : Int) > 0), hbne, hbeq]
      simp only [cond_true, cond_false]
      by_cases hlt : l < 40
      · rw [decide_eq_true (by omega : (l : Int) < 40)]
        have e1 : IntKind.wrap .i64 (Int.tdiv (a : Int) (b : Int)) = ((a / b : Nat) : Int) := by
          rw [← Int.ofNat_tdiv]
          exact wrap64_nat (Nat.lt_of_le_of_lt (Nat.div_le_self _ _) (by omega))
        have hdm := Nat.div_add_mod a b
        have hmod := Nat.mod_lt a (Nat.pos_of_ne_zero hb0)
        have hab : a / b * b ≤ a := Nat.div_mul_le_self a b
        have e2 : IntKind.wrap .i64 (((a / b : Nat) : Int) * (b : Int)) = ((a / b * b : Nat) : Int) := by
          rw [← Int.natCast_mul]
          exact wrap64_nat (by omega)
        have e3 : IntKind.wrap .i64 ((a : Int) - ((a / b * b : Nat) : Int)) = ((a % b : Nat) : Int) := by
          refine wrap64_of ?_ (by omega)
          rw [Nat.mul_comm] at hab ⊢
          omega
        rw [e1, e2, e3]
        generalize IntKind.wrap .i64 (IntKind.wrap .i64 (((a / b : Nat) : Int) * z) + x) = u
        generalize IntKind.wrap .i64 (IntKind.wrap .i64 (((a / b : Nat) : Int) * w) + y) = v
        simp only [cond_true]
        cases decide (v > m) with
        | true => exact .inr ⟨_, _, rfl, rfl, rfl, ho, hl⟩
        | false =>
          have hc : (Nat.ble 2 (List.length [u, v]) && (Nat.beq out.length (l * 2) && Nat.ble ((l + 1) * 16) 35184372088832 && Nat.ble (l + 1) 35184372088832)) = true := by
            rw [ho, Nat.beq_refl, ble_decide, ble_decide, ble_decide, decide_eq_true (by simp : 2 ≤ List.length [u, v]), decide_eq_true (by omega : (l + 1) * 16 ≤ 35184372088832), decide_eq_true (by omega : l + 1 ≤ 35184372088832)]
            rfl
          rw [hc]
          refine .inl ⟨_, _, rfl, rfl, ⟨b, a % b, l + 1, z, w, u, v, out ++ [u, v], rfl, rfl, hb, by omega, by omega, by simp [ho]; omega⟩, by dsimp only; omega⟩
      · rw [decide_eq_false (by omega : ¬ (l : Int) < 40)]
        exact .inr ⟨_, _, rfl, rfl, rfl, ho, hl⟩) manyRounds ((n : Int), (q : Int), 0, 0, 1, 1, 0, []) (0, [], (n : Int), (q : Int), 0, 1, 1, 0) ⟨n, q, 0, 0, 1, 1, 0, [], rfl, rfl, hn, hq, by omega, rfl⟩ (many_lt (by dsimp only; omega))
  subst h3
  exact ⟨e.1, e.2, h1, h2, h4, h5⟩
theorem conv_t (x0 : Nat) (x1 : Int) (hx : flHas .f32 x0) :
    (∃ c, (spec_ConvergentsOf.t x0 x1).get = some (0, c, []) ∧ (impl_ConvergentsOf.t x0 x1).get = some (.inl c)) ∨ (∃ n out, List.length out = n * 2 ∧ n ≤ 40 ∧ (spec_ConvergentsOf.t x0 x1).get = some (n, 0, out) ∧ (impl_ConvergentsOf.t x0 x1).get = some (.inr (n, 0, out))) := by
  simp only [spec_ConvergentsOf.t, impl_ConvergentsOf.t, T.get, target_eq, within_eq, most_eq]
  cases ht : spec_l05Target x0 with
  | false => exact .inl ⟨_, rfl, rfl⟩
  | true =>
    cases hi : spec_l00In x1 1 1000000 with
    | false => exact .inl ⟨_, rfl, rfl⟩
    | true =>
      obtain ⟨n, j, m, d, h1, h2, _, _, hn0, hn, hj, hnj, _⟩ := exact_ex hx ht
      have hp2 : 2 ^ j < 4611686018427387904 := Nat.lt_of_le_of_lt (Nat.pow_le_pow_right (by omega) hj) (by decide)
      obtain ⟨l, out, h3, h4, h5, h6⟩ := conv_r n (2 ^ j) x1 (by omega) hp2
      have h7 : (spec_l05Convergents.t x0 x1).get = some (l, out) := by
        simp only [spec_l05Convergents.t, T.get, show spec_l05Exact.ok x0 = true from T.ok_of_get (h1), show spec_l05Exact x0 = _ from T.val_of_get (h1), h3]
        rfl
      simp only [show spec_l05Convergents.ok x0 x1 = true from T.ok_of_get (h7), show spec_l05Convergents x0 x1 = _ from T.val_of_get (h7), show impl_exact.ok x0 = true from T.ok_of_get (h2), show impl_exact x0 = _ from T.val_of_get (h2), h4]
      exact .inr ⟨l, out, h5, h6, rfl, rfl⟩

theorem wrap_swap (u v : Int) : IntKind.wrap .i64 (0 - IntKind.wrap .i64 (u - v)) = IntKind.wrap .i64 (v - u) := by
  simp only [IntKind.wrap_i64]
  omega
theorem apart_eq (n q a d : Int) : (if IntKind.wrap .i64 (IntKind.wrap .i64 (a * q) - IntKind.wrap .i64 (n * d)) > IntKind.wrap .i64 (IntKind.wrap .i64 (n * d) - IntKind.wrap .i64 (a * q)) then IntKind.wrap .i64 (IntKind.wrap .i64 (a * q) - IntKind.wrap .i64 (n * d)) else IntKind.wrap .i64 (IntKind.wrap .i64 (n * d) - IntKind.wrap .i64 (a * q))) = spec_l05Apart n q a d := by
  simp only [spec_l05Apart, spec_l05Apart.t, spec_l00Max, spec_l00Max.t, T.val, wrap_swap]
  generalize IntKind.wrap .i64 (IntKind.wrap .i64 (n * d) - IntKind.wrap .i64 (a * q)) = x
  generalize IntKind.wrap .i64 (IntKind.wrap .i64 (a * q) - IntKind.wrap .i64 (n * d)) = y
  by_cases h1 : y > x <;> by_cases h2 : x > y
  · omega
  · rw [if_pos h1, decide_eq_false h2]
    rfl
  · rw [if_neg h1, decide_eq_true h2]
    rfl
  · rw [if_neg h1, decide_eq_false h2]
    show x = y
    omega

/-- The nearer one of a fraction and a/d. -/
noncomputable def nearer (n q a d : Int) (b : Int × Int) : Int × Int := bif decide (IntKind.wrap .i64 (spec_l05Apart n q a d * b.2) < IntKind.wrap .i64 (spec_l05Apart n q b.1 b.2 * d)) then (a, d) else b
theorem nearer_ne (n q a d : Int) (b : Int × Int) (hd : d ≠ 0) (hb : b.2 ≠ 0) : (nearer n q a d b).2 ≠ 0 := by
  unfold nearer
  cases decide (IntKind.wrap .i64 (spec_l05Apart n q a d * b.2) < IntKind.wrap .i64 (spec_l05Apart n q b.1 b.2 * d))
  · exact hb
  · exact hd
theorem nearer_self (n q a d : Int) : nearer n q a d (a, d) = (a, d) := by
  unfold nearer
  cases decide (IntKind.wrap .i64 (spec_l05Apart n q a d * (a, d).2) < IntKind.wrap .i64 (spec_l05Apart n q (a, d).1 (a, d).2 * d)) <;> rfl
theorem inner_s (m x y n q : Int) (d : Int) (L : Nat) (b : Int × Int) (hL : L < 1099511627776) : spec_NearestFraction.l13.r (m, d, (L : Int), x, y, n, q) (0, b) = some (nearer n q ((L + 1 : Nat) : Int) d (nearer n q (L : Int) d b)) := by
  have hf := iter_run (step := spec_NearestFraction.l13.st (m, d, (L : Int), x, y, n, q)) (f := fun i => ((i : Int), match i with | 0 => b | 1 => nearer n q (L : Int) d b | _ => nearer n q ((L + 1 : Nat) : Int) d (nearer n q (L : Int) d b))) (e := nearer n q ((L + 1 : Nat) : Int) d (nearer n q (L : Int) d b)) (n := 2) (N := manyRounds) (k := 0) (many_lt (by omega)) (fun i hi => ?_) ?_
  · exact hf
  · rcases (by omega : i = 0 ∨ i = 1) with rfl | rfl
    · simp only [Nat.zero_add, spec_NearestFraction.l13.st, spec_NearestFraction.l13.s, T.get]
      rw [decide_eq_true (by omega : ((0 : Nat) : Int) < 2)]
      have e1 : IntKind.wrap .i64 ((L : Int) + ((0 : Nat) : Int)) = (L : Int) := by
        rw [wrap64 (by omega) (by omega)]
        omega
      have e2 : IntKind.wrap .i64 (((0 : Nat) : Int) + 1) = ((1 : Nat) : Int) := wrap64_succ (by omega)
      rw [e1, e2]
      simp only [cond_true, nearer]
      cases decide (IntKind.wrap .i64 (spec_l05Apart n q (L : Int) d * b.2) < IntKind.wrap .i64 (spec_l05Apart n q b.1 b.2 * d)) <;> rfl
    · simp only [Nat.zero_add, spec_NearestFraction.l13.st, spec_NearestFraction.l13.s, T.get]
      rw [decide_eq_true (by omega : ((1 : Nat) : Int) < 2)]
      have e1 : IntKind.wrap .i64 ((L : Int) + ((1 : Nat) : Int)) = ((L + 1 : Nat) : Int) := by
        rw [wrap64 (by omega) (by omega)]
        omega
      have e2 : IntKind.wrap .i64 (((1 : Nat) : Int) + 1) = ((2 : Nat) : Int) := wrap64_succ (by omega)
      rw [e1, e2]
      generalize nearer n q (L : Int) d b = b1
      simp only [cond_true, nearer]
      cases decide (IntKind.wrap .i64 (spec_l05Apart n q ((L + 1 : Nat) : Int) d * b1.2) < IntKind.wrap .i64 (spec_l05Apart n q b1.1 b1.2 * d)) <;> rfl
  · simp only [Nat.zero_add, spec_NearestFraction.l13.st, spec_NearestFraction.l13.s, T.get]
    rw [decide_eq_false (by omega : ¬ ((2 : Nat) : Int) < 2)]
    rfl
/-- One round of the program's inner loop. -/
theorem inner_step (m x y n q : Int) (d : Int) (L i : Nat) (b : Int × Int) (hL : L + 2 < 1099511627776) (hi : i ≤ 1) (hb : b.2 ≠ 0) :
    (impl_NearestFraction.l12.st (m, d, (L : Int), x, y, n, q) (spec_l05Apart n q b.1 b.2, ((L + i : Nat) : Int), b)).get = some (.inl (spec_l05Apart n q (nearer n q ((L + i : Nat) : Int) d b).1 (nearer n q ((L + i : Nat) : Int) d b).2, ((L + i + 1 : Nat) : Int), nearer n q ((L + i : Nat) : Int) d b)) := by
  have e1 : IntKind.wrap .i64 ((L : Int) + 1) = ((L + 1 : Nat) : Int) := wrap64_succ (by omega)
  have e2 : IntKind.wrap .i64 (((L + i : Nat) : Int) + 1) = ((L + i + 1 : Nat) : Int) := wrap64_succ (by omega)
  simp only [impl_NearestFraction.l12.st, impl_NearestFraction.l12.s, T.get, apart_eq]
  rw [e1, e2, decide_eq_true (by omega : ((L + i : Nat) : Int) ≤ ((L + 1 : Nat) : Int)), beq_eq_false_iff_ne.2 hb]
  simp only [cond_true, cond_false, nearer]
  cases decide (IntKind.wrap .i64 (spec_l05Apart n q ((L + i : Nat) : Int) d * b.2) < IntKind.wrap .i64 (spec_l05Apart n q b.1 b.2 * d)) <;> rfl
theorem inner_first (m x y n q : Int) (d : Int) (L : Nat) (o : Int) (a : Int) (hL : L + 2 < 1099511627776) :
    (impl_NearestFraction.l12.st (m, d, (L : Int), x, y, n, q) (o, (L : Int), a, 0)).get = some (.inl (spec_l05Apart n q (L : Int) d, ((L + 1 : Nat) : Int), (L : Int), d)) := by
  have e1 : IntKind.wrap .i64 ((L : Int) + 1) = ((L + 1 : Nat) : Int) := wrap64_succ (by omega)
  simp only [impl_NearestFraction.l12.st, impl_NearestFraction.l12.s, T.get, apart_eq]
  rw [e1, decide_eq_true (by omega : (L : Int) ≤ ((L + 1 : Nat) : Int))]
  rfl
theorem inner_last (m x y n q : Int) (d : Int) (L : Nat) (b : Int × Int) (o : Int) (hL : L + 2 < 1099511627776) :
    (impl_NearestFraction.l12.st (m, d, (L : Int), x, y, n, q) (o, ((L + 2 : Nat) : Int), b)).get = some (.inr (o, b)) := by
  have e1 : IntKind.wrap .i64 ((L : Int) + 1) = ((L + 1 : Nat) : Int) := wrap64_succ (by omega)
  simp only [impl_NearestFraction.l12.st, impl_NearestFraction.l12.s, T.get]
  rw [e1, decide_eq_false (by omega : ¬ ((L + 2 : Nat) : Int) ≤ ((L + 1 : Nat) : Int))]
  rfl
theorem inner_i (m x y n q : Int) (d : Int) (L : Nat) (b : Int × Int) (o : Int × Int × Int) (hL : L + 2 < 1099511627776) (hd : d ≠ 0)
    (hR : (b.2 ≠ 0 ∧ o = (spec_l05Apart n q b.1 b.2, b)) ∨ (b = ((L : Int), d) ∧ o.2.2 = 0)) :
    impl_NearestFraction.l12.r (m, d, (L : Int), x, y, n, q) (o.1, (L : Int), o.2) = some (spec_l05Apart n q (nearer n q ((L + 1 : Nat) : Int) d (nearer n q (L : Int) d b)).1 (nearer n q ((L + 1 : Nat) : Int) d (nearer n q (L : Int) d b)).2, nearer n q ((L + 1 : Nat) : Int) d (nearer n q (L : Int) d b)) := by
  have hb1 : (nearer n q (L : Int) d b).2 ≠ 0 := by
    rcases hR with ⟨h, _⟩ | ⟨h, _⟩
    · exact nearer_ne _ _ _ _ _ hd h
    · rw [h, nearer_self]
      exact hd
  have hfirst : (impl_NearestFraction.l12.st (m, d, (L : Int), x, y, n, q) (o.1, (L : Int), o.2)).get = some (.inl (spec_l05Apart n q (nearer n q (L : Int) d b).1 (nearer n q (L : Int) d b).2, ((L + 1 : Nat) : Int), nearer n q (L : Int) d b)) := by
    rcases hR with ⟨h, rfl⟩ | ⟨rfl, h⟩
    · exact inner_step m x y n q d L 0 b hL (by omega) h
    · obtain ⟨o1, o2, o3⟩ := o
      dsimp only at h
      subst h
      rw [nearer_self]
      exact inner_first m x y n q d L o1 o2 hL
  have hf := iter_run (step := impl_NearestFraction.l12.st (m, d, (L : Int), x, y, n, q)) (f := fun i => match i with
    | 0 => (o.1, (L : Int), o.2)
    | 1 => (spec_l05Apart n q (nearer n q (L : Int) d b).1 (nearer n q (L : Int) d b).2, ((L + 1 : Nat) : Int), nearer n q (L : Int) d b)
    | _ => (spec_l05Apart n q (nearer n q ((L + 1 : Nat) : Int) d (nearer n q (L : Int) d b)).1 (nearer n q ((L + 1 : Nat) : Int) d (nearer n q (L : Int) d b)).2, ((L + 2 : Nat) : Int), nearer n q ((L + 1 : Nat) : Int) d (nearer n q (L : Int) d b)))
    (e := (spec_l05Apart n q (nearer n q ((L + 1 : Nat) : Int) d (nearer n q (L : Int) d b)).1 (nearer n q ((L + 1 : Nat) : Int) d (nearer n q (L : Int) d b)).2, nearer n q ((L + 1 : Nat) : Int) d (nearer n q (L : Int) d b))) (n := 2) (N := manyRounds) (k := 0) (many_lt (by omega)) (fun i hi => ?_) ?_
  · exact hf
  · rcases (by omega : i = 0 ∨ i = 1) with rfl | rfl
    · exact hfirst
    · exact inner_step m x y n q d L 1 _ hL (by omega) hb1
  · exact inner_last m x y n q d L _ _ hL
theorem outer_r (n q : Nat) (m : Int) (hm1 : 1 ≤ m) (hm : m ≤ 1000) (hn : n < 16777216) (hq : 0 < q) (hq2 : q < 9223372036854775808) :
    ∃ e, spec_NearestFraction.l9.r (m, 0, 0, (n : Int), (q : Int)) (1, ((n / q : Nat) : Int), 1) = some e ∧ impl_NearestFraction.l8.r (m, 0, 0, (n : Int), (q : Int)) (0, 1, 0, 0) = some e := by
  obtain ⟨e, e', h1, h2, rfl⟩ := iter_two (step := spec_NearestFraction.l9.st (m, 0, 0, (n : Int), (q : Int))) (step' := impl_NearestFraction.l8.st (m, 0, 0, (n : Int), (q : Int)))
    (R := fun s t => ∃ d : Nat, 1 ≤ d ∧ d ≤ 1001 ∧ s.1 = (d : Int) ∧ t.2.1 = (d : Int) ∧ ((s.2.2 ≠ 0 ∧ (t.1, t.2.2) = (spec_l05Apart n q s.2.1 s.2.2, s.2)) ∨ (d = 1 ∧ s.2 = (((n / q : Nat) : Int), 1) ∧ t.2.2.2 = 0))) (E := fun e e' => e = e') (fun s => 1001 - s.1.toNat) (by
    rintro ⟨c, b⟩ ⟨o, c', r⟩ ⟨d, hd1, hd2, hc, hc', hR⟩
    dsimp only at hc hc' hR
    subst hc
    subst hc'
    have hnd : n * d ≤ 16777216 * 1001 := Nat.mul_le_mul (by omega) hd2
    have hL : n * d / q ≤ n * d := Nat.div_le_self _ _
    have hw : IntKind.wrap .i64 ((n : Int) * (d : Int)) = ((n * d : Nat) : Int) := by
      rw [← Int.natCast_mul]
      exact wrap64_nat (by omega)
    have ht : IntKind.wrap .i64 (Int.tdiv ((n * d : Nat) : Int) (q : Int)) = ((n * d / q : Nat) : Int) := by
      rw [← Int.ofNat_tdiv]
      exact wrap64_nat (by omega)
    have hz : ((q : Int) == 0) = false := by
      rw [beq_eq_false_iff_ne]
      omega
    have hs := inner_s m 0 0 (n : Int) (q : Int) (d : Int) (n * d / q) b (by omega)
    have hi := inner_i m 0 0 (n : Int) (q : Int) (d : Int) (n * d / q) b (o, r) (by omega) (by omega) (by
      rcases hR with h | ⟨rfl, h3, h4⟩
      · exact .inl ⟨h.1, h.2⟩
      · refine .inr ⟨?_, h4⟩
        rw [h3, Nat.mul_one]
        rfl)
    have hne : (nearer (n : Int) (q : Int) ((n * d / q + 1 : Nat) : Int) (d : Int) (nearer (n : Int) (q : Int) ((n * d / q : Nat) : Int) (d : Int) b)).2 ≠ 0 := by
      refine nearer_ne _ _ _ _ _ (by omega) ?_
      rcases hR with h | ⟨rfl, h3, h4⟩
      · exact nearer_ne _ _ _ _ _ (by omega) h.1
      · rw [h3, Nat.mul_one]
        have := nearer_self (n : Int) (q : Int) ((n / q : Nat) : Int) ((1 : Nat) : Int)
        rw [show ((((n / q : Nat) : Int), (1 : Int)) : Int × Int) = (((n / q : Nat) : Int), ((1 : Nat) : Int)) from rfl, this]
        simp
    generalize nearer (n : Int) (q : Int) ((n * d / q + 1 : Nat) : Int) (d : Int) (nearer (n : Int) (q : Int) ((n * d / q : Nat) : Int) (d : Int) b) = b' at hs hi hne
    simp only [spec_NearestFraction.l9.st, spec_NearestFraction.l9.s, impl_NearestFraction.l8.st, impl_NearestFraction.l8.s, T.get, hw, ht, hz]
    by_cases hlt : (d : Int) ≤ m
    · rw [decide_eq_true hlt, wrap64_succ (by omega)]
      dsimp only at hi
      rw [hs, hi]
      refine .inl ⟨_, _, rfl, rfl, ⟨d + 1, by omega, by omega, rfl, rfl, .inl ⟨hne, rfl⟩⟩, by dsimp only; omega⟩
    · rw [decide_eq_false hlt]
      refine .inr ⟨_, _, rfl, rfl, ?_⟩
      rcases hR with ⟨_, h⟩ | ⟨h3, h4, h5⟩
      · injection h with _ h
        exact h.symm
      · omega) manyRounds (1, ((n / q : Nat) : Int), 1) (0, 1, 0, 0) ⟨1, by omega, by omega, rfl, rfl, .inr ⟨rfl, rfl, rfl⟩⟩ (many_lt (by simp))
  exact ⟨e, h1, h2⟩

theorem among_t {n : Nat} {xs : List Int} (hs : srcOk n xs) (l : List Int) (hl : 0 < l.length) (pos : Nat) (h : Int) (hp : pos < 4611686018427387000) : ∃ (j pos' : Nat) (h' : Int), (spec_l00Src_among.t l.length n (pos : Int) h l xs).get = some (l.getD j 0, n, (pos' : Int), h') ∧ j < l.length ∧ pos' ≤ pos + 2 := by
  obtain ⟨v, p', h', q, g, l1⟩ := pick_t hs l.length pos h hp
  have hv : v < l.length := by omega
  refine ⟨v, p', h', ?_, hv, l1⟩
  simp only [spec_l00Src_among.t, T.get, show spec_l00Src_pick.ok ((l.length : Nat) : Int) n (pos : Int) h xs = true from T.ok_of_get (q), show spec_l00Src_pick ((l.length : Nat) : Int) n (pos : Int) h xs = _ from T.val_of_get (q), bounds_nat, ble_decide, Int.toNat_natCast, Nat.mul_one]
  rw [decide_eq_true hv, decide_eq_true (by omega : v + 1 ≤ l.length)]
  rfl
theorem has_lit {x : Nat} (h : decide (x < 4294967296) = true) : flHas .f32 x := by
  have := of_decide_eq_true h
  show x < 4294967296
  exact this
/-! The drawn target: always one that may be. -/
theorem few_t {n : Nat} {xs : List Int} (hs : srcOk n xs) (pos : Nat) (h : Int) (hp : pos < 4611686018427386000) : ∃ (r pos' : Nat) (h' : Int), (spec_l01Few.t n (pos : Int) h xs).get = some (r, n, (pos' : Int), h') ∧ flHas .f32 r := by
  obtain ⟨v, p1, h1, q1, g1, l1⟩ := pick_t hs 65 pos h (by omega)
  refine ⟨_, p1, h1, ?_, fdiv_has .f32 (fofint .f32 (IntKind.wrap .i64 ((v : Int) - 32))) 1082130432⟩
  simp only [spec_l01Few.t, T.get, show spec_l00Src_pick.ok (65 : Int) n (pos : Int) h xs = true from T.ok_of_get (q1), show spec_l00Src_pick (65 : Int) n (pos : Int) h xs = _ from T.val_of_get (q1)]
  rfl
theorem u32_has (k : Int) : flHas .f32 (nz .f32 (Int.toNat (IntKind.wrap .u32 k))) := by
  refine nz_has ?_
  have : IntKind.wrap .u32 k = k % 4294967296 := rfl
  show Int.toNat (IntKind.wrap .u32 k) < 4294967296
  omega
theorem any_t {n : Nat} {xs : List Int} (hs : srcOk n xs) (pos : Nat) (h : Int) (hp : pos < 4611686018427380000) : ∃ (r pos' : Nat) (h' : Int), (spec_l01Any.t n (pos : Int) h xs).get = some (r, n, (pos' : Int), h') ∧ flHas .f32 r := by
  obtain ⟨v, p1, h1, q1, g1, l1⟩ := pick_t hs 14 pos h (by omega)
  have e0 : fcvOpen .f64 .f32 math_NaN = false := by kernel_rfl
  have e1 : fcvOpen .f64 .f32 (math_Inf 1) = false := by kernel_rfl
  have e2 : fcvOpen .f64 .f32 (math_Inf (-1)) = false := by kernel_rfl
  obtain ⟨v2, p2, h2, q2, _, l2⟩ := pick_t hs 16777220 p1 h1 (by omega)
  obtain ⟨v3, p3, h3, q3, _, l3⟩ := pick_t hs 1073741824 p1 h1 (by omega)
  obtain ⟨v4, p4, h4, q4, _, l4⟩ := pick_t hs 4 p3 h3 (by omega)
  obtain ⟨v5, p5, h5, q5, _, l5⟩ := pick_t hs 2000000 p1 h1 (by omega)
  obtain ⟨j, p6, h6, q6, j6, l6⟩ := among_t hs [1048576, 1048577, -1048576] (by decide) p1 h1 (by omega)
  obtain ⟨r7, p7, h7, q7, f7⟩ := few_t hs p1 h1 (by omega)
  have q6' : (spec_l00Src_among.t 3 n (p1 : Int) h1 [1048576, 1048577, -1048576] xs).get = some (List.getD [1048576, 1048577, -1048576] j 0, n, (p6 : Int), h6) := q6
  have hj : flHas .f32 (fofint .f32 (List.getD [1048576, 1048577, -1048576] j 0)) := by
    match j, j6 with
    | 0, _ => exact has_lit (x := fofint .f32 1048576) (by kernel_rfl)
    | 1, _ => exact has_lit (x := fofint .f32 1048577) (by kernel_rfl)
    | 2, _ => exact has_lit (x := fofint .f32 (-1048576)) (by kernel_rfl)
  have n0 : flHas .f32 (fcv .f64 .f32 math_NaN) := has_lit (x := fcv .f64 .f32 math_NaN) (by kernel_rfl)
  have n1 : flHas .f32 (fcv .f64 .f32 (math_Inf 1)) := has_lit (x := fcv .f64 .f32 (math_Inf 1)) (by kernel_rfl)
  have n2 : flHas .f32 (fcv .f64 .f32 (math_Inf (-1))) := has_lit (x := fcv .f64 .f32 (math_Inf (-1))) (by kernel_rfl)
  have n3 : flHas .f32 (nz .f32 (Int.toNat 2147483648)) := has_lit (x := nz .f32 (Int.toNat 2147483648)) (by kernel_rfl)
  simp only [spec_l01Any.t, T.get, show spec_l00Src_pick.ok (14 : Int) n (pos : Int) h xs = true from T.ok_of_get (q1), show spec_l00Src_pick (14 : Int) n (pos : Int) h xs = _ from T.val_of_get (q1), e0, e1, e2, cond_true, cond_false, show spec_l00Src_pick.ok (16777220 : Int) n (p1 : Int) h1 xs = true from T.ok_of_get (q2), show spec_l00Src_pick (16777220 : Int) n (p1 : Int) h1 xs = _ from T.val_of_get (q2), show spec_l00Src_pick.ok (1073741824 : Int) n (p1 : Int) h1 xs = true from T.ok_of_get (q3), show spec_l00Src_pick (1073741824 : Int) n (p1 : Int) h1 xs = _ from T.val_of_get (q3), show spec_l00Src_pick.ok (4 : Int) n (p3 : Int) h3 xs = true from T.ok_of_get (q4), show spec_l00Src_pick (4 : Int) n (p3 : Int) h3 xs = _ from T.val_of_get (q4), show spec_l00Src_pick.ok (2000000 : Int) n (p1 : Int) h1 xs = true from T.ok_of_get (q5), show spec_l00Src_pick (2000000 : Int) n (p1 : Int) h1 xs = _ from T.val_of_get (q5), show spec_l00Src_among.ok 3 n (p1 : Int) h1 [1048576, 1048577, -1048576] xs = true from T.ok_of_get (q6'), show spec_l00Src_among 3 n (p1 : Int) h1 [1048576, 1048577, -1048576] xs = _ from T.val_of_get (q6'), show spec_l01Few.ok n (p1 : Int) h1 xs = true from T.ok_of_get (q7), show spec_l01Few n (p1 : Int) h1 xs = _ from T.val_of_get (q7)]
  cases ((v : Int) == 0) with
  | true => exact ⟨_, p1, h1, rfl, n0⟩
  | false =>
    cases ((v : Int) == 1) with
    | true => exact ⟨_, p1, h1, rfl, n1⟩
    | false =>
      cases ((v : Int) == 2) with
      | true => exact ⟨_, p1, h1, rfl, n2⟩
      | false =>
        cases ((v : Int) == 3) with
        | true => exact ⟨_, p1, h1, rfl, n3⟩
        | false =>
          cases ((v : Int) == 4) with
          | true => exact ⟨_, p2, h2, rfl, u32_has _⟩
          | false =>
            cases ((v : Int) == 5) with
            | true => exact ⟨_, p4, h4, rfl, u32_has _⟩
            | false =>
              cases ((v : Int) == 6) with
              | true => exact ⟨_, p5, h5, rfl, fdiv_has .f32 _ _⟩
              | false =>
                cases ((v : Int) == 7) with
                | true => exact ⟨_, p6, h6, rfl, hj⟩
                | false => exact ⟨_, p7, h7, rfl, f7⟩
theorem aim_t {n : Nat} {xs : List Int} (hs : srcOk n xs) : ∃ (r pos' : Nat) (h' : Int), (spec_l05Aim.t n 0 0 xs).get = some (r, n, (pos' : Int), h') ∧ flHas .f32 r := by
  obtain ⟨b, p0, h0, q0, l0⟩ := one_t hs 12 0 0 (by omega)
  obtain ⟨r1, p1, h1, q1, f1⟩ := any_t hs p0 h0 (by omega)
  obtain ⟨v, p2, h2, q2, g2, l2⟩ := pick_t hs 4 p0 h0 (by omega)
  obtain ⟨v3, p3, h3, q3, g3, l3⟩ := pick_t hs 40 p2 h2 (by omega)
  obtain ⟨v4, p4, h4, q4, g4, l4⟩ := pick_t hs 40 p3 h3 (by omega)
  obtain ⟨v5, p5, h5, q5, g5, l5⟩ := pick_t hs 167772161 p2 h2 (by omega)
  obtain ⟨j, p6, h6, q6, j6, l6⟩ := among_t hs [1, 1024, 1025] (by decide) p2 h2 (by omega)
  obtain ⟨v7, p7, h7, q7, g7, l7⟩ := pick_t hs 300 p2 h2 (by omega)
  have q6' : (spec_l00Src_among.t 3 n (p2 : Int) h2 [1, 1024, 1025] xs).get = some (List.getD [1, 1024, 1025] j 0, n, (p6 : Int), h6) := q6
  have hj : flHas .f32 (fofint .f32 (List.getD [1, 1024, 1025] j 0)) := by
    match j, j6 with
    | 0, _ => exact has_lit (x := fofint .f32 1) (by kernel_rfl)
    | 1, _ => exact has_lit (x := fofint .f32 1024) (by kernel_rfl)
    | 2, _ => exact has_lit (x := fofint .f32 1025) (by kernel_rfl)
  simp only [spec_l05Aim.t, T.get, show spec_l00Src_one.ok (12 : Int) n 0 0 xs = true from T.ok_of_get (q0), show spec_l00Src_one (12 : Int) n 0 0 xs = _ from T.val_of_get (q0), show spec_l01Any.ok n (p0 : Int) h0 xs = true from T.ok_of_get (q1), show spec_l01Any n (p0 : Int) h0 xs = _ from T.val_of_get (q1), show spec_l00Src_pick.ok (4 : Int) n (p0 : Int) h0 xs = true from T.ok_of_get (q2), show spec_l00Src_pick (4 : Int) n (p0 : Int) h0 xs = _ from T.val_of_get (q2), show spec_l00Src_pick.ok (40 : Int) n (p2 : Int) h2 xs = true from T.ok_of_get (q3), show spec_l00Src_pick (40 : Int) n (p2 : Int) h2 xs = _ from T.val_of_get (q3), show spec_l00Src_pick.ok (40 : Int) n (p3 : Int) h3 xs = true from T.ok_of_get (q4), show spec_l00Src_pick (40 : Int) n (p3 : Int) h3 xs = _ from T.val_of_get (q4), show spec_l00Src_pick.ok (167772161 : Int) n (p2 : Int) h2 xs = true from T.ok_of_get (q5), show spec_l00Src_pick (167772161 : Int) n (p2 : Int) h2 xs = _ from T.val_of_get (q5), show spec_l00Src_among.ok 3 n (p2 : Int) h2 [1, 1024, 1025] xs = true from T.ok_of_get (q6'), show spec_l00Src_among 3 n (p2 : Int) h2 [1, 1024, 1025] xs = _ from T.val_of_get (q6'), show spec_l00Src_pick.ok (300 : Int) n (p2 : Int) h2 xs = true from T.ok_of_get (q7), show spec_l00Src_pick (300 : Int) n (p2 : Int) h2 xs = _ from T.val_of_get (q7)]
  cases b with
  | true => exact ⟨_, p1, h1, rfl, f1⟩
  | false =>
    cases ((v : Int) == 0) with
    | true => exact ⟨_, p4, h4, rfl, fdiv_has .f32 _ _⟩
    | false =>
      cases ((v : Int) == 1) with
      | true => exact ⟨_, p5, h5, rfl, u32_has _⟩
      | false =>
        cases ((v : Int) == 2) with
        | true => exact ⟨_, p6, h6, rfl, hj⟩
        | false => exact ⟨_, p7, h7, rfl, fdiv_has .f32 _ _⟩
theorem target_t {n : Nat} {xs : List Int} (hs : srcOk n xs) : ∃ a : Nat, (spec_A2Target.t n xs).get = some a ∧ flHas .f32 a ∧ spec_l05Target a = true := by
  obtain ⟨r, p, h, q, f⟩ := aim_t hs
  have e : (spec_l05Aim.t n 0 0 xs).get = some (r, n, (p : Int), h) := q
  simp only [spec_A2Target.t, T.get, spec_l00From, spec_l00From.t, T.val, show spec_l05Aim.ok n 0 0 xs = true from T.ok_of_get (e), show spec_l05Aim n 0 0 xs = _ from T.val_of_get (e)]
  cases ht : spec_l05Target r with
  | true => exact ⟨r, rfl, f, ht⟩
  | false => exact ⟨1061158912, rfl, has_lit (x := (1061158912 : Nat)) (by kernel_rfl), by kernel_rfl⟩
theorem most_t {n : Nat} {ys : List Int} (hs : srcOk n ys) : ∃ v : Nat, (laws_a2At.t n 0 120 ys).get = some (v : Int) ∧ v < 120 := by
  have hg := src_get hs 0
  simp only [laws_a2At.t, T.get]
  by_cases h : n = 0
  · subst h
    exact ⟨0, rfl, by omega⟩
  · have hw : IntKind.wrap .i64 (ys.getD 0 0) = ys.getD 0 0 := wrap64 (by omega) (by omega)
    obtain ⟨u, hu⟩ : ∃ u : Nat, ys.getD 0 0 = (u : Int) := ⟨(ys.getD 0 0).toNat, by omega⟩
    have hb : bounds 0 n = true := by
      rw [show (0 : Int) = ((0 : Nat) : Int) from rfl, bounds_nat, decide_eq_true (by omega)]
    have hl : Nat.ble ((0 + (Int.toNat (0 : Int) * 1)) + 1) (List.length ys) = true := by
      rw [ble_decide, hs.1]
      exact decide_eq_true (by simp; omega)
    refine ⟨u % 120, ?_, by omega⟩
    rw [decide_eq_false (by omega), decide_eq_false (by omega), hb, hl]
    have e0 : (0 + (Int.toNat (0 : Int) * 1)) = 0 := rfl
    rw [e0, hw, hu]
    have e1 : Int.tmod (u : Int) 120 = ((u % 120 : Nat) : Int) := rfl
    rw [e1]
    rfl
/-! The convergents: Euclid's remainders are how far they are off. -/
def far (n q H K : Int) : Nat := (n * K - H * q).natAbs
def CV (n q : Int) (out : List Int) (i : Nat) : Prop := ∃ H K : Nat, out.getD (i * 2) 0 = (H : Int) ∧ out.getD (i * 2 + 1) 0 = (K : Int) ∧ 1 ≤ K ∧ K ≤ 1000 ∧ far n q H K ≤ 17179869184 ∧
  (0 < i → ∃ H' K' : Nat, out.getD ((i - 1) * 2) 0 = (H' : Int) ∧ out.getD ((i - 1) * 2 + 1) 0 = (K' : Int) ∧ K' ≤ K ∧ far n q H K ≤ far n q H' K')
theorem cv_app {n q : Int} {out : List Int} {i : Nat} (u v : Int) (hi : i * 2 + 2 ≤ out.length) (h : CV n q out i) : CV n q (out ++ [u, v]) i := by
  have e : ∀ j, j < out.length → (out ++ [u, v]).getD j 0 = out.getD j 0 := fun j hj => by
    simp [List.getD, List.getElem?_append_left hj]
  obtain ⟨H, K, h1, h2, h3, h4, h5, h6⟩ := h
  refine ⟨H, K, by rw [e _ (by omega)]; exact h1, by rw [e _ (by omega)]; exact h2, h3, h4, h5, fun h0 => ?_⟩
  obtain ⟨H', K', k1, k2, k3, k4⟩ := h6 h0
  exact ⟨H', K', by rw [e _ (by omega)]; exact k1, by rw [e _ (by omega)]; exact k2, k3, k4⟩
theorem next_far {n q a b c z w x y s : Int} (hs : s = 1 ∨ s = -1) (h1 : n * w - z * q = -s * b) (h2 : n * y - x * q = s * a) : n * (c * w + y) - (c * z + x) * q = s * (a - c * b) := by
  have e1 : n * (c * w + y) = c * (n * w) + n * y := by
    rw [Int.mul_add, ← Int.mul_assoc, Int.mul_comm n c, Int.mul_assoc]
  have e2 : (c * z + x) * q = c * (z * q) + x * q := by
    rw [Int.add_mul, Int.mul_assoc]
  have e3 : c * (n * w) - c * (z * q) = c * (-s * b) := by
    rw [← Int.mul_sub, h1]
  rw [e1, e2]
  rcases hs with rfl | rfl
  · have e4 : c * (-1 * b) = -(c * b) := by
      rw [show (-1 : Int) * b = -b by omega, Int.mul_neg]
    omega
  · have e4 : c * (- -1 * b) = c * b := by
      rw [show (- -1 : Int) * b = b by omega]
    omega
/-- The state of the loop: numbers, and what they mean. -/
def CS (n q : Nat) (a b l x y z w : Nat) (out : List Int) : Prop :=
  out.length = l * 2 ∧ l ≤ 40 ∧ (∀ i, i < l → CV n q out i) ∧ a ≤ 8589934592 ∧ b ≤ 8589934592 ∧ w ≤ 1000 ∧ y ≤ 1000 ∧
  (∃ s : Int, (s = 1 ∨ s = -1) ∧ (n : Int) * w - z * q = -s * b ∧ (n : Int) * y - x * q = s * a) ∧
  (l = 0 → w = 0 ∧ y = 1 ∧ 0 < b) ∧ (0 < l → b < a ∧ 1 ≤ w ∧ out.getD ((l - 1) * 2) 0 = (z : Int) ∧ out.getD ((l - 1) * 2 + 1) 0 = (w : Int) ∧ (1 < l ∨ y = 0))
theorem conv_next {n q a b l x y z w : Nat} {out : List Int} (hn : n < 16777216) (hq : 0 < q) (C : CS n q a b l x y z w out) (hb : 0 < b) (hl : l < 40) (hv : a / b * w + y ≤ 1000) :
    a / b * z + x ≤ 34359738368 ∧ CS n q b (a % b) (l + 1) z w (a / b * z + x) (a / b * w + y) (out ++ [((a / b * z + x : Nat) : Int), ((a / b * w + y : Nat) : Int)]) := by
  obtain ⟨c1, c2, c3, c4, c5, c6, c7, ⟨s, hs, g1, g2⟩, c8, c9⟩ := C
  have hdm := Nat.div_add_mod a b
  have hmod := Nat.mod_lt a hb
  generalize hc : a / b = c at hv hdm ⊢
  have hrest : (a : Int) - (c : Int) * (b : Int) = ((a % b : Nat) : Int) := by
    have : ((b * c : Nat) : Int) + ((a % b : Nat) : Int) = (a : Int) := by rw [← Int.natCast_add, hdm]
    rw [Int.natCast_mul, Int.mul_comm] at this
    omega
  have hnx := next_far (c := (c : Int)) hs g1 g2
  rw [hrest] at hnx
  have hu : (((c * z + x : Nat) : Int)) = (c : Int) * (z : Int) + (x : Int) := by rw [Int.natCast_add, Int.natCast_mul]
  have hvv : (((c * w + y : Nat) : Int)) = (c : Int) * (w : Int) + (y : Int) := by rw [Int.natCast_add, Int.natCast_mul]
  rw [← hu, ← hvv] at hnx
  have hfar : far n q ((c * z + x : Nat) : Int) ((c * w + y : Nat) : Int) = a % b := by
    unfold far
    rw [hnx]
    rcases hs with rfl | rfl
    · rw [Int.one_mul]; rfl
    · rw [show (-1 : Int) * ((a % b : Nat) : Int) = -((a % b : Nat) : Int) by omega, Int.natAbs_neg]; rfl
  have hfar0 : far n q (z : Int) (w : Int) = b := by
    unfold far
    rw [g1]
    rcases hs with rfl | rfl
    · rw [show (-1 : Int) * (b : Int) = -(b : Int) by omega, Int.natAbs_neg]; rfl
    · rw [show (- -1 : Int) * (b : Int) = (b : Int) by omega]; rfl
  have hbound : c * z + x ≤ 34359738368 := by
    have h1 : (n : Int) * ((c * w + y : Nat) : Int) = ((n * (c * w + y) : Nat) : Int) := by rw [Int.natCast_mul]
    have h2 : (((c * z + x : Nat) : Int)) * (q : Int) = (((c * z + x) * q : Nat) : Int) := by rw [← Int.natCast_mul]
    have h3 : n * (c * w + y) ≤ 16777216 * 1000 := Nat.mul_le_mul (by omega) hv
    have h4 : c * z + x ≤ (c * z + x) * q := Nat.le_mul_of_pos_right _ hq
    rw [h1, h2] at hnx
    rcases hs with rfl | rfl
    · rw [Int.one_mul] at hnx
      omega
    · rw [show (-1 : Int) * ((a % b : Nat) : Int) = -((a % b : Nat) : Int) by omega] at hnx
      omega
  have hge : 0 < l → w ≤ c * w + y := fun h0 => by
    have h1 := (c9 h0).1
    have hc1 : 1 ≤ c := by
      rw [← hc]
      exact (Nat.le_div_iff_mul_le hb).2 (by omega)
    have : 1 * w ≤ c * w := Nat.mul_le_mul_right _ hc1
    omega
  have hv1 : 1 ≤ c * w + y := by
    rcases Nat.eq_zero_or_pos l with h0 | h0
    · have := c8 h0
      omega
    · have := hge h0
      have := (c9 h0).2.1
      omega
  have eold : ∀ j, j < out.length → (out ++ [((c * z + x : Nat) : Int), ((c * w + y : Nat) : Int)]).getD j 0 = out.getD j 0 := fun j hj => by
    simp [List.getD, List.getElem?_append_left hj]
  have enew0 : (out ++ [((c * z + x : Nat) : Int), ((c * w + y : Nat) : Int)]).getD (l * 2) 0 = ((c * z + x : Nat) : Int) := by
    rw [← c1]; simp [List.getD]
  have enew1 : (out ++ [((c * z + x : Nat) : Int), ((c * w + y : Nat) : Int)]).getD (l * 2 + 1) 0 = ((c * w + y : Nat) : Int) := by
    rw [← c1]; simp [List.getD]
  refine ⟨hbound, by simp [c1]; omega, by omega, fun i hi => ?_, c5, by omega, hv, c6, ⟨-s, by omega, ?_, ?_⟩, fun h => by omega, fun _ => ⟨hmod, hv1, enew0, enew1, ?_⟩⟩
  · by_cases hil : i < l
    · exact cv_app _ _ (by omega) (c3 i hil)
    · have : i = l := by omega
      subst this
      refine ⟨c * z + x, c * w + y, enew0, enew1, hv1, hv, by rw [hfar]; omega, fun h0 => ?_⟩
      obtain ⟨_, _, k1, k2, _⟩ := c9 h0
      exact ⟨z, w, by rw [eold _ (by omega)]; exact k1, by rw [eold _ (by omega)]; exact k2, hge h0, by rw [hfar, hfar0]; omega⟩
  · rw [hnx]
    rw [Int.neg_neg]
  · exact g1
  · rcases Nat.eq_zero_or_pos l with h0 | h0
    · exact .inr (c8 h0).1
    · exact .inl (by omega)
theorem conv_far {n q : Nat} (hn : n < 16777216) (hq : 0 < q) (hq2 : q ≤ 8589934592) : ∃ l out, spec_l05Convergents.l7.r 1000 ((n : Int), (q : Int), 0, 0, 1, 1, 0, []) = some (l, out) ∧ 1 ≤ l ∧ l ≤ 40 ∧ out.length = l * 2 ∧ ∀ i, i < l → CV n q out i := by
  obtain ⟨e, e', h1, h2, h3, h4, h5, h6, h7⟩ := iter_two (step := spec_l05Convergents.l7.st 1000) (step' := spec_l05Convergents.l7.st 1000)
    (R := fun s t => s = t ∧ ∃ (a b l x y z w : Nat) (out : List Int), s = ((a : Int), (b : Int), l, (x : Int), (y : Int), (z : Int), (w : Int), out) ∧ CS n q a b l x y z w out) (E := fun e e' => e = e' ∧ 1 ≤ e.1 ∧ e.1 ≤ 40 ∧ e.2.length = e.1 * 2 ∧ ∀ i, i < e.1 → CV n q e.2 i) (fun s => 40 - s.2.2.1) (by
    rintro _ _ ⟨rfl, a, b, l, x, y, z, w, out, rfl, C⟩
    have C' := C
    obtain ⟨c1, c2, c3, c4, c5, c6, c7, _, c8, c9⟩ := C'
    simp only [spec_l05Convergents.l7.st, spec_l05Convergents.l7.s, T.get]
    by_cases hb0 : b = 0
    · subst hb0
      exact .inr ⟨_, _, rfl, rfl, rfl, by dsimp only; (rcases Nat.eq_zero_or_pos l with h | h; exact absurd (c8 h).2.2 (by omega); exact h), c2, c1, c3⟩
    · have hbeq : ((b : Int) == 0) = false := by simp; omega
      rw [decide_eq_true (by omega : (b : Int) > 0), hbeq]
      simp only [cond_true, cond_false]
      by_cases hlt : l < 40
      · rw [decide_eq_true (by omega : (l : Int) < 40)]
        have e1 : IntKind.wrap .i64 (Int.tdiv (a : Int) (b : Int)) = ((a / b : Nat) : Int) := by
          rw [← Int.ofNat_tdiv]
          exact wrap64_nat (Nat.lt_of_le_of_lt (Nat.div_le_self _ _) (by omega))
        have hab : a / b * b ≤ a := Nat.div_mul_le_self a b
        have hmod := Nat.mod_lt a (Nat.pos_of_ne_zero hb0)
        have hdm := Nat.div_add_mod a b
        have e2 : IntKind.wrap .i64 (((a / b : Nat) : Int) * (b : Int)) = ((a / b * b : Nat) : Int) := by
          rw [← Int.natCast_mul]
          exact wrap64_nat (by omega)
        have e3 : IntKind.wrap .i64 ((a : Int) - ((a / b * b : Nat) : Int)) = ((a % b : Nat) : Int) := by
          refine wrap64_of ?_ (by omega)
          rw [Nat.mul_comm] at hab ⊢
          omega
        have hcw : a / b * w ≤ 8589934592 * 1000 := Nat.mul_le_mul (Nat.le_trans (Nat.div_le_self _ _) c4) c6
        have e4 : IntKind.wrap .i64 (IntKind.wrap .i64 (((a / b : Nat) : Int) * (w : Int)) + (y : Int)) = ((a / b * w + y : Nat) : Int) := by
          rw [← Int.natCast_mul, wrap64_nat (by omega), ← Int.natCast_add]
          exact wrap64_nat (by omega)
        rw [e1, e2, e3, e4]
        by_cases hv : a / b * w + y ≤ 1000
        · obtain ⟨hbound, C2⟩ := conv_next hn hq C (Nat.pos_of_ne_zero hb0) hlt hv
          have hz : a / b * z ≤ a / b * z + x := Nat.le_add_right _ _
          have e5 : IntKind.wrap .i64 (IntKind.wrap .i64 (((a / b : Nat) : Int) * (z : Int)) + (x : Int)) = ((a / b * z + x : Nat) : Int) := by
            rw [← Int.natCast_mul, wrap64_nat (by omega), ← Int.natCast_add]
            exact wrap64_nat (by omega)
          rw [e5, decide_eq_false (by omega : ¬ ((a / b * w + y : Nat) : Int) > 1000)]
          have hc : ∀ u v : Int, (Nat.ble 2 (List.length [u, v]) && (Nat.beq out.length (l * 2) && Nat.ble ((l + 1) * 16) 35184372088832 && Nat.ble (l + 1) 35184372088832)) = true := fun u v => by
            rw [c1, Nat.beq_refl, ble_decide, ble_decide, ble_decide, decide_eq_true (by simp : 2 ≤ List.length [u, v]), decide_eq_true (by omega : (l + 1) * 16 ≤ 35184372088832), decide_eq_true (by omega : l + 1 ≤ 35184372088832)]
            rfl
          rw [hc]
          exact .inl ⟨_, _, rfl, rfl, ⟨rfl, b, a % b, l + 1, z, w, a / b * z + x, a / b * w + y, _, rfl, C2⟩, by dsimp only; omega⟩
        · rw [decide_eq_true (by omega : ((a / b * w + y : Nat) : Int) > 1000)]
          refine .inr ⟨_, _, rfl, rfl, rfl, ?_, c2, c1, c3⟩
          dsimp only
          rcases Nat.eq_zero_or_pos l with h | h
          · have := c8 h
            rw [this.1, this.2.1] at hv
            omega
          · exact h
      · rw [decide_eq_false (by omega : ¬ (l : Int) < 40)]
        exact .inr ⟨_, _, rfl, rfl, rfl, by dsimp only; omega, c2, c1, c3⟩) manyRounds ((n : Int), (q : Int), 0, 0, 1, 1, 0, []) ((n : Int), (q : Int), 0, 0, 1, 1, 0, []) ⟨rfl, n, q, 0, 0, 1, 1, 0, [], rfl, by simp, by omega, fun i hi => by omega, by omega, hq2, by omega, by omega, ⟨1, .inl rfl, by simp, by simp⟩, fun _ => ⟨rfl, rfl, hq⟩, fun h => by omega⟩ (many_lt (by dsimp only; omega))
  exact ⟨e.1, e.2, h1, h4, h5, h6, h7⟩
/-! How far fractions are off, as the law counts it. -/
theorem far_t {n q K : Nat} {H : Int} (hn : n < 16777216) (hK : K ≤ 1000) (hf : far n q H K ≤ 68719476736) : laws_a2Far (n : Int) (q : Int) H (K : Int) = (((far n q H K : Nat) : Int), (K : Int)) := by
  have h1 : n * K ≤ 16777216 * 1000 := Nat.mul_le_mul (by omega) hK
  have h2 : (n : Int) * (K : Int) = ((n * K : Nat) : Int) := by rw [Int.natCast_mul]
  unfold far at hf ⊢
  simp only [laws_a2Far, laws_a2Far.t, T.val]
  rw [h2] at hf ⊢
  generalize H * (q : Int) = B at hf ⊢
  have e1 : IntKind.wrap .i64 ((n * K : Nat) : Int) = ((n * K : Nat) : Int) := wrap64_nat (by omega)
  have e2 : IntKind.wrap .i64 B = B := wrap64 (by omega) (by omega)
  have e3 : IntKind.wrap .i64 (((n * K : Nat) : Int) - B) = ((n * K : Nat) : Int) - B := wrap64 (by omega) (by omega)
  have e4 : IntKind.wrap .i64 (0 - (((n * K : Nat) : Int) - B)) = 0 - (((n * K : Nat) : Int) - B) := wrap64 (by omega) (by omega)
  rw [e1, e2, e3, e4]
  by_cases h : 0 - (((n * K : Nat) : Int) - B) > ((n * K : Nat) : Int) - B
  · rw [if_pos h]
    exact Prod.ext (by dsimp only; omega) rfl
  · rw [if_neg h]
    exact Prod.ext (by dsimp only; omega) rfl
theorem wrap_mul {a b : Nat} (ha : a ≤ 68719476736) (hb : b ≤ 1000) : IntKind.wrap .i64 ((a : Int) * (b : Int)) = ((a * b : Nat) : Int) := by
  rw [← Int.natCast_mul]
  have : a * b ≤ 68719476736 * 1000 := Nat.mul_le_mul ha hb
  exact wrap64_nat (by omega)
theorem convs_ok {n q l : Nat} {out : List Int} (mo : Int) (xs ys : List Int) (mn md : Int) (hn : n < 16777216) (hl : l ≤ 40) (ho : out.length = l * 2) (hc : ∀ i, i < l → CV n q out i) : laws_FnFractions.l14.r (mo, l, xs, ys, (n : Int), (q : Int), out, mn, md) (0 : Int) = some (.inr ()) := by
  refine iter_run (step := laws_FnFractions.l14.st (mo, l, xs, ys, (n : Int), (q : Int), out, mn, md)) (f := fun i => (i : Int)) (n := l) (N := manyRounds) (k := 0) (many_lt (by omega)) (fun i hi => ?_) ?_
  · obtain ⟨H, K, h1, h2, h3, h4, h5, h6⟩ := hc i hi
    simp only [Nat.zero_add, laws_FnFractions.l14.st, laws_FnFractions.l14.s, T.get, T.get_join, bounds_nat, Int.toNat_natCast, ble_decide, ho, h1, h2]
    rw [decide_eq_true (by omega : (i : Int) < (l : Int)), decide_eq_true hi, decide_eq_true (by omega : i * 2 + 1 + 1 ≤ l * 2), decide_eq_false (by omega : ¬ (K : Int) < 1), decide_eq_false (by omega : ¬ (K : Int) > 1000), wrap64_succ (by omega)]
    rcases Nat.eq_zero_or_pos i with h0 | h0
    · subst h0
      rfl
    · obtain ⟨H', K', k1, k2, k3, k4⟩ := h6 h0
      obtain ⟨H2, K2, j1, j2, j3, j4, j5, j6⟩ := hc (i - 1) (by omega)
      have hKK : K' = K2 := by
        have := k2.symm.trans j2
        omega
      have hHH : H' = H2 := by
        have := k1.symm.trans j1
        omega
      subst hKK
      subst hHH
      have hp : IntKind.wrap .i64 ((i : Int) - 1) = ((i - 1 : Nat) : Int) := wrap64_of (by omega) (by omega)
      have f1 := far_t (H := (H : Int)) (q := q) hn h4 (by omega)
      have f2 := far_t (H := (H' : Int)) (q := q) hn j4 (by omega)
      have hm : far n q H K * K' ≤ far n q H' K' * K := Nat.mul_le_mul k4 k3
      rw [decide_eq_true (by omega : (i : Int) > 0), hp]
      simp only [bounds_nat, Int.toNat_natCast, k1, k2, f1, f2, wrap_mul (show far n q H K ≤ 68719476736 by omega) j4, wrap_mul (show far n q H' K' ≤ 68719476736 by omega) h4]
      rw [decide_eq_true (by omega : i - 1 < l), decide_eq_true (by omega : (i - 1) * 2 + 1 + 1 ≤ l * 2), decide_eq_false (by omega : ¬ (K : Int) < (K' : Int)), decide_eq_false (by omega : ¬ ((far n q H K * K' : Nat) : Int) > ((far n q H' K' * K : Nat) : Int))]
      rfl
  · simp only [Nat.zero_add, laws_FnFractions.l14.st, laws_FnFractions.l14.s, T.get, T.get_join]
    rw [decide_eq_false (by omega)]
    rfl
/-! The nearest fraction: no candidate is nearer. -/
def Best (Xb Kb Xc Kc : Nat) : Prop := Xb * Kc ≤ Xc * Kb ∧ (Xb * Kc = Xc * Kb → Kb ≤ Kc)
theorem best_new {Xa d Xb Kb Xc Kc : Nat} (hd : 0 < d) (hb : 0 < Kb) (hc : 0 < Kc) (h : Xa * Kb < Xb * d) (hB : Best Xb Kb Xc Kc) : Best Xa d Xc Kc := by
  have h1 : Xa * Kb * Kc < Xb * d * Kc := Nat.mul_lt_mul_of_pos_right h hc
  have h2 : Xb * Kc * d ≤ Xc * Kb * d := Nat.mul_le_mul_right _ hB.1
  have h3 : Xa * Kc * Kb < Xc * d * Kb := by
    have e1 : Xa * Kb * Kc = Xa * Kc * Kb := by rw [Nat.mul_assoc, Nat.mul_comm Kb, ← Nat.mul_assoc]
    have e2 : Xb * d * Kc = Xb * Kc * d := by rw [Nat.mul_assoc, Nat.mul_comm d, ← Nat.mul_assoc]
    have e3 : Xc * Kb * d = Xc * d * Kb := by rw [Nat.mul_assoc, Nat.mul_comm Kb, ← Nat.mul_assoc]
    omega
  have h4 : Xa * Kc < Xc * d := Nat.lt_of_mul_lt_mul_right h3
  exact ⟨Nat.le_of_lt h4, fun e => absurd e (Nat.ne_of_lt h4)⟩
theorem apart_t {n q K : Nat} {H : Int} (hn : n < 16777216) (hK : K ≤ 1000) (hf : far n q H K ≤ 68719476736) : spec_l05Apart (n : Int) (q : Int) H (K : Int) = ((far n q H K : Nat) : Int) := by
  have h1 : n * K ≤ 16777216 * 1000 := Nat.mul_le_mul (by omega) hK
  have h2 : (n : Int) * (K : Int) = ((n * K : Nat) : Int) := by rw [Int.natCast_mul]
  unfold far at hf ⊢
  simp only [spec_l05Apart, spec_l05Apart.t, spec_l00Max, spec_l00Max.t, T.val]
  rw [h2] at hf ⊢
  generalize H * (q : Int) = B at hf ⊢
  have e1 : IntKind.wrap .i64 ((n * K : Nat) : Int) = ((n * K : Nat) : Int) := wrap64_nat (by omega)
  have e2 : IntKind.wrap .i64 B = B := wrap64 (by omega) (by omega)
  have e3 : IntKind.wrap .i64 (((n * K : Nat) : Int) - B) = ((n * K : Nat) : Int) - B := wrap64 (by omega) (by omega)
  have e4 : IntKind.wrap .i64 (0 - (((n * K : Nat) : Int) - B)) = 0 - (((n * K : Nat) : Int) - B) := wrap64 (by omega) (by omega)
  rw [e1, e2, e3, e4]
  by_cases h : ((n * K : Nat) : Int) - B > 0 - (((n * K : Nat) : Int) - B)
  · rw [decide_eq_true h]
    dsimp only [cond_true]
    omega
  · rw [decide_eq_false h]
    dsimp only [cond_false]
    omega
theorem cand_far {n q d k : Nat} (hq : 0 < q) (hk : k ≤ 1) : far n q ((n * d / q + k : Nat) : Int) (d : Int) ≤ q := by
  have h1 := Nat.div_add_mod (n * d) q
  have h2 := Nat.mod_lt (n * d) hq
  unfold far
  have e1 : (n : Int) * (d : Int) = ((n * d : Nat) : Int) := by rw [Int.natCast_mul]
  have e2 : ((n * d / q + k : Nat) : Int) * (q : Int) = ((q * (n * d / q) + k * q : Nat) : Int) := by
    rw [← Int.natCast_mul, Nat.add_mul, Nat.mul_comm q]
  rw [e1, e2]
  have h3 : k * q ≤ 1 * q := Nat.mul_le_mul_right _ hk
  omega
/-- The best so far: a candidate, no worse than those seen. -/
def NB (n q D : Nat) (seen : Nat → Nat → Prop) (b : Int × Int) : Prop := ∃ H K : Nat, b = ((H : Int), (K : Int)) ∧ 1 ≤ K ∧ K ≤ D ∧ far n q H K ≤ q ∧ ∀ d k, seen d k → 1 ≤ d → Best (far n q H K) K (far n q ((n * d / q + k : Nat) : Int) d) d
theorem nb_step {n q D d k : Nat} {seen : Nat → Nat → Prop} {b : Int × Int} (hn : n < 16777216) (hq : 0 < q) (hq2 : q ≤ 8589934592) (hd1 : 1 ≤ d) (hD : D ≤ d) (hd : d ≤ 1000) (hk : k ≤ 1) (B : NB n q D seen b) : NB n q d (fun d' k' => seen d' k' ∨ (d' = d ∧ k' = k)) (nearer (n : Int) (q : Int) ((n * d / q + k : Nat) : Int) (d : Int) b) := by
  obtain ⟨H, K, rfl, k1, k2, k3, k4⟩ := B
  have cf := cand_far (n := n) (d := d) hq hk
  have a1 := apart_t (H := ((n * d / q + k : Nat) : Int)) (q := q) hn hd (by omega)
  have a2 := apart_t (H := (H : Int)) (K := K) (q := q) hn (by omega) (by omega)
  unfold nearer
  rw [a1, a2, wrap_mul (by omega) (by omega), wrap_mul (by omega) (by omega)]
  by_cases h : far n q ((n * d / q + k : Nat) : Int) d * K < far n q H K * d
  · rw [decide_eq_true (by omega : ((far n q ((n * d / q + k : Nat) : Int) d * K : Nat) : Int) < ((far n q H K * d : Nat) : Int))]
    refine ⟨n * d / q + k, d, rfl, hd1, Nat.le_refl _, cf, fun d' k' hs h1 => ?_⟩
    rcases hs with hs | ⟨rfl, rfl⟩
    · exact best_new (by omega) (by omega) (by omega) h (k4 d' k' hs h1)
    · exact ⟨Nat.le_refl _, fun _ => Nat.le_refl _⟩
  · rw [decide_eq_false (by omega : ¬ ((far n q ((n * d / q + k : Nat) : Int) d * K : Nat) : Int) < ((far n q H K * d : Nat) : Int))]
    refine ⟨H, K, rfl, k1, by omega, k3, fun d' k' hs h1 => ?_⟩
    rcases hs with hs | ⟨rfl, rfl⟩
    · exact k4 d' k' hs h1
    · exact ⟨by omega, fun _ => by omega⟩
noncomputable def bests (n q : Nat) : Nat → Int × Int
  | 0 => (((n / q : Nat) : Int), 1)
  | i + 1 => nearer (n : Int) (q : Int) ((n * (i + 1) / q + 1 : Nat) : Int) ((i + 1 : Nat) : Int) (nearer (n : Int) (q : Int) ((n * (i + 1) / q + 0 : Nat) : Int) ((i + 1 : Nat) : Int) (bests n q i))
theorem bests_nb {n q : Nat} (hn : n < 16777216) (hq : 0 < q) (hq2 : q ≤ 8589934592) : ∀ i, i ≤ 120 → NB n q (max i 1) (fun d k => d ≤ i ∧ k ≤ 1) (bests n q i)
  | 0, _ => by
    have h := cand_far (n := n) (d := 1) (k := 0) hq (by omega)
    rw [Nat.mul_one, Nat.add_zero] at h
    exact ⟨n / q, 1, rfl, by omega, by omega, h, fun d k hs h1 => by omega⟩
  | i + 1, hi => by
    have B := bests_nb hn hq hq2 i (by omega)
    have B1 := nb_step (d := i + 1) (k := 0) hn hq hq2 (by omega) (by omega) (by omega) (by omega) B
    have B2 := nb_step (d := i + 1) (k := 1) hn hq hq2 (by omega) (by omega) (by omega) (by omega) B1
    obtain ⟨H, K, e, k1, k2, k3, k4⟩ := B2
    refine ⟨H, K, e, k1, by omega, k3, fun d k hs h1 => k4 d k ?_ h1⟩
    by_cases hd : d ≤ i
    · exact .inl (.inl ⟨hd, hs.2⟩)
    · have : d = i + 1 := by omega
      by_cases hk : k = 0
      · exact .inl (.inr ⟨this, hk⟩)
      · exact .inr ⟨this, by omega⟩
theorem near_r {n q M : Nat} (hn : n < 16777216) (hq : 0 < q) (hq2 : q ≤ 8589934592) (hM : M ≤ 120) : spec_NearestFraction.l9.r ((M : Int), (0 : Int), (0 : Int), (n : Int), (q : Int)) ((1 : Int), ((n / q : Nat) : Int), (1 : Int)) = some (bests n q M) := by
  refine iter_run (step := spec_NearestFraction.l9.st ((M : Int), (0 : Int), (0 : Int), (n : Int), (q : Int))) (f := fun i => (((i + 1 : Nat) : Int), bests n q i)) (n := M) (N := manyRounds) (k := 0) (many_lt (by omega)) (fun i hi => ?_) ?_
  · have h1 : n * (i + 1) ≤ 16777216 * 120 := Nat.mul_le_mul (by omega) (by omega)
    have hL : n * (i + 1) / q ≤ n * (i + 1) := Nat.div_le_self _ _
    have e1 : IntKind.wrap .i64 ((n : Int) * ((i + 1 : Nat) : Int)) = ((n * (i + 1) : Nat) : Int) := by
      rw [← Int.natCast_mul]
      exact wrap64_nat (by omega)
    have e2 : IntKind.wrap .i64 (Int.tdiv ((n * (i + 1) : Nat) : Int) (q : Int)) = ((n * (i + 1) / q : Nat) : Int) := by
      rw [← Int.ofNat_tdiv]
      exact wrap64_nat (by omega)
    have hz : ((q : Int) == 0) = false := by
      rw [beq_eq_false_iff_ne]
      omega
    have hin := inner_s (M : Int) 0 0 (n : Int) (q : Int) ((i + 1 : Nat) : Int) (n * (i + 1) / q) (bests n q i) (by omega)
    have hin' : spec_NearestFraction.l13.r ((M : Int), ((i + 1 : Nat) : Int), ((n * (i + 1) / q : Nat) : Int), (0 : Int), (0 : Int), (n : Int), (q : Int)) ((0 : Int), (bests n q i).1, (bests n q i).2) = some (bests n q (i + 1)) := hin
    simp only [Nat.zero_add, spec_NearestFraction.l9.st, spec_NearestFraction.l9.s, T.get, e1, e2, hz, hin', cond_false, Option.isSome_some, Option.getD_some, cond_true, wrap64_succ (show i + 1 + 1 < 9223372036854775808 by omega)]
    rw [decide_eq_true (by omega : ((i + 1 : Nat) : Int) ≤ (M : Int))]
    rfl
  · simp only [Nat.zero_add, spec_NearestFraction.l9.st, spec_NearestFraction.l9.s, T.get]
    rw [decide_eq_false (by omega)]
    rfl
/-! The law's loops over all candidates. -/
theorem cand_r {n q H K M d : Nat} (xs ys : List Int) (hn : n < 16777216) (hq : 0 < q) (hq2 : q ≤ 8589934592) (hd1 : 1 ≤ d) (hd : d ≤ 120) (hK : K ≤ 120) (hf : far n q H K ≤ q) (hB : ∀ k, k ≤ 1 → Best (far n q H K) K (far n q ((n * d / q + k : Nat) : Int) d) d) :
    laws_FnFractions.l29.r ((M : Int), ((far n q H K : Nat) : Int), (K : Int), (d : Int), ((n * d / q : Nat) : Int), xs, ys, (n : Int), (q : Int), (H : Int), (K : Int)) (0 : Int) = some (.inr ()) := by
  refine iter_run (step := laws_FnFractions.l29.st ((M : Int), ((far n q H K : Nat) : Int), (K : Int), (d : Int), ((n * d / q : Nat) : Int), xs, ys, (n : Int), (q : Int), (H : Int), (K : Int))) (f := fun i => (i : Int)) (n := 2) (N := manyRounds) (k := 0) (many_lt (by omega)) (fun i hi => ?_) ?_
  · have h1 : n * d ≤ 16777216 * 120 := Nat.mul_le_mul (by omega) hd
    have hL : n * d / q ≤ n * d := Nat.div_le_self _ _
    have cf := cand_far (n := n) (d := d) (k := i) hq (by omega)
    have ef := far_t (H := ((n * d / q + i : Nat) : Int)) (K := d) (q := q) hn (by omega) (by omega)
    obtain ⟨b1, b2⟩ := hB i (by omega)
    have e0 : IntKind.wrap .i64 (((n * d / q : Nat) : Int) + (i : Int)) = ((n * d / q + i : Nat) : Int) := by
      rw [← Int.natCast_add]
      exact wrap64_nat (by omega)
    simp only [Nat.zero_add, laws_FnFractions.l29.st, laws_FnFractions.l29.s, T.get, e0, ef, wrap_mul (show far n q ((n * d / q + i : Nat) : Int) d ≤ 68719476736 by omega) (show K ≤ 1000 by omega), wrap_mul (show far n q H K ≤ 68719476736 by omega) (show d ≤ 1000 by omega)]
    rw [decide_eq_true (by omega : (i : Int) < 2), decide_eq_false (by omega : ¬ ((far n q ((n * d / q + i : Nat) : Int) d * K : Nat) : Int) < ((far n q H K * d : Nat) : Int)), wrap64_succ (by omega)]
    cases he : (((far n q ((n * d / q + i : Nat) : Int) d * K : Nat) : Int) == ((far n q H K * d : Nat) : Int)) with
    | false => rfl
    | true =>
      have := eq_of_beq he
      have := b2 (by omega)
      rw [decide_eq_false (by omega : ¬ (d : Int) < (K : Int))]
      rfl
  · rfl
theorem cands_r {n q H K M : Nat} (xs ys : List Int) (hn : n < 16777216) (hq : 0 < q) (hq2 : q ≤ 8589934592) (hM : M ≤ 120) (hK : K ≤ 120) (hf : far n q H K ≤ q) (hB : ∀ d k, d ≤ M → 1 ≤ d → k ≤ 1 → Best (far n q H K) K (far n q ((n * d / q + k : Nat) : Int) d) d) :
    laws_FnFractions.l25.r ((M : Int), ((far n q H K : Nat) : Int), (K : Int), xs, ys, (n : Int), (q : Int), (H : Int), (K : Int)) (1 : Int) = some (.inr ()) := by
  refine iter_run (step := laws_FnFractions.l25.st ((M : Int), ((far n q H K : Nat) : Int), (K : Int), xs, ys, (n : Int), (q : Int), (H : Int), (K : Int))) (f := fun i => ((i + 1 : Nat) : Int)) (n := M) (N := manyRounds) (k := 0) (many_lt (by omega)) (fun i hi => ?_) ?_
  · have h1 : n * (i + 1) ≤ 16777216 * 120 := Nat.mul_le_mul (by omega) (by omega)
    have hL : n * (i + 1) / q ≤ n * (i + 1) := Nat.div_le_self _ _
    have e1 : IntKind.wrap .i64 ((n : Int) * ((i + 1 : Nat) : Int)) = ((n * (i + 1) : Nat) : Int) := by
      rw [← Int.natCast_mul]
      exact wrap64_nat (by omega)
    have e2 : IntKind.wrap .i64 (Int.tdiv ((n * (i + 1) : Nat) : Int) (q : Int)) = ((n * (i + 1) / q : Nat) : Int) := by
      rw [← Int.ofNat_tdiv]
      exact wrap64_nat (by omega)
    have hz : ((q : Int) == 0) = false := by
      rw [beq_eq_false_iff_ne]
      omega
    have hin := cand_r (M := M) (d := i + 1) xs ys hn hq hq2 (by omega) (by omega) hK hf (fun k hk => hB (i + 1) k (by omega) (by omega) hk)
    simp only [Nat.zero_add, laws_FnFractions.l25.st, laws_FnFractions.l25.s, T.get, e1, e2, hz, hin, cond_false, Option.isSome_some, Option.getD_some, cond_true, Sum.isLeft, wrap64_succ (show i + 1 + 1 < 9223372036854775808 by omega)]
    rw [decide_eq_true (by omega : ((i + 1 : Nat) : Int) ≤ (M : Int))]
    rfl
  · simp only [Nat.zero_add, laws_FnFractions.l25.st, laws_FnFractions.l25.s, T.get]
    rw [decide_eq_false (by omega)]
    rfl
theorem in_pos {x : Int} (h : spec_l00In x 1 1000000 = true) : 1 ≤ x := by
  simp only [spec_l00In, spec_l00In.t, T.val] at h
  cases h1 : decide (x ≥ 1) <;> rw [h1] at h
  · cases h
  · simpa using h1
theorem near_t (x0 : Nat) (x1 : Int) (hx : flHas .f32 x0) : ∃ r, (spec_NearestFraction.t x0 x1).get = some r ∧ (impl_NearestFraction.t x0 x1).get = some r := by
  simp only [spec_NearestFraction.t, impl_NearestFraction.t, T.get, target_eq, within_eq, most_eq]
  cases ht : spec_l05Target x0 with
  | false => cases decide (x1 > 1000) <;> exact ⟨_, rfl, rfl⟩
  | true =>
    cases hi : spec_l00In x1 1 1000000 with
    | false => cases decide (x1 > 1000) <;> exact ⟨_, rfl, rfl⟩
    | true =>
      by_cases hb : x1 > 1000
      · rw [decide_eq_true hb]
        exact ⟨_, rfl, rfl⟩
      · rw [decide_eq_false hb]
        obtain ⟨n, j, m, d, h1, h2, _, _, hn0, hn, hj, hnj, _⟩ := exact_ex hx ht
        have hp : 2 ^ j ≤ 2 ^ 33 := Nat.pow_le_pow_right (by omega) hj
        have hp1 : 0 < 2 ^ j := Nat.two_pow_pos j
        have hp2 : 2 ^ j < 9223372036854775808 := Nat.lt_of_le_of_lt hp (by decide)
        simp only [show spec_l05Exact.ok x0 = true from T.ok_of_get (h1), show spec_l05Exact x0 = _ from T.val_of_get (h1), show impl_exact.ok x0 = true from T.ok_of_get (h2), show impl_exact x0 = _ from T.val_of_get (h2)]
        generalize 2 ^ j = q at hp1 hp2
        have hz : ((q : Int) == 0) = false := by
          rw [beq_eq_false_iff_ne]
          omega
        have ht : IntKind.wrap .i64 (Int.tdiv (n : Int) (q : Int)) = ((n / q : Nat) : Int) := by
          rw [← Int.ofNat_tdiv]
          exact wrap64_nat (Nat.lt_of_le_of_lt (Nat.div_le_self _ _) (by omega))
        obtain ⟨e, h3, h4⟩ := outer_r n q x1 (in_pos hi) (by omega) hn hp1 hp2
        rw [hz, ht, h3, h4]
        exact ⟨_, rfl, rfl⟩
theorem in_of {x : Nat} (h1 : 1 ≤ x) (h2 : x ≤ 1000) : spec_l00In (x : Int) 1 1000000 = true := by
  simp only [spec_l00In, spec_l00In.t, T.val, decide_eq_true (by omega : (x : Int) ≥ 1), decide_eq_true (by omega : (x : Int) ≤ 1000000)]
  rfl
theorem eqInts_self : ∀ l, eqInts l l = true
  | [] => rfl
  | a :: r => by
    show ((a == a) && eqInts r r) = true
    rw [eqInts_self r, beq_self_eq_true]
    rfl
theorem sames_t {l : Nat} {out : List Int} (hl : l ≤ 40) (ho : out.length = l * 2) : (spec_A2SameFractions_w1.t l l out out).get = some true := by
  have hr : spec_A2SameFractions_w1.l4.r (l, l, out, out) (0 : Int) = some (.inr ()) := by
    refine iter_run (step := spec_A2SameFractions_w1.l4.st (l, l, out, out)) (f := fun i => (i : Int)) (n := l) (N := manyRounds) (k := 0) (many_lt (by omega)) (fun i hi => ?_) ?_
    · simp only [Nat.zero_add, spec_A2SameFractions_w1.l4.st, spec_A2SameFractions_w1.l4.s, T.get, bounds_nat, Int.toNat_natCast, ble_decide, ho, eqInts_self]
      rw [decide_eq_true (by omega : (i : Int) < (l : Int)), decide_eq_true hi, decide_eq_true (by omega : i * 2 + 2 ≤ l * 2), wrap64_succ (by omega)]
      rfl
    · simp only [Nat.zero_add, spec_A2SameFractions_w1.l4.st, spec_A2SameFractions_w1.l4.s, T.get]
      rw [decide_eq_false (by omega)]
      rfl
  simp only [spec_A2SameFractions_w1.t, T.get, bne_self_eq_false, cond_false, hr]
  rfl
/-! The quotient of its parts is the number. -/
theorem log_is {m L : Nat} (h1 : 2 ^ L ≤ m) (h2 : m < 2 ^ (L + 1)) : m.log2 = L := by
  have hm : m ≠ 0 := by have := Nat.two_pow_pos L; omega
  have a1 := (Nat.le_log2 hm).2 h1
  have a2 := (Nat.log2_lt hm).2 h2
  omega
/-- An exact quotient. -/
theorem quot64 {n P T : Nat} {i i2 : Int} (hT0 : T ≠ 0) (hM : (n * P).log2 = 52) (hN : T.log2 = 52) (h54 : ∀ k, k = 54 → 2 ^ k = 4 * T) {x y : Nat} (r1 : FloatKind.f64.format.read x = .number false (n * P) i) (r2 : FloatKind.f64.format.read y = .number false T i2) :
    ∃ k : Nat, k = 54 ∧ fdiv .f64 x y = nz .f64 (FloatKind.f64.format.nearest false (n * P * 2 ^ 3) (i - i2 - (k : Int) - 1)) := by
  obtain ⟨k, hk⟩ : ∃ k, FloatKind.f64.format.fractionBits + 2 + T.log2 - (n * P).log2 = k := ⟨_, rfl⟩
  have hk54 : k = 54 := by
    rw [← hk, hM, hN]
    rfl
  have h54 := h54 k hk54
  refine ⟨k, hk54, ?_⟩
  unfold fdiv Ieee.Format.div
  rw [r1, r2]
  simp only [Ieee.Datum.quotient, Option.map_some, Option.getD_some, Ieee.Format.write, Bool.xor_false, Nat.shiftLeft_eq, if_neg hT0, hk]
  have e2 : n * P * 2 ^ k = n * P * 4 * T := by
    rw [h54, Nat.mul_assoc (n * P) 4]
  rw [e2, Nat.mul_div_cancel _ (Nat.pos_of_ne_zero hT0), Nat.mul_mod_left]
  have hz : ((0 : Nat) != 0).toNat = 0 := rfl
  have e3 : 2 * (n * P * 4) + ((0 : Nat) != 0).toNat = n * P * 2 ^ 3 := by
    rw [hz]
    generalize n * P = X
    omega
  rw [e3]
theorem div64 {n j : Nat} (hn0 : n ≠ 0) (hn : n < 16777216) (hj : j ≤ 33) : fdiv .f64 (fofint .f64 (n : Int)) (fofint .f64 ((2 ^ j : Nat) : Int)) = FloatKind.f64.format.nearest false n (-(j : Int)) := by
  have h53 : n < 2 ^ (52 + 1) := Nat.lt_trans hn (by decide)
  have hl : n.log2 ≤ 52 := log2_le_of_lt hn0 h53
  have hq0 : 2 ^ j ≠ 0 := Nat.pos_iff_ne_zero.1 (Nat.two_pow_pos j)
  have hqlt : 2 ^ j < 2 ^ (52 + 1) := Nat.pow_lt_pow_right (by omega) (by omega)
  have hql : (2 ^ j).log2 = j := log_is (Nat.le_refl _) (Nat.pow_lt_pow_right (by omega) (by omega))
  have f1 : fofint .f64 (n : Int) = FloatKind.f64.format.nearest false n 0 := by
    unfold fofint
    rw [near64_ofint, near64_nz hn0 h53 (by clear h53 hqlt; omega) (by clear h53 hqlt; omega)]
  have f2 : fofint .f64 ((2 ^ j : Nat) : Int) = FloatKind.f64.format.nearest false (2 ^ j) 0 := by
    unfold fofint
    rw [near64_ofint, near64_nz hq0 hqlt (by rw [hql]; clear h53 hqlt hql hq0 f1; omega) (by rw [hql]; clear h53 hqlt hql hq0 f1; omega)]
  have r1 := near64 (m := n) (p := 0) hn0 h53 (by clear h53 hqlt f1 f2; omega) (by clear h53 hqlt f1 f2; omega)
  have r2 := near64 (m := 2 ^ j) (p := 0) hq0 hqlt (by rw [hql]; clear h53 hqlt hql hq0 f1 f2 r1; omega) (by rw [hql]; clear h53 hqlt hql hq0 f1 f2 r1; omega)
  have fin := near64_nz (m := n) (p := -(j : Int)) hn0 h53 (by clear h53 hqlt f1 f2 r1 r2; omega) (by clear h53 hqlt f1 f2 r1 r2; omega)
  have eN : 2 ^ j * 2 ^ (52 - j) = 2 ^ 52 := by
    rw [← Nat.pow_add, Nat.add_sub_cancel' (Nat.le_trans hj (by decide))]
  rw [hql, eN] at r2
  have lM : (n * 2 ^ (52 - n.log2)).log2 = 52 := by
    refine log_is ?_ ?_
    · calc 2 ^ 52 = 2 ^ n.log2 * 2 ^ (52 - n.log2) := by rw [← Nat.pow_add, Nat.add_sub_cancel' hl]
        _ ≤ _ := Nat.mul_le_mul_right _ (Nat.log2_self_le hn0)
    · calc n * 2 ^ (52 - n.log2) < 2 ^ (n.log2 + 1) * 2 ^ (52 - n.log2) := Nat.mul_lt_mul_of_pos_right Nat.lt_log2_self (Nat.two_pow_pos _)
        _ = 2 ^ (52 + 1) := by rw [← Nat.pow_add]; congr 1; clear h53 hqlt f1 f2 r1 r2 fin eN; omega
  have lN : (2 ^ 52 : Nat).log2 = 52 := log_is (Nat.le_refl _) (Nat.pow_lt_pow_right (by decide) (by decide))
  have hT0 : (2 ^ 52 : Nat) ≠ 0 := Nat.pos_iff_ne_zero.1 (Nat.two_pow_pos 52)
  have h54 : ∀ k, k = 54 → (2 : Nat) ^ k = 4 * 2 ^ 52 := fun k hk => by rw [hk, show 54 = 2 + 52 from rfl, Nat.pow_add]
  have hP : 2 ^ (52 - n.log2) ≠ 0 := Nat.pos_iff_ne_zero.1 (Nat.two_pow_pos _)
  have hs := nearest_shift FloatKind.f64.format false n (52 - n.log2 + 3) (-(j : Int))
  rw [Nat.pow_add, ← Nat.mul_assoc] at hs
  clear h53 hqlt eN
  rw [f1, f2]
  generalize (2 : Nat) ^ 52 = T at r2 lN hT0 h54
  obtain ⟨k, hk, hq⟩ := quot64 hT0 lM lN h54 r1 r2
  rw [hq]
  have e4 : (-(j : Int)) - ((52 - n.log2 + 3 : Nat) : Int) = 0 - ((52 - n.log2 : Nat) : Int) - (0 - ((52 - j : Nat) : Int)) - (k : Int) - 1 := by
    clear r1 r2 hq hs h54 hT0 lN lM hP fin f1 f2 hql hq0
    omega
  rw [e4] at hs
  rw [hs]
  exact fin
theorem back32 {a n j m d : Nat} (ha : flHas .f32 a) (ht : spec_l05Target a = true) (hr : FloatKind.f32.format.read a = .number false m (-(d : Int))) (he : n * 2 ^ d = m * 2 ^ j) (hn0 : n ≠ 0) : FloatKind.f32.format.nearest false n (-(j : Int)) = a ∧ a < 2139095040 := by
  obtain ⟨h1, h2⟩ := target_le ht
  obtain ⟨d', k1, k2, k3, k4⟩ := target_read ha h1 h2
  rw [hr] at k3
  injection k3 with _ k5 k6
  have hd : d = d' := by omega
  subst hd
  have hsm : a < 2139095040 := by omega
  have hrg : rg a = a := by unfold rg; omega
  refine ⟨?_, hsm⟩
  have hm : FloatKind.f32.format.nearest false m (-(d : Int)) = a := by
    have e1 := nearest_at (m := m) (e := -(d : Int)) (by omega)
    have e2 : m * 2 ^ (-(d : Int) + 149).toNat = mag a := by
      unfold mag
      rw [if_neg (by omega), k5, k4]
      congr 2
      omega
    rw [e1, e2, near_mag hsm]
  have s1 := nearest_shift FloatKind.f32.format false n d (-(j : Int))
  have s2 := nearest_shift FloatKind.f32.format false m j (-(d : Int))
  rw [he] at s1
  have e3 : -(d : Int) - (j : Int) = -(j : Int) - (d : Int) := by omega
  rw [e3] at s2
  rw [← s1, s2, hm]
theorem quot_t {a n j m d : Nat} (ha : flHas .f32 a) (ht : spec_l05Target a = true) (hr : FloatKind.f32.format.read a = .number false m (-(d : Int))) (he : n * 2 ^ d = m * 2 ^ j) (hn0 : n ≠ 0) (hn : n < 16777216) (hj : j ≤ 33) :
    fcvOpen .f64 .f32 (fdiv .f64 (fofint .f64 (n : Int)) (fofint .f64 ((2 ^ j : Nat) : Int))) = false ∧ fcv .f64 .f32 (fdiv .f64 (fofint .f64 (n : Int)) (fofint .f64 ((2 ^ j : Nat) : Int))) = a := by
  have h53 : n < 2 ^ (52 + 1) := Nat.lt_trans hn (by decide)
  have hl : n.log2 ≤ 52 := log2_le_of_lt hn0 h53
  obtain ⟨b1, b2⟩ := back32 ha ht hr he hn0
  have r1 := near64 (m := n) (p := -(j : Int)) hn0 h53 (by omega) (by omega)
  have hs := nearest_shift FloatKind.f32.format false n (52 - n.log2) (-(j : Int))
  rw [div64 hn0 hn hj]
  have hinf : (FloatKind.f32.format.read a).isInfinity = false := by rw [hr]; rfl
  have hnan : isNaN .f32 a = false := by
    show (FloatKind.f32.format.read a).isNaN = false
    rw [hr]
    rfl
  refine ⟨open_num _ fun s m' e' hd => ?_, ?_⟩
  · rw [r1] at hd
    injection hd with q1 q2 q3
    rw [← q1, ← q2, ← q3, hs, b1]
    exact hinf
  · have hx : fcv .f64 .f32 (FloatKind.f64.format.nearest false n (-(j : Int))) = nz .f32 (match FloatKind.f64.format.read (FloatKind.f64.format.nearest false n (-(j : Int))) with
      | .nan _ _ => nanOf .f32
      | .infinity n => FloatKind.f32.format.write (.infinity n)
      | .number n m e => FloatKind.f32.format.write (.number n m e)) := rfl
    rw [hx, r1]
    show nz .f32 (FloatKind.f32.format.nearest false (n * 2 ^ (52 - n.log2)) (-(j : Int) - ((52 - n.log2 : Nat) : Int))) = a
    rw [hs, b1, nz_of_not hnan]
theorem long_eq (a b : Nat) (xs ys : List Int) (h1 : a ≤ 3000) (h2 : b ≤ 3000) : laws_a2Long a b xs ys = false := by
  simp only [laws_a2Long, laws_a2Long.t, T.val]
  rw [decide_eq_false (by omega), decide_eq_false (by omega)]
  rfl
theorem law_small {na nb : Nat} {xs ys : List Int} (hs : srcOk na xs) (ht : srcOk nb ys) (h1 : na ≤ 3000) (h2 : nb ≤ 3000) : (laws_FnFractions.t na nb xs ys).get = some true := by
  have b1 := long_eq na nb xs ys h1 h2
  obtain ⟨a, ha, fa, ta⟩ := target_t hs
  obtain ⟨v, hv, v120⟩ := most_t ht
  obtain ⟨n, j, m, d, s1, s2, hr, he, hn0, hn, hj, _, _⟩ := exact_ex fa ta
  obtain ⟨qo, qv⟩ := quot_t fa ta hr he (by omega) hn hj
  have hq : 0 < 2 ^ j := Nat.two_pow_pos j
  have hq2 : 2 ^ j ≤ 8589934592 := Nat.le_trans (Nat.pow_le_pow_right (by omega) hj) (by decide)
  generalize 2 ^ j = q at s1 s2 qo qv hq hq2
  have wM : IntKind.wrap .i64 ((1 : Int) + (v : Int)) = ((v + 1 : Nat) : Int) := wrap64_of (by omega) (by omega)
  have exS : (spec_ExactOf.t a).get = some ((n : Int), (q : Int), 0) := by
    simp only [spec_ExactOf.t, T.get, ta, Bool.not_true, cond_false, show spec_l05Exact.ok a = true from T.ok_of_get (s1), show spec_l05Exact a = _ from T.val_of_get (s1)]
    rfl
  have exI : (impl_ExactOf.t a).get = some ((n : Int), (q : Int), 0) := by
    simp only [impl_ExactOf.t, T.get, target_eq, ta, Bool.not_true, cond_false, show impl_exact.ok a = true from T.ok_of_get (s2), show impl_exact a = _ from T.val_of_get (s2)]
    rfl
  obtain ⟨l, out, hl, l1, l40, ho, hc⟩ := conv_far hn hq hq2
  have hm0 : spec_l05Most a 1000 = 0 := by
    have hin : spec_l00In (1000 : Int) 1 1000000 = true := in_of (x := 1000) (by omega) (by omega)
    rw [most_eq, ta, hin]
    rfl
  have cvS : (spec_ConvergentsOf.t a 1000).get = some (l, 0, out) := by
    have h7 : (spec_l05Convergents.t a 1000).get = some (l, out) := by
      simp only [spec_l05Convergents.t, T.get, show spec_l05Exact.ok a = true from T.ok_of_get (s1), show spec_l05Exact a = _ from T.val_of_get (s1), hl]
      rfl
    simp only [spec_ConvergentsOf.t, T.get, hm0, bne_self_eq_false, cond_false, show spec_l05Convergents.ok a 1000 = true from T.ok_of_get (h7), show spec_l05Convergents a 1000 = _ from T.val_of_get (h7)]
    rfl
  have cvI : (impl_ConvergentsOf.t a 1000).get = some (.inr (l, 0, out)) := by
    rcases conv_t a 1000 fa with ⟨c, k1, k2⟩ | ⟨n', out', _, _, k1, k2⟩
    · rw [cvS] at k1
      injection k1 with k1
      have := congrArg Prod.fst k1
      have : l = 0 := this
      omega
    · rw [cvS] at k1
      injection k1 with k1
      injection k1 with p1 p2
      injection p2 with _ p3
      rw [k2, p1, p3]
  obtain ⟨H, K, eb, k1, k2, k3, k4⟩ := bests_nb hn hq hq2 (v + 1) (by omega)
  have hz : ((q : Int) == 0) = false := by
    rw [beq_eq_false_iff_ne]
    omega
  have hdiv : IntKind.wrap .i64 (Int.tdiv (n : Int) (q : Int)) = ((n / q : Nat) : Int) := by
    rw [← Int.ofNat_tdiv]
    exact wrap64_nat (Nat.lt_of_le_of_lt (Nat.div_le_self _ _) (by omega))
  have hm1 : spec_l05Most a ((v + 1 : Nat) : Int) = 0 := by
    rw [most_eq, ta, in_of (by omega) (by omega)]
    rfl
  have nrS : (spec_NearestFraction.t a ((v + 1 : Nat) : Int)).get = some ((H : Int), (K : Int), 0) := by
    have hr9 := near_r (M := v + 1) hn hq hq2 (by omega)
    rw [eb] at hr9
    simp only [spec_NearestFraction.t, T.get, hm1, show spec_l05Exact.ok a = true from T.ok_of_get (s1), show spec_l05Exact a = _ from T.val_of_get (s1), hz, hdiv, hr9, beq_self_eq_true, bne_self_eq_false, cond_true, cond_false, Option.isSome_some, Option.getD_some]
    rw [decide_eq_false (by omega : ¬ ((v + 1 : Nat) : Int) > 1000)]
    rfl
  have nrI : (impl_NearestFraction.t a ((v + 1 : Nat) : Int)).get = some ((H : Int), (K : Int), 0) := by
    obtain ⟨r, p1, p2⟩ := near_t a ((v + 1 : Nat) : Int) fa
    rw [p2, ← p1, nrS]
  have sm := sames_t l40 ho
  have cvo := convs_ok ((v + 1 : Nat) : Int) xs ys (H : Int) (K : Int) hn l40 ho hc
  have ff := far_t (H := (H : Int)) (K := K) (q := q) hn (by omega) (by omega)
  have cds := cands_r (M := v + 1) xs ys hn hq hq2 (by omega) (by omega) k3 (fun d' k' g1 g2 g3 => k4 d' k' ⟨g1, g3⟩ g2)
  have hnan : fne .f32 a a = false := by
    rw [fne_self]
    show (FloatKind.f32.format.read a).isNaN = false
    rw [hr]
    rfl
  simp only [laws_FnFractions.t, T.get, b1, show spec_A2Target.ok na xs = true from T.ok_of_get (ha), show spec_A2Target na xs = _ from T.val_of_get (ha), show laws_a2At.ok nb 0 120 ys = true from T.ok_of_get (hv), show laws_a2At nb 0 120 ys = _ from T.val_of_get (hv), wM, show impl_ExactOf.ok a = true from T.ok_of_get (exI), show impl_ExactOf a = _ from T.val_of_get (exI), show spec_ExactOf.ok a = true from T.ok_of_get (exS), show spec_ExactOf a = _ from T.val_of_get (exS), show impl_ConvergentsOf.ok a 1000 = true from T.ok_of_get (cvI), show impl_ConvergentsOf a 1000 = _ from T.val_of_get (cvI), show spec_ConvergentsOf.ok a 1000 = true from T.ok_of_get (cvS), show spec_ConvergentsOf a 1000 = _ from T.val_of_get (cvS), show impl_NearestFraction.ok a ((v + 1 : Nat) : Int) = true from T.ok_of_get (nrI), show impl_NearestFraction a ((v + 1 : Nat) : Int) = _ from T.val_of_get (nrI), show spec_NearestFraction.ok a ((v + 1 : Nat) : Int) = true from T.ok_of_get (nrS), show spec_NearestFraction a ((v + 1 : Nat) : Int) = _ from T.val_of_get (nrS), eqInts_self, qo, qv, hnan, Sum.isLeft, getRightD, show spec_A2SameFractions_w1.ok l l out out = true from T.ok_of_get (sm), show spec_A2SameFractions_w1 l l out out = _ from T.val_of_get (sm), cvo, ff, cds, bne_self_eq_false, Bool.not_true, cond_true, cond_false, Option.isSome_some, Option.getD_some]
  rw [decide_eq_false (by omega : ¬ (q : Int) < 1), decide_eq_false (by omega : ¬ (l : Int) < 1), decide_eq_false (by omega : ¬ (K : Int) < 1), decide_eq_false (by omega : ¬ (K : Int) > ((v + 1 : Nat) : Int)), decide_eq_false (by omega : ¬ (H : Int) < 0)]
  rfl
/- FACTS -/
theorem law_holds (xs ys : List Int) (f0 : ∀ x ∈ xs, IntKind.min .u8 ≤ x ∧ x ≤ IntKind.max .u8) (y0 : xs.length ≤ maxLen) (f1 : ∀ x ∈ ys, IntKind.min .u8 ≤ x ∧ x ≤ IntKind.max .u8) (y1 : ys.length ≤ maxLen) : (laws_FnFractions.t xs.length ys.length xs ys).get = some true := by
  by_cases h1 : xs.length ≤ 3000
  · by_cases h2 : ys.length ≤ 3000
    · exact law_small ⟨rfl, by omega, f0⟩ ⟨rfl, by omega, f1⟩ h1 h2
    · have b1 : laws_a2Long xs.length ys.length xs ys = true := by
        simp only [laws_a2Long, laws_a2Long.t, T.val]
        rw [decide_eq_false (by omega), decide_eq_true (by omega)]
        rfl
      simp only [laws_FnFractions.t, T.get, b1, cond_true]
  · have b1 : laws_a2Long xs.length ys.length xs ys = true := by
      simp only [laws_a2Long, laws_a2Long.t, T.val]
      rw [decide_eq_true (by omega)]
      rfl
    simp only [laws_FnFractions.t, T.get, b1, cond_true]

theorem law_plain (xs0 : List Int) (xs1 : List Int) (f0 : ∀ x ∈ xs0, (IntKind.min .u8 ≤ x ∧ x ≤ IntKind.max .u8)) (y0 : List.length xs0 ≤ maxLen) (f1 : ∀ x ∈ xs1, (IntKind.min .u8 ≤ x ∧ x ≤ IntKind.max .u8)) (y1 : List.length xs1 ≤ maxLen) : (laws_FnFractions.tr (xs0.length, xs1.length, xs0, xs1)).get = some true := law_holds xs0 xs1 f0 y0 f1 y1
theorem own : ownKnob Try.prog.godebug = none := by kernel_rfl
theorem laidOut : laidOutB Try.prog = true := by kernel_rfl
theorem ground {W : World} (h : W.ShapedOpen Try.prog) : Sx.Ground W := ground_of (by kernel_rfl) h
theorem lifted (os : Os) (started : os.Started) (H : Type) (enc : TypeId × Value → H) :
    ReturnsInHanded {} Try.checked os 4 .any (Rows.fnFractionsSpec.pre6 enc Try.prog Try.f4 Rows.fnFractionsRow.domain false) (Rows.fnFractionsSpec.post enc Try.prog Try.f4 false true false false) := by
  refine returnsInHanded_of_change_shaped (C := Try.checked) own started (by kernel_rfl) Try.func4
    (ChangeSpec.witness6 (enc := enc) (C := Try.checked) false ⟨#[], #[.slice none 0 0, .slice none 0 0], []⟩ 8 (by kernel_rfl) (by kernel_rfl) (by kernel_rfl) (by kernel_rfl)) ?_
  intro W base args ds gs before hval0 hW hcnd _ hsh _
  have hG := ground hsh
  have hval : ∀ (j : Nat) t v, Try.f4.params[j]? = some t → args[j]? = some v → Value.okWide Try.prog W .any base t v := hval0
  have hW' := hW
  obtain ⟨p, q, hA0, hV, rfl, hfz, hnd⟩ := hW
  have hA : DataW.TrodAll enc Try.prog W 0 (fun _ => true) true Try.f4.params.toList args.toList ds p := hA0
  rw [Try.params4] at hA hval
  obtain ⟨v0, vs0, d0, ds0, p0, q0, hargs, rfl, rfl, h0, rr0⟩ := trodAll_cons hA
  obtain ⟨v1, vs1, d1, ds1, p1, q1, rfl, rfl, rfl, h1, rr1⟩ := trodAll_cons rr0
  obtain ⟨rfl, rfl, rfl⟩ := trodAll_nil rr1
  obtain rfl : args = #[v0, v1] := by cases args; simp_all
  obtain ⟨rfl, rfl⟩ := trodVars_none hV
  have k0 := h0
  have lt0 : ∀ x ∈ p0, x.block < W.heap.size := by obtain ⟨m, hm⟩ := k0; exact DataW.trod_lt m _ _ _ hm
  obtain ⟨l0, xs0, w0, r0, f0, y0⟩ := open_its Try.underlying31 Try.underlying5 (by kernel_rfl) hG (hval 0 31 v0 rfl rfl) k0
  have k1 := h1
  have lt1 : ∀ x ∈ p1, x.block < W.heap.size := by obtain ⟨m, hm⟩ := k1; exact DataW.trod_lt m _ _ _ hm
  obtain ⟨l1, xs1, w1, r1, f1, y1⟩ := open_its Try.underlying31 Try.underlying5 (by kernel_rfl) hG (hval 1 31 v1 rfl rfl) k1
  clear hA0 hval0
  refine (laws_FnFractions.walk (xs0.length, xs1.length, xs0, xs1) (law_plain xs0 xs1 f0 y0 f1 y1) (ρ := fun i => (lget ([(l0, .is .u8 xs0), (l1, .is .u8 xs1)] : List (Sx.Loc × Cells)) i).map (·.1)) (Rs_cons' (r0 _ 0 rfl) (Rs_cons' (r1 _ 1 rfl) Rs_nil')) (HpR.ofRo [(l0, .is .u8 xs0), (l1, .is .u8 xs1)] ((List.forall_mem_cons.2 ⟨w0, (List.forall_mem_cons.2 ⟨w1, List.forall_mem_nil _⟩)⟩)))).mono fun e W' ⟨he, bel⟩ => ?_
  subst he
  exact ⟨_, rfl, _, _, _, [], _, [], hW', trodAll_mk1 (shut_bool Try.underlying4 _), (trodAll_cons_mk (Below.trod laidOut (by kernel_rfl) (of_decide_eq_true (by kernel_rfl)) k0 bel lt0) (trodAll_cons_mk (Below.trod laidOut (by kernel_rfl) (of_decide_eq_true (by kernel_rfl)) k1 bel lt1) trodAll_mk0)), rfl, bel.frame _, fun h => by cases h⟩
theorem over : Rows.fnFractionsRow.holds Try.pinned (OpenSpec.ofChange Rows.fnFractionsSpec) :=
  OpenClaim.holds_of_wide 4 Try.f4 rfl rfl rfl rfl rfl rfl rfl ⟨rfl, rfl, rfl, rfl, rfl⟩ rfl rfl rfl rfl rfl (by kernel_rfl) Try.func4 (by kernel_rfl)
    (of_decide_eq_true (by kernel_rfl)) (by unfold Func.isWrapper; first | (rw [if_pos (by decide +kernel)]; kernel_rfl) | (rw [if_neg (by decide +kernel)]; exact ⟨rfl, rfl⟩))
    (fun os started H enc _ => lifted os started H enc)
theorem proved : Rows.FnFractionsSaid := over
end Go.Proofs.Ytkfpmiggolmabaa
