/- For every input the call of FnDays returns true, and each argument reads afterwards as it read before; there is no condition. -/
import Derived.Test.YtffpnngoafpidaaWFnDays
import Derived.Test.YtffpnngoafpidaaSxS
import Derived.Test.YtffpnngoafpidaaSxA1
import Derived.Test.YtffpnngoafpidaaRows
import Derived.WalkKit
import Derived.ProofKit
import Derived.OpenShut
import Derived.ShutString
import Derived.ChangeOld
import Derived.Below
import Derived.Carry
import Derived.HandedShaped
namespace Go.Proofs.Ytffpnngoafpidaa
open Go Go.RowKit Sx
open Go.ChangeShapes Go.WideShapes Go.ChangeAt
set_option linter.unusedVariables false
set_option linter.unusedSimpArgs false
set_option maxRecDepth 100000

/-! Draws out of bytes: they always end, and what is drawn lies below what was asked for. -/
theorem ibits255 (a : Int) : 0 ≤ ibits .and .u64 a 255 ∧ ibits .and .u64 a 255 ≤ 255 := by
  have e : (BitVec.ofInt 64 a &&& BitVec.ofInt 64 255).toNat ≤ 255 := by
    rw [BitVec.toNat_and]
    exact Nat.le_trans Nat.and_le_right (by decide)
  have h : ibits .and .u64 a 255 = IntKind.wrap .u64 (((BitVec.ofInt 64 a &&& BitVec.ofInt 64 255).toNat : Nat) : Int) := rfl
  rw [h]
  generalize (BitVec.ofInt 64 a &&& BitVec.ofInt 64 255).toNat = q at e
  have w : IntKind.wrap .u64 (q : Int) = (q : Int) % 18446744073709551616 := rfl
  rw [w]
  omega
/-- A source of bytes that may be drawn from. -/
def srcOk (n : Nat) (xs : List Int) : Prop := xs.length = n ∧ n ≤ 4611686018427387904 ∧ ∀ x ∈ xs, 0 ≤ x ∧ x ≤ 255
theorem src_get {n : Nat} {xs : List Int} (h : srcOk n xs) (i : Nat) : 0 ≤ xs.getD i 0 ∧ xs.getD i 0 ≤ 255 := by
  by_cases hi : i < xs.length
  · have : xs.getD i 0 = xs[i] := by simp [List.getD, List.getElem?_eq_getElem hi]
    rw [this]
    exact h.2.2 _ (List.getElem_mem hi)
  · have : xs.getD i 0 = 0 := by simp [List.getD, List.getElem?_eq_none (by omega : xs.length ≤ i)]
    rw [this]
    omega
theorem next_t {n : Nat} {xs : List Int} (hs : srcOk n xs) (pos : Nat) (h : Int) (hp : pos < 4611686018427387904) : ∃ v h', (spec_l00Src_next.t n (pos : Int) h xs).get = some (v, n, ((pos + 1 : Nat) : Int), h') ∧ 0 ≤ v ∧ v ≤ 255 := by
  have hw : ∀ a, IntKind.wrap .i64 (ibits .and .u64 a 255) = ibits .and .u64 a 255 := fun a => by
    have := ibits255 a
    exact wrap64 (by omega) (by omega)
  have hg := src_get hs pos
  have hwg : IntKind.wrap .i64 (xs.getD pos 0) = xs.getD pos 0 := wrap64 (by omega) (by omega)
  simp only [spec_l00Src_next.t, T.get, bounds_nat, ble_decide, Int.toNat_natCast, Nat.mul_one, Nat.zero_add, hs.1, hw, wrap64_succ (show pos + 1 < 9223372036854775808 by omega), hwg]
  by_cases hlt : pos < n
  · rw [decide_eq_true (by omega : (pos : Int) < (n : Int)), decide_eq_true hlt, decide_eq_true (by omega : pos + 1 ≤ n), decide_eq_true (by omega : ((pos + 1 : Nat) : Int) ≤ (n : Int))]
    exact ⟨_, _, rfl, hg.1, hg.2⟩
  · rw [decide_eq_false (by omega : ¬ (pos : Int) < (n : Int))]
    cases hc : decide (((pos + 1 : Nat) : Int) ≤ (n : Int)) with
    | true => exact ⟨_, _, rfl, by omega, by omega⟩
    | false => exact ⟨_, _, rfl, (ibits255 _).1, (ibits255 _).2⟩
theorem pick_t {n : Nat} {xs : List Int} (hs : srcOk n xs) (k : Nat) (pos : Nat) (h : Int) (hp : pos < 4611686018427387000) : ∃ (v pos' : Nat) (h' : Int), (spec_l00Src_pick.t (k : Int) n (pos : Int) h xs).get = some ((v : Int), n, (pos' : Int), h') ∧ (v = 0 ∨ v < k) ∧ pos' ≤ pos + 2 := by
  simp only [spec_l00Src_pick.t, T.get]
  by_cases h1 : k ≤ 1
  · rw [decide_eq_true (by omega : (k : Int) ≤ 1)]
    exact ⟨0, pos, h, rfl, .inl rfl, by omega⟩
  · rw [decide_eq_false (by omega : ¬ (k : Int) ≤ 1)]
    obtain ⟨v, h', q1, q2, q3⟩ := next_t hs pos h (by omega)
    obtain ⟨v2, h2, r1, r2, r3⟩ := next_t hs (pos + 1) h' (by omega)
    obtain ⟨v, rfl⟩ : ∃ w : Nat, v = w := ⟨v.toNat, by omega⟩
    obtain ⟨v2, rfl⟩ : ∃ w : Nat, v2 = w := ⟨v2.toNat, by omega⟩
    have hk0 : ((k : Int) == 0) = false := by
      rw [beq_eq_false_iff_ne]
      omega
    have e0 : IntKind.wrap .i64 ((v : Int) * 256) = ((v * 256 : Nat) : Int) := wrap64_of (by omega) (by omega)
    have e1 : IntKind.wrap .i64 (((v * 256 : Nat) : Int) + (v2 : Int)) = ((v * 256 + v2 : Nat) : Int) := wrap64_of (by omega) (by omega)
    have t1 : Int.tmod ((v * 256 + v2 : Nat) : Int) (k : Int) = (((v * 256 + v2) % k : Nat) : Int) := by rw [Int.ofNat_tmod]
    have t2 : Int.tmod (v : Int) (k : Int) = ((v % k : Nat) : Int) := by rw [Int.ofNat_tmod]
    simp only [show spec_l00Src_next.ok n (pos : Int) h xs = true from T.ok_of_get (q1), show spec_l00Src_next n (pos : Int) h xs = _ from T.val_of_get (q1), show spec_l00Src_next.ok n ((pos + 1 : Nat) : Int) h' xs = true from T.ok_of_get (r1), show spec_l00Src_next n ((pos + 1 : Nat) : Int) h' xs = _ from T.val_of_get (r1), hk0, e0, e1, t1, t2]
    by_cases h2 : k > 200
    · rw [decide_eq_true (by omega : (k : Int) > 200)]
      exact ⟨_, pos + 1 + 1, _, rfl, .inr (Nat.mod_lt _ (by omega)), by omega⟩
    · rw [decide_eq_false (by omega : ¬ (k : Int) > 200)]
      exact ⟨_, pos + 1, _, rfl, .inr (Nat.mod_lt _ (by omega)), by omega⟩
theorem one_t {n : Nat} {xs : List Int} (hs : srcOk n xs) (k : Nat) (pos : Nat) (h : Int) (hp : pos < 4611686018427387000) : ∃ (b : Bool) (pos' : Nat) (h' : Int), (spec_l00Src_one.t (k : Int) n (pos : Int) h xs).get = some (b, n, (pos' : Int), h') ∧ pos' ≤ pos + 2 := by
  obtain ⟨v, pos', h', q1, _, q3⟩ := pick_t hs k pos h hp
  simp only [spec_l00Src_one.t, T.get, show spec_l00Src_pick.ok (k : Int) n (pos : Int) h xs = true from T.ok_of_get (q1), show spec_l00Src_pick (k : Int) n (pos : Int) h xs = _ from T.val_of_get (q1)]
  exact ⟨_, pos', h', rfl, q3⟩

/-- A float that is a number, not below nought, and about 2 ^ K at most. -/
def Fin32 (K : Int) (b : Nat) : Prop := ∃ s m e, FloatKind.f32.format.read b = .number s m e ∧ (s = true → m = 0) ∧ m < 2 ^ 24 ∧ e + 23 ≤ K
theorem fin_mono {J K : Int} {b : Nat} (h : Fin32 J b) (hk : J ≤ K) : Fin32 K b := by
  obtain ⟨s, m, e, h1, h2, h3, h4⟩ := h
  exact ⟨s, m, e, h1, h2, h3, by omega⟩
theorem neg_zero : FloatKind.f32.format.read (FloatKind.f32.format.word true 0) = .number true 0 (-149) := by kernel_rfl
theorem fin_enc {s : Bool} {m : Nat} {p K : Int} (hs : s = true → m = 0) (hK : m ≠ 0 → p + (m.log2 : Int) ≤ K) (h0 : -126 ≤ K) (h1 : K ≤ 120) : Fin32 (K + 1) (nz .f32 (FloatKind.f32.format.nearest s m p)) := by
  rw [nz_of_not (nearest_num .f32 s m p)]
  have e1 : FloatKind.f32.format.leastPlace = -149 := by kernel_rfl
  have e2 : FloatKind.f32.format.fractionBits = 23 := rfl
  have e3 : FloatKind.f32.format.binade = 8388608 := by kernel_rfl
  have e4 : FloatKind.f32.format.infRung = 2139095040 := by kernel_rfl
  obtain ⟨m', e', h3, h4, h5⟩ := enc_le FloatKind.f32.format s m p K hK (by rw [e1, e2]; omega) (by rw [e1, e2, e3, e4]; omega)
  rw [e2] at h4 h5
  refine ⟨s, m', e', h3, fun h => ?_, h4, by omega⟩
  subst h
  have hm := hs rfl
  subst hm
  have e : FloatKind.f32.format.nearest true 0 p = FloatKind.f32.format.word true 0 := by simp [Ieee.Format.nearest]
  rw [e, neg_zero] at h3
  cases h3
  rfl
theorem log2_le {m a : Nat} (hm : m ≠ 0) (h : m < 2 ^ (a + 1)) : m.log2 ≤ a := by
  have := (Nat.log2_lt hm).2 h
  omega
theorem signed_nn {s : Bool} {m : Nat} (h : s = true → m = 0) (u : Nat) : Ieee.signed s m u = ((m * 2 ^ u : Nat) : Int) := by
  cases s with
  | false => exact signed_f m u
  | true => rw [h rfl, signed_zero]; simp
theorem fin_add {K : Int} {a b : Nat} (ha : Fin32 K a) (hb : Fin32 K b) (h0 : -126 ≤ K) (h1 : K ≤ 110) : Fin32 (K + 2) (fadd .f32 a b) := by
  obtain ⟨s, m, i, r1, s1, l1, k1⟩ := ha
  obtain ⟨t, n, j, r2, s2, l2, k2⟩ := hb
  unfold fadd Ieee.Format.add
  rw [r1, r2]
  simp only [Ieee.Datum.sum, Option.map_some, Option.getD_some, Ieee.Format.write]
  rw [signed_nn s1, signed_nn s2]
  generalize hx : (i - min i j).toNat = x
  generalize hy : (j - min i j).toNat = y
  have hsum : ((m * 2 ^ x : Nat) : Int) + ((n * 2 ^ y : Nat) : Int) = ((m * 2 ^ x + n * 2 ^ y : Nat) : Int) := by omega
  rw [hsum, Int.natAbs_natCast]
  have hlt : m * 2 ^ x + n * 2 ^ y < 2 ^ (24 + (max x y) + 1) := by
    have h3 : m * 2 ^ x ≤ 2 ^ 24 * 2 ^ (max x y) := Nat.mul_le_mul (Nat.le_of_lt l1) (Nat.pow_le_pow_right (by omega) (Nat.le_max_left _ _))
    have h4 : n * 2 ^ y < 2 ^ 24 * 2 ^ (max x y) := Nat.lt_of_lt_of_le (Nat.mul_lt_mul_of_pos_right l2 (Nat.two_pow_pos _)) (Nat.mul_le_mul_left _ (Nat.pow_le_pow_right (by omega) (Nat.le_max_right _ _)))
    rw [← Nat.pow_add] at h3 h4
    rw [Nat.pow_succ]
    omega
  generalize hz : m * 2 ^ x + n * 2 ^ y = z at hlt
  refine fin_mono (fin_enc (K := K + 1) (fun hs => ?_) (fun hz => ?_) (by omega) (by omega)) (by omega)
  · split at hs
    · rename_i h; omega
    · simp at hs; omega
  · have := log2_le hz hlt
    omega
theorem fin_mul {J K : Int} {a b : Nat} (ha : Fin32 J a) (hb : Fin32 K b) (h0 : -126 ≤ J + K) (h1 : J + K ≤ 110) : Fin32 (J + K + 2) (fmul .f32 a b) := by
  obtain ⟨s, m, i, r1, s1, l1, k1⟩ := ha
  obtain ⟨t, n, j, r2, s2, l2, k2⟩ := hb
  unfold fmul Ieee.Format.mul
  rw [r1, r2]
  simp only [Ieee.Datum.product, Option.map_some, Option.getD_some, Ieee.Format.write]
  refine fin_mono (fin_enc (K := J + K + 1) (fun hs => ?_) (fun hz => ?_) (by omega) (by omega)) (by omega)
  · cases s with
    | true => rw [s1 rfl, Nat.zero_mul]
    | false =>
      cases t with
      | true => rw [s2 rfl, Nat.mul_zero]
      | false => cases hs
  · have hlt : m * n < 2 ^ (47 + 1) := by
      have := Nat.mul_lt_mul'' l1 l2
      rwa [← Nat.pow_add] at this
    have := log2_le hz hlt
    omega
theorem fin_half {K : Int} {a : Nat} (ha : Fin32 K a) (h0 : -120 ≤ K) (h1 : K ≤ 110) : Fin32 K (fdiv .f32 a 1073741824) := by
  obtain ⟨s, m, i, r1, s1, l1, k1⟩ := ha
  have r2 : FloatKind.f32.format.read 1073741824 = .number false 8388608 (-22) := by kernel_rfl
  unfold fdiv Ieee.Format.div
  rw [r1, r2]
  have hl : Nat.log2 8388608 = 23 := by decide +kernel
  have hd : FloatKind.f32.format.fractionBits + 2 = 25 := rfl
  simp only [Ieee.Datum.quotient, hl, hd, Option.map_some, Option.getD_some, Ieee.Format.write, Bool.xor_false, Nat.shiftLeft_eq, reduceIte, show ¬ (8388608 = 0) by decide]
  by_cases hm : m = 0
  · subst hm
    refine fin_mono (fin_enc (K := K - 1) (fun hs => ?_) (fun hz => ?_) (by omega) (by omega)) (by omega)
    · simp
    · exact absurd (by simp) hz
  · have hlog : m.log2 ≤ 23 := log2_le hm l1
    have hlt : m < 2 ^ (m.log2 + 1) := Nat.lt_log2_self
    have hq : m * 2 ^ (25 + 23 - m.log2) / 8388608 < 2 ^ 26 := by
      refine (Nat.div_lt_iff_lt_mul (by decide)).2 ?_
      have h3 : m * 2 ^ (25 + 23 - m.log2) < 2 ^ (m.log2 + 1) * 2 ^ (25 + 23 - m.log2) := Nat.mul_lt_mul_of_pos_right hlt (Nat.two_pow_pos _)
      rw [← Nat.pow_add, show m.log2 + 1 + (25 + 23 - m.log2) = 49 by omega] at h3
      exact h3
    generalize m * 2 ^ (25 + 23 - m.log2) / 8388608 = q at hq
    generalize hb : (m * 2 ^ (25 + 23 - m.log2) % 8388608 != 0) = b
    have hbn := Bool.toNat_le b
    refine fin_mono (fin_enc (K := K - 1) (fun hs => absurd (s1 hs) hm) (fun hz => ?_) (by omega) (by omega)) (by omega)
    have := log2_le (a := 26) hz (by omega)
    omega
theorem fin_zero : Fin32 0 0 := ⟨false, 0, -149, by kernel_rfl, fun h => (by cases h), by decide, by omega⟩
theorem fin_top : Fin32 10 1149239296 := ⟨false, 8388608, -13, by kernel_rfl, fun h => (by cases h), by decide, by omega⟩
theorem fin_million : Fin32 20 1233125376 := ⟨false, 8388608, -3, by kernel_rfl, fun h => (by cases h), by decide, by omega⟩
theorem fin_gt {K : Int} {a : Nat} (ha : Fin32 K a) : fgt .f32 a 3212836864 = true := by
  obtain ⟨s, m, i, r1, s1, l1, k1⟩ := ha
  have r2 : FloatKind.f32.format.read 3212836864 = .number true 8388608 (-23) := by kernel_rfl
  unfold fgt Ieee.Format.order
  rw [r1, r2]
  simp only [Ieee.Datum.order]
  rw [signed_nn s1, signed_t]
  have hp : 0 < 8388608 * 2 ^ (-23 - min i (-23)).toNat := Nat.mul_pos (by decide) (Nat.two_pow_pos _)
  have : compare ((m * 2 ^ (i - min i (-23)).toNat : Nat) : Int) (-((8388608 * 2 ^ (-23 - min i (-23)).toNat : Nat) : Int)) = .gt := Int.compare_eq_gt.2 (by omega)
  rw [this]
  rfl
theorem read_shape {x : Nat} {s : Bool} {m : Nat} {i : Int} (h : FloatKind.f32.format.read x = .number s m i) : m < 2 ^ 24 ∧ (i = -149 ∨ 8388608 ≤ m) := by
  have e1 : FloatKind.f32.format.leastPlace = -149 := by kernel_rfl
  have e3 : FloatKind.f32.format.binade = 8388608 := by kernel_rfl
  unfold Ieee.Format.read at h
  dsimp only at h
  rw [e1, e3] at h
  split at h
  · rename_i hr
    cases h
    exact ⟨by omega, .inl rfl⟩
  · split at h
    · cases h
      have := Nat.mod_lt (x % FloatKind.f32.format.signWeight) (show 0 < 8388608 by decide)
      exact ⟨by omega, .inr (by omega)⟩
    · split at h <;> cases h
/-- What lies between nought and a bound that is a power of two. -/
theorem fin_range {x c : Nat} {e : Int} (hc : FloatKind.f32.format.read c = .number false 8388608 e) (h1 : fge .f32 x 0 = true) (h2 : fle .f32 x c = true) (he : -140 ≤ e) : Fin32 (e + 23) x := by
  have r0 : FloatKind.f32.format.read 0 = .number false 0 (-149) := by kernel_rfl
  unfold fge Ieee.Format.order at h1
  unfold fle Ieee.Format.order at h2
  rw [r0] at h1
  rw [hc] at h2
  cases hx : FloatKind.f32.format.read x with
  | nan s t => rw [hx] at h1; cases h1
  | infinity s => rw [hx] at h1 h2; cases s <;> simp [Ieee.Datum.order] at h1 h2
  | number s m i =>
    rw [hx] at h1 h2
    obtain ⟨l1, l2⟩ := read_shape hx
    simp only [Ieee.Datum.order, signed_zero] at h1
    have hs : s = true → m = 0 := by
      intro hs
      subst hs
      rw [signed_t] at h1
      have hge : ¬ (-((m * 2 ^ (i - min i (-149)).toNat : Nat) : Int) < 0) := by
        intro hlt
        rw [Int.compare_eq_lt.2 hlt] at h1
        cases h1
      have h3 : m * 2 ^ (i - min i (-149)).toNat = 0 := by omega
      rcases Nat.mul_eq_zero.1 h3 with h | h
      · exact h
      · exact absurd h (by have := Nat.two_pow_pos (i - min i (-149)).toNat; omega)
    refine ⟨s, m, i, hx, hs, l1, ?_⟩
    rcases l2 with l2 | l2
    · omega
    · refine Int.not_lt.1 fun hlt => ?_
      simp only [Ieee.Datum.order, signed_nn hs, signed_f] at h2
      have hmin : min i e = e := by omega
      rw [hmin, show (e - e).toNat = 0 by omega, Nat.pow_zero, Nat.mul_one] at h2
      have h5 : 8388608 * 2 ≤ m * 2 ^ (i - e).toNat := Nat.mul_le_mul l2 (by
        have : 2 ^ 1 ≤ 2 ^ (i - e).toNat := Nat.pow_le_pow_right (by omega) (by omega)
        exact this)
      have : compare ((m * 2 ^ (i - e).toNat : Nat) : Int) ((8388608 : Nat) : Int) = .gt := Int.compare_eq_gt.2 (by omega)
      rw [this] at h2
      cases h2
theorem fin_rate {x : Nat} (h : spec_l04Rate x = true) : Fin32 10 x := by
  simp only [spec_l04Rate, spec_l04Rate.t, T.val] at h
  cases h1 : fge .f32 x 0 with
  | false => rw [h1] at h; cases h
  | true =>
    rw [h1] at h
    exact fin_range (e := -13) (by kernel_rfl) h1 h (by omega)
theorem fin_part {x : Nat} (h : spec_l01Part x = true) : Fin32 0 x := by
  simp only [spec_l01Part, spec_l01Part.t, T.val] at h
  cases h1 : fge .f32 x 0 with
  | false => rw [h1] at h; cases h
  | true =>
    rw [h1] at h
    exact fin_range (e := -23) (by kernel_rfl) h1 h (by omega)

/-! Numbers that are not below nought: their order is that of their rungs; bounded ones. -/
theorem fle_nn {a b : Nat} (ha : Nn a) (hb : Nn b) : fle .f32 a b = decide (rg a ≤ rg b) := by
  unfold fle
  rw [nn_order ha hb]
  rcases Nat.lt_trichotomy (rg a) (rg b) with h | h | h
  · rw [Nat.compare_eq_lt.2 h, decide_eq_true (by omega)]; rfl
  · rw [Nat.compare_eq_eq.2 h, decide_eq_true (by omega)]; rfl
  · rw [Nat.compare_eq_gt.2 h, decide_eq_false (by omega)]; rfl
theorem fgt_nn {a b : Nat} (ha : Nn a) (hb : Nn b) : fgt .f32 a b = decide (rg b < rg a) := by
  unfold fgt
  rw [nn_order ha hb]
  rcases Nat.lt_trichotomy (rg a) (rg b) with h | h | h
  · rw [Nat.compare_eq_lt.2 h, decide_eq_false (by omega)]; rfl
  · rw [Nat.compare_eq_eq.2 h, decide_eq_false (by omega)]; rfl
  · rw [Nat.compare_eq_gt.2 h, decide_eq_true (by omega)]; rfl
theorem flt_nn {a b : Nat} (ha : Nn a) (hb : Nn b) : flt .f32 a b = decide (rg a < rg b) := by rw [← fgt_flip, fgt_nn hb ha]
/-- Not below nought, and no more than a bound, by its word. -/
def Nb (K x : Nat) : Prop := Nn x ∧ rg x ≤ K
theorem nb_self {K : Nat} (h : K < 2139095040) : Nn K ∧ rg K = K := ⟨.inl h, by unfold rg; omega⟩
theorem nb_mono {J K x : Nat} (h : Nb J x) (hk : J ≤ K) : Nb K x := ⟨h.1, Nat.le_trans h.2 hk⟩
theorem nb_add {J K L a b : Nat} (ha : Nb J a) (hb : Nb K b) (hJ : J < 2139095040) (hK : K < 2139095040) (h : decide (rg (fadd .f32 J K) ≤ L) = true) (hL : L < 2139095040) : Nb L (fadd .f32 a b) := by
  have h1 : rg (fadd .f32 a b) ≤ L := Nat.le_trans (add_mono ha.1 (nb_self hJ).1 hb.1 (nb_self hK).1 (by rw [(nb_self hJ).2]; exact ha.2) (by rw [(nb_self hK).2]; exact hb.2)) (of_decide_eq_true h)
  exact ⟨nn_add ha.1 hb.1 (by omega), h1⟩
theorem nb_mul {J K L a b : Nat} (ha : Nb J a) (hb : Nb K b) (hJ : J < 2139095040) (hK : K < 2139095040) (h : decide (rg (fmul .f32 J K) ≤ L) = true) (hL : L < 2139095040) : Nb L (fmul .f32 a b) := by
  have h1 : rg (fmul .f32 a b) ≤ L := Nat.le_trans (mul_mono ha.1 (nb_self hJ).1 hb.1 (nb_self hK).1 (by rw [(nb_self hJ).2]; exact ha.2) (by rw [(nb_self hK).2]; exact hb.2)) (of_decide_eq_true h)
  exact ⟨nn_mul ha.1 hb.1 (by omega), h1⟩

/-! The halving of speeds between 0 and 1024: what holds after each round. -/
def bs (L : Nat → Nat) (t : Nat) : Nat → Nat × Nat
  | 0 => (0, 1149239296)
  | i + 1 => bif fgt .f32 (L (fdiv .f32 (fadd .f32 (bs L t i).1 (bs L t i).2) 1073741824)) t then ((bs L t i).1, fdiv .f32 (fadd .f32 (bs L t i).1 (bs L t i).2) 1073741824) else (fdiv .f32 (fadd .f32 (bs L t i).1 (bs L t i).2) 1073741824, (bs L t i).2)
theorem bs_ok (L : Nat → Nat) (t : Nat) (h0 : fgt .f32 (L 0) t = false) : ∀ i, Nb 1149239296 (bs L t i).1 ∧ Nb 1149239296 (bs L t i).2 ∧ rg (bs L t i).1 ≤ rg (bs L t i).2 ∧ fgt .f32 (L (bs L t i).1) t = false
  | 0 => ⟨(⟨.inl (by decide), by decide⟩ : Nb 1149239296 0), (⟨.inl (by decide), by decide⟩ : Nb 1149239296 1149239296), (by decide : rg 0 ≤ rg 1149239296), h0⟩
  | i + 1 => by
    obtain ⟨a1, a2, a3, a4⟩ := bs_ok L t h0 i
    obtain ⟨m1, m2, m3⟩ := half_between a1.1 a2.1 a3 (by have := a2.2; omega)
    have hb := a2.2
    rw [bs]
    cases hc : fgt .f32 (L (fdiv .f32 (fadd .f32 (bs L t i).1 (bs L t i).2) 1073741824)) t with
    | true => exact ⟨a1, ⟨m1, Nat.le_trans m3 hb⟩, m2, a4⟩
    | false => exact ⟨⟨m1, Nat.le_trans m3 hb⟩, a2, m3, hc⟩
theorem bs_step (L : Nat → Nat) (t : Nat) (h0 : fgt .f32 (L 0) t = false) (i : Nat) : rg (bs L t i).1 ≤ rg (bs L t (i + 1)).1 := by
  obtain ⟨a1, a2, a3, a4⟩ := bs_ok L t h0 i
  obtain ⟨m1, m2, m3⟩ := half_between a1.1 a2.1 a3 (by have := a2.2; omega)
  rw [bs]
  cases fgt .f32 (L (fdiv .f32 (fadd .f32 (bs L t i).1 (bs L t i).2) 1073741824)) t with
  | true => exact Nat.le_refl _
  | false => exact m2
theorem bs_mono (L : Nat → Nat) (t : Nat) (h0 : fgt .f32 (L 0) t = false) (i : Nat) : ∀ j, rg (bs L t i).1 ≤ rg (bs L t (i + j)).1
  | 0 => Nat.le_refl _
  | j + 1 => Nat.le_trans (bs_mono L t h0 i j) (bs_step L t h0 (i + j))

def laws_toStone (x0 x1 x2 x3 : Nat) := (x0, x1, x2, x3)
theorem rate_eq (x : Nat) : impl_IsRate x = spec_l04Rate x := by
  simp only [impl_IsRate, impl_IsRate.t, impl_between, impl_between.t, spec_l04Rate, spec_l04Rate.t, T.val, fge_flip]

theorem part_eq (x : Nat) : impl_IsPart x = spec_l01Part x := by
  simp only [impl_IsPart, impl_IsPart.t, impl_between, impl_between.t, spec_l01Part, spec_l01Part.t, T.val, fge_flip]

theorem valid_eq (x0 x1 x2 x3 : Nat) : impl_ValidStone x0 x1 x2 x3 = spec_l04Ok x0 x1 x2 x3 := by
  simp only [impl_ValidStone, impl_ValidStone.t, spec_l04Ok, spec_l04Ok.t, T.val, rate_eq, part_eq]

theorem stone_eq (x0 x1 x2 x3 : Nat) : laws_toStone x0 x1 x2 x3 = (x0, x1, x2, x3) := rfl

theorem amount_eq (x : Nat) : impl_isAmount x = spec_l03Amount x := by
  simp only [impl_isAmount, impl_isAmount.t, impl_between, impl_between.t, spec_l03Amount, spec_l03Amount.t, T.val, fge_flip]

-- lies in the core (SxQ)

theorem rate_0 : spec_l04Rate 0 = true := by kernel_rfl
theorem load1_eq (x0 x1 x2 x3 a b : Nat) : impl_Stone_load a b x0 x1 x2 x3 = spec_l04Load x0 x1 x2 x3 a b := rfl
theorem sum_r (x0 x1 x2 x3 a b : Nat) : spec_l04Sum.l3.r (1, a, b, [x0, x1, x2, x3]) (0, 0) = some (fadd .f32 0 (spec_l04Load x0 x1 x2 x3 a b)) := by
  have hf := iter_run (step := spec_l04Sum.l3.st (1, a, b, [x0, x1, x2, x3])) (f := fun i => if i = 0 then (0, 0) else (fadd .f32 0 (spec_l04Load x0 x1 x2 x3 a b), 1)) (e := fadd .f32 0 (spec_l04Load x0 x1 x2 x3 a b)) (n := 1) (N := manyRounds) (k := 0)
    (many_lt (by omega)) (fun i hi => ?_) ?_
  · exact hf
  · have : i = 0 := by omega
    subst this
    rfl
  · rfl
theorem sum_t (x0 x1 x2 x3 a b : Nat) : (spec_l04Sum.t 1 a b [x0, x1, x2, x3]).get = some (fadd .f32 0 (spec_l04Load x0 x1 x2 x3 a b)) := by
  simp only [spec_l04Sum.t, T.get, sum_r]
  rfl
theorem sum_ok (x0 x1 x2 x3 a b : Nat) : spec_l04Sum.ok 1 a b [x0, x1, x2, x3] = true := T.ok_of_get (sum_t x0 x1 x2 x3 a b)
theorem sum_eq (x0 x1 x2 x3 a b : Nat) : spec_l04Sum 1 a b [x0, x1, x2, x3] = fadd .f32 0 (spec_l04Load x0 x1 x2 x3 a b) := T.val_of_get (sum_t x0 x1 x2 x3 a b)
theorem sum_gt (x0 x1 x2 x3 a b c : Nat) : fgt .f32 (spec_l04Sum 1 a b [x0, x1, x2, x3]) c = fgt .f32 (spec_l04Load x0 x1 x2 x3 a b) c := by
  rw [sum_eq]
  exact add_zero_gt .f32 _ c (fadd_has .f32 _ _)
theorem bisect (x0 x1 x2 x3 t f : Nat) (n : Int) (hn : n ≤ 60) : ∃ e, spec_l04Steady.l6.r (1, t, f, n, [x0, x1, x2, x3]) (0, 1149239296, 0) = some e ∧ impl_steady.l3.r (t, n, f, x0, x1, x2, x3) (0, 1149239296, 0) = some e := by
  obtain ⟨e, e', h1, h2, rfl⟩ := iter_two (step := spec_l04Steady.l6.st (1, t, f, n, [x0, x1, x2, x3])) (step' := impl_steady.l3.st (t, n, f, x0, x1, x2, x3)) (R := fun s t => s = t ∧ ∃ i : Nat, i ≤ 61 ∧ s.2.2 = (i : Int)) (E := fun e e' => e = e') (fun s => 61 - s.2.2.toNat) (by
    rintro ⟨a, b, c⟩ _ ⟨rfl, i, hi, hc⟩
    dsimp only at hc
    subst hc
    simp only [spec_l04Steady.l6.st, spec_l04Steady.l6.s, impl_steady.l3.st, impl_steady.l3.s, T.get, sum_ok, sum_gt, impl_halved, impl_halved.t, impl_Stone_steadySpeed_1, impl_Stone_steadySpeed_1.t, T.val, load1_eq]
    by_cases hlt : (i : Int) < n
    · rw [decide_eq_true hlt, wrap64_succ (by omega)]
      simp only [cond_true]
      cases fgt .f32 (spec_l04Load x0 x1 x2 x3 (fdiv .f32 (fadd .f32 a b) 1073741824) f) t with
      | true => exact .inl ⟨_, _, rfl, rfl, ⟨rfl, i + 1, by omega, rfl⟩, by dsimp only; omega⟩
      | false => exact .inl ⟨_, _, rfl, rfl, ⟨rfl, i + 1, by omega, rfl⟩, by dsimp only; omega⟩
    · rw [decide_eq_false hlt]
      exact .inr ⟨_, _, rfl, rfl, rfl⟩) manyRounds (0, 1149239296, 0) (0, 1149239296, 0) ⟨rfl, 0, by omega, rfl⟩ (many_lt (by simp))
  exact ⟨e, h1, h2⟩
theorem steady_t (x0 x1 x2 x3 t f : Nat) (n : Int) (hn : n ≤ 60) : ∃ r, (spec_l04Steady.t 1 t f n [x0, x1, x2, x3]).get = some r ∧ (impl_Stone_steadySpeed.t t f n x0 x1 x2 x3).get = some r := by
  obtain ⟨e, h1, h2⟩ := bisect x0 x1 x2 x3 t f n hn
  have h3 : (impl_steady.t t n f x0 x1 x2 x3).get = some e := by
    simp only [impl_steady.t, T.get, h2]
    rfl
  simp only [spec_l04Steady.t, impl_Stone_steadySpeed.t, T.get, sum_ok, sum_gt, impl_Stone_steadySpeed_1, impl_Stone_steadySpeed_1.t, T.val, load1_eq, h1, cond_true]
  rw [show impl_steady.ok t n f x0 x1 x2 x3 = true from T.ok_of_get h3, show impl_steady t n f x0 x1 x2 x3 = e from T.val_of_get h3]
  cases fgt .f32 (spec_l04Load x0 x1 x2 x3 0 f) t <;> exact ⟨_, rfl, rfl⟩

-- lies in the core (SxQ)

theorem least_eq (x : Nat) : impl_atLeast0 x = spec_l03Least x := by
  simp only [impl_atLeast0, impl_atLeast0.t, spec_l03Least, spec_l03Least.t, T.val]

theorem dull_eq (x0 x1 x2 x3 x4 : Nat) : impl_Stone_dull x4 x0 x1 x2 x3 = spec_l04Dulled x0 x1 x2 x3 x4 := by
  simp only [impl_Stone_dull, impl_Stone_dull.t, spec_l04Dulled, spec_l04Dulled.t, T.val, least_eq]
theorem hour_t (x0 x1 x2 x3 x4 x5 : Nat) : ∃ a b c d f, (spec_l04Hour.t x0 x1 x2 x3 x4 x5).get = some (a, b, c, d, f) ∧ (impl_Stone_hour.t x4 x5 x0 x1 x2 x3).get = some (f, a, b, c, d) := by
  obtain ⟨⟨s, ok⟩, h1, h2⟩ := steady_t x0 x1 x2 x3 x4 x5 40 (by omega)
  simp only [spec_l04Hour.t, impl_Stone_hour.t, T.get, impl_Stone_flour, impl_Stone_flour.t, spec_l04Flour, spec_l04Flour.t, T.val, fmin_amount, dull_eq,
    show spec_l04Steady.ok 1 x4 x5 40 [x0, x1, x2, x3] = true from T.ok_of_get h1, show spec_l04Steady 1 x4 x5 40 [x0, x1, x2, x3] = (s, ok) from T.val_of_get h1,
    show impl_Stone_steadySpeed.ok x4 x5 40 x0 x1 x2 x3 = true from T.ok_of_get h2, show impl_Stone_steadySpeed x4 x5 40 x0 x1 x2 x3 = (s, ok) from T.val_of_get h2]
  cases ok
  · exact ⟨_, _, _, _, _, rfl, rfl⟩
  · cases fgt .f32 (fmul .f32 (fmul .f32 s x5) x3) 1233125376 <;> exact ⟨_, _, _, _, _, rfl, rfl⟩

/-! Drawn stones. -/
/-- A rate that is no more than a bound, by its word. -/
noncomputable def okF (K x : Nat) : Bool := decide (x < 2139095040) && decide (x ≤ K) && spec_l04Rate x
theorem okF_mono {J K x : Nat} (h : okF J x = true) (hk : J ≤ K) : okF K x = true := by
  simp only [okF, Bool.and_eq_true, decide_eq_true_eq] at h ⊢
  exact ⟨⟨h.1.1, by omega⟩, h.2⟩
def val (v : Int) (c : Nat) : Nat := fdiv .f32 (fofint .f32 v) c
theorem vals {n c K : Nat} (h : (List.range n).all (fun v => okF K (val (v : Int) c)) = true) (hn : 0 < n) {v : Nat} (hv : v = 0 ∨ v < n) : okF K (val (v : Int) c) = true := by
  rw [List.all_eq_true] at h
  exact h v (List.mem_range.2 (by omega))
theorem val32 : (List.range 32).all (fun v => okF 1090519040 (val (v : Int) 1082130432)) = true := by kernel_rfl
theorem val16 : (List.range 16).all (fun v => okF 1090519040 (val (v : Int) 1090519040)) = true := by kernel_rfl
theorem val24 : (List.range 24).all (fun v => okF 1090519040 (val (v : Int) 1090519040)) = true := by kernel_rfl
theorem val64 : (List.range 64).all (fun v => okF 1090519040 (val (v : Int) 1090519040)) = true := by kernel_rfl
theorem val17 : (List.range 17).all (fun v => okF 1065353216 (val (v : Int) 1098907648)) = true := by kernel_rfl
theorem val200 : (List.range 200).all (fun v => okF 1112014848 (val (v : Int) 1082130432)) = true := by kernel_rfl
/-- A drawn stone: each of its numbers is a small one. -/
def Stony (a b c d : Nat) : Prop := okF 1090519040 a = true ∧ okF 1090519040 b = true ∧ okF 1090519040 c = true ∧ okF 1065353216 d = true
theorem stone_t {n : Nat} {xs : List Int} (hs : srcOk n xs) : ∃ a b c d, (spec_P6Stone.t n xs).get = some (a, b, c, d) ∧ Stony a b c d := by
  obtain ⟨v1, p1, h1, q1, g1, l1⟩ := pick_t hs 32 0 0 (by omega)
  obtain ⟨v2, p2, h2, q2, g2, l2⟩ := pick_t hs 16 p1 h1 (by omega)
  obtain ⟨v3, p3, h3, q3, g3, l3⟩ := pick_t hs 24 p2 h2 (by omega)
  obtain ⟨b4, p4, h4, q4, l4⟩ := one_t hs 2 p3 h3 (by omega)
  obtain ⟨v5, p5, h5, q5, g5, l5⟩ := pick_t hs 17 p4 h4 (by omega)
  have a1 := vals val32 (by omega) g1
  have a2 := vals val16 (by omega) g2
  have a3 := vals val24 (by omega) g3
  have a5 := vals val17 (by omega) g5
  have hd : ∃ a b c d pos h, (spec_l04Drawn.t n 0 0 xs).get = some (a, b, c, d, n, pos, h) ∧ Stony a b c d := by
    simp only [spec_l04Drawn.t, T.get, Int.ofNat_zero, show spec_l00Src_pick.ok 32 n 0 0 xs = true from T.ok_of_get (q1), show spec_l00Src_pick 32 n 0 0 xs = _ from T.val_of_get (q1), show spec_l00Src_pick.ok 16 n (p1 : Int) h1 xs = true from T.ok_of_get (q2), show spec_l00Src_pick 16 n (p1 : Int) h1 xs = _ from T.val_of_get (q2), show spec_l00Src_pick.ok 24 n (p2 : Int) h2 xs = true from T.ok_of_get (q3), show spec_l00Src_pick 24 n (p2 : Int) h2 xs = _ from T.val_of_get (q3), show spec_l00Src_one.ok 2 n (p3 : Int) h3 xs = true from T.ok_of_get (q4), show spec_l00Src_one 2 n (p3 : Int) h3 xs = _ from T.val_of_get (q4), show spec_l00Src_pick.ok 17 n (p4 : Int) h4 xs = true from T.ok_of_get (q5), show spec_l00Src_pick 17 n (p4 : Int) h4 xs = _ from T.val_of_get (q5)]
    cases b4 with
    | true => exact ⟨_, _, _, _, _, _, rfl, a1, a2, a3, a5⟩
    | false => exact ⟨_, _, _, 1065353216, _, _, rfl, a1, a2, a3, by kernel_rfl⟩
  obtain ⟨a, b, c, d, pos, h, r1, r2⟩ := hd
  simp only [spec_P6Stone.t, T.get, spec_l00From, spec_l00From.t, T.val, show spec_l04Drawn.ok n 0 0 xs = true from T.ok_of_get (r1), show spec_l04Drawn n 0 0 xs = _ from T.val_of_get (r1)]
  exact ⟨a, b, c, d, rfl, r2⟩
theorem p6pick_t {n : Nat} {xs : List Int} (hs : srcOk n xs) (k : Nat) : ∃ v : Nat, (spec_P6Pick.t n (k : Int) xs).get = some (v : Int) ∧ (v = 0 ∨ v < k) := by
  obtain ⟨v1, p1, h1, q1, g1, l1⟩ := pick_t hs k 0 0 (by omega)
  simp only [spec_P6Pick.t, T.get, spec_l00From, spec_l00From.t, T.val, show spec_l00Src_pick.ok (k : Int) n 0 0 xs = true from T.ok_of_get (q1), show spec_l00Src_pick (k : Int) n 0 0 xs = _ from T.val_of_get (q1)]
  exact ⟨v1, rfl, g1⟩
theorem okF_nb {K x : Nat} (h : okF K x = true) : Nb K x := by
  simp only [okF, Bool.and_eq_true, decide_eq_true_eq] at h
  exact ⟨.inl h.1.1, by have := (nb_self h.1.1).2; omega⟩
theorem okF_rate {K x : Nat} (h : okF K x = true) : spec_l04Rate x = true := by
  simp only [okF, Bool.and_eq_true, decide_eq_true_eq] at h
  exact h.2
/-- 1025.0 and 9.0 by their words; a load stays small. -/
theorem load_nb {a b c d u f : Nat} (h : Stony a b c d) (hu : Nb 1149247488 u) (hf : Nb 1091567616 f) : Nb 1176256512 (spec_l04Load a b c d u f) := by
  have e : spec_l04Load a b c d u f = fadd .f32 (fadd .f32 a (fmul .f32 b u)) (fmul .f32 c f) := rfl
  rw [e]
  have h1 : Nb 1174413312 (fmul .f32 b u) := nb_mul (okF_nb h.2.1) hu (by omega) (by omega) (by kernel_rfl) (by omega)
  have h2 : Nb 1175413312 (fadd .f32 a (fmul .f32 b u)) := nb_add (okF_nb h.1) h1 (by omega) (by omega) (by kernel_rfl) (by omega)
  have h3 : Nb 1117000000 (fmul .f32 c f) := nb_mul (okF_nb h.2.2.1) hf (by omega) (by omega) (by kernel_rfl) (by omega)
  exact nb_add h2 h3 (by omega) (by omega) (by kernel_rfl) (by omega)
theorem load_mono {a b c d u v f g : Nat} (h : Stony a b c d) (hu : Nb 1149247488 u) (hv : Nb 1149247488 v) (hf : Nb 1091567616 f) (hg : Nb 1091567616 g) (h1 : rg u ≤ rg v) (h2 : rg f ≤ rg g) : rg (spec_l04Load a b c d u f) ≤ rg (spec_l04Load a b c d v g) := by
  have e : ∀ u f, spec_l04Load a b c d u f = fadd .f32 (fadd .f32 a (fmul .f32 b u)) (fmul .f32 c f) := fun _ _ => rfl
  have p1 : ∀ {u}, Nb 1149247488 u → Nb 1174413312 (fmul .f32 b u) := fun hu => nb_mul (okF_nb h.2.1) hu (by omega) (by omega) (by kernel_rfl) (by omega)
  have p2 : ∀ {u}, Nb 1149247488 u → Nb 1175413312 (fadd .f32 a (fmul .f32 b u)) := fun hu => nb_add (okF_nb h.1) (p1 hu) (by omega) (by omega) (by kernel_rfl) (by omega)
  have p3 : ∀ {f}, Nb 1091567616 f → Nb 1117000000 (fmul .f32 c f) := fun hf => nb_mul (okF_nb h.2.2.1) hf (by omega) (by omega) (by kernel_rfl) (by omega)
  have na := (okF_nb h.1).1
  have nb := (okF_nb h.2.1).1
  have nc := (okF_nb h.2.2.1).1
  rw [e, e]
  exact add_mono (p2 hu).1 (p2 hv).1 (p3 hf).1 (p3 hg).1 (add_mono na na (p1 hu).1 (p1 hv).1 (Nat.le_refl _) (mul_mono nb nb hu.1 hv.1 (Nat.le_refl _) h1)) (mul_mono nc nc hf.1 hg.1 (Nat.le_refl _) h2)
theorem halved_r (a b c d t f n : Nat) (hn : n ≤ 60) : spec_l04Steady.l6.r (1, t, f, (n : Int), [a, b, c, d]) (0, 1149239296, 0) = some (bs (fun u => spec_l04Load a b c d u f) t n).1 := by
  refine iter_run (step := spec_l04Steady.l6.st (1, t, f, (n : Int), [a, b, c, d])) (f := fun i => ((bs (fun u => spec_l04Load a b c d u f) t i).1, (bs (fun u => spec_l04Load a b c d u f) t i).2, (i : Int))) (n := n) (N := manyRounds) (k := 0) (many_lt (by omega)) (fun i hi => ?_) ?_
  · simp only [Nat.zero_add, spec_l04Steady.l6.st, spec_l04Steady.l6.s, T.get, sum_ok, sum_gt, decide_eq_true (by omega : (i : Int) < (n : Int)), wrap64_succ (show i + 1 < 9223372036854775808 by omega), bs]
    cases fgt .f32 (spec_l04Load a b c d (fdiv .f32 (fadd .f32 (bs (fun u => spec_l04Load a b c d u f) t i).1 (bs (fun u => spec_l04Load a b c d u f) t i).2) 1073741824) f) t <;> rfl
  · simp only [Nat.zero_add, spec_l04Steady.l6.st, spec_l04Steady.l6.s, T.get, decide_eq_false (by omega : ¬ (n : Int) < (n : Int))]
    rfl
theorem okF_part {x : Nat} (h : okF 1065353216 x = true) : spec_l01Part x = true := by
  have hn := okF_nb h
  have h1 : fle .f32 0 x = true := by
    rw [fle_nn (nb_self (K := 0) (by decide)).1 hn.1, (nb_self (K := 0) (by decide)).2]
    exact decide_eq_true (Nat.zero_le _)
  have h2 : fle .f32 x 1065353216 = true := by
    rw [fle_nn hn.1 (nb_self (K := 1065353216) (by decide)).1, (nb_self (K := 1065353216) (by decide)).2]
    exact decide_eq_true hn.2
  simp only [spec_l01Part, spec_l01Part.t, T.val, fge_flip, h1, h2]
  rfl
theorem stony_ok {a b c d : Nat} (h : Stony a b c d) : spec_l04Ok a b c d = true := by
  simp only [spec_l04Ok, spec_l04Ok.t, T.val, okF_rate h.1, okF_rate h.2.1, okF_rate h.2.2.1, okF_part h.2.2.2]
  rfl
theorem rate_nb {u : Nat} (h : Nb 1149239296 u) : spec_l04Rate u = true := by
  have h1 : fle .f32 0 u = true := by
    rw [fle_nn (nb_self (K := 0) (by decide)).1 h.1, (nb_self (K := 0) (by decide)).2]
    exact decide_eq_true (Nat.zero_le _)
  have h2 : fle .f32 u 1149239296 = true := by
    rw [fle_nn h.1 (nb_self (K := 1149239296) (by decide)).1, (nb_self (K := 1149239296) (by decide)).2]
    exact decide_eq_true h.2
  simp only [spec_l04Rate, spec_l04Rate.t, T.val, fge_flip, h1, h2]
  rfl
theorem vals' {n : Nat} {P : Nat → Bool} (h : (List.range n).all P = true) (hn : 0 < n) {v : Nat} (hv : v = 0 ∨ v < n) : P v = true := by
  rw [List.all_eq_true] at h
  exact h v (List.mem_range.2 (by omega))
theorem amount200 : (List.range 200).all (fun v => spec_l03Amount (val (v : Int) 1082130432)) = true := by kernel_rfl
theorem next64 : (List.range 64).all (fun v => okF 1091567616 (fadd .f32 (val (v : Int) 1090519040) 1065353216)) = true := by kernel_rfl

/-- Whether all loads are amounts. -/
noncomputable def allAm (xs : List Nat) : Bool := !anyAt (fun i => !spec_l03Amount (xs.getD i 0)) xs.length

theorem bad_eq (x : Nat) : impl_areAmounts_1 x = !spec_l03Amount x := by
  simp only [impl_areAmounts_1, impl_areAmounts_1.t, T.val, amount_eq]
theorem index_r (xs : List Nat) (h : xs.length < 9223372036854775807) : slices_IndexFunc_float32_float32.l2.r (xs.length, ((xs.length : Nat) : Int), xs) 0 = some (match firstAt (fun i => !spec_l03Amount (xs.getD i 0)) xs.length 0 with | some i => (Sum.inl (i : Int) : Int ⊕ Unit) | none => Sum.inr ()) := by
  refine iter_first (fun i => !spec_l03Amount (xs.getD i 0)) (fun i => (Sum.inl (i : Int) : Int ⊕ Unit)) (.inr ()) xs.length h (fun i hi => ?_) ?_
  · simp only [slices_IndexFunc_float32_float32.l2.st, slices_IndexFunc_float32_float32.l2.s, T.get, bounds_nat, ble_decide, Int.toNat_natCast, Nat.mul_one, bad_eq]
    rw [decide_eq_true (by omega : (i : Int) < (xs.length : Int)), decide_eq_true hi, decide_eq_true (by omega : i + 1 ≤ xs.length)]
    cases spec_l03Amount (xs.getD i 0) <;> rfl
  · simp only [slices_IndexFunc_float32_float32.l2.st, slices_IndexFunc_float32_float32.l2.s, T.get]
    rw [decide_eq_false (by omega)]
    rfl
theorem contains_t (xs : List Nat) (h : xs.length < 9223372036854775807) : (slices_ContainsFunc_float32_float32.t xs.length xs).get = some (!allAm xs) := by
  have h1 : (slices_IndexFunc_float32_float32.t xs.length xs).get = some (match firstAt (fun i => !spec_l03Amount (xs.getD i 0)) xs.length 0 with | some i => (i : Int) | none => -1) := by
    simp only [slices_IndexFunc_float32_float32.t, T.get, index_r xs h, Option.isSome_some, cond_true, Option.getD_some]
    cases firstAt (fun i => !spec_l03Amount (xs.getD i 0)) xs.length 0 <;> rfl
  simp only [slices_ContainsFunc_float32_float32.t, T.get, show slices_IndexFunc_float32_float32.ok xs.length xs = true from T.ok_of_get h1, show slices_IndexFunc_float32_float32 xs.length xs = _ from T.val_of_get h1, cond_true]
  unfold allAm
  rw [← firstAt_any, Bool.not_not]
  cases firstAt (fun i => !spec_l03Amount (xs.getD i 0)) xs.length 0 with
  | none => rfl
  | some i =>
    simp only [Option.isSome_some, Option.some.injEq, decide_eq_true_eq]
    omega

theorem foldF_false (p : Nat → Bool) : ∀ n k, foldF (fun i s => s && p i) n k false = false
  | 0, k => rfl
  | n + 1, k => foldF_false p n (k + 1)
theorem foldF_first (p : Nat → Bool) : ∀ n k, foldF (fun i s => s && p i) n k true = !(firstAt (fun i => !p i) n k).isSome
  | 0, k => rfl
  | n + 1, k => by
    unfold foldF firstAt
    cases p k with
    | true => exact foldF_first p n (k + 1)
    | false => exact foldF_false p n (k + 1)
theorem foldF_and (p : Nat → Bool) (n : Nat) (b : Bool) : foldF (fun i s => s && p i) n 0 b = (b && !anyAt (fun i => !p i) n) := by
  cases b with
  | false => exact foldF_false p n 0
  | true => rw [foldF_first, firstAt_any]; rfl

theorem day_t (x0 x1 x2 x3 x5 : Nat) (fine : Bool) (xs : List Nat) (h : xs.length < 1099511627776) : (spec_l04Day.t x0 x1 x2 x3 xs.length x5 fine xs).get = some (bif spec_l04Ok x0 x1 x2 x3 then (bif spec_l04Rate x5 && (fine && allAm xs) then (bif decide ((xs.length : Int) > 60) then 3 else 0) else 2) else 1) := by
  have h1 : ∀ c, spec_l04Day.l3.r (xs.length, c, xs) (fine, 0) = some (fine && allAm xs) := by
    intro c
    have hf := (loop_fold (step := spec_l04Day.l3.st (xs.length, c, xs)) (fun c (s : Bool) => (s, c)) (fun i s => s && spec_l03Amount (xs.getD i 0)) (fun s => s) (fun _ => True) xs.length (by omega) fine trivial (fun i s hi _ => ⟨?_, trivial⟩) (fun s _ => ?_)).1
    · rw [foldF_and] at hf
      exact hf
    · simp only [spec_l04Day.l3.st, spec_l04Day.l3.s, T.get, bounds_nat, ble_decide, Int.toNat_natCast, Nat.mul_one]
      rw [decide_eq_true (by omega : (i : Int) < (xs.length : Int)), decide_eq_true hi, decide_eq_true (by omega : i + 1 ≤ xs.length)]
      cases s <;> rfl
    · simp only [spec_l04Day.l3.st, spec_l04Day.l3.s, T.get]
      rw [decide_eq_false (by omega)]
      rfl
  have ha : spec_l04Asked x0 x1 x2 x3 0 x5 = bif spec_l04Ok x0 x1 x2 x3 then (bif spec_l04Rate x5 then 0 else 2) else 1 := by
    simp only [spec_l04Asked, spec_l04Asked.t, T.val, rate_0]
    cases spec_l04Ok x0 x1 x2 x3 <;> cases spec_l04Rate x5 <;> rfl
  simp only [spec_l04Day.t, T.get, h1, ha, Option.isSome_some, Option.getD_some]
  cases spec_l04Ok x0 x1 x2 x3 <;> cases spec_l04Rate x5 <;> cases fine <;> cases allAm xs <;> cases decide ((xs.length : Int) > 60) <;> rfl
theorem amounts_t (xs : List Nat) (h : xs.length < 9223372036854775807) : (impl_areAmounts.t xs.length xs).get = some (allAm xs) := by
  simp only [impl_areAmounts.t, T.get, show slices_ContainsFunc_float32_float32.ok xs.length xs = true from T.ok_of_get (contains_t xs h), show slices_ContainsFunc_float32_float32 xs.length xs = _ from T.val_of_get (contains_t xs h), cond_true, Bool.not_not]
theorem code_eq (x0 x1 x2 x3 : Nat) (b : Bool) : impl_stoneCode x0 x1 x2 x3 b = bif spec_l04Ok x0 x1 x2 x3 then (bif b then 0 else 2) else 1 := by
  simp only [impl_stoneCode, impl_stoneCode.t, T.val, valid_eq]
  cases spec_l04Ok x0 x1 x2 x3 <;> cases b <;> rfl
theorem cond1 (x : Nat) (l n : Nat) (hl : l = n) (hn : n ≤ 60) : (Nat.ble 1 (List.length [x]) && (Nat.beq l (n * 1) && Nat.ble ((n + 1) * 4) 35184372088832 && Nat.ble (n + 1) 35184372088832)) = true := by
  rw [hl, Nat.mul_one, Nat.beq_refl, ble_decide, ble_decide, ble_decide, decide_eq_true (by simp : 1 ≤ List.length [x]), decide_eq_true (by omega : (n + 1) * 4 ≤ 35184372088832), decide_eq_true (by omega : n + 1 ≤ 35184372088832)]
  rfl

theorem gt_not_lt {x y : Nat} (h : fgt .f32 x y = true) : flt .f32 x y = false := by
  unfold fgt flt at *
  rcases hq : FloatKind.f32.format.order x y with _ | (_ | _ | _) <;> rw [hq] at h <;> first | rfl | cases h
theorem ge_not_lt {x y : Nat} (h : fge .f32 x y = true) : flt .f32 x y = false := by
  unfold fge flt at *
  rcases hq : FloatKind.f32.format.order x y with _ | (_ | _ | _) <;> rw [hq] at h <;> first | rfl | cases h
theorem least_not_lt (v : Nat) : flt .f32 (spec_l03Least v) 0 = false := by
  have hl : spec_l03Least v = bif fgt .f32 v 0 then v else 0 := by simp only [spec_l03Least, spec_l03Least.t, T.val]
  rw [hl]
  cases h : fgt .f32 v 0 with
  | true => exact gt_not_lt h
  | false =>
    show flt .f32 0 0 = false
    kernel_rfl
theorem hour_grit {x0 x1 x2 x3 x4 x5 a b c d f : Nat} (h : (spec_l04Hour.t x0 x1 x2 x3 x4 x5).get = some (a, b, c, d, f)) (hg : flt .f32 x3 0 = false) : flt .f32 d 0 = false := by
  have hd : ∀ v, (spec_l04Dulled x0 x1 x2 x3 v).2.2.2 = spec_l03Least (fsub .f32 x3 (fmul .f32 x3 (fdiv .f32 v 1166016512))) := fun v => rfl
  simp only [spec_l04Hour.t, T.get, hd] at h
  cases h1 : spec_l04Steady.ok 1 x4 x5 40 [x0, x1, x2, x3] with
  | false => rw [h1] at h; cases h
  | true =>
    rw [h1] at h
    cases h2 : (spec_l04Steady 1 x4 x5 40 [x0, x1, x2, x3]).2 with
    | false =>
      rw [h2] at h
      simp only [cond_true, Bool.not_false, Option.some.injEq, Prod.mk.injEq] at h
      rw [← h.2.2.2.1]
      exact hg
    | true =>
      rw [h2] at h
      simp only [cond_true, Bool.not_true, cond_false] at h
      cases h3 : fgt .f32 (spec_l04Flour x0 x1 x2 x3 (spec_l04Steady 1 x4 x5 40 [x0, x1, x2, x3]).1 x5) 1233125376 with
      | true =>
        rw [h3] at h
        simp only [cond_true, Option.some.injEq, Prod.mk.injEq] at h
        rw [← h.2.2.2.1]
        exact least_not_lt _
      | false =>
        rw [h3] at h
        simp only [cond_false, Option.some.injEq, Prod.mk.injEq] at h
        rw [← h.2.2.2.1]
        exact least_not_lt _
theorem ok_grit {x0 x1 x2 x3 : Nat} (h : spec_l04Ok x0 x1 x2 x3 = true) : flt .f32 x3 0 = false := by
  simp only [spec_l04Ok, spec_l04Ok.t, spec_l01Part, spec_l01Part.t, T.val] at h
  cases h1 : fge .f32 x3 0 with
  | true => exact ge_not_lt h1
  | false =>
    rw [h1] at h
    revert h
    cases spec_l04Rate x0 <;> cases spec_l04Rate x1 <;> cases spec_l04Rate x2 <;> exact fun h => by cases h

theorem feq_nn {a b : Nat} (ha : Nn a) (hb : Nn b) : feq .f32 a b = decide (rg a = rg b) := by
  unfold feq
  rw [nn_order ha hb]
  rcases Nat.lt_trichotomy (rg a) (rg b) with h | h | h
  · rw [Nat.compare_eq_lt.2 h, decide_eq_false (by omega)]; rfl
  · rw [Nat.compare_eq_eq.2 h, decide_eq_true h]; rfl
  · rw [Nat.compare_eq_gt.2 h, decide_eq_false (by omega)]; rfl
theorem okF_of {K x : Nat} (h : Nb K x) (h0 : x ≠ 2147483648) (hK : K ≤ 1149239296) : okF K x = true := by
  have hx : x < 2139095040 := by
    rcases h.1 with h | h
    · exact h
    · exact absurd h h0
  have hr : rg x = x := (nb_self hx).2
  have := h.2
  simp only [okF, Bool.and_eq_true, decide_eq_true_eq]
  exact ⟨⟨hx, by omega⟩, rate_nb (nb_mono h hK)⟩
theorem amount_nb {u : Nat} (h : Nb 1233125376 u) : spec_l03Amount u = true := by
  have h1 : fle .f32 0 u = true := by
    rw [fle_nn (nb_self (K := 0) (by decide)).1 h.1, (nb_self (K := 0) (by decide)).2]
    exact decide_eq_true (Nat.zero_le _)
  have h2 : fle .f32 u 1233125376 = true := by
    rw [fle_nn h.1 (nb_self (K := 1233125376) (by decide)).1, (nb_self (K := 1233125376) (by decide)).2]
    exact decide_eq_true h.2
  simp only [spec_l03Amount, spec_l03Amount.t, T.val, fge_flip, h1, h2]
  rfl
/-! An hour, told. -/
noncomputable def spd (a b c d t f : Nat) : Nat := (bs (fun u => spec_l04Load a b c d u f) t 40).1
noncomputable def hV (a b c d t f : Nat) : Nat := bif fgt .f32 (spec_l04Flour a b c d (spd a b c d t f) f) 1233125376 then 1233125376 else spec_l04Flour a b c d (spd a b c d t f) f
noncomputable def hF (a b c d t f : Nat) : Nat × Nat := bif fgt .f32 (spec_l04Load a b c d 0 f) t then (d, 0) else ((spec_l04Dulled a b c d (hV a b c d t f)).2.2.2, hV a b c d t f)
theorem steady_v (a b c d t f : Nat) : (spec_l04Steady.t 1 t f (40 : Int) [a, b, c, d]).get = some (bif fgt .f32 (spec_l04Load a b c d 0 f) t then (0, false) else (spd a b c d t f, true)) := by
  have hr : spec_l04Steady.l6.r (1, t, f, (40 : Int), [a, b, c, d]) (0, 1149239296, 0) = some (spd a b c d t f) := halved_r a b c d t f 40 (by omega)
  simp only [spec_l04Steady.t, T.get, sum_ok, sum_gt, hr]
  cases fgt .f32 (spec_l04Load a b c d 0 f) t <;> rfl
theorem hourS (a b c d t f : Nat) : (spec_l04Hour.t a b c d t f).get = some (a, b, c, (hF a b c d t f).1, (hF a b c d t f).2) := by
  have hd : ∀ v, spec_l04Dulled a b c d v = (a, b, c, (spec_l04Dulled a b c d v).2.2.2) := fun v => rfl
  simp only [spec_l04Hour.t, T.get, show spec_l04Steady.ok 1 t f (40 : Int) [a, b, c, d] = true from T.ok_of_get (steady_v a b c d t f), show spec_l04Steady 1 t f (40 : Int) [a, b, c, d] = _ from T.val_of_get (steady_v a b c d t f), hF, hV]
  cases fgt .f32 (spec_l04Load a b c d 0 f) t with
  | true => rfl
  | false =>
    simp only [cond_false, cond_true, Bool.not_true]
    cases fgt .f32 (spec_l04Flour a b c d (spd a b c d t f) f) 1233125376 <;> rfl
theorem hourI (a b c d t f : Nat) : (impl_Stone_hour.t t f a b c d).get = some ((hF a b c d t f).2, a, b, c, (hF a b c d t f).1) := by
  obtain ⟨a', b', c', d', v, h1, h2⟩ := hour_t a b c d t f
  have := Option.some.inj (h1.symm.trans (hourS a b c d t f))
  simp only [Prod.mk.injEq] at this
  obtain ⟨rfl, rfl, rfl, rfl, rfl⟩ := this
  exact h2
theorem least_pos {v : Nat} : spec_l03Least v = bif fgt .f32 v 0 then v else 0 := by simp only [spec_l03Least, spec_l03Least.t, T.val]
/-- An hour makes no stone sharper; its flour is an amount. -/
theorem hF_facts {a b c d t f : Nat} (h : Stony a b c d) (hf : Nb 1091567616 f) : Stony a b c (hF a b c d t f).1 ∧ rg (hF a b c d t f).1 ≤ rg d ∧ Nb 1233125376 (hF a b c d t f).2 ∧
    (fgt .f32 (hF a b c d t f).2 0 = true → (spec_l04Dulled a b c d (hF a b c d t f).2).2.2.2 = (hF a b c d t f).1) := by
  have n0 := nb_self (K := 0) (by decide)
  unfold hF
  cases hc : fgt .f32 (spec_l04Load a b c d 0 f) t with
  | true =>
    refine ⟨h, Nat.le_refl _, ⟨n0.1, by show rg 0 ≤ _; rw [n0.2]; omega⟩, fun hh => ?_⟩
    have : fgt .f32 0 0 = false := by kernel_rfl
    exact absurd (hh.symm.trans this) (by decide)
  | false =>
    simp only [cond_false]
    obtain ⟨p1, _, _, _⟩ := bs_ok (fun u => spec_l04Load a b c d u f) t hc 40
    have hd := okF_nb h.2.2.2
    have hs : Nb 1149239296 (spd a b c d t f) := p1
    have hfl : Nb 1233125376 (spec_l04Flour a b c d (spd a b c d t f) f) := by
      have e : spec_l04Flour a b c d (spd a b c d t f) f = fmul .f32 (fmul .f32 (spd a b c d t f) f) d := rfl
      rw [e]
      have h1 : Nb 1180000000 (fmul .f32 (spd a b c d t f) f) := nb_mul hs hf (by omega) (by omega) (by kernel_rfl) (by omega)
      exact nb_mul h1 hd (by omega) (by omega) (by kernel_rfl) (by omega)
    have hv : Nb 1233125376 (hV a b c d t f) := by
      unfold hV
      cases fgt .f32 (spec_l04Flour a b c d (spd a b c d t f) f) 1233125376 with
      | true =>
        have := nb_self (K := 1233125376) (by decide)
        exact ⟨this.1, by rw [cond_true, this.2]; exact Nat.le_refl _⟩
      | false => exact hfl
    have hq : Nb 1233125376 (fdiv .f32 (hV a b c d t f) 1166016512) := by
      have n4 := nb_self (K := 1166016512) (by decide)
      have h1 : rg (fdiv .f32 (hV a b c d t f) 1166016512) ≤ rg (hV a b c d t f) := div_le hv.1 n4.1 (by rw [n4.2]; decide)
      exact ⟨nn_div hv.1 n4.1 (by rw [n4.2]; decide) (by have := hv.2; omega), Nat.le_trans h1 hv.2⟩
    have hm : Nb 1233125376 (fmul .f32 d (fdiv .f32 (hV a b c d t f) 1166016512)) := nb_mul hd hq (by omega) (by omega) (by kernel_rfl) (by omega)
    have e : (spec_l04Dulled a b c d (hV a b c d t f)).2.2.2 = spec_l03Least (fsub .f32 d (fmul .f32 d (fdiv .f32 (hV a b c d t f) 1166016512))) := rfl
    have key : okF 1065353216 (spec_l03Least (fsub .f32 d (fmul .f32 d (fdiv .f32 (hV a b c d t f) 1166016512)))) = true ∧ rg (spec_l03Least (fsub .f32 d (fmul .f32 d (fdiv .f32 (hV a b c d t f) 1166016512)))) ≤ rg d := by
      have z : okF 1065353216 0 = true ∧ rg 0 ≤ rg d := ⟨by kernel_rfl, by rw [n0.2]; omega⟩
      rw [least_pos]
      cases hg : fgt .f32 (fsub .f32 d (fmul .f32 d (fdiv .f32 (hV a b c d t f) 1166016512))) 0 with
      | false => exact z
      | true =>
        simp only [cond_true]
        by_cases hle : rg (fmul .f32 d (fdiv .f32 (hV a b c d t f) 1166016512)) ≤ rg d
        · obtain ⟨q1, _⟩ := sub_ge hd.1 hm.1 hle
          have q2 := sub_le hd.1 hm.1 hle
          refine ⟨okF_of ⟨q1, Nat.le_trans q2 hd.2⟩ (fun h0 => ?_) (by decide), q2⟩
          rw [h0] at hg
          exact absurd (hg.symm.trans (show fgt .f32 2147483648 0 = false by kernel_rfl)) (by decide)
        · obtain ⟨q1, q2, q3, q4⟩ := sub_lt hd.1 hm.1 (by omega)
          rw [q1] at hg
          unfold fgt at hg
          rw [neg_order (by omega) q4 n0.1] at hg
          cases hg
    refine ⟨⟨h.1, h.2.1, h.2.2.1, ?_⟩, ?_, hv, fun _ => trivial⟩
    · rw [e]
      exact key.1
    · rw [e]
      exact key.2
/-! Days of hours: a stone's numbers a b c and the feed f stay; d is its grit at first, q the torque of an hour. -/
section
variable (a b c f d : Nat) (q : Nat → Nat)
noncomputable def Gr : Nat → Nat
  | 0 => d
  | i + 1 => (hF a b c (Gr i) (q i) f).1
noncomputable def Fl (i : Nat) : Nat := (hF a b c (Gr a b c f d q i) (q i) f).2
noncomputable def Ls (i : Nat) : List Nat := (List.range i).map (Fl a b c f d q)
/-- With dressing below w: grit, how often, flours. -/
noncomputable def DD (w : Nat) : Nat → Nat × Nat × List Nat
  | 0 => (d, 0, [])
  | i + 1 => bif flt .f32 (DD w i).1 w then (1065353216, (DD w i).2.1 + 1, (DD w i).2.2 ++ [0]) else ((hF a b c (DD w i).1 (q i) f).1, (DD w i).2.1, (DD w i).2.2 ++ [(hF a b c (DD w i).1 (q i) f).2])
noncomputable def Sm : Nat → Nat
  | 0 => 0
  | i + 1 => fadd .f32 (Sm i) (Fl a b c f d q i)
theorem Ls_succ (i : Nat) : Ls a b c f d q (i + 1) = Ls a b c f d q i ++ [Fl a b c f d q i] := by
  unfold Ls
  rw [List.range_succ, List.map_append]
  rfl
theorem Ls_len (i : Nat) : (Ls a b c f d q i).length = i := by
  unfold Ls
  rw [List.length_map, List.length_range]
theorem Ls_get {i n : Nat} (h : i < n) : (Ls a b c f d q n).getD i 0 = Fl a b c f d q i := by
  unfold Ls
  simp [List.getD, h]
theorem DD_len (w : Nat) : ∀ i, (DD a b c f d q w i).2.2.length = i
  | 0 => rfl
  | i + 1 => by
    have := DD_len w i
    rw [DD]
    cases flt .f32 (DD a b c f d q w i).1 w <;> simp [this]
theorem DD_many (w : Nat) : ∀ i, (DD a b c f d q w i).2.1 ≤ i
  | 0 => Nat.le_refl _
  | i + 1 => by
    have := DD_many w i
    rw [DD]
    cases flt .f32 (DD a b c f d q w i).1 w <;> simp <;> omega
variable (hS : Stony a b c d) (hf : Nb 1091567616 f)
include hS hf
theorem Gr_stony : ∀ i, Stony a b c (Gr a b c f d q i)
  | 0 => hS
  | i + 1 => (hF_facts (Gr_stony i) hf).1
theorem Gr_down (i : Nat) : rg (Gr a b c f d q (i + 1)) ≤ rg (Gr a b c f d q i) := (hF_facts (Gr_stony a b c f d q hS hf i) hf).2.1
theorem Gr_le : ∀ i, rg (Gr a b c f d q i) ≤ rg d
  | 0 => Nat.le_refl _
  | i + 1 => Nat.le_trans (Gr_down a b c f d q hS hf i) (Gr_le i)
theorem Fl_nb (i : Nat) : Nb 1233125376 (Fl a b c f d q i) := (hF_facts (Gr_stony a b c f d q hS hf i) hf).2.2.1
theorem DD_stony (w : Nat) : ∀ i, Stony a b c (DD a b c f d q w i).1
  | 0 => hS
  | i + 1 => by
    have := DD_stony w i
    rw [DD]
    cases flt .f32 (DD a b c f d q w i).1 w with
    | true => exact ⟨hS.1, hS.2.1, hS.2.2.1, by kernel_rfl⟩
    | false => exact (hF_facts this hf).1
/-- Nothing is dressed below nought. -/
theorem DD_none {w : Nat} (hw : Nn w) (h0 : rg w = 0) : ∀ i, DD a b c f d q w i = (Gr a b c f d q i, 0, Ls a b c f d q i)
  | 0 => rfl
  | i + 1 => by
    have ih := DD_none hw h0 i
    have hn : flt .f32 (Gr a b c f d q i) w = false := by
      rw [flt_nn (okF_nb (Gr_stony a b c f d q hS hf i).2.2.2).1 hw]
      exact decide_eq_false (by omega)
    rw [DD, ih]
    dsimp only
    rw [hn, cond_false, Ls_succ]
    rfl
end
theorem Gr_congr {a b c f d : Nat} {q q' : Nat → Nat} : ∀ n, (∀ i, i < n → q i = q' i) → Gr a b c f d q n = Gr a b c f d q' n
  | 0, _ => rfl
  | n + 1, h => by
    rw [Gr, Gr, Gr_congr n (fun i hi => h i (by omega)), h n (by omega)]
theorem Fl_congr {a b c f d : Nat} {q q' : Nat → Nat} (n : Nat) (h : ∀ i, i ≤ n → q i = q' i) : Fl a b c f d q n = Fl a b c f d q' n := by
  unfold Fl
  rw [Gr_congr n (fun i hi => h i (by omega)), h n (Nat.le_refl _)]
theorem Ls_congr {a b c f d : Nat} {q q' : Nat → Nat} : ∀ n, (∀ i, i < n → q i = q' i) → Ls a b c f d q n = Ls a b c f d q' n
  | 0, _ => by unfold Ls; simp
  | n + 1, h => by rw [Ls_succ, Ls_succ, Ls_congr n (fun i hi => h i (by omega)), Fl_congr n (fun i hi => h i (by omega))]
section
variable (a b c f d : Nat) (xs : List Nat) (hn : xs.length ≤ 60)
include hn
theorem grind_r : spec_GrindDay.l6.r (xs.length, f, xs, 0, 0, 0, 0) (0, (0 : Int), a, b, c, d, []) = some (xs.length, a, b, c, Gr a b c f d (fun i => xs.getD i 0) xs.length, Ls a b c f d (fun i => xs.getD i 0) xs.length) := by
  refine iter_run (step := spec_GrindDay.l6.st (xs.length, f, xs, 0, 0, 0, 0)) (f := fun i => (i, (i : Int), a, b, c, Gr a b c f d (fun i => xs.getD i 0) i, Ls a b c f d (fun i => xs.getD i 0) i)) (n := xs.length) (N := manyRounds) (k := 0) (many_lt (by omega)) (fun i hi => ?_) ?_
  · have h1 := hourS a b c (Gr a b c f d (fun i => xs.getD i 0) i) (xs.getD i 0) f
    have hc := fun x => cond1 x (Ls a b c f d (fun i => xs.getD i 0) i).length i (Ls_len ..) (by omega)
    simp only [ble_decide, Nat.mul_one] at hc
    simp only [Nat.zero_add, spec_GrindDay.l6.st, spec_GrindDay.l6.s, T.get, bounds_nat, ble_decide, Int.toNat_natCast, Nat.mul_one, show spec_l04Hour.ok a b c (Gr a b c f d (fun i => xs.getD i 0) i) (xs.getD i 0) f = true from T.ok_of_get (h1), show spec_l04Hour a b c (Gr a b c f d (fun i => xs.getD i 0) i) (xs.getD i 0) f = _ from T.val_of_get (h1), hc]
    rw [decide_eq_true (by omega : (i : Int) < (xs.length : Int)), decide_eq_true hi, decide_eq_true (by omega : i + 1 ≤ xs.length), wrap64_succ (by omega), Ls_succ]
    rfl
  · simp only [Nat.zero_add, spec_GrindDay.l6.st, spec_GrindDay.l6.s, T.get]
    rw [decide_eq_false (by omega)]
    rfl
theorem dressed_r (w : Nat) : spec_DressedDay.l7.r (xs.length, f, w, xs, 0, 0, 0, 0) (0, (0 : Int), (0 : Int), a, b, c, d, []) = some (xs.length, ((DD a b c f d (fun i => xs.getD i 0) w xs.length).2.1 : Int), a, b, c, (DD a b c f d (fun i => xs.getD i 0) w xs.length).1, (DD a b c f d (fun i => xs.getD i 0) w xs.length).2.2) := by
  refine iter_run (step := spec_DressedDay.l7.st (xs.length, f, w, xs, 0, 0, 0, 0)) (f := fun i => (i, ((DD a b c f d (fun i => xs.getD i 0) w i).2.1 : Int), (i : Int), a, b, c, (DD a b c f d (fun i => xs.getD i 0) w i).1, (DD a b c f d (fun i => xs.getD i 0) w i).2.2)) (n := xs.length) (N := manyRounds) (k := 0) (many_lt (by omega)) (fun i hi => ?_) ?_
  · have hl := DD_len a b c f d (fun i => xs.getD i 0) w i
    have hm := DD_many a b c f d (fun i => xs.getD i 0) w i
    simp only [Nat.zero_add]
    rw [DD]
    generalize DD a b c f d (fun i => xs.getD i 0) w i = s at hl hm
    obtain ⟨g, m, l⟩ := s
    dsimp only at hl hm
    have h1 := hourS a b c g (xs.getD i 0) f
    have hc := fun x => cond1 x l.length i hl (by omega)
    simp only [ble_decide, Nat.mul_one] at hc
    simp only [Nat.zero_add, spec_DressedDay.l7.st, spec_DressedDay.l7.s, T.get, bounds_nat, ble_decide, Int.toNat_natCast, Nat.mul_one, show spec_l04Hour.ok a b c g (xs.getD i 0) f = true from T.ok_of_get (h1), show spec_l04Hour a b c g (xs.getD i 0) f = _ from T.val_of_get (h1), hc]
    rw [decide_eq_true (by omega : (i : Int) < (xs.length : Int)), decide_eq_true hi, decide_eq_true (by omega : i + 1 ≤ xs.length), wrap64_succ (by omega), wrap64_succ (by omega)]
    cases flt .f32 g w <;> rfl
  · simp only [Nat.zero_add, spec_DressedDay.l7.st, spec_DressedDay.l7.s, T.get]
    rw [decide_eq_false (by omega)]
    rfl
theorem dressedI_r (w : Nat) : impl_DressedDay.l8.r (f, w, xs.length, ((xs.length : Nat) : Int), xs, 0, 0, 0, 0) (0, (0 : Int), (0 : Int), a, b, c, d, []) = some (xs.length, ((DD a b c f d (fun i => xs.getD i 0) w xs.length).2.1 : Int), a, b, c, (DD a b c f d (fun i => xs.getD i 0) w xs.length).1, (DD a b c f d (fun i => xs.getD i 0) w xs.length).2.2) := by
  refine iter_run (step := impl_DressedDay.l8.st (f, w, xs.length, ((xs.length : Nat) : Int), xs, 0, 0, 0, 0)) (f := fun i => (i, ((DD a b c f d (fun i => xs.getD i 0) w i).2.1 : Int), (i : Int), a, b, c, (DD a b c f d (fun i => xs.getD i 0) w i).1, (DD a b c f d (fun i => xs.getD i 0) w i).2.2)) (n := xs.length) (N := manyRounds) (k := 0) (many_lt (by omega)) (fun i hi => ?_) ?_
  · have hl := DD_len a b c f d (fun i => xs.getD i 0) w i
    have hm := DD_many a b c f d (fun i => xs.getD i 0) w i
    simp only [Nat.zero_add]
    rw [DD]
    generalize DD a b c f d (fun i => xs.getD i 0) w i = s at hl hm
    obtain ⟨g, m, l⟩ := s
    dsimp only at hl hm
    have h1 := hourI a b c g (xs.getD i 0) f
    have hc := fun x => cond1 x l.length i hl (by omega)
    simp only [ble_decide, Nat.mul_one] at hc
    simp only [Nat.zero_add, impl_DressedDay.l8.st, impl_DressedDay.l8.s, T.get, bounds_nat, ble_decide, Int.toNat_natCast, Nat.mul_one, show impl_Stone_hour.ok (xs.getD i 0) f a b c g = true from T.ok_of_get (h1), show impl_Stone_hour (xs.getD i 0) f a b c g = _ from T.val_of_get (h1), hc]
    rw [decide_eq_true (by omega : (i : Int) < (xs.length : Int)), decide_eq_true hi, decide_eq_true (by omega : i + 1 ≤ xs.length), wrap64_succ (by omega), wrap64_succ (by omega)]
    cases flt .f32 g w <;> rfl
  · simp only [Nat.zero_add, impl_DressedDay.l8.st, impl_DressedDay.l8.s, T.get]
    rw [decide_eq_false (by omega)]
    rfl
end
/-- The same without the first hour of a list. -/
theorem dressedJ_r (a b c f d : Nat) (xs : List Nat) (n : Nat) (hx : xs.length = n + 1) (hn : n ≤ 60) (w : Nat) : impl_DressedDay_w1.l8.r (f, w, n, (n : Int), xs, 0, 0, 0, 0) (0, (0 : Int), (0 : Int), a, b, c, d, []) = some (n, ((DD a b c f d (fun i => xs.getD (1 + i) 0) w n).2.1 : Int), a, b, c, (DD a b c f d (fun i => xs.getD (1 + i) 0) w n).1, (DD a b c f d (fun i => xs.getD (1 + i) 0) w n).2.2) := by
  refine iter_run (step := impl_DressedDay_w1.l8.st (f, w, n, (n : Int), xs, 0, 0, 0, 0)) (f := fun i => (i, ((DD a b c f d (fun i => xs.getD (1 + i) 0) w i).2.1 : Int), (i : Int), a, b, c, (DD a b c f d (fun i => xs.getD (1 + i) 0) w i).1, (DD a b c f d (fun i => xs.getD (1 + i) 0) w i).2.2)) (n := n) (N := manyRounds) (k := 0) (many_lt (by omega)) (fun i hi => ?_) ?_
  · have hl := DD_len a b c f d (fun i => xs.getD (1 + i) 0) w i
    have hm := DD_many a b c f d (fun i => xs.getD (1 + i) 0) w i
    simp only [Nat.zero_add]
    rw [DD]
    generalize DD a b c f d (fun i => xs.getD (1 + i) 0) w i = s at hl hm
    obtain ⟨g, m, l⟩ := s
    dsimp only at hl hm
    have h1 := hourI a b c g (xs.getD (1 + i) 0) f
    have hc := fun x => cond1 x l.length i hl (by omega)
    simp only [ble_decide, Nat.mul_one] at hc
    simp only [Nat.zero_add, impl_DressedDay_w1.l8.st, impl_DressedDay_w1.l8.s, T.get, bounds_nat, ble_decide, Int.toNat_natCast, Nat.mul_one, show impl_Stone_hour.ok (xs.getD (1 + i) 0) f a b c g = true from T.ok_of_get (h1), show impl_Stone_hour (xs.getD (1 + i) 0) f a b c g = _ from T.val_of_get (h1), hc]
    rw [decide_eq_true (by omega : (i : Int) < (n : Int)), decide_eq_true hi, decide_eq_true (by omega : 1 + i + 1 ≤ xs.length), wrap64_succ (by omega), wrap64_succ (by omega)]
    cases flt .f32 g w <;> rfl
  · simp only [Nat.zero_add, impl_DressedDay_w1.l8.st, impl_DressedDay_w1.l8.s, T.get]
    rw [decide_eq_false (by omega)]
    rfl
theorem sums_t (a b c f d : Nat) (q : Nat → Nat) (n : Nat) (hn : n ≤ 60) : (impl_SumOf_w1.t n (Ls a b c f d q n)).get = some (Sm a b c f d q n, 0) := by
  have hr : impl_SumOf_w1.l5.r (n, (n : Int), Ls a b c f d q n) (0, (0 : Int)) = some (Sm a b c f d q n) := by
    refine iter_run (step := impl_SumOf_w1.l5.st (n, (n : Int), Ls a b c f d q n)) (f := fun i => (Sm a b c f d q i, (i : Int))) (n := n) (N := manyRounds) (k := 0) (many_lt (by omega)) (fun i hi => ?_) ?_
    · simp only [Nat.zero_add, impl_SumOf_w1.l5.st, impl_SumOf_w1.l5.s, T.get, bounds_nat, ble_decide, Int.toNat_natCast, Nat.mul_one, Ls_len, Ls_get a b c f d q hi]
      rw [decide_eq_true (by omega : (i : Int) < (n : Int)), decide_eq_true hi, decide_eq_true (by omega : i + 1 ≤ n), wrap64_succ (by omega)]
      rfl
    · simp only [Nat.zero_add, impl_SumOf_w1.l5.st, impl_SumOf_w1.l5.s, T.get]
      rw [decide_eq_false (by omega)]
      rfl
  simp only [impl_SumOf_w1.t, T.get, hr]
  rw [decide_eq_false (by omega)]
  rfl
/-- How many hours an amount takes. -/
theorem hours_r (a b c f d t m : Nat) : spec_HoursFor.l8.r (t, f, m) (0, (0 : Int), a, b, c, d) = some (match firstAt (fun i => fge .f32 (Sm a b c f d (fun _ => t) i) m) 61 0 with | some i => (Sum.inl ((i : Int), 0) : (Int × Int) ⊕ Unit) | none => Sum.inr ()) := by
  have step : ∀ i, i < 61 → (spec_HoursFor.l8.st (t, f, m) (Sm a b c f d (fun _ => t) i, (i : Int), a, b, c, Gr a b c f d (fun _ => t) i)).get = some (bif fge .f32 (Sm a b c f d (fun _ => t) i) m then .inr (.inl ((i : Int), 0)) else .inl (Sm a b c f d (fun _ => t) (i + 1), ((i + 1 : Nat) : Int), a, b, c, Gr a b c f d (fun _ => t) (i + 1))) := fun i hi => by
    have h1 := hourS a b c (Gr a b c f d (fun _ => t) i) t f
    simp only [spec_HoursFor.l8.st, spec_HoursFor.l8.s, T.get, show spec_l04Hour.ok a b c (Gr a b c f d (fun _ => t) i) t f = true from T.ok_of_get (h1), show spec_l04Hour a b c (Gr a b c f d (fun _ => t) i) t f = _ from T.val_of_get (h1)]
    rw [decide_eq_true (by omega : (i : Int) ≤ 60), wrap64_succ (by omega)]
    cases fge .f32 (Sm a b c f d (fun _ => t) i) m <;> rfl
  cases hf : firstAt (fun i => fge .f32 (Sm a b c f d (fun _ => t) i) m) 61 0 with
  | none =>
    have hall := firstAt_none.1 hf
    exact iter_run (step := spec_HoursFor.l8.st (t, f, m)) (f := fun i => (Sm a b c f d (fun _ => t) i, (i : Int), a, b, c, Gr a b c f d (fun _ => t) i)) (e := Sum.inr ()) (n := 61) (N := manyRounds) (k := 0) (many_lt (by omega)) (fun i hi => by
      simp only [Nat.zero_add]
      rw [step i hi, show fge .f32 (Sm a b c f d (fun _ => t) i) m = false from hall i (by omega) (by omega)]
      rfl) (by
      simp only [Nat.zero_add, spec_HoursFor.l8.st, spec_HoursFor.l8.s, T.get]
      rfl)
  | some j =>
    obtain ⟨_, hj, hp, hbefore⟩ := firstAt_some hf
    exact iter_run (step := spec_HoursFor.l8.st (t, f, m)) (f := fun i => (Sm a b c f d (fun _ => t) i, (i : Int), a, b, c, Gr a b c f d (fun _ => t) i)) (e := Sum.inl ((j : Int), 0)) (n := j) (N := manyRounds) (k := 0) (many_lt (by omega)) (fun i hi => by
      simp only [Nat.zero_add]
      rw [step i (by omega), show fge .f32 (Sm a b c f d (fun _ => t) i) m = false from hbefore i (by omega) hi]
      rfl) (by
      simp only [Nat.zero_add]
      rw [step j (by omega), show fge .f32 (Sm a b c f d (fun _ => t) j) m = true from hp]
      rfl)
theorem torques_t {n : Nat} {xs : List Int} (hs : srcOk n xs) : ∃ out, (spec_P6Torques.t n xs).get = some (List.length out, out) ∧ out.length ≤ 6 ∧ ∀ i, i < out.length → okF 1112014848 (out.getD i 0) = true ∧ spec_l03Amount (out.getD i 0) = true := by
  obtain ⟨v, p1, h1, q1, g1, l1⟩ := pick_t hs 7 0 0 (by omega)
  have hv : v ≤ 6 := by omega
  obtain ⟨e, r1, r2⟩ := iter_ends (step := spec_P6Torques.l4.st xs) (R := fun s => ∃ (j pos : Nat), j ≤ v ∧ s.1 = j ∧ s.2.1 = ((v - j : Nat) : Int) ∧ s.2.2.1 = n ∧ s.2.2.2.1 = (pos : Int) ∧ pos ≤ 2 + 2 * j ∧ s.2.2.2.2.2.length = j ∧ ∀ i, i < j → okF 1112014848 (s.2.2.2.2.2.getD i 0) = true ∧ spec_l03Amount (s.2.2.2.2.2.getD i 0) = true)
    (E := fun e => e.1 = e.2.length ∧ e.2.length ≤ 6 ∧ ∀ i, i < e.2.length → okF 1112014848 (e.2.getD i 0) = true ∧ spec_l03Amount (e.2.getD i 0) = true) (fun s => s.2.1.toNat) (by
    rintro ⟨l, k, m, pos', h, out⟩ ⟨j, pos, hj, a1, a2, a3, a4, a5, a6, a7⟩
    dsimp only at a1 a2 a3 a4 a5 a6 a7
    subst a1 a2 a3 a4
    by_cases hlt : l < v
    · obtain ⟨v2, p2, h2, q2, g2, l2⟩ := pick_t hs 200 pos h (by omega)
      have hc := fun x => cond1 x out.length l a6 (by omega)
      refine .inl ⟨(l + 1, ((v - (l + 1) : Nat) : Int), m, (p2 : Int), h2, out ++ [val (v2 : Int) 1082130432]), ?_, ⟨l + 1, p2, by omega, rfl, rfl, rfl, rfl, by omega, by simp [a6], fun i hi => ?_⟩, by dsimp only; omega⟩
      · have hw : IntKind.wrap .i64 (((v - l : Nat) : Int) - 1) = ((v - (l + 1) : Nat) : Int) := wrap64_of (by omega) (by omega)
        simp only [spec_P6Torques.l4.st, spec_P6Torques.l4.s, T.get, show spec_l00Src_pick.ok (200 : Int) m (pos : Int) h xs = true from T.ok_of_get (q2), show spec_l00Src_pick (200 : Int) m (pos : Int) h xs = _ from T.val_of_get (q2), hc, hw]
        rw [decide_eq_true (by omega : ((v - l : Nat) : Int) > 0)]
        rfl
      · rcases Nat.lt_or_ge i l with h3 | h3
        · have : (out ++ [val (v2 : Int) 1082130432]).getD i 0 = out.getD i 0 := by
            simp [List.getD, List.getElem?_append_left (by omega : i < out.length)]
          dsimp only
          rw [this]
          exact a7 i h3
        · have hi' : i = out.length := by omega
          have : (out ++ [val (v2 : Int) 1082130432]).getD i 0 = val (v2 : Int) 1082130432 := by
            rw [hi']
            simp [List.getD]
          dsimp only
          rw [this]
          exact ⟨vals val200 (by omega) g2, vals' amount200 (by omega) g2⟩
    · refine .inr ⟨(l, out), ?_, a6.symm, by dsimp only; omega, fun i hi => a7 i (by dsimp only at hi; omega)⟩
      simp only [spec_P6Torques.l4.st, spec_P6Torques.l4.s, T.get]
      rw [decide_eq_false (by omega : ¬ ((v - l : Nat) : Int) > 0)]
      rfl) manyRounds (0, (v : Int), n, (p1 : Int), h1, []) ⟨0, p1, by omega, rfl, rfl, rfl, rfl, by omega, rfl, fun i hi => by omega⟩ (many_lt (by dsimp only; omega))
  obtain ⟨l, out⟩ := e
  obtain ⟨r2, r3, r4⟩ := r2
  dsimp only at r2 r3 r4
  subst r2
  refine ⟨out, ?_, r3, r4⟩
  have r1' : spec_P6Torques.l4.r xs (0, (v : Int), n, (p1 : Int), h1, []) = some (out.length, out) := r1
  simp only [spec_P6Torques.t, T.get, spec_l00From, spec_l00From.t, T.val, show spec_l00Src_pick.ok (7 : Int) n 0 0 xs = true from T.ok_of_get (q1), show spec_l00Src_pick (7 : Int) n 0 0 xs = _ from T.val_of_get (q1), r1']
  rfl
theorem allAm_of {xs : List Nat} (h : ∀ i, i < xs.length → spec_l03Amount (xs.getD i 0) = true) : allAm xs = true := by
  unfold allAm
  cases hq : anyAt (fun i => !spec_l03Amount (xs.getD i 0)) xs.length with
  | false => rfl
  | true =>
    obtain ⟨i, hi, h2⟩ := anyAt_true.1 hq
    rw [h i hi] at h2
    cases h2
section
variable {a b c f d : Nat} {xs : List Nat} (hS : Stony a b c d) (hf : Nb 1091567616 f) (rf : spec_l04Rate f = true) (hn : xs.length ≤ 60) (ha : ∀ i, i < xs.length → spec_l03Amount (xs.getD i 0) = true)
include hS rf hn ha
theorem day_s : (spec_GrindDay.t a b c d xs.length f xs).get = some (a, b, c, Gr a b c f d (fun i => xs.getD i 0) xs.length, xs.length, 0, Ls a b c f d (fun i => xs.getD i 0) xs.length) := by
  simp only [spec_GrindDay.t, T.get, show spec_l04Day.ok a b c d xs.length f true xs = true from T.ok_of_get (day_t a b c d f true xs (by omega)), show spec_l04Day a b c d xs.length f true xs = _ from T.val_of_get (day_t a b c d f true xs (by omega)), stony_ok hS, rf, allAm_of ha, grind_r a b c f d xs hn]
  rw [decide_eq_false (by omega)]
  rfl
theorem dressed_s {w : Nat} (hw : spec_l01Part w = true) : (spec_DressedDay.t a b c d xs.length f w xs).get = some (a, b, c, (DD a b c f d (fun i => xs.getD i 0) w xs.length).1, xs.length, ((DD a b c f d (fun i => xs.getD i 0) w xs.length).2.1 : Int), 0, (DD a b c f d (fun i => xs.getD i 0) w xs.length).2.2) := by
  simp only [spec_DressedDay.t, T.get, hw, show spec_l04Day.ok a b c d xs.length f true xs = true from T.ok_of_get (day_t a b c d f true xs (by omega)), show spec_l04Day a b c d xs.length f true xs = _ from T.val_of_get (day_t a b c d f true xs (by omega)), stony_ok hS, rf, allAm_of ha, dressed_r a b c f d xs hn]
  rw [decide_eq_false (by omega)]
  rfl
theorem dressed_i {w : Nat} (hw : spec_l01Part w = true) : (impl_DressedDay.t a b c d xs.length f w xs).get = some (.inr (a, b, c, (DD a b c f d (fun i => xs.getD i 0) w xs.length).1, xs.length, ((DD a b c f d (fun i => xs.getD i 0) w xs.length).2.1 : Int), 0, (DD a b c f d (fun i => xs.getD i 0) w xs.length).2.2)) := by
  simp only [impl_DressedDay.t, T.get, rate_eq, part_eq, hw, code_eq, show impl_areAmounts.ok xs.length xs = true from T.ok_of_get (amounts_t xs (by omega)), show impl_areAmounts xs.length xs = _ from T.val_of_get (amounts_t xs (by omega)), stony_ok hS, rf, allAm_of ha, dressedI_r a b c f d xs hn]
  rw [decide_eq_false (by omega)]
  rfl
theorem day_i : (impl_GrindDay.t a b c d xs.length f xs).get = some (.inr (a, b, c, (DD a b c f d (fun i => xs.getD i 0) 0 xs.length).1, xs.length, 0, (DD a b c f d (fun i => xs.getD i 0) 0 xs.length).2.2)) := by
  have hp : spec_l01Part 0 = true := by kernel_rfl
  have h := dressed_i hS rf hn ha hp
  simp only [impl_GrindDay.t, T.get, show impl_DressedDay.ok a b c d xs.length f 0 xs = true from T.ok_of_get (h), show impl_DressedDay a b c d xs.length f 0 xs = _ from T.val_of_get (h)]
  rfl
end
theorem index_j {xs : List Nat} {n : Nat} (hx : xs.length = n + 1) (hn : n ≤ 60) (ha : ∀ i, i < xs.length → spec_l03Amount (xs.getD i 0) = true) : (impl_areAmounts_w1.t n xs).get = some true := by
  have hr : slices_IndexFunc_float32_float32_w1.l2.r (n, (n : Int), xs) (0 : Int) = some (.inr ()) := by
    refine iter_run (step := slices_IndexFunc_float32_float32_w1.l2.st (n, (n : Int), xs)) (f := fun i => (i : Int)) (n := n) (N := manyRounds) (k := 0) (many_lt (by omega)) (fun i hi => ?_) ?_
    · simp only [Nat.zero_add, slices_IndexFunc_float32_float32_w1.l2.st, slices_IndexFunc_float32_float32_w1.l2.s, T.get, bounds_nat, ble_decide, Int.toNat_natCast, Nat.mul_one, bad_eq, ha (1 + i) (by omega)]
      rw [decide_eq_true (by omega : (i : Int) < (n : Int)), decide_eq_true hi, decide_eq_true (by omega : 1 + i + 1 ≤ xs.length), wrap64_succ (by omega)]
      rfl
    · simp only [Nat.zero_add, slices_IndexFunc_float32_float32_w1.l2.st, slices_IndexFunc_float32_float32_w1.l2.s, T.get]
      rw [decide_eq_false (by omega)]
      rfl
  have h1 : (slices_IndexFunc_float32_float32_w1.t n xs).get = some (-1) := by
    simp only [slices_IndexFunc_float32_float32_w1.t, T.get, hr]
    rfl
  have h2 : (slices_ContainsFunc_float32_float32_w1.t n xs).get = some false := by
    simp only [slices_ContainsFunc_float32_float32_w1.t, T.get, show slices_IndexFunc_float32_float32_w1.ok n xs = true from T.ok_of_get (h1), show slices_IndexFunc_float32_float32_w1 n xs = _ from T.val_of_get (h1)]
    rfl
  simp only [impl_areAmounts_w1.t, T.get, show slices_ContainsFunc_float32_float32_w1.ok n xs = true from T.ok_of_get (h2), show slices_ContainsFunc_float32_float32_w1 n xs = _ from T.val_of_get (h2)]
  rfl
theorem day_j {a b c f d : Nat} {xs : List Nat} {n : Nat} (hS : Stony a b c d) (rf : spec_l04Rate f = true) (hx : xs.length = n + 1) (hn : n ≤ 60) (ha : ∀ i, i < xs.length → spec_l03Amount (xs.getD i 0) = true) : (impl_GrindDay_w1.t a b c d n f xs).get = some (.inr (a, b, c, (DD a b c f d (fun i => xs.getD (1 + i) 0) 0 n).1, n, 0, (DD a b c f d (fun i => xs.getD (1 + i) 0) 0 n).2.2)) := by
  have hp : spec_l01Part 0 = true := by kernel_rfl
  have h : (impl_DressedDay_w1.t a b c d n f 0 xs).get = some (.inr (a, b, c, (DD a b c f d (fun i => xs.getD (1 + i) 0) 0 n).1, n, ((DD a b c f d (fun i => xs.getD (1 + i) 0) 0 n).2.1 : Int), 0, (DD a b c f d (fun i => xs.getD (1 + i) 0) 0 n).2.2)) := by
    simp only [impl_DressedDay_w1.t, T.get, rate_eq, part_eq, hp, code_eq, show impl_areAmounts_w1.ok n xs = true from T.ok_of_get (index_j hx hn ha), show impl_areAmounts_w1 n xs = _ from T.val_of_get (index_j hx hn ha), stony_ok hS, rf, dressedJ_r a b c f d xs n hx hn]
    rw [decide_eq_false (by omega)]
    rfl
  simp only [impl_GrindDay_w1.t, T.get, show impl_DressedDay_w1.ok a b c d n f 0 xs = true from T.ok_of_get (h), show impl_DressedDay_w1 a b c d n f 0 xs = _ from T.val_of_get (h)]
  rfl
theorem hour_g {a b c d t f : Nat} (hS : Stony a b c d) (ht : spec_l03Amount t = true) (rf : spec_l04Rate f = true) : (spec_GrindHour.t a b c d t f).get = some (a, b, c, (hF a b c d t f).1, (hF a b c d t f).2, 0) ∧ (impl_GrindHour.t a b c d t f).get = some (a, b, c, (hF a b c d t f).1, (hF a b c d t f).2, 0) := by
  simp only [spec_GrindHour.t, impl_GrindHour.t, T.get, spec_l04Turned, spec_l04Turned.t, spec_l04Asked, spec_l04Asked.t, impl_stoneCode, impl_stoneCode.t, T.val, valid_eq, rate_eq, amount_eq, rate_0, stony_ok hS, ht, rf, show spec_l04Hour.ok a b c d t f = true from T.ok_of_get (hourS a b c d t f), show spec_l04Hour a b c d t f = _ from T.val_of_get (hourS a b c d t f), show impl_Stone_hour.ok t f a b c d = true from T.ok_of_get (hourI a b c d t f), show impl_Stone_hour t f a b c d = _ from T.val_of_get (hourI a b c d t f)]
  exact ⟨rfl, rfl⟩
namespace HoursW
theorem loop_r (x0 x1 x2 x3 x4 x5 x6 : Nat) : ∃ e, spec_HoursFor.l8.r (x4, x5, x6) (0, 0, x0, x1, x2, x3) = some e ∧ impl_HoursFor.l6.r (x4, x5, x6) (0, 0, x0, x1, x2, x3) = some e := by
  obtain ⟨e, e', h1, h2, rfl⟩ := iter_two (step := spec_HoursFor.l8.st (x4, x5, x6)) (step' := impl_HoursFor.l6.st (x4, x5, x6)) (R := fun s t => s = t ∧ ∃ i : Nat, i ≤ 61 ∧ s.2.1 = (i : Int)) (E := fun e e' => e = e') (fun s => 61 - s.2.1.toNat) (by
    rintro ⟨f, n, a, b, c, d⟩ _ ⟨rfl, i, hi, hc⟩
    dsimp only at hc
    subst hc
    obtain ⟨a', b', c', d', g, q1, q2⟩ := hour_t a b c d x4 x5
    simp only [spec_HoursFor.l8.st, spec_HoursFor.l8.s, impl_HoursFor.l6.st, impl_HoursFor.l6.s, T.get,
      show spec_l04Hour.ok a b c d x4 x5 = true from T.ok_of_get q1, show spec_l04Hour a b c d x4 x5 = (a', b', c', d', g) from T.val_of_get q1,
      show impl_Stone_hour.ok x4 x5 a b c d = true from T.ok_of_get q2, show impl_Stone_hour x4 x5 a b c d = (g, a', b', c', d') from T.val_of_get q2]
    by_cases hlt : i ≤ 60
    · rw [decide_eq_true (by omega : (i : Int) ≤ 60), decide_eq_true (by omega : (i : Int) < 61), wrap64_succ (by omega)]
      simp only [cond_true]
      cases fge .f32 f x6 with
      | true => exact .inr ⟨_, _, rfl, rfl, rfl⟩
      | false => exact .inl ⟨_, _, rfl, rfl, ⟨rfl, i + 1, by omega, rfl⟩, by dsimp only; omega⟩
    · rw [decide_eq_false (by omega : ¬ (i : Int) ≤ 60), decide_eq_false (by omega : ¬ (i : Int) < 61)]
      exact .inr ⟨_, _, rfl, rfl, rfl⟩) manyRounds (0, 0, x0, x1, x2, x3) (0, 0, x0, x1, x2, x3) ⟨rfl, 0, by omega, rfl⟩ (many_lt (by simp))
  exact ⟨e, h1, h2⟩
theorem hours_t (x0 x1 x2 x3 x4 x5 x6 : Nat) : ∃ r, (spec_HoursFor.t x0 x1 x2 x3 x4 x5 x6).get = some r ∧ (impl_HoursFor.t x0 x1 x2 x3 x4 x5 x6).get = some r := by
  obtain ⟨e, h1, h2⟩ := loop_r x0 x1 x2 x3 x4 x5 x6
  simp only [spec_HoursFor.t, impl_HoursFor.t, T.get, h1, h2, spec_l04Turned, spec_l04Turned.t, spec_l04Asked, spec_l04Asked.t, impl_stoneCode, impl_stoneCode.t, T.val, valid_eq, rate_eq, amount_eq, rate_0, Option.isSome_some, Option.getD_some, cond_true]
  cases Sum.isLeft e <;> cases spec_l04Ok x0 x1 x2 x3 <;> cases spec_l04Rate x5 <;> cases spec_l03Amount x4 <;> cases spec_l03Amount x6 <;> exact ⟨_, rfl, rfl⟩
end HoursW

theorem hours_s {a b c f d t m : Nat} (hS : Stony a b c d) (ht : spec_l03Amount t = true) (rf : spec_l04Rate f = true) (hm : spec_l03Amount m = true) : (spec_HoursFor.t a b c d t f m).get = some (match firstAt (fun i => fge .f32 (Sm a b c f d (fun _ => t) i) m) 61 0 with | some i => ((i : Int), 0) | none => (0, 6)) := by
  simp only [spec_HoursFor.t, T.get, hours_r a b c f d t m, spec_l04Turned, spec_l04Turned.t, spec_l04Asked, spec_l04Asked.t, T.val, stony_ok hS, ht, rf, hm, rate_0]
  cases firstAt (fun i => fge .f32 (Sm a b c f d (fun _ => t) i) m) 61 0 <;> rfl
theorem hours_i {a b c f d t m : Nat} (hS : Stony a b c d) (ht : spec_l03Amount t = true) (rf : spec_l04Rate f = true) (hm : spec_l03Amount m = true) : (impl_HoursFor.t a b c d t f m).get = some (match firstAt (fun i => fge .f32 (Sm a b c f d (fun _ => t) i) m) 61 0 with | some i => ((i : Int), 0) | none => (0, 6)) := by
  obtain ⟨r, h1, h2⟩ := HoursW.hours_t a b c d t f m
  rw [h2, ← hours_s hS ht rf hm, h1]
theorem same1 (x : Nat) : (spec_l01Same.t x x).get = some true := by
  simp only [spec_l01Same.t, T.get, fne_self, Int.toNat_natCast]
  cases isNaN .f32 x
  · simp
  · rfl
theorem num_t (x : Nat) : (spec_SameNumber.t x x).get = some true := by
  simp only [spec_SameNumber.t, T.get, show spec_l01Same.ok x x = true from T.ok_of_get (same1 x), show spec_l01Same x x = _ from T.val_of_get (same1 x)]
  rfl
theorem stoneS_t (a b c d : Nat) : (spec_SameStone.t a b c d a b c d).get = some true := by
  simp only [spec_SameStone.t, T.get, show spec_l01Same.ok a a = true from T.ok_of_get (same1 a), show spec_l01Same a a = _ from T.val_of_get (same1 a), show spec_l01Same.ok b b = true from T.ok_of_get (same1 b), show spec_l01Same b b = _ from T.val_of_get (same1 b), show spec_l01Same.ok c c = true from T.ok_of_get (same1 c), show spec_l01Same c c = _ from T.val_of_get (same1 c), show spec_l01Same.ok d d = true from T.ok_of_get (same1 d), show spec_l01Same d d = _ from T.val_of_get (same1 d)]
  rfl
/-! The best feed. -/
section
variable (a b c d t : Nat) (xs : List Nat)
noncomputable def Ff (i : Nat) : Nat := (hF a b c d t (xs.getD i 0)).2
noncomputable def Bf : Nat → Int × Nat
  | 0 => (0, Ff a b c d t xs 0)
  | i + 1 => bif fgt .f32 (Ff a b c d t xs (i + 1)) (Bf i).2 then (((i + 1 : Nat) : Int), Ff a b c d t xs (i + 1)) else Bf i
variable (hx : xs.length = 4)
include hx
theorem bestS_r : spec_BestFeed.l17.r (t, 4, xs, a, b, c, d) (0, Ff a b c d t xs 0, 1) = some (Bf a b c d t xs 3) := by
  refine iter_run (step := spec_BestFeed.l17.st (t, 4, xs, a, b, c, d)) (f := fun i => ((Bf a b c d t xs i).1, (Bf a b c d t xs i).2, ((i + 1 : Nat) : Int))) (n := 3) (N := manyRounds) (k := 0) (many_lt (by omega)) (fun i hi => ?_) ?_
  · have h1 := hourS a b c d t (xs.getD (i + 1) 0)
    have e : (hF a b c d t (xs.getD (i + 1) 0)).2 = Ff a b c d t xs (i + 1) := rfl
    simp only [Nat.zero_add]
    rw [Bf]
    simp only [spec_BestFeed.l17.st, spec_BestFeed.l17.s, T.get, bounds_nat, ble_decide, Int.toNat_natCast, Nat.mul_one, show spec_l04Hour.ok a b c d t (xs.getD (i + 1) 0) = true from T.ok_of_get (h1), show spec_l04Hour a b c d t (xs.getD (i + 1) 0) = _ from T.val_of_get (h1), e, hx]
    rw [decide_eq_true (by omega : ((i + 1 : Nat) : Int) < ((4 : Nat) : Int)), decide_eq_true (by omega : i + 1 < 4), decide_eq_true (by omega : i + 1 + 1 ≤ 4), wrap64_succ (by omega)]
    cases fgt .f32 (Ff a b c d t xs (i + 1)) (Bf a b c d t xs i).2 <;> rfl
  · simp only [Nat.zero_add, spec_BestFeed.l17.st, spec_BestFeed.l17.s, T.get]
    rfl
theorem bestI_r (h0 : fgt .f32 (Ff a b c d t xs 0) 3212836864 = true) : impl_BestFeed.l10.r (t, 4, (4 : Int), xs, a, b, c, d) (0, 3212836864, 0) = some (Bf a b c d t xs 3) := by
  refine iter_run (step := impl_BestFeed.l10.st (t, 4, (4 : Int), xs, a, b, c, d)) (f := fun i => match i with | 0 => ((0 : Int), 3212836864, (0 : Int)) | i + 1 => ((Bf a b c d t xs i).1, (Bf a b c d t xs i).2, ((i + 1 : Nat) : Int))) (n := 4) (N := manyRounds) (k := 0) (many_lt (by omega)) (fun i hi => ?_) ?_
  · have h1 := hourI a b c d t (xs.getD i 0)
    have e : (hF a b c d t (xs.getD i 0)).2 = Ff a b c d t xs i := rfl
    simp only [Nat.zero_add]
    cases i with
    | zero =>
      have e0 : xs.getD (Int.toNat 0 * 1) 0 = xs.getD 0 0 := rfl
      have e1 : Nat.ble (Int.toNat 0 * 1 + 1) xs.length = true := by rw [hx]; rfl
      simp only [impl_BestFeed.l10.st, impl_BestFeed.l10.s, T.get, e0, e1, show impl_Stone_hour.ok t (xs.getD 0 0) a b c d = true from T.ok_of_get (h1), show impl_Stone_hour t (xs.getD 0 0) a b c d = _ from T.val_of_get (h1), e, h0]
      rfl
    | succ i =>
      dsimp only
      rw [Bf]
      simp only [impl_BestFeed.l10.st, impl_BestFeed.l10.s, T.get, bounds_nat, ble_decide, Int.toNat_natCast, Nat.mul_one, show impl_Stone_hour.ok t (xs.getD (i + 1) 0) a b c d = true from T.ok_of_get (h1), show impl_Stone_hour t (xs.getD (i + 1) 0) a b c d = _ from T.val_of_get (h1), e, hx]
      rw [decide_eq_true (by omega : ((i + 1 : Nat) : Int) < (4 : Int)), decide_eq_true (by omega : i + 1 < 4), decide_eq_true (by omega : i + 1 + 1 ≤ 4), wrap64_succ (by omega)]
      cases fgt .f32 (Ff a b c d t xs (i + 1)) (Bf a b c d t xs i).2 <;> rfl
  · simp only [Nat.zero_add, impl_BestFeed.l10.st, impl_BestFeed.l10.s, T.get]
    rfl
end
theorem minus_one {x : Nat} (h : Nn x) : fgt .f32 x 3212836864 = true := by
  rw [fgt_flip]
  unfold flt
  have := neg_order (r := 1065353216) (by decide) (by decide) h
  have e : 2147483648 + 1065353216 = 3212836864 := by decide
  rw [e] at this
  rw [this]
  rfl
theorem best_facts {a b c d t : Nat} {xs : List Nat} (hS : Stony a b c d) (hf : ∀ i, i < 4 → Nb 1091567616 (xs.getD i 0)) : ∀ k, k < 4 → ∃ at' : Nat, (Bf a b c d t xs k).1 = (at' : Int) ∧ at' ≤ k ∧ Nn (Bf a b c d t xs k).2 ∧ (∀ i, i ≤ k → rg (Ff a b c d t xs i) ≤ rg (Bf a b c d t xs k).2 ∧ (i < at' → rg (Ff a b c d t xs i) < rg (Bf a b c d t xs k).2))
  | 0, _ => ⟨0, rfl, Nat.le_refl _, (hF_facts hS (hf 0 (by omega))).2.2.1.1, fun i hi => by
      have : i = 0 := by omega
      subst this
      exact ⟨Nat.le_refl _, fun h => by omega⟩⟩
  | k + 1, hk => by
    obtain ⟨p, h1, h2, h3, h4⟩ := best_facts (t := t) hS hf k (by omega)
    have hn : Nn (Ff a b c d t xs (k + 1)) := (hF_facts hS (hf (k + 1) hk)).2.2.1.1
    rw [Bf, fgt_nn hn h3]
    by_cases hlt : rg (Bf a b c d t xs k).2 < rg (Ff a b c d t xs (k + 1))
    · rw [decide_eq_true hlt]
      refine ⟨k + 1, rfl, Nat.le_refl _, hn, fun i hi => ?_⟩
      dsimp only [cond_true]
      rcases Nat.lt_or_ge i (k + 1) with h5 | h5
      · have := (h4 i (by omega)).1
        exact ⟨by omega, fun _ => by omega⟩
      · have : i = k + 1 := by omega
        subst this
        exact ⟨Nat.le_refl _, fun h => by omega⟩
    · rw [decide_eq_false hlt]
      refine ⟨p, h1, by omega, h3, fun i hi => ?_⟩
      dsimp only [cond_false]
      rcases Nat.lt_or_ge i (k + 1) with h5 | h5
      · exact h4 i (by omega)
      · have : i = k + 1 := by omega
        subst this
        exact ⟨by omega, fun h => by omega⟩
theorem lists_same (xs : List Nat) (h : xs.length < 1000000) : (spec_SameNumbers_w1.t xs.length xs.length xs xs).get = some true := by
  have hr : spec_SameNumbers_w1.l4.r (xs.length, xs.length, xs, xs) (0 : Int) = some (.inr ()) := by
    refine iter_run (step := spec_SameNumbers_w1.l4.st (xs.length, xs.length, xs, xs)) (f := fun i => (i : Int)) (n := xs.length) (N := manyRounds) (k := 0) (many_lt (by omega)) (fun i hi => ?_) ?_
    · simp only [Nat.zero_add, spec_SameNumbers_w1.l4.st, spec_SameNumbers_w1.l4.s, T.get, bounds_nat, ble_decide, Int.toNat_natCast, Nat.mul_one, show spec_l01Same.ok (xs.getD i 0) (xs.getD i 0) = true from T.ok_of_get (same1 _), show spec_l01Same (xs.getD i 0) (xs.getD i 0) = _ from T.val_of_get (same1 _)]
      rw [decide_eq_true (by omega : (i : Int) < (xs.length : Int)), decide_eq_true hi, decide_eq_true (by omega : i + 1 ≤ xs.length), wrap64_succ (by omega)]
      rfl
    · simp only [Nat.zero_add, spec_SameNumbers_w1.l4.st, spec_SameNumbers_w1.l4.s, T.get]
      rw [decide_eq_false (by omega)]
      rfl
  simp only [spec_SameNumbers_w1.t, T.get, hr]
  simp
section
variable {a b c d t : Nat} {xs : List Nat} (hx : xs.length = 4) (hr : ∀ i, i < 4 → spec_l04Rate (xs.getD i 0) = true)
include hx hr
theorem rates4 : spec_BestFeed.l5.r (t, 4, xs, a, b, c, d) (true, 0) = some true := by
  refine iter_run (step := spec_BestFeed.l5.st (t, 4, xs, a, b, c, d)) (f := fun i => (true, (i : Int))) (n := 4) (N := manyRounds) (k := 0) (many_lt (by omega)) (fun i hi => ?_) ?_
  · simp only [Nat.zero_add, spec_BestFeed.l5.st, spec_BestFeed.l5.s, T.get, bounds_nat, ble_decide, Int.toNat_natCast, Nat.mul_one, hr i hi, hx]
    rw [decide_eq_true (by omega : (i : Int) < ((4 : Nat) : Int)), decide_eq_true (by omega : i < 4), decide_eq_true (by omega : i + 1 ≤ 4), wrap64_succ (by omega)]
    rfl
  · simp only [Nat.zero_add, spec_BestFeed.l5.st, spec_BestFeed.l5.s, T.get]
    rfl
theorem contains4 : (slices_ContainsFunc_float32_float32_w2.t 4 xs).get = some false := by
  have hq : slices_IndexFunc_float32_float32_w2.l2.r (4, ((4 : Nat) : Int), xs) (0 : Int) = some (.inr ()) := by
    refine iter_run (step := slices_IndexFunc_float32_float32_w2.l2.st (4, ((4 : Nat) : Int), xs)) (f := fun i => (i : Int)) (n := 4) (N := manyRounds) (k := 0) (many_lt (by omega)) (fun i hi => ?_) ?_
    · have e : impl_BestFeed_1 (xs.getD i 0) = false := by
        simp only [impl_BestFeed_1, impl_BestFeed_1.t, T.val, rate_eq, hr i hi]
        rfl
      simp only [Nat.zero_add, slices_IndexFunc_float32_float32_w2.l2.st, slices_IndexFunc_float32_float32_w2.l2.s, T.get, bounds_nat, ble_decide, Int.toNat_natCast, Nat.mul_one, e, hx]
      rw [decide_eq_true (by omega : (i : Int) < ((4 : Nat) : Int)), decide_eq_true (by omega : i < 4), decide_eq_true (by omega : i + 1 ≤ 4), wrap64_succ (by omega)]
      rfl
    · simp only [Nat.zero_add, slices_IndexFunc_float32_float32_w2.l2.st, slices_IndexFunc_float32_float32_w2.l2.s, T.get]
      rfl
  have h1 : (slices_IndexFunc_float32_float32_w2.t 4 xs).get = some (-1) := by
    simp only [slices_IndexFunc_float32_float32_w2.t, T.get, hq]
    rfl
  simp only [slices_ContainsFunc_float32_float32_w2.t, T.get, show slices_IndexFunc_float32_float32_w2.ok 4 xs = true from T.ok_of_get (h1), show slices_IndexFunc_float32_float32_w2 4 xs = _ from T.val_of_get (h1)]
  rfl
theorem best_s (hS : Stony a b c d) (ht : spec_l03Amount t = true) : (spec_BestFeed.t a b c d t 4 xs).get = some ((Bf a b c d t xs 3).1, (Bf a b c d t xs 3).2, 0) := by
  have h1 := hourS a b c d t (xs.getD 0 0)
  have e : (hF a b c d t (xs.getD 0 0)).2 = Ff a b c d t xs 0 := rfl
  have hb0 : bounds 0 4 = true := by kernel_rfl
  simp only [spec_BestFeed.t, T.get, stony_ok hS, ht, rates4 hx hr, hx, hb0, show spec_l04Hour.ok a b c d t (xs.getD 0 0) = true from T.ok_of_get (h1), show spec_l04Hour a b c d t (xs.getD 0 0) = _ from T.val_of_get (h1), e, bestS_r a b c d t xs hx]
  rfl
theorem best_i (hS : Stony a b c d) (ht : spec_l03Amount t = true) (h0 : Nb 1091567616 (xs.getD 0 0)) : (impl_BestFeed.t a b c d t 4 xs).get = some ((Bf a b c d t xs 3).1, (Bf a b c d t xs 3).2, 0) := by
  have hm := minus_one (hF_facts (t := t) hS h0).2.2.1.1
  have hq : impl_BestFeed.l10.r (t, 4, ((4 : Nat) : Int), xs, a, b, c, d) (0, 3212836864, 0) = some (Bf a b c d t xs 3) := bestI_r a b c d t xs hx hm
  simp only [impl_BestFeed.t, T.get, code_eq, stony_ok hS, amount_eq, ht, show slices_ContainsFunc_float32_float32_w2.ok 4 xs = true from T.ok_of_get (contains4 hx hr), show slices_ContainsFunc_float32_float32_w2 4 xs = _ from T.val_of_get (contains4 hx hr), hq]
  rfl
end
/-! The law's own loops. -/
theorem dulled_v {a b c d v : Nat} (hS : Stony a b c d) (hv : Nb 1233125376 v) : impl_Dulled a b c d v = (a, b, c, (spec_l04Dulled a b c d v).2.2.2, 0) := by
  have hd : ∀ v, spec_l04Dulled a b c d v = (a, b, c, (spec_l04Dulled a b c d v).2.2.2) := fun v => rfl
  simp only [impl_Dulled, impl_Dulled.t, T.val, code_eq, stony_ok hS, amount_eq, amount_nb hv, dull_eq]
  rfl
theorem walk_r (k1 k2 f : Nat) (a b c d : Nat) (u1 u2 : List Int) (s1 s2 s3 s4 e1 e2 e3 e4 : Nat) (xs : List Nat) (hS : Stony a b c d) (hf : Nb 1091567616 f) (rf : spec_l04Rate f = true) (hn : xs.length ≤ 60) (ha : ∀ i, i < xs.length → spec_l03Amount (xs.getD i 0) = true) :
    laws_FnDays.l12.r (k1, k2, xs.length, f, xs.length, u1, u2, s1, s2, s3, s4, xs, e1, e2, e3, e4, Ls a b c f d (fun i => xs.getD i 0) xs.length) ((0 : Int), a, b, c, d) = some (.inr (a, b, c, Gr a b c f d (fun i => xs.getD i 0) xs.length)) := by
  refine iter_run (step := laws_FnDays.l12.st (k1, k2, xs.length, f, xs.length, u1, u2, s1, s2, s3, s4, xs, e1, e2, e3, e4, Ls a b c f d (fun i => xs.getD i 0) xs.length)) (f := fun i => ((i : Int), a, b, c, Gr a b c f d (fun i => xs.getD i 0) i)) (n := xs.length) (N := manyRounds) (k := 0) (many_lt (by omega)) (fun i hi => ?_) ?_
  · have hG := Gr_stony a b c f d (fun i => xs.getD i 0) hS hf i
    have hD := Gr_down a b c f d (fun i => xs.getD i 0) hS hf i
    have hV := Fl_nb a b c f d (fun i => xs.getD i 0) hS hf i
    have hN := (okF_nb (Gr_stony a b c f d (fun i => xs.getD i 0) hS hf (i + 1)).2.2.2).1
    have hK := (hF_facts (t := xs.getD i 0) hG hf).2.2.2
    have hL := Ls_get a b c f d (fun i => xs.getD i 0) hi
    obtain ⟨g1, g2⟩ := hour_g hG (ha i hi) rf
    have eG : (hF a b c (Gr a b c f d (fun i => xs.getD i 0) i) (xs.getD i 0) f).1 = Gr a b c f d (fun i => xs.getD i 0) (i + 1) := rfl
    have eF : (hF a b c (Gr a b c f d (fun i => xs.getD i 0) i) (xs.getD i 0) f).2 = Fl a b c f d (fun i => xs.getD i 0) i := rfl
    rw [eG, eF] at g1 g2 hK
    have hle : fgt .f32 (Gr a b c f d (fun i => xs.getD i 0) (i + 1)) (Gr a b c f d (fun i => xs.getD i 0) i) = false := by
      rw [fgt_nn hN (okF_nb hG.2.2.2).1]
      exact decide_eq_false (by omega)
    have hz : flt .f32 (Fl a b c f d (fun i => xs.getD i 0) i) 0 = false := by
      have n0 := nb_self (K := 0) (by decide)
      rw [flt_nn hV.1 n0.1, n0.2]
      exact decide_eq_false (by omega)
    have hdul := dulled_v hG hV
    simp only [Nat.zero_add]
    generalize Gr a b c f d (fun i => xs.getD i 0) (i + 1) = g' at *
    generalize Gr a b c f d (fun i => xs.getD i 0) i = g at *
    generalize hw : Fl a b c f d (fun i => xs.getD i 0) i = v at *
    generalize hl : Ls a b c f d (fun i => xs.getD i 0) xs.length = L at *
    have hlen : L.length = xs.length := by rw [← hl, Ls_len]
    simp only [Nat.zero_add, laws_FnDays.l12.st, laws_FnDays.l12.s, T.get, bounds_nat, ble_decide, Int.toNat_natCast, Nat.mul_one, show spec_GrindHour.ok a b c g (xs.getD i 0) f = true from T.ok_of_get (g1), show spec_GrindHour a b c g (xs.getD i 0) f = _ from T.val_of_get (g1), show impl_GrindHour.ok a b c g (xs.getD i 0) f = true from T.ok_of_get (g2), show impl_GrindHour a b c g (xs.getD i 0) f = _ from T.val_of_get (g2), hL, hlen, hdul, show spec_SameNumber.ok v v = true from T.ok_of_get (num_t v), show spec_SameNumber v v = _ from T.val_of_get (num_t v), show spec_SameStone.ok a b c g' a b c g' = true from T.ok_of_get (stoneS_t a b c g'), show spec_SameStone a b c g' a b c g' = _ from T.val_of_get (stoneS_t a b c g'), hz, hle]
    rw [decide_eq_true (by omega : (i : Int) < (xs.length : Int)), decide_eq_true hi, decide_eq_true (by omega : i + 1 ≤ xs.length), wrap64_succ (by omega)]
    cases hg : fgt .f32 v 0 with
    | false => simp
    | true =>
      rw [hK hg]
      simp [show spec_SameStone.ok a b c g' a b c g' = true from T.ok_of_get (stoneS_t a b c g'), show spec_SameStone a b c g' a b c g' = _ from T.val_of_get (stoneS_t a b c g')]
  · simp only [Nat.zero_add, laws_FnDays.l12.st, laws_FnDays.l12.s, T.get]
    rw [decide_eq_false (by omega)]
    rfl
theorem same_r (f m t n : Nat) (u1 u2 : List Int) (s1 s2 s3 s4 : Nat) (hn : n ≤ 60) : laws_FnDays.l39.r (f, m, t, (n : Int), u1, u2, s1, s2, s3, s4) (0, (0 : Int), []) = some (n, List.replicate n t) := by
  refine iter_run (step := laws_FnDays.l39.st (f, m, t, (n : Int), u1, u2, s1, s2, s3, s4)) (f := fun i => (i, (i : Int), List.replicate i t)) (n := n) (N := manyRounds) (k := 0) (many_lt (by omega)) (fun i hi => ?_) ?_
  · have hc := fun x => cond1 x (List.replicate i t).length i (by simp) (by omega)
    simp only [ble_decide, Nat.mul_one] at hc
    simp only [Nat.zero_add, laws_FnDays.l39.st, laws_FnDays.l39.s, T.get, ble_decide, Nat.mul_one, hc]
    rw [decide_eq_true (by omega : (i : Int) < (n : Int)), wrap64_succ (by omega), List.replicate_succ']
    rfl
  · simp only [Nat.zero_add, laws_FnDays.l39.st, laws_FnDays.l39.s, T.get]
    rw [decide_eq_false (by omega)]
    rfl
theorem four_r (t : Nat) (a b c d : Nat) (u1 u2 : List Int) (xs : List Nat) (hx : xs.length = 4) (hS : Stony a b c d) (ht : spec_l03Amount t = true) (hr : ∀ i, i < 4 → spec_l04Rate (xs.getD i 0) = true) (hf : ∀ i, i < 4 → Nb 1091567616 (xs.getD i 0)) :
    laws_FnDays.l57.r (t, 4, (Bf a b c d t xs 3).1, (Bf a b c d t xs 3).2, u1, u2, a, b, c, d, xs) (0 : Int) = some (.inr ()) := by
  refine iter_run (step := laws_FnDays.l57.st (t, 4, (Bf a b c d t xs 3).1, (Bf a b c d t xs 3).2, u1, u2, a, b, c, d, xs)) (f := fun i => (i : Int)) (n := 4) (N := manyRounds) (k := 0) (many_lt (by omega)) (fun i hi => ?_) ?_
  · obtain ⟨p, h1, h2, h3, h4⟩ := best_facts (t := t) hS hf 3 (by omega)
    obtain ⟨h5, h6⟩ := h4 i (by omega)
    obtain ⟨g1, g2⟩ := hour_g hS ht (hr i hi)
    have hn : Nn (Ff a b c d t xs i) := (hF_facts hS (hf i hi)).2.2.1.1
    have eF : (hF a b c d t (xs.getD i 0)).2 = Ff a b c d t xs i := rfl
    have k1 : fgt .f32 (Ff a b c d t xs i) (Bf a b c d t xs 3).2 = false := by
      rw [fgt_nn hn h3]
      exact decide_eq_false (by omega)
    have k2 : feq .f32 (Ff a b c d t xs i) (Bf a b c d t xs 3).2 = true → decide ((i : Int) < (Bf a b c d t xs 3).1) = false := fun h => by
      rw [feq_nn hn h3] at h
      have := of_decide_eq_true h
      rw [h1]
      exact decide_eq_false (fun hh => by have := h6 (by omega); omega)
    simp only [Nat.zero_add, laws_FnDays.l57.st, laws_FnDays.l57.s, T.get, bounds_nat, ble_decide, Int.toNat_natCast, Nat.mul_one, show impl_GrindHour.ok a b c d t (xs.getD i 0) = true from T.ok_of_get (g2), show impl_GrindHour a b c d t (xs.getD i 0) = _ from T.val_of_get (g2), hx, eF, k1]
    rw [decide_eq_true (by omega : (i : Int) < ((4 : Nat) : Int)), decide_eq_true (by omega : i < 4), decide_eq_true (by omega : i + 1 ≤ 4), wrap64_succ (by omega)]
    cases hq : feq .f32 (Ff a b c d t xs i) (Bf a b c d t xs 3).2 with
    | false => rfl
    | true =>
      rw [k2 hq]
      rfl
  · simp only [Nat.zero_add, laws_FnDays.l57.st, laws_FnDays.l57.s, T.get]
    rfl
theorem src_of {xs : List Int} (h : ∀ x ∈ xs, IntKind.min .u8 ≤ x ∧ x ≤ IntKind.max .u8) (hl : xs.length ≤ 4096) : srcOk xs.length xs := by
  refine ⟨rfl, by omega, fun x hx => ?_⟩
  have := h x hx
  have e1 : IntKind.min .u8 = 0 := by decide
  have e2 : IntKind.max .u8 = 255 := by decide
  rw [e1, e2] at this
  exact this
theorem big_eq (n : Nat) (xs : List Int) : laws_f6big n xs = decide ((n : Int) > 4096) := by
  simp only [laws_f6big, laws_f6big.t, T.val]
theorem amount300 : (List.range 300).all (fun v => spec_l03Amount (fofint .f32 (v : Int))) = true := by kernel_rfl
theorem amount100 : (List.range 100).all (fun v => spec_l03Amount (val (v : Int) 1073741824)) = true := by kernel_rfl
theorem word300 : (List.range 300).all (fun v => decide (fofint .f32 (v : Int) < 2139095040)) = true := by kernel_rfl
theorem half64 : (List.range 64).all (fun v => okF 1091567616 (fdiv .f32 (val (v : Int) 1090519040) 1073741824)) = true := by kernel_rfl
theorem law_small (xs ys : List Int) (hx' : ∀ x ∈ xs, IntKind.min .u8 ≤ x ∧ x ≤ IntKind.max .u8) (hx : xs.length ≤ 4096) (hy' : ∀ x ∈ ys, IntKind.min .u8 ≤ x ∧ x ≤ IntKind.max .u8) (hy : ys.length ≤ 4096) : (laws_FnDays.t xs.length ys.length xs ys).get = some true := by
  have sx := src_of hx' hx
  have sy := src_of hy' hy
  obtain ⟨a, b, c, d, q1, hS⟩ := stone_t sx
  obtain ⟨ts, q2, tn, tf⟩ := torques_t sy
  obtain ⟨fv, q3, fl⟩ := p6pick_t sx 64
  obtain ⟨wv, q4, wl⟩ := p6pick_t sy 17
  obtain ⟨mv, q5, ml⟩ := p6pick_t sx 300
  obtain ⟨tv, q6, tl⟩ := p6pick_t sy 100
  have of := vals val64 (by omega) fl
  have of1 := vals' next64 (by omega) fl
  have of2 := vals' half64 (by omega) fl
  have ow := vals val17 (by omega) wl
  have hm := vals' amount300 (by omega) ml
  have nm : Nn (fofint .f32 (mv : Int)) := .inl (of_decide_eq_true (vals' word300 (by omega) ml))
  have ht := vals' amount100 (by omega) tl
  have e3 : fdiv .f32 (fofint .f32 (fv : Int)) 1090519040 = val (fv : Int) 1090519040 := rfl
  have e4 : fdiv .f32 (fofint .f32 (wv : Int)) 1098907648 = val (wv : Int) 1098907648 := rfl
  have e6 : fdiv .f32 (fofint .f32 (tv : Int)) 1073741824 = val (tv : Int) 1073741824 := rfl
  have b1 : laws_f6big xs.length xs = false := by rw [big_eq]; exact decide_eq_false (by omega)
  have b2 : laws_f6big ys.length ys = false := by rw [big_eq]; exact decide_eq_false (by omega)
  simp only [laws_FnDays.t, T.get, T.get_join, b1, b2, cond_false, show spec_P6Stone.ok xs.length xs = true from T.ok_of_get (q1), show spec_P6Stone xs.length xs = _ from T.val_of_get (q1), show spec_P6Torques.ok ys.length ys = true from T.ok_of_get (q2), show spec_P6Torques ys.length ys = _ from T.val_of_get (q2), show spec_P6Pick.ok xs.length (64 : Int) xs = true from T.ok_of_get (q3), show spec_P6Pick xs.length (64 : Int) xs = _ from T.val_of_get (q3), show spec_P6Pick.ok ys.length (17 : Int) ys = true from T.ok_of_get (q4), show spec_P6Pick ys.length (17 : Int) ys = _ from T.val_of_get (q4), show spec_P6Pick.ok xs.length (300 : Int) xs = true from T.ok_of_get (q5), show spec_P6Pick xs.length (300 : Int) xs = _ from T.val_of_get (q5), show spec_P6Pick.ok ys.length (100 : Int) ys = true from T.ok_of_get (q6), show spec_P6Pick ys.length (100 : Int) ys = _ from T.val_of_get (q6), e3, e4, e6]
  clear q1 q2 q3 q4 q5 q6 e3 e4 e6 fl wl ml tl sx sy hx' hy' hx hy b1 b2
  generalize val (fv : Int) 1090519040 = f at *
  generalize val (wv : Int) 1098907648 = w at *
  generalize val (tv : Int) 1073741824 = t at *
  generalize fofint .f32 (mv : Int) = m at *
  have rf := okF_rate of
  have nf : Nb 1091567616 f := nb_mono (okF_nb of) (by omega)
  have hn : ts.length ≤ 60 := by omega
  have ha : ∀ i, i < ts.length → spec_l03Amount (ts.getD i 0) = true := fun i hi => (tf i hi).2
  have n0 := nb_self (K := 0) (by decide)
  have z0 : rg 0 = 0 := n0.2
  have g1 := day_s hS rf hn ha
  have g2 := day_i hS rf hn ha
  rw [DD_none a b c f d _ hS nf n0.1 z0] at g2
  have g3 := dressed_s hS rf hn ha (okF_part ow)
  have g4 := dressed_i hS rf hn ha (okF_part ow)
  have hGn := Gr_stony a b c f d (fun i => ts.getD i 0) hS nf ts.length
  have hGl := Gr_le a b c f d (fun i => ts.getD i 0) hS nf ts.length
  have hLl := Ls_len a b c f d (fun i => ts.getD i 0) ts.length
  have hDl := DD_len a b c f d (fun i => ts.getD i 0) w ts.length
  have hDm := DD_many a b c f d (fun i => ts.getD i 0) w ts.length
  have hD0 : feq .f32 w 0 = true → DD a b c f d (fun i => ts.getD i 0) w ts.length = (Gr a b c f d (fun i => ts.getD i 0) ts.length, 0, Ls a b c f d (fun i => ts.getD i 0) ts.length) := fun h => by
    rw [feq_nn (okF_nb ow).1 n0.1] at h
    exact DD_none a b c f d _ hS nf (okF_nb ow).1 (by have := of_decide_eq_true h; omega) _
  have hwalk := fun k1 k2 u1 u2 s1 s2 s3 s4 e1 e2 e3 e4 => walk_r k1 k2 f a b c d u1 u2 s1 s2 s3 s4 e1 e2 e3 e4 ts hS nf rf hn ha
  have hle : fgt .f32 (Gr a b c f d (fun i => ts.getD i 0) ts.length) d = false := by
    rw [fgt_nn (okF_nb hGn.2.2.2).1 (okF_nb hS.2.2.2).1]
    exact decide_eq_false (by omega)
  have sl1 := lists_same (Ls a b c f d (fun i => ts.getD i 0) ts.length) (by omega)
  have sl2 := lists_same (DD a b c f d (fun i => ts.getD i 0) w ts.length).2.2 (by omega)
  rw [hLl] at sl1
  rw [hDl] at sl2
  have st := fun a b c d => stoneS_t a b c d
  have hdr : impl_Dressed a b c d = (a, b, c, 1065353216, 0) := by
    simp only [impl_Dressed, impl_Dressed.t, T.val, valid_eq, stony_ok hS]
    rfl
  have hone : fne .f32 1065353216 1065353216 = false := by kernel_rfl
  generalize hL : Ls a b c f d (fun i => ts.getD i 0) ts.length = L at *
  generalize hG : Gr a b c f d (fun i => ts.getD i 0) ts.length = g at *
  generalize hD : DD a b c f d (fun i => ts.getD i 0) w ts.length = D at *
  have hm1 : decide (((D.2.1 : Nat) : Int) < 0) = false := decide_eq_false (by omega)
  have hm2 : decide (((D.2.1 : Nat) : Int) > (ts.length : Int)) = false := decide_eq_false (by omega)
  have vl := valid_eq a b c g
  rw [stony_ok hGn] at vl
  have j1 : (bif feq .f32 w 0 then (bif ((D.2.1 : Nat) : Int) != 0 then some (some false) else bif spec_SameStone.ok a b c D.1 a b c g then (bif !spec_SameStone a b c D.1 a b c g then some (some false) else some none) else none) else some none) = some (none : Option Bool) := by
    cases hz : feq .f32 w 0 with
    | false => rfl
    | true =>
      rw [hD0 hz]
      simp only [show spec_SameStone.ok a b c g a b c g = true from T.ok_of_get (st a b c g), show spec_SameStone a b c g a b c g = _ from T.val_of_get (st a b c g)]
      rfl
  have hr4 : ∀ i, i < 4 → spec_l04Rate ([0, f, fdiv .f32 f 1073741824, fadd .f32 f 1065353216].getD i 0) = true := fun i hi => by
    match i, hi with
    | 0, _ => exact rate_0
    | 1, _ => exact rf
    | 2, _ => exact okF_rate of2
    | 3, _ => exact okF_rate of1
  have hf4 : ∀ i, i < 4 → Nb 1091567616 ([0, f, fdiv .f32 f 1073741824, fadd .f32 f 1065353216].getD i 0) := fun i hi => by
    match i, hi with
    | 0, _ => exact ⟨n0.1, by show rg 0 ≤ _; rw [z0]; omega⟩
    | 1, _ => exact nf
    | 2, _ => exact okF_nb of2
    | 3, _ => exact okF_nb of1
  have k1 := best_s (t := t) rfl hr4 hS ht
  have k2 := best_i (t := t) rfl hr4 hS ht (hf4 0 (by omega))
  have k3 := four_r t a b c d xs ys _ rfl hS ht hr4 hf4
  obtain ⟨p, p1, p2, p3, p4⟩ := best_facts (t := t) hS hf4 3 (by omega)
  generalize hB : Bf a b c d t [0, f, fdiv .f32 f 1073741824, fadd .f32 f 1065353216] 3 = B at *
  have hb1 : decide (B.1 < 0) = false := decide_eq_false (by omega)
  have hb2 : decide (B.1 > 3) = false := decide_eq_false (by omega)
  have sn := fun x => num_t x
  have hs := hours_s (m := m) hS ht rf hm
  have hi := hours_i (m := m) hS ht rf hm
  simp only [show spec_GrindDay.ok a b c d ts.length f ts = true from T.ok_of_get (g1), show spec_GrindDay a b c d ts.length f ts = _ from T.val_of_get (g1), show impl_GrindDay.ok a b c d ts.length f ts = true from T.ok_of_get (g2), show impl_GrindDay a b c d ts.length f ts = _ from T.val_of_get (g2), show spec_DressedDay.ok a b c d ts.length f w ts = true from T.ok_of_get (g3), show spec_DressedDay a b c d ts.length f w ts = _ from T.val_of_get (g3), show impl_DressedDay.ok a b c d ts.length f w ts = true from T.ok_of_get (g4), show impl_DressedDay a b c d ts.length f w ts = _ from T.val_of_get (g4), Sum.isLeft, getRightD, hwalk, show spec_SameStone.ok a b c g a b c g = true from T.ok_of_get (st a b c g), show spec_SameStone a b c g a b c g = _ from T.val_of_get (st a b c g), show spec_SameStone.ok a b c D.1 a b c D.1 = true from T.ok_of_get (st a b c D.1), show spec_SameStone a b c D.1 a b c D.1 = _ from T.val_of_get (st a b c D.1), show spec_SameNumbers_w1.ok ts.length ts.length L L = true from T.ok_of_get (sl1), show spec_SameNumbers_w1 ts.length ts.length L L = _ from T.val_of_get (sl1), show spec_SameNumbers_w1.ok ts.length ts.length D.2.2 D.2.2 = true from T.ok_of_get (sl2), show spec_SameNumbers_w1 ts.length ts.length D.2.2 D.2.2 = _ from T.val_of_get (sl2), hle, vl, hdr, hone, hm1, hm2, j1, joinG_go,
    show spec_BestFeed.ok a b c d t 4 [0, f, fdiv .f32 f 1073741824, fadd .f32 f 1065353216] = true from T.ok_of_get (k1), show spec_BestFeed a b c d t 4 [0, f, fdiv .f32 f 1073741824, fadd .f32 f 1065353216] = _ from T.val_of_get (k1), show impl_BestFeed.ok a b c d t 4 [0, f, fdiv .f32 f 1073741824, fadd .f32 f 1065353216] = true from T.ok_of_get (k2), show impl_BestFeed a b c d t 4 [0, f, fdiv .f32 f 1073741824, fadd .f32 f 1065353216] = _ from T.val_of_get (k2), k3, hb1, hb2, show spec_SameNumber.ok B.2 B.2 = true from T.ok_of_get (sn B.2), show spec_SameNumber B.2 B.2 = _ from T.val_of_get (sn B.2), show spec_HoursFor.ok a b c d t f m = true from T.ok_of_get (hs), show spec_HoursFor a b c d t f m = _ from T.val_of_get (hs), show impl_HoursFor.ok a b c d t f m = true from T.ok_of_get (hi), show impl_HoursFor a b c d t f m = _ from T.val_of_get (hi), bne_self_eq_false, cond_true, cond_false, Bool.not_true, Bool.not_false, Option.isSome_some, Option.getD_some]
  clear g1 g2 g3 g4 hwalk k1 k2 k3 hs hi sl1 sl2
  cases hfa : firstAt (fun i => fge .f32 (Sm a b c f d (fun _ => t) i) m) 61 0 with
  | none =>
    have hz : feq .f32 m 0 = false := by
      have h0 : fge .f32 0 m = false := firstAt_none.1 hfa 0 (by omega) (by omega)
      rw [fge_flip, fle_nn nm n0.1] at h0
      rw [feq_nn nm n0.1]
      have := of_decide_eq_false h0
      exact decide_eq_false (by omega)
    simp only [hz]
    rfl
  | some j =>
    obtain ⟨_, hj, hp, hbefore⟩ := firstAt_some hfa
    have hz : feq .f32 m 0 = true → j = 0 := fun h => by
      rw [feq_nn nm n0.1] at h
      have h1 := of_decide_eq_true h
      refine Nat.eq_zero_of_not_pos fun hpos => ?_
      have h0 : fge .f32 0 m = false := hbefore 0 (by omega) hpos
      rw [fge_flip, fle_nn nm n0.1] at h0
      have := of_decide_eq_false h0
      omega
    have hp' : flt .f32 (Sm a b c f d (fun _ => t) j) m = false := ge_not_lt hp
    have hrep : ∀ i, i < j → (List.replicate j t).getD i 0 = t := fun i hi => by simp [List.getD, hi]
    have e1 := day_i (f := f) (xs := List.replicate j t) hS rf (by simp; omega) (fun i hi => by rw [hrep i (by simpa using hi)]; exact ht)
    rw [DD_none a b c f d _ hS nf n0.1 z0] at e1
    simp only [List.length_replicate] at e1
    rw [Ls_congr (q' := fun _ => t) j hrep] at e1
    have e2 := sums_t a b c f d (fun _ => t) j (by omega)
    have e3 := same_r f m t j xs ys a b c d (by omega)
    have c1 : (decide ((0 : Int) ≤ 1) && decide ((1 : Int) ≤ (j : Int)) && decide ((j : Int) ≤ (j : Int))) = decide (1 ≤ j) := by
      rw [decide_eq_true (by omega : (0 : Int) ≤ 1), decide_eq_true (by omega : (j : Int) ≤ (j : Int))]
      by_cases h : 1 ≤ j
      · rw [decide_eq_true h, decide_eq_true (by omega : (1 : Int) ≤ (j : Int))]; rfl
      · rw [decide_eq_false h, decide_eq_false (by omega : ¬ (1 : Int) ≤ (j : Int))]; rfl
    simp only [e3, Option.isSome_some, Option.getD_some, show impl_GrindDay.ok a b c d j f (List.replicate j t) = true from T.ok_of_get (e1), show impl_GrindDay a b c d j f (List.replicate j t) = _ from T.val_of_get (e1), show impl_SumOf_w1.ok j (Ls a b c f d (fun _ => t) j) = true from T.ok_of_get (e2), show impl_SumOf_w1 j (Ls a b c f d (fun _ => t) j) = _ from T.val_of_get (e2), hp', cond_true, cond_false, c1]
    clear e1 e2 e3 c1 hp' hrep
    cases j with
    | zero =>
      simp only [show decide (((0 : Nat) : Int) > 0) = false by decide]
      cases feq .f32 m 0 <;> rfl
    | succ n =>
      have hz' : feq .f32 m 0 = false := by
        cases hq : feq .f32 m 0 with
        | false => rfl
        | true => exact absurd (hz hq) (by omega)
      have hrep : ∀ i, i < n + 1 → (List.replicate (n + 1) t).getD i 0 = t := fun i hi => by simp [List.getD, hi]
      have e1 := day_j (f := f) (xs := List.replicate (n + 1) t) (n := n) hS rf (by simp) (by omega) (fun i hi => by rw [hrep i (by simpa using hi)]; exact ht)
      rw [DD_none a b c f d _ hS nf n0.1 z0] at e1
      rw [Ls_congr (q' := fun _ => t) n (fun i hi => hrep (1 + i) (by omega))] at e1
      have e2 := sums_t a b c f d (fun _ => t) n (by omega)
      have hlow : fge .f32 (Sm a b c f d (fun _ => t) n) m = false := hbefore n (by omega) (by omega)
      have en : Int.toNat ((n + 1 : Nat) : Int) - Int.toNat 1 = n := by rw [Int.toNat_natCast]; show n + 1 - 1 = n; omega
      simp only [en, hz', decide_eq_true (by omega : ((n + 1 : Nat) : Int) > 0), decide_eq_true (by omega : 1 ≤ n + 1), show impl_GrindDay_w1.ok a b c d n f (List.replicate (n + 1) t) = true from T.ok_of_get (e1), show impl_GrindDay_w1 a b c d n f (List.replicate (n + 1) t) = _ from T.val_of_get (e1), show impl_SumOf_w1.ok n (Ls a b c f d (fun _ => t) n) = true from T.ok_of_get (e2), show impl_SumOf_w1 n (Ls a b c f d (fun _ => t) n) = _ from T.val_of_get (e2), hlow]
      rfl
/- FACTS -/
theorem law_holds (xs ys : List Int) (f0 : ∀ x ∈ xs, IntKind.min .u8 ≤ x ∧ x ≤ IntKind.max .u8) (y0 : xs.length ≤ maxLen) (f1 : ∀ x ∈ ys, IntKind.min .u8 ≤ x ∧ x ≤ IntKind.max .u8) (y1 : ys.length ≤ maxLen) : (laws_FnDays.t xs.length ys.length xs ys).get = some true := by
  by_cases h1 : xs.length ≤ 4096
  · by_cases h2 : ys.length ≤ 4096
    · exact law_small xs ys f0 h1 f1 h2
    · have b1 : laws_f6big xs.length xs = false := by rw [big_eq]; exact decide_eq_false (by omega)
      have b2 : laws_f6big ys.length ys = true := by rw [big_eq]; exact decide_eq_true (by omega)
      simp only [laws_FnDays.t, T.get, b1, b2, cond_true, cond_false]
  · have b1 : laws_f6big xs.length xs = true := by rw [big_eq]; exact decide_eq_true (by omega)
    simp only [laws_FnDays.t, T.get, b1, cond_true]

theorem law_plain (xs0 : List Int) (xs1 : List Int) (f0 : ∀ x ∈ xs0, (IntKind.min .u8 ≤ x ∧ x ≤ IntKind.max .u8)) (y0 : List.length xs0 ≤ maxLen) (f1 : ∀ x ∈ xs1, (IntKind.min .u8 ≤ x ∧ x ≤ IntKind.max .u8)) (y1 : List.length xs1 ≤ maxLen) : (laws_FnDays.tr (xs0.length, xs1.length, xs0, xs1)).get = some true := law_holds xs0 xs1 f0 y0 f1 y1
theorem own : ownKnob Try.prog.godebug = none := by kernel_rfl
theorem laidOut : laidOutB Try.prog = true := by kernel_rfl
theorem ground {W : World} (h : W.ShapedOpen Try.prog) : Sx.Ground W := ground_of (by kernel_rfl) h
theorem lifted (os : Os) (started : os.Started) (H : Type) (enc : TypeId × Value → H) :
    ReturnsInHanded {} Try.checked os 8 .any (Rows.fnDaysSpec.pre6 enc Try.prog Try.f8 Rows.fnDaysRow.domain false) (Rows.fnDaysSpec.post enc Try.prog Try.f8 false true false false) := by
  refine returnsInHanded_of_change_shaped (C := Try.checked) own started (by kernel_rfl) Try.func8
    (ChangeSpec.witness6 (enc := enc) (C := Try.checked) false ⟨#[], #[.slice none 0 0, .slice none 0 0], []⟩ 8 (by kernel_rfl) (by kernel_rfl) (by kernel_rfl) (by kernel_rfl)) ?_
  intro W base args ds gs before hval0 hW hcnd _ hsh _
  have hG := ground hsh
  have hval : ∀ (j : Nat) t v, Try.f8.params[j]? = some t → args[j]? = some v → Value.okWide Try.prog W .any base t v := hval0
  have hW' := hW
  obtain ⟨p, q, hA0, hV, rfl, hfz, hnd⟩ := hW
  have hA : DataW.TrodAll enc Try.prog W 0 (fun _ => true) true Try.f8.params.toList args.toList ds p := hA0
  rw [Try.params8] at hA hval
  obtain ⟨v0, vs0, d0, ds0, p0, q0, hargs, rfl, rfl, h0, rr0⟩ := trodAll_cons hA
  obtain ⟨v1, vs1, d1, ds1, p1, q1, rfl, rfl, rfl, h1, rr1⟩ := trodAll_cons rr0
  obtain ⟨rfl, rfl, rfl⟩ := trodAll_nil rr1
  obtain rfl : args = #[v0, v1] := by cases args; simp_all
  obtain ⟨rfl, rfl⟩ := trodVars_none hV
  have k0 := h0
  have lt0 : ∀ x ∈ p0, x.block < W.heap.size := by obtain ⟨m, hm⟩ := k0; exact DataW.trod_lt m _ _ _ hm
  obtain ⟨l0, xs0, w0, r0, f0, y0⟩ := open_its Try.underlying54 Try.underlying5 (by kernel_rfl) hG (hval 0 54 v0 rfl rfl) k0
  have k1 := h1
  have lt1 : ∀ x ∈ p1, x.block < W.heap.size := by obtain ⟨m, hm⟩ := k1; exact DataW.trod_lt m _ _ _ hm
  obtain ⟨l1, xs1, w1, r1, f1, y1⟩ := open_its Try.underlying54 Try.underlying5 (by kernel_rfl) hG (hval 1 54 v1 rfl rfl) k1
  clear hA0 hval0
  refine (laws_FnDays.walk (xs0.length, xs1.length, xs0, xs1) (law_plain xs0 xs1 f0 y0 f1 y1) (ρ := fun i => (lget ([(l0, .is .u8 xs0), (l1, .is .u8 xs1)] : List (Sx.Loc × Cells)) i).map (·.1)) (Rs_cons' (r0 _ 0 rfl) (Rs_cons' (r1 _ 1 rfl) Rs_nil')) (HpR.ofRo [(l0, .is .u8 xs0), (l1, .is .u8 xs1)] ((List.forall_mem_cons.2 ⟨w0, (List.forall_mem_cons.2 ⟨w1, List.forall_mem_nil _⟩)⟩)))).mono fun e W' ⟨he, bel⟩ => ?_
  subst he
  exact ⟨_, rfl, _, _, _, [], _, [], hW', trodAll_mk1 (shut_bool Try.underlying4 _), (trodAll_cons_mk (Below.trod laidOut (by kernel_rfl) (of_decide_eq_true (by kernel_rfl)) k0 bel lt0) (trodAll_cons_mk (Below.trod laidOut (by kernel_rfl) (of_decide_eq_true (by kernel_rfl)) k1 bel lt1) trodAll_mk0)), rfl, bel.frame _, fun h => by cases h⟩
theorem over : Rows.fnDaysRow.holds Try.pinned (OpenSpec.ofChange Rows.fnDaysSpec) :=
  OpenClaim.holds_of_wide 8 Try.f8 rfl rfl rfl rfl rfl rfl rfl ⟨rfl, rfl, rfl, rfl, rfl⟩ rfl rfl rfl rfl rfl (by kernel_rfl) Try.func8 (by kernel_rfl)
    (of_decide_eq_true (by kernel_rfl)) (by unfold Func.isWrapper; first | (rw [if_pos (by decide +kernel)]; kernel_rfl) | (rw [if_neg (by decide +kernel)]; exact ⟨rfl, rfl⟩))
    (fun os started H enc _ => lifted os started H enc)
theorem proved : Rows.FnDaysSaid := over
end Go.Proofs.Ytffpnngoafpidaa
