/- For every input the call of FnLoads returns true, and each argument reads afterwards as it read before; there is no condition. -/
import Derived.Test.YtffpnngoafpidaaDoorWFnLoads
import Derived.Test.YtffpnngoafpidaaDoorSxS
import Derived.Test.YtffpnngoafpidaaDoorSxV
import Derived.Test.YtffpnngoafpidaaDoorSxW
import Derived.Test.YtffpnngoafpidaaDoorSxA1
import Derived.Test.YtffpnngoafpidaaDoorCards
import Derived.Test.YtffpnngoafpidaaDoorTie
import Derived.WalkKit
import Derived.ProofKit
import Derived.OpenShut
import Derived.ShutString
import Derived.ChangeOld
import Derived.Below
import Derived.Carry
import Derived.HandedShaped
import Derived.Deep.DeepHandedRow
import Derived.Lib.LaidTab
import Derived.Shelf.Vars
import Derived.Lib.LaidU8
import Derived.Lib.DecodeN
namespace Go.Proofs.YtffpnngoafpidaaDoor
open Go Go.RowKit Sx
open Go.ChangeShapes Go.WideShapes Go.ChangeAt
set_option linter.unusedVariables false
set_option linter.unusedSimpArgs false
set_option maxRecDepth 100000

/-! Draws out of bytes: they always end, and what is drawn lies below what was asked for. -/
theorem ibits255 (a : Int) : 0 ≤ ibits .and .u64 a 255 ∧ ibits .and .u64 a 255 ≤ 255 := by
  have e : (BitVec.ofInt 64 a &&& BitVec.ofInt 64 255).toNat ≤ 255 := by
    rw [BitVec.toNat_and]
    exact Nat.le_trans Nat.and_le_right (by decide)
  have h : ibits .and .u64 a 255 = IntKind.wrap .u64 (((BitVec.ofInt 64 a &&& BitVec.ofInt 64 255).toNat : Nat) : Int) := rfl
  rw [h]
  generalize (BitVec.ofInt 64 a &&& BitVec.ofInt 64 255).toNat = q at e
  have w : IntKind.wrap .u64 (q : Int) = (q : Int) % 18446744073709551616 := rfl
  rw [w]
  omega
/-- A source of bytes that may be drawn from. -/
def srcOk (n : Nat) (xs : List Int) : Prop := xs.length = n ∧ n ≤ 4611686018427387904 ∧ ∀ x ∈ xs, 0 ≤ x ∧ x ≤ 255
theorem src_get {n : Nat} {xs : List Int} (h : srcOk n xs) (i : Nat) : 0 ≤ xs.getD i 0 ∧ xs.getD i 0 ≤ 255 := by
  by_cases hi : i < xs.length
  · have : xs.getD i 0 = xs[i] := by simp [List.getD, List.getElem?_eq_getElem hi]
    rw [this]
    exact h.2.2 _ (List.getElem_mem hi)
  · have : xs.getD i 0 = 0 := by simp [List.getD, List.getElem?_eq_none (by omega : xs.length ≤ i)]
    rw [this]
    omega
theorem next_t {n : Nat} {xs : List Int} (hs : srcOk n xs) (pos : Nat) (h : Int) (hp : pos < 4611686018427387904) : ∃ v h', (spec_l00Src_next.t n (pos : Int) h xs).get = some (v, n, ((pos + 1 : Nat) : Int), h') ∧ 0 ≤ v ∧ v ≤ 255 := by
  have hw : ∀ a, IntKind.wrap .i64 (ibits .and .u64 a 255) = ibits .and .u64 a 255 := fun a => by
    have := ibits255 a
    exact wrap64 (by omega) (by omega)
  have hg := src_get hs pos
  have hwg : IntKind.wrap .i64 (xs.getD pos 0) = xs.getD pos 0 := wrap64 (by omega) (by omega)
  simp only [spec_l00Src_next.t, T.get, bounds_nat, ble_decide, Int.toNat_natCast, Nat.mul_one, Nat.zero_add, hs.1, hw, wrap64_succ (show pos + 1 < 9223372036854775808 by omega), hwg]
  by_cases hlt : pos < n
  · rw [decide_eq_true (by omega : (pos : Int) < (n : Int)), decide_eq_true hlt, decide_eq_true (by omega : pos + 1 ≤ n), decide_eq_true (by omega : ((pos + 1 : Nat) : Int) ≤ (n : Int))]
    exact ⟨_, _, rfl, hg.1, hg.2⟩
  · rw [decide_eq_false (by omega : ¬ (pos : Int) < (n : Int))]
    cases hc : decide (((pos + 1 : Nat) : Int) ≤ (n : Int)) with
    | true => exact ⟨_, _, rfl, by omega, by omega⟩
    | false => exact ⟨_, _, rfl, (ibits255 _).1, (ibits255 _).2⟩
theorem pick_t {n : Nat} {xs : List Int} (hs : srcOk n xs) (k : Nat) (pos : Nat) (h : Int) (hp : pos < 4611686018427387000) : ∃ (v pos' : Nat) (h' : Int), (spec_l00Src_pick.t (k : Int) n (pos : Int) h xs).get = some ((v : Int), n, (pos' : Int), h') ∧ (v = 0 ∨ v < k) ∧ pos' ≤ pos + 2 := by
  simp only [spec_l00Src_pick.t, T.get]
  by_cases h1 : k ≤ 1
  · rw [decide_eq_true (by omega : (k : Int) ≤ 1)]
    exact ⟨0, pos, h, rfl, .inl rfl, by omega⟩
  · rw [decide_eq_false (by omega : ¬ (k : Int) ≤ 1)]
    obtain ⟨v, h', q1, q2, q3⟩ := next_t hs pos h (by omega)
    obtain ⟨v2, h2, r1, r2, r3⟩ := next_t hs (pos + 1) h' (by omega)
    obtain ⟨v, rfl⟩ : ∃ w : Nat, v = w := ⟨v.toNat, by omega⟩
    obtain ⟨v2, rfl⟩ : ∃ w : Nat, v2 = w := ⟨v2.toNat, by omega⟩
    have hk0 : ((k : Int) == 0) = false := by
      rw [beq_eq_false_iff_ne]
      omega
    have e0 : IntKind.wrap .i64 ((v : Int) * 256) = ((v * 256 : Nat) : Int) := wrap64_of (by omega) (by omega)
    have e1 : IntKind.wrap .i64 (((v * 256 : Nat) : Int) + (v2 : Int)) = ((v * 256 + v2 : Nat) : Int) := wrap64_of (by omega) (by omega)
    have t1 : Int.tmod ((v * 256 + v2 : Nat) : Int) (k : Int) = (((v * 256 + v2) % k : Nat) : Int) := by rw [Int.ofNat_tmod]
    have t2 : Int.tmod (v : Int) (k : Int) = ((v % k : Nat) : Int) := by rw [Int.ofNat_tmod]
    simp only [show spec_l00Src_next.ok n (pos : Int) h xs = true from T.ok_of_get (q1), show spec_l00Src_next n (pos : Int) h xs = _ from T.val_of_get (q1), show spec_l00Src_next.ok n ((pos + 1 : Nat) : Int) h' xs = true from T.ok_of_get (r1), show spec_l00Src_next n ((pos + 1 : Nat) : Int) h' xs = _ from T.val_of_get (r1), hk0, e0, e1, t1, t2]
    by_cases h2 : k > 200
    · rw [decide_eq_true (by omega : (k : Int) > 200)]
      exact ⟨_, pos + 1 + 1, _, rfl, .inr (Nat.mod_lt _ (by omega)), by omega⟩
    · rw [decide_eq_false (by omega : ¬ (k : Int) > 200)]
      exact ⟨_, pos + 1, _, rfl, .inr (Nat.mod_lt _ (by omega)), by omega⟩
theorem one_t {n : Nat} {xs : List Int} (hs : srcOk n xs) (k : Nat) (pos : Nat) (h : Int) (hp : pos < 4611686018427387000) : ∃ (b : Bool) (pos' : Nat) (h' : Int), (spec_l00Src_one.t (k : Int) n (pos : Int) h xs).get = some (b, n, (pos' : Int), h') ∧ pos' ≤ pos + 2 := by
  obtain ⟨v, pos', h', q1, _, q3⟩ := pick_t hs k pos h hp
  simp only [spec_l00Src_one.t, T.get, show spec_l00Src_pick.ok (k : Int) n (pos : Int) h xs = true from T.ok_of_get (q1), show spec_l00Src_pick (k : Int) n (pos : Int) h xs = _ from T.val_of_get (q1)]
  exact ⟨_, pos', h', rfl, q3⟩

/-- A float that is a number, not below nought, and about 2 ^ K at most. -/
def Fin32 (K : Int) (b : Nat) : Prop := ∃ s m e, FloatKind.f32.format.read b = .number s m e ∧ (s = true → m = 0) ∧ m < 2 ^ 24 ∧ e + 23 ≤ K
theorem fin_mono {J K : Int} {b : Nat} (h : Fin32 J b) (hk : J ≤ K) : Fin32 K b := by
  obtain ⟨s, m, e, h1, h2, h3, h4⟩ := h
  exact ⟨s, m, e, h1, h2, h3, by omega⟩
theorem neg_zero : FloatKind.f32.format.read (FloatKind.f32.format.word true 0) = .number true 0 (-149) := by kernel_rfl
theorem fin_enc {s : Bool} {m : Nat} {p K : Int} (hs : s = true → m = 0) (hK : m ≠ 0 → p + (m.log2 : Int) ≤ K) (h0 : -126 ≤ K) (h1 : K ≤ 120) : Fin32 (K + 1) (nz .f32 (FloatKind.f32.format.nearest s m p)) := by
  rw [nz_of_not (nearest_num .f32 s m p)]
  have e1 : FloatKind.f32.format.leastPlace = -149 := by kernel_rfl
  have e2 : FloatKind.f32.format.fractionBits = 23 := rfl
  have e3 : FloatKind.f32.format.binade = 8388608 := by kernel_rfl
  have e4 : FloatKind.f32.format.infRung = 2139095040 := by kernel_rfl
  obtain ⟨m', e', h3, h4, h5⟩ := enc_le FloatKind.f32.format s m p K hK (by rw [e1, e2]; omega) (by rw [e1, e2, e3, e4]; omega)
  rw [e2] at h4 h5
  refine ⟨s, m', e', h3, fun h => ?_, h4, by omega⟩
  subst h
  have hm := hs rfl
  subst hm
  have e : FloatKind.f32.format.nearest true 0 p = FloatKind.f32.format.word true 0 := by simp [Ieee.Format.nearest]
  rw [e, neg_zero] at h3
  cases h3
  rfl
theorem log2_le {m a : Nat} (hm : m ≠ 0) (h : m < 2 ^ (a + 1)) : m.log2 ≤ a := by
  have := (Nat.log2_lt hm).2 h
  omega
theorem signed_nn {s : Bool} {m : Nat} (h : s = true → m = 0) (u : Nat) : Ieee.signed s m u = ((m * 2 ^ u : Nat) : Int) := by
  cases s with
  | false => exact signed_f m u
  | true => rw [h rfl, signed_zero]; simp
theorem fin_add {K : Int} {a b : Nat} (ha : Fin32 K a) (hb : Fin32 K b) (h0 : -126 ≤ K) (h1 : K ≤ 110) : Fin32 (K + 2) (fadd .f32 a b) := by
  obtain ⟨s, m, i, r1, s1, l1, k1⟩ := ha
  obtain ⟨t, n, j, r2, s2, l2, k2⟩ := hb
  unfold fadd Ieee.Format.add
  rw [r1, r2]
  simp only [Ieee.Datum.sum, Option.map_some, Option.getD_some, Ieee.Format.write]
  rw [signed_nn s1, signed_nn s2]
  generalize hx : (i - min i j).toNat = x
  generalize hy : (j - min i j).toNat = y
  have hsum : ((m * 2 ^ x : Nat) : Int) + ((n * 2 ^ y : Nat) : Int) = ((m * 2 ^ x + n * 2 ^ y : Nat) : Int) := by omega
  rw [hsum, Int.natAbs_natCast]
  have hlt : m * 2 ^ x + n * 2 ^ y < 2 ^ (24 + (max x y) + 1) := by
    have h3 : m * 2 ^ x ≤ 2 ^ 24 * 2 ^ (max x y) := Nat.mul_le_mul (Nat.le_of_lt l1) (Nat.pow_le_pow_right (by omega) (Nat.le_max_left _ _))
    have h4 : n * 2 ^ y < 2 ^ 24 * 2 ^ (max x y) := Nat.lt_of_lt_of_le (Nat.mul_lt_mul_of_pos_right l2 (Nat.two_pow_pos _)) (Nat.mul_le_mul_left _ (Nat.pow_le_pow_right (by omega) (Nat.le_max_right _ _)))
    rw [← Nat.pow_add] at h3 h4
    rw [Nat.pow_succ]
    omega
  generalize hz : m * 2 ^ x + n * 2 ^ y = z at hlt
  refine fin_mono (fin_enc (K := K + 1) (fun hs => ?_) (fun hz => ?_) (by omega) (by omega)) (by omega)
  · split at hs
    · rename_i h; omega
    · simp at hs; omega
  · have := log2_le hz hlt
    omega
theorem fin_mul {J K : Int} {a b : Nat} (ha : Fin32 J a) (hb : Fin32 K b) (h0 : -126 ≤ J + K) (h1 : J + K ≤ 110) : Fin32 (J + K + 2) (fmul .f32 a b) := by
  obtain ⟨s, m, i, r1, s1, l1, k1⟩ := ha
  obtain ⟨t, n, j, r2, s2, l2, k2⟩ := hb
  unfold fmul Ieee.Format.mul
  rw [r1, r2]
  simp only [Ieee.Datum.product, Option.map_some, Option.getD_some, Ieee.Format.write]
  refine fin_mono (fin_enc (K := J + K + 1) (fun hs => ?_) (fun hz => ?_) (by omega) (by omega)) (by omega)
  · cases s with
    | true => rw [s1 rfl, Nat.zero_mul]
    | false =>
      cases t with
      | true => rw [s2 rfl, Nat.mul_zero]
      | false => cases hs
  · have hlt : m * n < 2 ^ (47 + 1) := by
      have := Nat.mul_lt_mul'' l1 l2
      rwa [← Nat.pow_add] at this
    have := log2_le hz hlt
    omega
theorem fin_half {K : Int} {a : Nat} (ha : Fin32 K a) (h0 : -120 ≤ K) (h1 : K ≤ 110) : Fin32 K (fdiv .f32 a 1073741824) := by
  obtain ⟨s, m, i, r1, s1, l1, k1⟩ := ha
  have r2 : FloatKind.f32.format.read 1073741824 = .number false 8388608 (-22) := by kernel_rfl
  unfold fdiv Ieee.Format.div
  rw [r1, r2]
  have hl : Nat.log2 8388608 = 23 := by decide +kernel
  have hd : FloatKind.f32.format.fractionBits + 2 = 25 := rfl
  simp only [Ieee.Datum.quotient, hl, hd, Option.map_some, Option.getD_some, Ieee.Format.write, Bool.xor_false, Nat.shiftLeft_eq, reduceIte, show ¬ (8388608 = 0) by decide]
  by_cases hm : m = 0
  · subst hm
    refine fin_mono (fin_enc (K := K - 1) (fun hs => ?_) (fun hz => ?_) (by omega) (by omega)) (by omega)
    · simp
    · exact absurd (by simp) hz
  · have hlog : m.log2 ≤ 23 := log2_le hm l1
    have hlt : m < 2 ^ (m.log2 + 1) := Nat.lt_log2_self
    have hq : m * 2 ^ (25 + 23 - m.log2) / 8388608 < 2 ^ 26 := by
      refine (Nat.div_lt_iff_lt_mul (by decide)).2 ?_
      have h3 : m * 2 ^ (25 + 23 - m.log2) < 2 ^ (m.log2 + 1) * 2 ^ (25 + 23 - m.log2) := Nat.mul_lt_mul_of_pos_right hlt (Nat.two_pow_pos _)
      rw [← Nat.pow_add, show m.log2 + 1 + (25 + 23 - m.log2) = 49 by omega] at h3
      exact h3
    generalize m * 2 ^ (25 + 23 - m.log2) / 8388608 = q at hq
    generalize hb : (m * 2 ^ (25 + 23 - m.log2) % 8388608 != 0) = b
    have hbn := Bool.toNat_le b
    refine fin_mono (fin_enc (K := K - 1) (fun hs => absurd (s1 hs) hm) (fun hz => ?_) (by omega) (by omega)) (by omega)
    have := log2_le (a := 26) hz (by omega)
    omega
theorem fin_zero : Fin32 0 0 := ⟨false, 0, -149, by kernel_rfl, fun h => (by cases h), by decide, by omega⟩
theorem fin_top : Fin32 10 1149239296 := ⟨false, 8388608, -13, by kernel_rfl, fun h => (by cases h), by decide, by omega⟩
theorem fin_million : Fin32 20 1233125376 := ⟨false, 8388608, -3, by kernel_rfl, fun h => (by cases h), by decide, by omega⟩
theorem fin_gt {K : Int} {a : Nat} (ha : Fin32 K a) : fgt .f32 a 3212836864 = true := by
  obtain ⟨s, m, i, r1, s1, l1, k1⟩ := ha
  have r2 : FloatKind.f32.format.read 3212836864 = .number true 8388608 (-23) := by kernel_rfl
  unfold fgt Ieee.Format.order
  rw [r1, r2]
  simp only [Ieee.Datum.order]
  rw [signed_nn s1, signed_t]
  have hp : 0 < 8388608 * 2 ^ (-23 - min i (-23)).toNat := Nat.mul_pos (by decide) (Nat.two_pow_pos _)
  have : compare ((m * 2 ^ (i - min i (-23)).toNat : Nat) : Int) (-((8388608 * 2 ^ (-23 - min i (-23)).toNat : Nat) : Int)) = .gt := Int.compare_eq_gt.2 (by omega)
  rw [this]
  rfl
theorem read_shape {x : Nat} {s : Bool} {m : Nat} {i : Int} (h : FloatKind.f32.format.read x = .number s m i) : m < 2 ^ 24 ∧ (i = -149 ∨ 8388608 ≤ m) := by
  have e1 : FloatKind.f32.format.leastPlace = -149 := by kernel_rfl
  have e3 : FloatKind.f32.format.binade = 8388608 := by kernel_rfl
  unfold Ieee.Format.read at h
  dsimp only at h
  rw [e1, e3] at h
  split at h
  · rename_i hr
    cases h
    exact ⟨by omega, .inl rfl⟩
  · split at h
    · cases h
      have := Nat.mod_lt (x % FloatKind.f32.format.signWeight) (show 0 < 8388608 by decide)
      exact ⟨by omega, .inr (by omega)⟩
    · split at h <;> cases h
/-- What lies between nought and a bound that is a power of two. -/
theorem fin_range {x c : Nat} {e : Int} (hc : FloatKind.f32.format.read c = .number false 8388608 e) (h1 : fge .f32 x 0 = true) (h2 : fle .f32 x c = true) (he : -140 ≤ e) : Fin32 (e + 23) x := by
  have r0 : FloatKind.f32.format.read 0 = .number false 0 (-149) := by kernel_rfl
  unfold fge Ieee.Format.order at h1
  unfold fle Ieee.Format.order at h2
  rw [r0] at h1
  rw [hc] at h2
  cases hx : FloatKind.f32.format.read x with
  | nan s t => rw [hx] at h1; cases h1
  | infinity s => rw [hx] at h1 h2; cases s <;> simp [Ieee.Datum.order] at h1 h2
  | number s m i =>
    rw [hx] at h1 h2
    obtain ⟨l1, l2⟩ := read_shape hx
    simp only [Ieee.Datum.order, signed_zero] at h1
    have hs : s = true → m = 0 := by
      intro hs
      subst hs
      rw [signed_t] at h1
      have hge : ¬ (-((m * 2 ^ (i - min i (-149)).toNat : Nat) : Int) < 0) := by
        intro hlt
        rw [Int.compare_eq_lt.2 hlt] at h1
        cases h1
      have h3 : m * 2 ^ (i - min i (-149)).toNat = 0 := by omega
      rcases Nat.mul_eq_zero.1 h3 with h | h
      · exact h
      · exact absurd h (by have := Nat.two_pow_pos (i - min i (-149)).toNat; omega)
    refine ⟨s, m, i, hx, hs, l1, ?_⟩
    rcases l2 with l2 | l2
    · omega
    · refine Int.not_lt.1 fun hlt => ?_
      simp only [Ieee.Datum.order, signed_nn hs, signed_f] at h2
      have hmin : min i e = e := by omega
      rw [hmin, show (e - e).toNat = 0 by omega, Nat.pow_zero, Nat.mul_one] at h2
      have h5 : 8388608 * 2 ≤ m * 2 ^ (i - e).toNat := Nat.mul_le_mul l2 (by
        have : 2 ^ 1 ≤ 2 ^ (i - e).toNat := Nat.pow_le_pow_right (by omega) (by omega)
        exact this)
      have : compare ((m * 2 ^ (i - e).toNat : Nat) : Int) ((8388608 : Nat) : Int) = .gt := Int.compare_eq_gt.2 (by omega)
      rw [this] at h2
      cases h2
theorem fin_rate {x : Nat} (h : spec_l04Rate x = true) : Fin32 10 x := by
  simp only [spec_l04Rate, spec_l04Rate.t, T.val] at h
  cases h1 : fge .f32 x 0 with
  | false => rw [h1] at h; cases h
  | true =>
    rw [h1] at h
    exact fin_range (e := -13) (by kernel_rfl) h1 h (by omega)
theorem fin_part {x : Nat} (h : spec_l01Part x = true) : Fin32 0 x := by
  simp only [spec_l01Part, spec_l01Part.t, T.val] at h
  cases h1 : fge .f32 x 0 with
  | false => rw [h1] at h; cases h
  | true =>
    rw [h1] at h
    exact fin_range (e := -23) (by kernel_rfl) h1 h (by omega)

/-! Numbers that are not below nought: their order is that of their rungs; bounded ones. -/
theorem fle_nn {a b : Nat} (ha : Nn a) (hb : Nn b) : fle .f32 a b = decide (rg a ≤ rg b) := by
  unfold fle
  rw [nn_order ha hb]
  rcases Nat.lt_trichotomy (rg a) (rg b) with h | h | h
  · rw [Nat.compare_eq_lt.2 h, decide_eq_true (by omega)]; rfl
  · rw [Nat.compare_eq_eq.2 h, decide_eq_true (by omega)]; rfl
  · rw [Nat.compare_eq_gt.2 h, decide_eq_false (by omega)]; rfl
theorem fgt_nn {a b : Nat} (ha : Nn a) (hb : Nn b) : fgt .f32 a b = decide (rg b < rg a) := by
  unfold fgt
  rw [nn_order ha hb]
  rcases Nat.lt_trichotomy (rg a) (rg b) with h | h | h
  · rw [Nat.compare_eq_lt.2 h, decide_eq_false (by omega)]; rfl
  · rw [Nat.compare_eq_eq.2 h, decide_eq_false (by omega)]; rfl
  · rw [Nat.compare_eq_gt.2 h, decide_eq_true (by omega)]; rfl
theorem flt_nn {a b : Nat} (ha : Nn a) (hb : Nn b) : flt .f32 a b = decide (rg a < rg b) := by rw [← fgt_flip, fgt_nn hb ha]
/-- Not below nought, and no more than a bound, by its word. -/
def Nb (K x : Nat) : Prop := Nn x ∧ rg x ≤ K
theorem nb_self {K : Nat} (h : K < 2139095040) : Nn K ∧ rg K = K := ⟨.inl h, by unfold rg; omega⟩
theorem nb_mono {J K x : Nat} (h : Nb J x) (hk : J ≤ K) : Nb K x := ⟨h.1, Nat.le_trans h.2 hk⟩
theorem nb_add {J K L a b : Nat} (ha : Nb J a) (hb : Nb K b) (hJ : J < 2139095040) (hK : K < 2139095040) (h : decide (rg (fadd .f32 J K) ≤ L) = true) (hL : L < 2139095040) : Nb L (fadd .f32 a b) := by
  have h1 : rg (fadd .f32 a b) ≤ L := Nat.le_trans (add_mono ha.1 (nb_self hJ).1 hb.1 (nb_self hK).1 (by rw [(nb_self hJ).2]; exact ha.2) (by rw [(nb_self hK).2]; exact hb.2)) (of_decide_eq_true h)
  exact ⟨nn_add ha.1 hb.1 (by omega), h1⟩
theorem nb_mul {J K L a b : Nat} (ha : Nb J a) (hb : Nb K b) (hJ : J < 2139095040) (hK : K < 2139095040) (h : decide (rg (fmul .f32 J K) ≤ L) = true) (hL : L < 2139095040) : Nb L (fmul .f32 a b) := by
  have h1 : rg (fmul .f32 a b) ≤ L := Nat.le_trans (mul_mono ha.1 (nb_self hJ).1 hb.1 (nb_self hK).1 (by rw [(nb_self hJ).2]; exact ha.2) (by rw [(nb_self hK).2]; exact hb.2)) (of_decide_eq_true h)
  exact ⟨nn_mul ha.1 hb.1 (by omega), h1⟩

/-! The halving of speeds between 0 and 1024: what holds after each round. -/
def bs (L : Nat → Nat) (t : Nat) : Nat → Nat × Nat
  | 0 => (0, 1149239296)
  | i + 1 => bif fgt .f32 (L (fdiv .f32 (fadd .f32 (bs L t i).1 (bs L t i).2) 1073741824)) t then ((bs L t i).1, fdiv .f32 (fadd .f32 (bs L t i).1 (bs L t i).2) 1073741824) else (fdiv .f32 (fadd .f32 (bs L t i).1 (bs L t i).2) 1073741824, (bs L t i).2)
theorem bs_ok (L : Nat → Nat) (t : Nat) (h0 : fgt .f32 (L 0) t = false) : ∀ i, Nb 1149239296 (bs L t i).1 ∧ Nb 1149239296 (bs L t i).2 ∧ rg (bs L t i).1 ≤ rg (bs L t i).2 ∧ fgt .f32 (L (bs L t i).1) t = false
  | 0 => ⟨(⟨.inl (by decide), by decide⟩ : Nb 1149239296 0), (⟨.inl (by decide), by decide⟩ : Nb 1149239296 1149239296), (by decide : rg 0 ≤ rg 1149239296), h0⟩
  | i + 1 => by
    obtain ⟨a1, a2, a3, a4⟩ := bs_ok L t h0 i
    obtain ⟨m1, m2, m3⟩ := half_between a1.1 a2.1 a3 (by have := a2.2; omega)
    have hb := a2.2
    rw [bs]
    cases hc : fgt .f32 (L (fdiv .f32 (fadd .f32 (bs L t i).1 (bs L t i).2) 1073741824)) t with
    | true => exact ⟨a1, ⟨m1, Nat.le_trans m3 hb⟩, m2, a4⟩
    | false => exact ⟨⟨m1, Nat.le_trans m3 hb⟩, a2, m3, hc⟩
theorem bs_step (L : Nat → Nat) (t : Nat) (h0 : fgt .f32 (L 0) t = false) (i : Nat) : rg (bs L t i).1 ≤ rg (bs L t (i + 1)).1 := by
  obtain ⟨a1, a2, a3, a4⟩ := bs_ok L t h0 i
  obtain ⟨m1, m2, m3⟩ := half_between a1.1 a2.1 a3 (by have := a2.2; omega)
  rw [bs]
  cases fgt .f32 (L (fdiv .f32 (fadd .f32 (bs L t i).1 (bs L t i).2) 1073741824)) t with
  | true => exact Nat.le_refl _
  | false => exact m2
theorem bs_mono (L : Nat → Nat) (t : Nat) (h0 : fgt .f32 (L 0) t = false) (i : Nat) : ∀ j, rg (bs L t i).1 ≤ rg (bs L t (i + j)).1
  | 0 => Nat.le_refl _
  | j + 1 => Nat.le_trans (bs_mono L t h0 i j) (bs_step L t h0 (i + j))

def laws_toStone (x0 x1 x2 x3 : Nat) := (x0, x1, x2, x3)
theorem rate_eq (x : Nat) : impl_IsRate x = spec_l04Rate x := by
  simp only [impl_IsRate, impl_IsRate.t, impl_between, impl_between.t, spec_l04Rate, spec_l04Rate.t, T.val, fge_flip]

theorem part_eq (x : Nat) : impl_IsPart x = spec_l01Part x := by
  simp only [impl_IsPart, impl_IsPart.t, impl_between, impl_between.t, spec_l01Part, spec_l01Part.t, T.val, fge_flip]

theorem valid_eq (x0 x1 x2 x3 : Nat) : impl_ValidStone x0 x1 x2 x3 = spec_l04Ok x0 x1 x2 x3 := by
  simp only [impl_ValidStone, impl_ValidStone.t, spec_l04Ok, spec_l04Ok.t, T.val, rate_eq, part_eq]

theorem stone_eq (x0 x1 x2 x3 : Nat) : laws_toStone x0 x1 x2 x3 = (x0, x1, x2, x3) := rfl

theorem asked_eq (x0 x1 x2 x3 x4 x5 : Nat) : spec_l04Asked x0 x1 x2 x3 x4 x5 = impl_stoneCode x0 x1 x2 x3 (bif spec_l04Rate x4 then spec_l04Rate x5 else false) := by
  simp only [spec_l04Asked, spec_l04Asked.t, impl_stoneCode, impl_stoneCode.t, T.val, valid_eq]
  cases spec_l04Ok x0 x1 x2 x3 <;> cases spec_l04Rate x4 <;> cases spec_l04Rate x5 <;> rfl
theorem orZero_eq (x : Nat) (c : Int) : impl_orZero x c = (bif c != 0 then (0, c) else (x, 0)) := by
  simp only [impl_orZero, impl_orZero.t, T.val]

theorem within_eq (x y z : Int) : impl_within x y z = spec_l00In x y z := by
  simp only [impl_within, impl_within.t, spec_l00In, spec_l00In.t, T.val, ge_iff_le]

theorem amount_eq (x : Nat) : impl_isAmount x = spec_l03Amount x := by
  simp only [impl_isAmount, impl_isAmount.t, impl_between, impl_between.t, spec_l03Amount, spec_l03Amount.t, T.val, fge_flip]

-- lies in the core (SxQ)

theorem rate_0 : spec_l04Rate 0 = true := by kernel_rfl
theorem load1_eq (x0 x1 x2 x3 a b : Nat) : impl_Stone_load a b x0 x1 x2 x3 = spec_l04Load x0 x1 x2 x3 a b := rfl
theorem sum_r (x0 x1 x2 x3 a b : Nat) : spec_l04Sum.l3.r (1, a, b, [x0, x1, x2, x3]) (0, 0) = some (fadd .f32 0 (spec_l04Load x0 x1 x2 x3 a b)) := by
  have hf := iter_run (step := spec_l04Sum.l3.st (1, a, b, [x0, x1, x2, x3])) (f := fun i => if i = 0 then (0, 0) else (fadd .f32 0 (spec_l04Load x0 x1 x2 x3 a b), 1)) (e := fadd .f32 0 (spec_l04Load x0 x1 x2 x3 a b)) (n := 1) (N := manyRounds) (k := 0)
    (many_lt (by omega)) (fun i hi => ?_) ?_
  · exact hf
  · have : i = 0 := by omega
    subst this
    rfl
  · rfl
theorem sum_t (x0 x1 x2 x3 a b : Nat) : (spec_l04Sum.t 1 a b [x0, x1, x2, x3]).get = some (fadd .f32 0 (spec_l04Load x0 x1 x2 x3 a b)) := by
  simp only [spec_l04Sum.t, T.get, sum_r]
  rfl
theorem sum_ok (x0 x1 x2 x3 a b : Nat) : spec_l04Sum.ok 1 a b [x0, x1, x2, x3] = true := T.ok_of_get (sum_t x0 x1 x2 x3 a b)
theorem sum_eq (x0 x1 x2 x3 a b : Nat) : spec_l04Sum 1 a b [x0, x1, x2, x3] = fadd .f32 0 (spec_l04Load x0 x1 x2 x3 a b) := T.val_of_get (sum_t x0 x1 x2 x3 a b)
theorem sum_gt (x0 x1 x2 x3 a b c : Nat) : fgt .f32 (spec_l04Sum 1 a b [x0, x1, x2, x3]) c = fgt .f32 (spec_l04Load x0 x1 x2 x3 a b) c := by
  rw [sum_eq]
  exact add_zero_gt .f32 _ c (fadd_has .f32 _ _)
theorem bisect (x0 x1 x2 x3 t f : Nat) (n : Int) (hn : n ≤ 60) : ∃ e, spec_l04Steady.l6.r (1, t, f, n, [x0, x1, x2, x3]) (0, 1149239296, 0) = some e ∧ impl_steady.l3.r (t, n, f, x0, x1, x2, x3) (0, 1149239296, 0) = some e := by
  obtain ⟨e, e', h1, h2, rfl⟩ := iter_two (step := spec_l04Steady.l6.st (1, t, f, n, [x0, x1, x2, x3])) (step' := impl_steady.l3.st (t, n, f, x0, x1, x2, x3)) (R := fun s t => s = t ∧ ∃ i : Nat, i ≤ 61 ∧ s.2.2 = (i : Int)) (E := fun e e' => e = e') (fun s => 61 - s.2.2.toNat) (by
    rintro ⟨a, b, c⟩ _ ⟨rfl, i, hi, hc⟩
    dsimp only at hc
    subst hc
    simp only [spec_l04Steady.l6.st, spec_l04Steady.l6.s, impl_steady.l3.st, impl_steady.l3.s, T.get, sum_ok, sum_gt, impl_halved, impl_halved.t, impl_Stone_steadySpeed_1, impl_Stone_steadySpeed_1.t, T.val, load1_eq]
    by_cases hlt : (i : Int) < n
    · rw [decide_eq_true hlt, wrap64_succ (by omega)]
      simp only [cond_true]
      cases fgt .f32 (spec_l04Load x0 x1 x2 x3 (fdiv .f32 (fadd .f32 a b) 1073741824) f) t with
      | true => exact .inl ⟨_, _, rfl, rfl, ⟨rfl, i + 1, by omega, rfl⟩, by dsimp only; omega⟩
      | false => exact .inl ⟨_, _, rfl, rfl, ⟨rfl, i + 1, by omega, rfl⟩, by dsimp only; omega⟩
    · rw [decide_eq_false hlt]
      exact .inr ⟨_, _, rfl, rfl, rfl⟩) manyRounds (0, 1149239296, 0) (0, 1149239296, 0) ⟨rfl, 0, by omega, rfl⟩ (many_lt (by simp))
  exact ⟨e, h1, h2⟩
theorem steady_t (x0 x1 x2 x3 t f : Nat) (n : Int) (hn : n ≤ 60) : ∃ r, (spec_l04Steady.t 1 t f n [x0, x1, x2, x3]).get = some r ∧ (impl_Stone_steadySpeed.t t f n x0 x1 x2 x3).get = some r := by
  obtain ⟨e, h1, h2⟩ := bisect x0 x1 x2 x3 t f n hn
  have h3 : (impl_steady.t t n f x0 x1 x2 x3).get = some e := by
    simp only [impl_steady.t, T.get, h2]
    rfl
  simp only [spec_l04Steady.t, impl_Stone_steadySpeed.t, T.get, sum_ok, sum_gt, impl_Stone_steadySpeed_1, impl_Stone_steadySpeed_1.t, T.val, load1_eq, h1, cond_true]
  rw [show impl_steady.ok t n f x0 x1 x2 x3 = true from T.ok_of_get h3, show impl_steady t n f x0 x1 x2 x3 = e from T.val_of_get h3]
  cases fgt .f32 (spec_l04Load x0 x1 x2 x3 0 f) t <;> exact ⟨_, rfl, rfl⟩

-- lies in the core (SxQ)

theorem load_eq (x0 x1 x2 x3 x4 x5 : Nat) (m : Int) : impl_LoadOf x0 x1 x2 x3 x4 x5 m = spec_LoadOf x0 x1 x2 x3 x4 x5 m := by
  simp only [impl_LoadOf, impl_LoadOf.t, spec_LoadOf, spec_LoadOf.t, spec_l04Load, spec_l04Load.t, spec_l04Idle, spec_l04Idle.t, impl_Stone_load, impl_Stone_load.t, impl_Stone_rubbed, impl_Stone_rubbed.t, T.val, asked_eq, orZero_eq, rate_eq]
  cases spec_l04Rate x4 <;> rfl
theorem flour_eq (x0 x1 x2 x3 x4 x5 : Nat) (m : Int) : impl_FlourOf x0 x1 x2 x3 x4 x5 m = spec_FlourOf x0 x1 x2 x3 x4 x5 m := by
  simp only [impl_FlourOf, impl_FlourOf.t, spec_FlourOf, spec_FlourOf.t, spec_l04Flour, spec_l04Flour.t, impl_Stone_flour, impl_Stone_flour.t, T.val, asked_eq, orZero_eq, rate_eq]
  cases spec_l04Rate x4 <;> rfl
theorem feed_eq (x0 x1 x2 x3 x4 x5 : Nat) (m : Int) : impl_FeedFor x0 x1 x2 x3 x4 x5 m = spec_FeedFor x0 x1 x2 x3 x4 x5 m := by
  have e : impl_Stone_rubbed x5 x0 x1 x2 x3 = spec_l04Idle x0 x1 x2 x3 x5 := rfl
  simp only [impl_FeedFor, impl_FeedFor.t, spec_FeedFor, spec_FeedFor.t, spec_l04Turned, spec_l04Turned.t, spec_l04Asked, spec_l04Asked.t, impl_stoneCode, impl_stoneCode.t, T.val, valid_eq, rate_eq, amount_eq, rate_0, fmin_1000, e]
  generalize flt .f32 (fsub .f32 x4 (spec_l04Idle x0 x1 x2 x3 x5)) 0 = c1
  generalize feq .f32 x2 0 = c2
  generalize fgt .f32 (fdiv .f32 (fsub .f32 x4 (spec_l04Idle x0 x1 x2 x3 x5)) x2) 1149239296 = c3
  cases spec_l04Ok x0 x1 x2 x3 <;> cases spec_l04Rate x5 <;> cases spec_l03Amount x4 <;> cases c1 <;> cases c2 <;> cases c3 <;> rfl
theorem in_false (n : Int) (h : spec_l00In n 0 60 = true) : n ≤ 60 := by
  simp only [spec_l00In, spec_l00In.t, T.val] at h
  cases h1 : decide (n ≥ 0) <;> rw [h1] at h
  · cases h
  · simpa using h
theorem speed_t (x0 x1 x2 x3 x4 x5 : Nat) (x6 m : Int) : ∃ r, (spec_SteadySpeed.t x0 x1 x2 x3 x4 x5 x6 m).get = some r ∧ (impl_SteadySpeed.t x0 x1 x2 x3 x4 x5 x6 m).get = some r := by
  cases hi : spec_l00In x6 0 60 with
  | false =>
    simp only [spec_SteadySpeed.t, impl_SteadySpeed.t, T.get, spec_l04Turned, spec_l04Turned.t, spec_l04Asked, spec_l04Asked.t, impl_stoneCode, impl_stoneCode.t, T.val, valid_eq, rate_eq, amount_eq, rate_0, within_eq, hi]
    cases spec_l04Ok x0 x1 x2 x3 <;> cases spec_l04Rate x5 <;> cases spec_l03Amount x4 <;> exact ⟨_, rfl, rfl⟩
  | true =>
    obtain ⟨r, h1, h2⟩ := steady_t x0 x1 x2 x3 x4 x5 x6 (in_false x6 hi)
    simp only [spec_SteadySpeed.t, impl_SteadySpeed.t, T.get, spec_l04Turned, spec_l04Turned.t, spec_l04Asked, spec_l04Asked.t, impl_stoneCode, impl_stoneCode.t, T.val, valid_eq, rate_eq, amount_eq, rate_0, within_eq, hi,
      show spec_l04Steady.ok 1 x4 x5 x6 [x0, x1, x2, x3] = true from T.ok_of_get h1, show spec_l04Steady 1 x4 x5 x6 [x0, x1, x2, x3] = r from T.val_of_get h1,
      show impl_Stone_steadySpeed.ok x4 x5 x6 x0 x1 x2 x3 = true from T.ok_of_get h2, show impl_Stone_steadySpeed x4 x5 x6 x0 x1 x2 x3 = r from T.val_of_get h2]
    obtain ⟨a, b⟩ := r
    cases spec_l04Ok x0 x1 x2 x3 <;> cases spec_l04Rate x5 <;> cases spec_l03Amount x4 <;> cases b <;> exact ⟨_, rfl, rfl⟩
/-- A rate that is no more than a bound, by its word. -/
noncomputable def okF (K x : Nat) : Bool := decide (x < 2139095040) && decide (x ≤ K) && spec_l04Rate x
theorem okF_mono {J K x : Nat} (h : okF J x = true) (hk : J ≤ K) : okF K x = true := by
  simp only [okF, Bool.and_eq_true, decide_eq_true_eq] at h ⊢
  exact ⟨⟨h.1.1, by omega⟩, h.2⟩
def val (v : Int) (c : Nat) : Nat := fdiv .f32 (fofint .f32 v) c
theorem vals {n c K : Nat} (h : (List.range n).all (fun v => okF K (val (v : Int) c)) = true) (hn : 0 < n) {v : Nat} (hv : v = 0 ∨ v < n) : okF K (val (v : Int) c) = true := by
  rw [List.all_eq_true] at h
  exact h v (List.mem_range.2 (by omega))
theorem val32 : (List.range 32).all (fun v => okF 1090519040 (val (v : Int) 1082130432)) = true := by kernel_rfl
theorem val16 : (List.range 16).all (fun v => okF 1090519040 (val (v : Int) 1090519040)) = true := by kernel_rfl
theorem val24 : (List.range 24).all (fun v => okF 1090519040 (val (v : Int) 1090519040)) = true := by kernel_rfl
theorem val64 : (List.range 64).all (fun v => okF 1090519040 (val (v : Int) 1090519040)) = true := by kernel_rfl
theorem val17 : (List.range 17).all (fun v => okF 1065353216 (val (v : Int) 1098907648)) = true := by kernel_rfl
theorem val200 : (List.range 200).all (fun v => okF 1112014848 (val (v : Int) 1082130432)) = true := by kernel_rfl
/-- A drawn stone: each of its numbers is a small one. -/
def Stony (a b c d : Nat) : Prop := okF 1090519040 a = true ∧ okF 1090519040 b = true ∧ okF 1090519040 c = true ∧ okF 1065353216 d = true
theorem stone_t {n : Nat} {xs : List Int} (hs : srcOk n xs) (m : Int) : ∃ a b c d, (spec_P6Stone.t n m xs).get = some (a, b, c, d) ∧ Stony a b c d := by
  obtain ⟨v1, p1, h1, q1, g1, l1⟩ := pick_t hs 32 0 0 (by omega)
  obtain ⟨v2, p2, h2, q2, g2, l2⟩ := pick_t hs 16 p1 h1 (by omega)
  obtain ⟨v3, p3, h3, q3, g3, l3⟩ := pick_t hs 24 p2 h2 (by omega)
  obtain ⟨b4, p4, h4, q4, l4⟩ := one_t hs 2 p3 h3 (by omega)
  obtain ⟨v5, p5, h5, q5, g5, l5⟩ := pick_t hs 17 p4 h4 (by omega)
  have a1 := vals val32 (by omega) g1
  have a2 := vals val16 (by omega) g2
  have a3 := vals val24 (by omega) g3
  have a5 := vals val17 (by omega) g5
  have hd : ∃ a b c d pos h, (spec_l04Drawn.t n 0 0 xs).get = some (a, b, c, d, n, pos, h) ∧ Stony a b c d := by
    simp only [spec_l04Drawn.t, T.get, Int.ofNat_zero, show spec_l00Src_pick.ok 32 n 0 0 xs = true from T.ok_of_get (q1), show spec_l00Src_pick 32 n 0 0 xs = _ from T.val_of_get (q1), show spec_l00Src_pick.ok 16 n (p1 : Int) h1 xs = true from T.ok_of_get (q2), show spec_l00Src_pick 16 n (p1 : Int) h1 xs = _ from T.val_of_get (q2), show spec_l00Src_pick.ok 24 n (p2 : Int) h2 xs = true from T.ok_of_get (q3), show spec_l00Src_pick 24 n (p2 : Int) h2 xs = _ from T.val_of_get (q3), show spec_l00Src_one.ok 2 n (p3 : Int) h3 xs = true from T.ok_of_get (q4), show spec_l00Src_one 2 n (p3 : Int) h3 xs = _ from T.val_of_get (q4), show spec_l00Src_pick.ok 17 n (p4 : Int) h4 xs = true from T.ok_of_get (q5), show spec_l00Src_pick 17 n (p4 : Int) h4 xs = _ from T.val_of_get (q5)]
    cases b4 with
    | true => exact ⟨_, _, _, _, _, _, rfl, a1, a2, a3, a5⟩
    | false => exact ⟨_, _, _, 1065353216, _, _, rfl, a1, a2, a3, by kernel_rfl⟩
  obtain ⟨a, b, c, d, pos, h, r1, r2⟩ := hd
  simp only [spec_P6Stone.t, T.get, spec_l00From, spec_l00From.t, T.val, show spec_l04Drawn.ok n 0 0 xs = true from T.ok_of_get (r1), show spec_l04Drawn n 0 0 xs = _ from T.val_of_get (r1)]
  exact ⟨a, b, c, d, rfl, r2⟩
theorem p6pick_t {n : Nat} {xs : List Int} (hs : srcOk n xs) (k : Nat) (m : Int) : ∃ v : Nat, (spec_P6Pick.t n (k : Int) m xs).get = some (v : Int) ∧ (v = 0 ∨ v < k) := by
  obtain ⟨v1, p1, h1, q1, g1, l1⟩ := pick_t hs k 0 0 (by omega)
  simp only [spec_P6Pick.t, T.get, spec_l00From, spec_l00From.t, T.val, show spec_l00Src_pick.ok (k : Int) n 0 0 xs = true from T.ok_of_get (q1), show spec_l00Src_pick (k : Int) n 0 0 xs = _ from T.val_of_get (q1)]
  exact ⟨v1, rfl, g1⟩
theorem okF_nb {K x : Nat} (h : okF K x = true) : Nb K x := by
  simp only [okF, Bool.and_eq_true, decide_eq_true_eq] at h
  exact ⟨.inl h.1.1, by have := (nb_self h.1.1).2; omega⟩
theorem okF_rate {K x : Nat} (h : okF K x = true) : spec_l04Rate x = true := by
  simp only [okF, Bool.and_eq_true, decide_eq_true_eq] at h
  exact h.2
/-- 1025.0 and 9.0 by their words; a load stays small. -/
theorem load_nb {a b c d u f : Nat} (h : Stony a b c d) (hu : Nb 1149247488 u) (hf : Nb 1091567616 f) : Nb 1176256512 (spec_l04Load a b c d u f) := by
  have e : spec_l04Load a b c d u f = fadd .f32 (fadd .f32 a (fmul .f32 b u)) (fmul .f32 c f) := rfl
  rw [e]
  have h1 : Nb 1174413312 (fmul .f32 b u) := nb_mul (okF_nb h.2.1) hu (by omega) (by omega) (by kernel_rfl) (by omega)
  have h2 : Nb 1175413312 (fadd .f32 a (fmul .f32 b u)) := nb_add (okF_nb h.1) h1 (by omega) (by omega) (by kernel_rfl) (by omega)
  have h3 : Nb 1117000000 (fmul .f32 c f) := nb_mul (okF_nb h.2.2.1) hf (by omega) (by omega) (by kernel_rfl) (by omega)
  exact nb_add h2 h3 (by omega) (by omega) (by kernel_rfl) (by omega)
theorem load_mono {a b c d u v f g : Nat} (h : Stony a b c d) (hu : Nb 1149247488 u) (hv : Nb 1149247488 v) (hf : Nb 1091567616 f) (hg : Nb 1091567616 g) (h1 : rg u ≤ rg v) (h2 : rg f ≤ rg g) : rg (spec_l04Load a b c d u f) ≤ rg (spec_l04Load a b c d v g) := by
  have e : ∀ u f, spec_l04Load a b c d u f = fadd .f32 (fadd .f32 a (fmul .f32 b u)) (fmul .f32 c f) := fun _ _ => rfl
  have p1 : ∀ {u}, Nb 1149247488 u → Nb 1174413312 (fmul .f32 b u) := fun hu => nb_mul (okF_nb h.2.1) hu (by omega) (by omega) (by kernel_rfl) (by omega)
  have p2 : ∀ {u}, Nb 1149247488 u → Nb 1175413312 (fadd .f32 a (fmul .f32 b u)) := fun hu => nb_add (okF_nb h.1) (p1 hu) (by omega) (by omega) (by kernel_rfl) (by omega)
  have p3 : ∀ {f}, Nb 1091567616 f → Nb 1117000000 (fmul .f32 c f) := fun hf => nb_mul (okF_nb h.2.2.1) hf (by omega) (by omega) (by kernel_rfl) (by omega)
  have na := (okF_nb h.1).1
  have nb := (okF_nb h.2.1).1
  have nc := (okF_nb h.2.2.1).1
  rw [e, e]
  exact add_mono (p2 hu).1 (p2 hv).1 (p3 hf).1 (p3 hg).1 (add_mono na na (p1 hu).1 (p1 hv).1 (Nat.le_refl _) (mul_mono nb nb hu.1 hv.1 (Nat.le_refl _) h1)) (mul_mono nc nc hf.1 hg.1 (Nat.le_refl _) h2)
theorem halved_r (a b c d t f n : Nat) (hn : n ≤ 60) : spec_l04Steady.l6.r (1, t, f, (n : Int), [a, b, c, d]) (0, 1149239296, 0) = some (bs (fun u => spec_l04Load a b c d u f) t n).1 := by
  refine iter_run (step := spec_l04Steady.l6.st (1, t, f, (n : Int), [a, b, c, d])) (f := fun i => ((bs (fun u => spec_l04Load a b c d u f) t i).1, (bs (fun u => spec_l04Load a b c d u f) t i).2, (i : Int))) (n := n) (N := manyRounds) (k := 0) (many_lt (by omega)) (fun i hi => ?_) ?_
  · simp only [Nat.zero_add, spec_l04Steady.l6.st, spec_l04Steady.l6.s, T.get, sum_ok, sum_gt, decide_eq_true (by omega : (i : Int) < (n : Int)), wrap64_succ (show i + 1 < 9223372036854775808 by omega), bs]
    cases fgt .f32 (spec_l04Load a b c d (fdiv .f32 (fadd .f32 (bs (fun u => spec_l04Load a b c d u f) t i).1 (bs (fun u => spec_l04Load a b c d u f) t i).2) 1073741824) f) t <;> rfl
  · simp only [Nat.zero_add, spec_l04Steady.l6.st, spec_l04Steady.l6.s, T.get, decide_eq_false (by omega : ¬ (n : Int) < (n : Int))]
    rfl
theorem okF_part {x : Nat} (h : okF 1065353216 x = true) : spec_l01Part x = true := by
  have hn := okF_nb h
  have h1 : fle .f32 0 x = true := by
    rw [fle_nn (nb_self (K := 0) (by decide)).1 hn.1, (nb_self (K := 0) (by decide)).2]
    exact decide_eq_true (Nat.zero_le _)
  have h2 : fle .f32 x 1065353216 = true := by
    rw [fle_nn hn.1 (nb_self (K := 1065353216) (by decide)).1, (nb_self (K := 1065353216) (by decide)).2]
    exact decide_eq_true hn.2
  simp only [spec_l01Part, spec_l01Part.t, T.val, fge_flip, h1, h2]
  rfl
theorem stony_ok {a b c d : Nat} (h : Stony a b c d) : spec_l04Ok a b c d = true := by
  simp only [spec_l04Ok, spec_l04Ok.t, T.val, okF_rate h.1, okF_rate h.2.1, okF_rate h.2.2.1, okF_part h.2.2.2]
  rfl
theorem load_code {a b c d u f : Nat} (h : Stony a b c d) (hu : spec_l04Rate u = true) (hf : spec_l04Rate f = true) (m : Int) : spec_LoadOf a b c d u f m = (spec_l04Load a b c d u f, 0) := by
  simp only [spec_LoadOf, spec_LoadOf.t, spec_l04Asked, spec_l04Asked.t, T.val, stony_ok h, hu, hf]
  rfl
theorem flour_code {a b c d u f : Nat} (h : Stony a b c d) (hu : spec_l04Rate u = true) (hf : spec_l04Rate f = true) (m : Int) : (spec_FlourOf a b c d u f m).2 = 0 := by
  simp only [spec_FlourOf, spec_FlourOf.t, spec_l04Asked, spec_l04Asked.t, T.val, stony_ok h, hu, hf]
  rfl
theorem rate_nb {u : Nat} (h : Nb 1149239296 u) : spec_l04Rate u = true := by
  have h1 : fle .f32 0 u = true := by
    rw [fle_nn (nb_self (K := 0) (by decide)).1 h.1, (nb_self (K := 0) (by decide)).2]
    exact decide_eq_true (Nat.zero_le _)
  have h2 : fle .f32 u 1149239296 = true := by
    rw [fle_nn h.1 (nb_self (K := 1149239296) (by decide)).1, (nb_self (K := 1149239296) (by decide)).2]
    exact decide_eq_true h.2
  simp only [spec_l04Rate, spec_l04Rate.t, T.val, fge_flip, h1, h2]
  rfl
/-- The steady speed of a drawn stone, told. -/
theorem speed_code {a b c d t f n : Nat} (h : Stony a b c d) (ht : spec_l03Amount t = true) (hf : spec_l04Rate f = true) (hn : n ≤ 60) (m : Int) :
    (spec_SteadySpeed.t a b c d t f (n : Int) m).get = some (bif fgt .f32 (spec_l04Load a b c d 0 f) t then (0, 6) else ((bs (fun u => spec_l04Load a b c d u f) t n).1, 0)) := by
  have hr := halved_r a b c d t f n hn
  have hs : (spec_l04Steady.t 1 t f (n : Int) [a, b, c, d]).get = some (bif fgt .f32 (spec_l04Load a b c d 0 f) t then (0, false) else ((bs (fun u => spec_l04Load a b c d u f) t n).1, true)) := by
    simp only [spec_l04Steady.t, T.get, sum_ok, sum_gt, hr]
    cases fgt .f32 (spec_l04Load a b c d 0 f) t <;> rfl
  have hi : spec_l00In (n : Int) 0 60 = true := by
    simp only [spec_l00In, spec_l00In.t, T.val, decide_eq_true (by omega : (n : Int) ≥ 0), decide_eq_true (by omega : (n : Int) ≤ 60)]
    rfl
  simp only [spec_SteadySpeed.t, T.get, spec_l04Turned, spec_l04Turned.t, spec_l04Asked, spec_l04Asked.t, T.val, stony_ok h, ht, hf, rate_0, hi, show spec_l04Steady.ok 1 t f (n : Int) [a, b, c, d] = true from T.ok_of_get (hs), show spec_l04Steady 1 t f (n : Int) [a, b, c, d] = _ from T.val_of_get (hs)]
  cases fgt .f32 (spec_l04Load a b c d 0 f) t <;> rfl
theorem vals' {n : Nat} {P : Nat → Bool} (h : (List.range n).all P = true) (hn : 0 < n) {v : Nat} (hv : v = 0 ∨ v < n) : P v = true := by
  rw [List.all_eq_true] at h
  exact h v (List.mem_range.2 (by omega))
theorem amount200 : (List.range 200).all (fun v => spec_l03Amount (val (v : Int) 1082130432)) = true := by kernel_rfl
theorem twice200 : (List.range 200).all (fun v => okF 1120403456 (fmul .f32 1073741824 (val (v : Int) 1082130432))) = true := by kernel_rfl
theorem amount2 : (List.range 200).all (fun v => spec_l03Amount (fmul .f32 1073741824 (val (v : Int) 1082130432))) = true := by kernel_rfl
theorem next64 : (List.range 64).all (fun v => okF 1091567616 (fadd .f32 (val (v : Int) 1090519040) 1065353216)) = true := by kernel_rfl
theorem grow64 : (List.range 64).all (fun v => decide (rg (val (v : Int) 1090519040) ≤ rg (fadd .f32 (val (v : Int) 1090519040) 1065353216))) = true := by kernel_rfl
/-- Half of what a law asks of a steady speed: its load is no more than the torque, it lies in the range, fewer rounds give no greater one. -/
theorem speed_facts {a b c d t f : Nat} {T : Nat} (h : Stony a b c d) (ht : okF T t = true) (hf : Nb 1091567616 f) (h0 : fgt .f32 (spec_l04Load a b c d 0 f) t = false) :
    fgt .f32 (spec_l04Load a b c d (bs (fun u => spec_l04Load a b c d u f) t 40).1 f) t = false ∧ spec_l04Rate (bs (fun u => spec_l04Load a b c d u f) t 40).1 = true ∧
    fgt .f32 (bs (fun u => spec_l04Load a b c d u f) t 5).1 (bs (fun u => spec_l04Load a b c d u f) t 40).1 = false ∧
    flt .f32 (bs (fun u => spec_l04Load a b c d u f) t 40).1 0 = false ∧ fgt .f32 (bs (fun u => spec_l04Load a b c d u f) t 40).1 1149239296 = false := by
  obtain ⟨p1, _, _, p4⟩ := bs_ok (fun u => spec_l04Load a b c d u f) t h0 40
  obtain ⟨q1, _, _, _⟩ := bs_ok (fun u => spec_l04Load a b c d u f) t h0 5
  have hm : rg (bs (fun u => spec_l04Load a b c d u f) t 5).1 ≤ rg (bs (fun u => spec_l04Load a b c d u f) t 40).1 := bs_mono (fun u => spec_l04Load a b c d u f) t h0 5 35
  have n0 := nb_self (K := 0) (by decide)
  have n1 := nb_self (K := 1149239296) (by decide)
  refine ⟨p4, rate_nb p1, ?_, ?_, ?_⟩
  · rw [fgt_nn q1.1 p1.1]
    exact decide_eq_false (by omega)
  · rw [flt_nn p1.1 n0.1, n0.2]
    exact decide_eq_false (by omega)
  · rw [fgt_nn p1.1 n1.1, n1.2]
    exact decide_eq_false (by have := p1.2; omega)
/-- A hexadecimal digit. -/
def dg (n : Nat) : Int := byteAt (ByteArray.mk #[48, 49, 50, 51, 52, 53, 54, 55, 56, 57, 97, 98, 99, 100, 101, 102]) (n : Int)
def hexL (x : Nat) : List Int := [dg (x / 268435456 % 16), dg (x / 16777216 % 16), dg (x / 1048576 % 16), dg (x / 65536 % 16), dg (x / 4096 % 16), dg (x / 256 % 16), dg (x / 16 % 16), dg (x % 16)]
/-- The text of a number's word. -/
def hexT (x : Nat) : ByteArray := Sx.strOf (hexL x)
theorem strOf_size : ∀ (xs : List Int) (b : ByteArray), (xs.foldl (fun r n => r.push (UInt8.ofNat n.toNat)) b).size = b.size + xs.length
  | [], b => rfl
  | x :: r, b => by
    rw [List.foldl_cons, strOf_size r, ByteArray.size_push, List.length_cons]
    omega
theorem hexT_size (x : Nat) : (hexT x).size = 8 := by
  unfold hexT Sx.strOf
  rw [strOf_size]
  rfl
theorem wrapu32 {n : Nat} (h : n < 4294967296) : IntKind.wrap .u32 (n : Int) = n := by
  have : IntKind.wrap .u32 (n : Int) = (n : Int) % 4294967296 := rfl
  rw [this]
  omega
theorem ibits15 (n : Nat) (h : n < 4294967296) : ibits .and .u32 (n : Int) 15 = ((n % 16 : Nat) : Int) := by
  have e : (BitVec.ofInt 32 (n : Int) &&& BitVec.ofInt 32 15).toNat = n % 16 := by
    rw [BitVec.toNat_and]
    have e1 : (BitVec.ofInt 32 (n : Int)).toNat = n := by simp; omega
    have e2 : (BitVec.ofInt 32 15).toNat = 2 ^ 4 - 1 := by decide
    rw [e1, e2, Nat.and_two_pow_sub_one_eq_mod]
  show IntKind.wrap .u32 (((BitVec.ofInt 32 (n : Int) &&& BitVec.ofInt 32 15).toNat : Nat) : Int) = _
  rw [e]
  exact wrapu32 (by omega)
theorem bound16 (n : Nat) (h : n < 16) : bounds (n : Int) (ByteArray.size (ByteArray.mk #[48, 49, 50, 51, 52, 53, 54, 55, 56, 57, 97, 98, 99, 100, 101, 102])) = true := by
  have e : ByteArray.size (ByteArray.mk #[48, 49, 50, 51, 52, 53, 54, 55, 56, 57, 97, 98, 99, 100, 101, 102]) = 16 := rfl
  rw [e, bounds_nat, decide_eq_true h]

def implH (x : Nat) : Nat → List Int
  | 0 => []
  | j + 1 => implH x j ++ [dg (x / 2 ^ (28 - 4 * j) % 16)]
theorem implH_len (x : Nat) : ∀ j, (implH x j).length = j
  | 0 => rfl
  | j + 1 => by
    show (implH x j ++ _).length = _
    rw [List.length_append, implH_len x j]
    rfl
theorem implH_8 (x : Nat) : implH x 8 = hexL x := by
  have e : implH x 8 = [dg (x / 2 ^ 28 % 16), dg (x / 2 ^ 24 % 16), dg (x / 2 ^ 20 % 16), dg (x / 2 ^ 16 % 16), dg (x / 2 ^ 12 % 16), dg (x / 2 ^ 8 % 16), dg (x / 2 ^ 4 % 16), dg (x / 2 ^ 0 % 16)] := rfl
  rw [e]
  unfold hexL
  rw [show (2 : Nat) ^ 28 = 268435456 by decide, show (2 : Nat) ^ 24 = 16777216 by decide, show (2 : Nat) ^ 20 = 1048576 by decide, show (2 : Nat) ^ 16 = 65536 by decide, show (2 : Nat) ^ 12 = 4096 by decide, show (2 : Nat) ^ 8 = 256 by decide, show (2 : Nat) ^ 4 = 16 by decide, show (2 : Nat) ^ 0 = 1 by decide, Nat.div_one]
theorem impl_r (x : Nat) (h : x < 4294967296) : impl_NumberText.l5v1.r (x : Int) (0, (28 : Int), []) = some (8, hexL x) := by
  have hf := iter_run (step := impl_NumberText.l5v1.st (x : Int)) (f := fun j => (j, (28 : Int) - 4 * (j : Int), implH x j)) (e := (8, implH x 8)) (n := 8) (N := manyRounds) (k := 0) (many_lt (by omega)) (fun j hj => ?_) ?_
  · rw [implH_8] at hf
    exact hf
  · simp only [Nat.zero_add]
    have e0 : (28 : Int) - 4 * (j : Int) = ((28 - 4 * j : Nat) : Int) := by omega
    have e1 : min (28 - 4 * j) 32 = 28 - 4 * j := by omega
    have e2 : Int.fdiv (x : Int) (2 ^ (28 - 4 * j)) = ((x / 2 ^ (28 - 4 * j) : Nat) : Int) := by
      rw [Int.fdiv_eq_ediv_of_nonneg _ (Int.pow_nonneg (by decide)), Int.natCast_ediv, Int.natCast_pow]
      rfl
    have e4 : IntKind.wrap .i64 (((28 - 4 * j : Nat) : Int) - 4) = (28 : Int) - 4 * ((j + 1 : Nat) : Int) := by rw [wrap64 (by omega) (by omega)]; omega
    have hc : ∀ y : Int, (Nat.ble 1 (List.length [y]) && (Nat.beq (List.length (implH x j)) (j * 1) && Nat.ble ((j + 1) * 1) 35184372088832 && Nat.ble (j + 1) 35184372088832)) = true := fun y => by
      rw [implH_len, Nat.mul_one, Nat.mul_one, Nat.beq_refl, ble_decide, ble_decide, decide_eq_true (by simp : 1 ≤ List.length [y]), decide_eq_true (by omega : j + 1 ≤ 35184372088832)]
      rfl
    simp only [impl_NumberText.l5v1.st, impl_NumberText.l5v1.s, T.get, e0, e4, Int.toNat_natCast, e1, e2, ibits15 _ (Nat.lt_of_le_of_lt (Nat.div_le_self _ _) h), bound16 _ (Nat.mod_lt _ (by omega : 0 < 16)), hc]
    rw [decide_eq_true (by omega : ((28 - 4 * j : Nat) : Int) ≥ 0), decide_eq_false (by omega : ¬ ((28 - 4 * j : Nat) : Int) < 0)]
    rfl
  · simp only [Nat.zero_add]
    rfl
theorem impl_hex (x : Nat) (h : x < 4294967296) (hn : isNaN .f32 x = false) : (impl_NumberText.t x).get = some (hexT x) := by
  have hlen : (hexL x).length = 8 := rfl
  simp only [impl_NumberText.t, T.get, fne_self, hn, impl_r x h, Option.isSome_some, Option.getD_some, hlen]
  rfl

/-- Four texts, one behind the other. -/
noncomputable def text4 (a b c d : Nat) : ByteArray := ((((((hexT a) ++ (ByteArray.mk #[47])) ++ (hexT b)) ++ (ByteArray.mk #[47])) ++ (hexT c)) ++ (ByteArray.mk #[47])) ++ (hexT d)
theorem seq_refl (x : ByteArray) : seq? x x = true := by
  unfold seq?
  exact beq_self_eq_true _
theorem rate_num {x : Nat} (h : spec_l04Rate x = true) : isNaN .f32 x = false := by
  simp only [spec_l04Rate, spec_l04Rate.t, T.val] at h
  cases hn : isNaN .f32 x with
  | false => rfl
  | true =>
    have : fge .f32 x 0 = false := by
      have ho : FloatKind.f32.format.order x 0 = none := by
        have h1 : (FloatKind.f32.format.read x).isNaN = true := hn
        unfold Ieee.Format.order
        cases hx : FloatKind.f32.format.read x with
        | nan s t => rfl
        | infinity s => rw [hx] at h1; cases h1
        | number s m e => rw [hx] at h1; cases h1
      unfold fge
      rw [ho]
      rfl
    rw [this] at h
    cases h
theorem part_num {x : Nat} (h : spec_l01Part x = true) : isNaN .f32 x = false := by
  simp only [spec_l01Part, spec_l01Part.t, T.val] at h
  cases hn : isNaN .f32 x with
  | false => rfl
  | true =>
    have : fge .f32 x 0 = false := by
      have ho : FloatKind.f32.format.order x 0 = none := by
        have h1 : (FloatKind.f32.format.read x).isNaN = true := hn
        unfold Ieee.Format.order
        cases hx : FloatKind.f32.format.read x with
        | nan s t => rfl
        | infinity s => rw [hx] at h1; cases h1
        | number s m e => rw [hx] at h1; cases h1
      unfold fge
      rw [ho]
      rfl
    rw [this] at h
    cases h
theorem ok_nums {a b c d : Nat} (h : spec_l04Ok a b c d = true) : isNaN .f32 a = false ∧ isNaN .f32 b = false ∧ isNaN .f32 c = false ∧ isNaN .f32 d = false := by
  simp only [spec_l04Ok, spec_l04Ok.t, T.val] at h
  cases h1 : spec_l04Rate a with
  | false => rw [h1] at h; cases h
  | true =>
    cases h2 : spec_l04Rate b with
    | false => rw [h1, h2] at h; cases h
    | true =>
      cases h3 : spec_l04Rate c with
      | false => rw [h1, h2, h3] at h; cases h
      | true =>
        rw [h1, h2, h3] at h
        exact ⟨rate_num h1, rate_num h2, rate_num h3, part_num h⟩
section
variable (a b c d : Nat) (ha : a < 4294967296) (hb : b < 4294967296) (hc : c < 4294967296) (hd : d < 4294967296) (na : isNaN .f32 a = false) (nb : isNaN .f32 b = false) (nc : isNaN .f32 c = false) (nd : isNaN .f32 d = false)
include ha hb hc hd na nb nc nd
theorem texts_r : impl_texts.l3.r (ByteArray.mk #[47], 4, ((4 : Nat) : Int), [a, b, c, d]) (0, (0 : Int), []) = some (4, [hexT a, hexT b, hexT c, hexT d]) := by
  have hf := iter_run (step := impl_texts.l3.st (ByteArray.mk #[47], 4, ((4 : Nat) : Int), [a, b, c, d])) (f := fun j => match j with | 0 => (0, (0 : Int), []) | 1 => (1, (1 : Int), [hexT a]) | 2 => (2, (2 : Int), [hexT a, hexT b]) | 3 => (3, (3 : Int), [hexT a, hexT b, hexT c]) | _ => (4, (4 : Int), [hexT a, hexT b, hexT c, hexT d])) (e := (4, [hexT a, hexT b, hexT c, hexT d])) (n := 4) (N := manyRounds) (k := 0) (many_lt (by omega)) (fun j hj => ?_) ?_
  · exact hf
  · have g0 : List.getD [a, b, c, d] (Int.toNat 0 * 1) 0 = a := rfl
    have g1 : List.getD [a, b, c, d] (Int.toNat 1 * 1) 0 = b := rfl
    have g2 : List.getD [a, b, c, d] (Int.toNat 2 * 1) 0 = c := rfl
    have g3 : List.getD [a, b, c, d] (Int.toNat 3 * 1) 0 = d := rfl
    match j, hj with
    | 0, _ =>
      simp only [impl_texts.l3.st, impl_texts.l3.s, T.get, g0, show impl_NumberText.ok a = true from T.ok_of_get (impl_hex a ha na), show impl_NumberText a = _ from T.val_of_get (impl_hex a ha na)]
      rfl
    | 1, _ =>
      simp only [impl_texts.l3.st, impl_texts.l3.s, T.get, g1, show impl_NumberText.ok b = true from T.ok_of_get (impl_hex b hb nb), show impl_NumberText b = _ from T.val_of_get (impl_hex b hb nb)]
      rfl
    | 2, _ =>
      simp only [impl_texts.l3.st, impl_texts.l3.s, T.get, g2, show impl_NumberText.ok c = true from T.ok_of_get (impl_hex c hc nc), show impl_NumberText c = _ from T.val_of_get (impl_hex c hc nc)]
      rfl
    | 3, _ =>
      simp only [impl_texts.l3.st, impl_texts.l3.s, T.get, g3, show impl_NumberText.ok d = true from T.ok_of_get (impl_hex d hd nd), show impl_NumberText d = _ from T.val_of_get (impl_hex d hd nd)]
      rfl
  · rfl
theorem impl_text : (impl_texts.t (ByteArray.mk #[47]) 4 [a, b, c, d]).get = some (text4 a b c d) := by
  have hl : ∀ x, (hexT x).data.toList.length = 8 := fun x => by
    have := hexT_size x
    exact this
  have hj : joinOk [hexT a, hexT b, hexT c, hexT d] 4 (ByteArray.mk #[47]) = true := by
    unfold joinOk
    have e : (Lib.join ([hexT a, hexT b, hexT c, hexT d].map (·.data.toList)) (ByteArray.mk #[47]).data.toList).length = 35 := by
      simp [Lib.join, List.intercalate, List.intersperse, hl]
    rw [e]
    rfl
  have ht : joinB [hexT a, hexT b, hexT c, hexT d] (ByteArray.mk #[47]) = text4 a b c d := by
    refine ByteArray.ext (Array.ext' ?_)
    simp [joinB, text4, Lib.join, List.intercalate, List.intersperse, ByteArray.data_append]
  simp only [impl_texts.t, T.get, texts_r a b c d ha hb hc hd na nb nc nd, Option.isSome_some, Option.getD_some, hj, ht]
  rfl
end

theorem stone_text (a b c d : Nat) (m : Int) (ha : a < 4294967296) (hb : b < 4294967296) (hc : c < 4294967296) (hd : d < 4294967296) : (impl_StoneText.t a b c d m).get = some (bif spec_l04Ok a b c d then text4 a b c d else ByteArray.mk #[]) := by
  simp only [impl_StoneText.t, T.get, valid_eq]
  cases hok : spec_l04Ok a b c d with
  | false => rfl
  | true =>
    obtain ⟨na, nb, nc, nd⟩ := ok_nums hok
    have h2 := impl_text a b c d ha hb hc hd na nb nc nd
    simp only [show impl_texts.ok (ByteArray.mk #[47]) 4 [a, b, c, d] = true from T.ok_of_get (h2), show impl_texts (ByteArray.mk #[47]) 4 [a, b, c, d] = _ from T.val_of_get (h2)]
    rfl

/-! A text cut at a byte. -/
def pre (a : List UInt8) : List (List UInt8) → List (List UInt8)
  | [] => [a]
  | h :: t => (a ++ h) :: t
def pcs (c : UInt8) : List UInt8 → List (List UInt8)
  | [] => [[]]
  | b :: r => if b = c then [] :: pcs c r else pre [b] (pcs c r)
theorem pcs_ne (c : UInt8) : ∀ l, pcs c l ≠ []
  | [] => by simp [pcs]
  | b :: r => by
    unfold pcs
    split
    · simp
    · cases h : pcs c r with
      | nil => exact absurd h (pcs_ne c r)
      | cons x t => simp [pre]
theorem pre_pre (a b : List UInt8) (l : List (List UInt8)) (h : l ≠ []) : pre a (pre b l) = pre (a ++ b) l := by
  cases l with
  | nil => exact absurd rfl h
  | cons x t => simp [pre]
/-- The pieces with the byte between are the text. -/
theorem pcs_join (c : UInt8) : ∀ l, List.intercalate [c] (pcs c l) = l
  | [] => by simp [pcs, List.intercalate, List.intersperse]
  | b :: r => by
    have ih := pcs_join c r
    unfold pcs
    split
    · rename_i h
      subst h
      cases hp : pcs b r with
      | nil => exact absurd hp (pcs_ne b r)
      | cons x t =>
        rw [hp] at ih
        simp [List.intercalate, List.intersperse] at ih ⊢
        exact ih
    · cases hp : pcs c r with
      | nil => exact absurd hp (pcs_ne c r)
      | cons x t =>
        rw [hp] at ih
        cases t with
        | nil =>
          simp [pre, List.intercalate, List.intersperse] at ih ⊢
          exact ih
        | cons y t =>
          simp [pre, List.intercalate, List.intersperse] at ih ⊢
          exact ih
theorem splitK_pcs (c : UInt8) : ∀ l : List UInt8, Go.Lib.splitK [c] 0 (l.count c) l = pcs c l
  | [] => rfl
  | b :: r => by
    have ih := splitK_pcs c r
    by_cases h : b = c
    · subst h
      have e : Go.Lib.index (b :: r) [b] = 0 := by
        unfold Go.Lib.index
        rw [if_pos (by simp [List.isPrefixOf])]
      rw [List.count_cons_self]
      unfold Go.Lib.splitK pcs
      rw [e, if_neg (by decide), if_pos rfl]
      simp [ih]
    · have e : Go.Lib.index (b :: r) [c] = if Go.Lib.index r [c] == -1 then -1 else Go.Lib.index r [c] + 1 := by
        conv => lhs; unfold Go.Lib.index
        rw [if_neg (by simp [List.isPrefixOf]; exact fun hh => absurd hh.symm h)]
      rw [List.count_cons_of_ne (by simpa using h)]
      unfold pcs
      rw [if_neg h, ← ih]
      cases hk : r.count c with
      | zero => rfl
      | succ k =>
        unfold Go.Lib.splitK
        rw [e]
        by_cases hi : (Go.Lib.index r [c] == -1) = true
        · rw [if_pos hi, if_pos (by rfl), if_pos hi]
          rfl
        · have hge := Go.Lib.index_ge r [c]
          have hne : Go.Lib.index r [c] ≠ -1 := fun q => hi (by rw [q]; rfl)
          obtain ⟨i, hi2⟩ : ∃ i : Nat, Go.Lib.index r [c] = i := ⟨(Go.Lib.index r [c]).toNat, by omega⟩
          rw [if_neg hi, hi2, if_neg (by simp; omega), if_neg (by simp)]
          have e2 : ((i : Int) + 1).toNat = i + 1 := by omega
          simp [pre, e2]
theorem split_pieces (x : ByteArray) (c : UInt8) : (splitL x (ByteArray.mk #[c])).map (·.data.toList) = pcs c x.data.toList := by
  unfold splitL
  rw [Go.Lib.splitB_data]
  have e : Go.Lib.countB x (ByteArray.mk #[c]) = x.data.toList.count c := by
    show Go.Lib.count x.data.toList [c] = _
    exact Go.Lib.count_one c _
  rw [e]
  exact splitK_pcs c _
theorem bytes_ext {xs ys : List ByteArray} (h : xs.map (·.data.toList) = ys.map (·.data.toList)) : xs = ys := by
  induction xs generalizing ys with
  | nil =>
    cases ys with
    | nil => rfl
    | cons y r => cases h
  | cons x r ih =>
    cases ys with
    | nil => cases h
    | cons y s =>
      simp only [List.map_cons, List.cons.injEq] at h
      rw [ih h.2, ByteArray.ext (Array.ext' h.1)]
theorem pcs_ncut {c : UInt8} : ∀ {l : List UInt8}, (∀ x ∈ l, x ≠ c) → pcs c l = [l]
  | [], _ => rfl
  | b :: r, h => by
    unfold pcs
    rw [if_neg (h b (List.mem_cons_self ..)), pcs_ncut (fun x hx => h x (List.mem_cons_of_mem _ hx))]
    rfl
theorem pcs_cut {c : UInt8} : ∀ {l : List UInt8} (r : List UInt8), (∀ x ∈ l, x ≠ c) → pcs c (l ++ c :: r) = l :: pcs c r
  | [], r, _ => by
    rw [List.nil_append, pcs, if_pos rfl]
  | b :: l, r, h => by
    rw [List.cons_append, pcs, if_neg (h b (List.mem_cons_self ..)), pcs_cut r (fun x hx => h x (List.mem_cons_of_mem _ hx))]
    rfl

/-! A number read from its text. -/
def D16 : List UInt8 := [48, 49, 50, 51, 52, 53, 54, 55, 56, 57, 97, 98, 99, 100, 101, 102]
def isDg (b : UInt8) : Bool := (decide (48 ≤ b.toNat) && decide (b.toNat ≤ 57)) || (decide (97 ≤ b.toNat) && decide (b.toNat ≤ 102))
/-- A digit's value; of what is none, nought. -/
def dv (b : UInt8) : Nat := if b.toNat ≤ 57 then (if 48 ≤ b.toNat then b.toNat - 48 else 0) else if 97 ≤ b.toNat then (if b.toNat ≤ 102 then b.toNat - 87 else 0) else 0
def dgB (n : Nat) : UInt8 := UInt8.ofNat (dg n).toNat
theorem byteAll {p : UInt8 → Bool} (h : (List.range 256).all (fun n => p (UInt8.ofNat n)) = true) (b : UInt8) : p b = true := by
  rw [List.all_eq_true] at h
  have := h b.toNat (by have := b.toNat_lt; simpa using this)
  simpa using this
theorem dv_lt (b : UInt8) : dv b < 16 := by
  have := byteAll (p := fun b => decide (dv b < 16)) (by decide +kernel) b
  simpa using this
theorem dv_index (b : UInt8) : (if (0 : Int) > Go.Lib.indexByte D16 b then (0 : Int) else Go.Lib.indexByte D16 b) = (dv b : Int) := by
  have := byteAll (p := fun b => decide ((if (0 : Int) > Go.Lib.indexByte D16 b then (0 : Int) else Go.Lib.indexByte D16 b) = (dv b : Int))) (by decide +kernel) b
  simpa using this
theorem dgB_dv (b : UInt8) (h : isDg b = true) : dgB (dv b) = b := by
  have := byteAll (p := fun b => !isDg b || decide (dgB (dv b) = b)) (by decide +kernel) b
  simpa [h] using this
theorem dg_is (n : Nat) (h : n < 16) : isDg (dgB n) = true ∧ dv (dgB n) = n := by
  have := (List.all_eq_true.1 (show (List.range 16).all (fun n => isDg (dgB n) && decide (dv (dgB n) = n)) = true by decide +kernel)) n (by simpa using h)
  simpa using this
/-- The value of the first digits. -/
def acc (bs : List UInt8) : Nat → Nat
  | 0 => 0
  | i + 1 => acc bs i * 16 + dv (bs.getD i 0)
theorem acc_lt (bs : List UInt8) : ∀ i, acc bs i < 16 ^ i
  | 0 => Nat.one_pos
  | i + 1 => by
    have h1 := acc_lt bs i
    have h2 := dv_lt (bs.getD i 0)
    show acc bs i * 16 + dv _ < 16 ^ (i + 1)
    rw [Nat.pow_succ]
    omega
theorem acc32 (bs : List UInt8) {i : Nat} (h : i ≤ 8) : acc bs i < 4294967296 := by
  have h1 := acc_lt bs i
  have h2 : 16 ^ i ≤ 16 ^ 8 := Nat.pow_le_pow_right (by decide) h
  have : (16 : Nat) ^ 8 = 4294967296 := by decide
  omega
theorem acc28 (bs : List UInt8) {i : Nat} (h : i ≤ 7) : acc bs i < 268435456 := by
  have h1 := acc_lt bs i
  have h2 : 16 ^ i ≤ 16 ^ 7 := Nat.pow_le_pow_right (by decide) h
  have : (16 : Nat) ^ 7 = 268435456 := by decide
  omega
theorem ior16 (a d : Nat) (ha : a < 268435456) (hd : d < 16) : ibits .or .u32 (IntKind.wrap .u32 ((a : Int) * (2 ^ min (Int.toNat (4 : Int)) 32))) (IntKind.wrap .u32 (d : Int)) = ((a * 16 + d : Nat) : Int) := by
  have e0 : (2 : Int) ^ min (Int.toNat (4 : Int)) 32 = 16 := by decide
  have e1 : (a : Int) * 16 = ((a * 16 : Nat) : Int) := by omega
  rw [e0, e1, wrapu32 (by omega), wrapu32 (by omega)]
  have e : (BitVec.ofInt 32 ((a * 16 : Nat) : Int) ||| BitVec.ofInt 32 (d : Int)).toNat = a * 16 + d := by
    rw [BitVec.toNat_or]
    have e1 : (BitVec.ofInt 32 ((a * 16 : Nat) : Int)).toNat = a * 16 := by simp; omega
    have e2 : (BitVec.ofInt 32 (d : Int)).toNat = d := by simp; omega
    rw [e1, e2]
    have := Nat.shiftLeft_add_eq_or_of_lt (a := a) (b := d) (i := 4) (by omega)
    rw [Nat.shiftLeft_eq] at this
    exact this.symm
  show IntKind.wrap .u32 (((BitVec.ofInt 32 ((a * 16 : Nat) : Int) ||| BitVec.ofInt 32 (d : Int)).toNat : Nat) : Int) = _
  rw [e]
  exact wrapu32 (by omega)
theorem byte_of (w : ByteArray) (i : Nat) : byteAt w (i : Int) = ((w.data.toList.getD i 0).toNat : Int) := by
  unfold byteAt
  rw [Int.toNat_natCast]
theorem impl_n (w : ByteArray) : impl_ReadNumber.l3.r (w, (if (8 : Int) < ((w.size : Nat) : Int) then (8 : Int) else ((w.size : Nat) : Int))) (0, 0) = some ((acc w.data.toList (min 8 w.size) : Nat) : Int) := by
  have e : (if (8 : Int) < ((w.size : Nat) : Int) then (8 : Int) else ((w.size : Nat) : Int)) = ((min 8 w.size : Nat) : Int) := by
    split <;> omega
  rw [e]
  have hf := iter_run (step := impl_ReadNumber.l3.st (w, ((min 8 w.size : Nat) : Int))) (f := fun i => (((acc w.data.toList i : Nat) : Int), (i : Int))) (e := ((acc w.data.toList (min 8 w.size) : Nat) : Int)) (n := min 8 w.size) (N := manyRounds) (k := 0) (many_lt (by omega)) (fun i hi => ?_) ?_
  · exact hf
  · simp only [Nat.zero_add]
    have hi8 : i < 8 := by omega
    have eb : Nat.toUInt8 (Int.toNat (byteAt w (i : Int))) = w.data.toList.getD i 0 := by
      rw [byte_of, Int.toNat_natCast]
      simp
    have ed := dv_index (w.data.toList.getD i 0)
    unfold D16 at ed
    simp only [impl_ReadNumber.l3.st, impl_ReadNumber.l3.s, T.get, bounds_nat, eb, ed, ior16 _ _ (acc28 w.data.toList (show i ≤ 7 by omega)) (dv_lt _)]
    rw [decide_eq_true (by omega : (i : Int) < ((min 8 w.size : Nat) : Int)), decide_eq_true (by omega : i < w.size), wrap64_succ (by omega)]
    rfl
  · simp only [Nat.zero_add, impl_ReadNumber.l3.st, impl_ReadNumber.l3.s, T.get]
    rw [decide_eq_false (by omega)]
    rfl
/-- Whether all eight are digits. -/
def allDg (w : ByteArray) : Bool := !(firstAt (fun i => !isDg (w.data.toList.getD i 0)) 8 0).isSome
/-! A word's text, and what is read of it. -/
theorem strOf_data : ∀ (xs : List Int) (b : ByteArray), (xs.foldl (fun r n => r.push (UInt8.ofNat n.toNat)) b).data.toList = b.data.toList ++ xs.map (fun n => UInt8.ofNat n.toNat)
  | [], b => by simp
  | x :: r, b => by
    rw [List.foldl_cons, strOf_data r]
    simp [ByteArray.push]
theorem hexT_data (n : Nat) : (hexT n).data.toList = [dgB (n / 268435456 % 16), dgB (n / 16777216 % 16), dgB (n / 1048576 % 16), dgB (n / 65536 % 16), dgB (n / 4096 % 16), dgB (n / 256 % 16), dgB (n / 16 % 16), dgB (n % 16)] := by
  unfold hexT Sx.strOf
  rw [strOf_data]
  rfl
theorem hexT_acc (n : Nat) (h : n < 4294967296) : acc (hexT n).data.toList 8 = n := by
  rw [hexT_data]
  have e : ∀ a b c d e f g i : UInt8, acc [a, b, c, d, e, f, g, i] 8 = ((((((((0 * 16 + dv a) * 16 + dv b) * 16 + dv c) * 16 + dv d) * 16 + dv e) * 16 + dv f) * 16 + dv g) * 16 + dv i) := fun _ _ _ _ _ _ _ _ => rfl
  rw [e]
  have q : ∀ k, dv (dgB (k % 16)) = k % 16 := fun k => (dg_is _ (Nat.mod_lt _ (by omega))).2
  rw [q, q, q, q, q, q, q, q]
  omega
theorem hexT_digits (n : Nat) : allDg (hexT n) = true := by
  unfold allDg
  have q : ∀ k, isDg (dgB (k % 16)) = true := fun k => (dg_is _ (Nat.mod_lt _ (by omega))).1
  have : firstAt (fun i => !isDg ((hexT n).data.toList.getD i 0)) 8 0 = none := by
    refine firstAt_none.2 fun i _ hi => ?_
    rw [hexT_data]
    match i, hi with
    | 0, _ | 1, _ | 2, _ | 3, _ | 4, _ | 5, _ | 6, _ | 7, _ => simp [q]
  rw [this]
  rfl
/-- Eight digits are the text of their value. -/
theorem text_of (w : ByteArray) (hw : w.size = 8) (h : allDg w = true) : hexT (acc w.data.toList 8) = w := by
  have hl : w.data.toList.length = 8 := hw
  have hd : ∀ i, i < 8 → isDg (w.data.toList.getD i 0) = true := by
    intro i hi
    unfold allDg at h
    cases hf : firstAt (fun i => !isDg (w.data.toList.getD i 0)) 8 0 with
    | none => simpa using firstAt_none.1 hf i (by omega) (by omega)
    | some j => rw [hf] at h; cases h
  refine ByteArray.ext (Array.ext' ?_)
  rw [hexT_data]
  generalize w.data.toList = l at hl hd ⊢
  match l, hl with
  | [a, b, c, d, e, f, g, i], _ =>
    have d0 := hd 0 (by omega); have d1 := hd 1 (by omega); have d2 := hd 2 (by omega); have d3 := hd 3 (by omega)
    have d4 := hd 4 (by omega); have d5 := hd 5 (by omega); have d6 := hd 6 (by omega); have d7 := hd 7 (by omega)
    simp only [List.getD_cons_zero, List.getD_cons_succ] at d0 d1 d2 d3 d4 d5 d6 d7
    have e0 : acc [a, b, c, d, e, f, g, i] 8 = ((((((((0 * 16 + dv a) * 16 + dv b) * 16 + dv c) * 16 + dv d) * 16 + dv e) * 16 + dv f) * 16 + dv g) * 16 + dv i) := rfl
    rw [e0]
    have ka := dv_lt a; have kb := dv_lt b; have kc := dv_lt c; have kd := dv_lt d
    have ke := dv_lt e; have kf := dv_lt f; have kg := dv_lt g; have ki := dv_lt i
    generalize hA : dv a = A at ka ⊢
    generalize hB : dv b = B at kb ⊢
    generalize hC : dv c = C at kc ⊢
    generalize hD : dv d = D at kd ⊢
    generalize hE : dv e = E at ke ⊢
    generalize hF : dv f = F at kf ⊢
    generalize hG : dv g = G at kg ⊢
    generalize hI : dv i = I at ki ⊢
    have m0 : ((((((((0 * 16 + A) * 16 + B) * 16 + C) * 16 + D) * 16 + E) * 16 + F) * 16 + G) * 16 + I) / 268435456 % 16 = A := by omega
    have m1 : ((((((((0 * 16 + A) * 16 + B) * 16 + C) * 16 + D) * 16 + E) * 16 + F) * 16 + G) * 16 + I) / 16777216 % 16 = B := by omega
    have m2 : ((((((((0 * 16 + A) * 16 + B) * 16 + C) * 16 + D) * 16 + E) * 16 + F) * 16 + G) * 16 + I) / 1048576 % 16 = C := by omega
    have m3 : ((((((((0 * 16 + A) * 16 + B) * 16 + C) * 16 + D) * 16 + E) * 16 + F) * 16 + G) * 16 + I) / 65536 % 16 = D := by omega
    have m4 : ((((((((0 * 16 + A) * 16 + B) * 16 + C) * 16 + D) * 16 + E) * 16 + F) * 16 + G) * 16 + I) / 4096 % 16 = E := by omega
    have m5 : ((((((((0 * 16 + A) * 16 + B) * 16 + C) * 16 + D) * 16 + E) * 16 + F) * 16 + G) * 16 + I) / 256 % 16 = F := by omega
    have m6 : ((((((((0 * 16 + A) * 16 + B) * 16 + C) * 16 + D) * 16 + E) * 16 + F) * 16 + G) * 16 + I) / 16 % 16 = G := by omega
    have m7 : ((((((((0 * 16 + A) * 16 + B) * 16 + C) * 16 + D) * 16 + E) * 16 + F) * 16 + G) * 16 + I) % 16 = I := by omega
    rw [m0, m1, m2, m3, m4, m5, m6, m7, ← hA, ← hB, ← hC, ← hD, ← hE, ← hF, ← hG, ← hI, dgB_dv a d0, dgB_dv b d1, dgB_dv c d2, dgB_dv d d3, dgB_dv e d4, dgB_dv f d5, dgB_dv g d6, dgB_dv i d7]

theorem seq_eq (x y : ByteArray) : seq? x y = decide (x = y) := by
  unfold seq?
  rw [Go.Lib.toList_data, Go.Lib.toList_data]
  by_cases h : x = y
  · subst h; simp
  · rw [decide_eq_false h, beq_eq_false_iff_ne]
    exact fun q => h (ByteArray.ext (Array.ext' q))
/-- A number's word, what is none alike. -/
def cb (n : Nat) : Nat := bif isNaN .f32 n then 2143289344 else n
theorem nan_nz (n : Nat) : isNaN .f32 (nz .f32 n) = isNaN .f32 n := by
  cases h : isNaN .f32 n with
  | true =>
    rw [nz_of_nan h]
    obtain ⟨s, t, h⟩ := decode_nanOf .f32
    exact isNaN_of_read h
  | false =>
    rw [nz_of_not h]
    exact h
theorem canon_text : hexT 2143289344 = ByteArray.mk #[55, 102, 99, 48, 48, 48, 48, 48] := by
  refine ByteArray.ext (Array.ext' ?_)
  rw [hexT_data]
  decide +kernel
theorem text_nz (n : Nat) (h : n < 4294967296) : (impl_NumberText.t (nz .f32 n)).get = some (hexT (cb n)) := by
  unfold cb
  cases hn : isNaN .f32 n with
  | true =>
    simp only [impl_NumberText.t, T.get, fne_self, nan_nz, hn, cond_true, canon_text]
  | false =>
    rw [nz_of_not hn]
    exact impl_hex n h hn
theorem cb_lt {n : Nat} (h : n < 4294967296) : cb n < 4294967296 := by
  unfold cb
  cases isNaN .f32 n with
  | true => (show 2143289344 < 4294967296; decide)
  | false => exact h
noncomputable def numv (w : ByteArray) : Nat := nz .f32 (acc w.data.toList 8)
def okN (w : ByteArray) : Bool := decide (w.size = 8) && (allDg w && decide (cb (acc w.data.toList 8) = acc w.data.toList 8))
theorem impl_num (w : ByteArray) : (impl_ReadNumber.t w).get = some (bif okN w then (numv w, 0) else (0, 5)) := by
  have hlt : acc w.data.toList (min 8 w.size) < 4294967296 := acc32 _ (by omega)
  have ht := text_nz _ hlt
  simp only [impl_ReadNumber.t, T.get, impl_n, Option.isSome_some, Option.getD_some, Int.toNat_natCast, show impl_NumberText.ok (nz .f32 (acc w.data.toList (min 8 w.size))) = true from T.ok_of_get (ht), show impl_NumberText (nz .f32 (acc w.data.toList (min 8 w.size))) = _ from T.val_of_get (ht), seq_eq]
  have key : decide (hexT (cb (acc w.data.toList (min 8 w.size))) = w) = okN w := by
    unfold okN
    by_cases hw : w.size = 8
    · have hm : min 8 w.size = 8 := by omega
      rw [hm, decide_eq_true hw, Bool.true_and]
      cases ha : allDg w with
      | false =>
        rw [decide_eq_false, Bool.false_and]
        intro q
        have := hexT_digits (cb (acc w.data.toList 8))
        rw [q, ha] at this
        cases this
      | true =>
        rw [Bool.true_and]
        have h1 := text_of w hw ha
        by_cases hc : cb (acc w.data.toList 8) = acc w.data.toList 8
        · rw [decide_eq_true hc, hc, decide_eq_true h1]
        · rw [decide_eq_false hc, decide_eq_false]
          intro q
          refine hc ?_
          have h2 := hexT_acc (cb (acc w.data.toList 8)) (cb_lt (acc32 _ (Nat.le_refl _)))
          rw [q] at h2
          exact h2.symm
    · rw [decide_eq_false hw, Bool.false_and, decide_eq_false]
      intro q
      refine hw ?_
      rw [← q]
      exact hexT_size _
  rw [key]
  cases ho : okN w with
  | false => rfl
  | true =>
    have hw : w.size = 8 := by
      unfold okN at ho
      rw [Bool.and_eq_true] at ho
      simpa using ho.1
    have hm : min 8 w.size = 8 := by omega
    rw [hm]
    rfl
noncomputable def nums (P : List ByteArray) : Nat → List Nat
  | 0 => []
  | i + 1 => nums P i ++ [numv (P.getD i ByteArray.empty)]
theorem nums_len (P : List ByteArray) : ∀ i, (nums P i).length = i
  | 0 => rfl
  | i + 1 => by
    show (nums P i ++ _).length = _
    rw [List.length_append, nums_len P i]
    rfl
theorem numbers_t (P : List ByteArray) (m : Int) (hP : P.length ≤ 1048577) : ∃ r, (impl_numbersOf.t P.length m P).get = some r ∧ (match firstAt (fun i => !okN (P.getD i ByteArray.empty)) P.length 0 with | some _ => r = .inl false | none => r = .inr (P.length, true, nums P P.length)) := by
  have step : ∀ i, i < P.length → (impl_numbersOf.l3.st (P.length, (P.length : Int), m, P) (i, (i : Int), nums P i)).get = some (bif okN (P.getD i ByteArray.empty) then .inl (i + 1, ((i + 1 : Nat) : Int), nums P (i + 1)) else .inr (.inl (false, i, nums P i))) := fun i hi => by
    have hn := impl_num (P.getD i ByteArray.empty)
    have hc : ∀ y : Nat, (Nat.ble 1 (List.length [y]) && (Nat.beq (List.length (nums P i)) (i * 1) && Nat.ble ((i + 1) * 4) 35184372088832 && Nat.ble (i + 1) 35184372088832)) = true := fun y => by
      rw [nums_len, Nat.mul_one, Nat.beq_refl, ble_decide, ble_decide, ble_decide, decide_eq_true (by simp : 1 ≤ List.length [y]), decide_eq_true (by omega : (i + 1) * 4 ≤ 35184372088832), decide_eq_true (by omega : i + 1 ≤ 35184372088832)]
      rfl
    simp only [impl_numbersOf.l3.st, impl_numbersOf.l3.s, T.get, bounds_nat, Int.toNat_natCast, Nat.mul_one, show impl_ReadNumber.ok (P.getD i ByteArray.empty) = true from T.ok_of_get (hn), show impl_ReadNumber (P.getD i ByteArray.empty) = _ from T.val_of_get (hn)]
    have hc' := hc
    simp only [Nat.mul_one] at hc'
    simp only [hc']
    simp only [ble_decide]
    rw [decide_eq_true (by omega : (i : Int) < (P.length : Int)), decide_eq_true hi, decide_eq_true (by omega : i + 1 ≤ P.length), wrap64_succ (by omega)]
    cases okN (P.getD i ByteArray.empty) <;> rfl
  have fin : (impl_numbersOf.l3.st (P.length, (P.length : Int), m, P) (P.length, (P.length : Int), nums P P.length)).get = some (.inr (.inr (P.length, nums P P.length))) := by
    simp only [impl_numbersOf.l3.st, impl_numbersOf.l3.s, T.get]
    rw [decide_eq_false (by omega)]
    rfl
  cases hf : firstAt (fun i => !okN (P.getD i ByteArray.empty)) P.length 0 with
  | none =>
    have hall := firstAt_none.1 hf
    have h := iter_run (step := impl_numbersOf.l3.st (P.length, (P.length : Int), m, P)) (f := fun i => (i, (i : Int), nums P i)) (e := Sum.inr (P.length, nums P P.length)) (n := P.length) (N := manyRounds) (k := 0) (many_lt (by omega)) (fun i hi => by
      simp only [Nat.zero_add]
      rw [step i hi, show okN (P.getD i ByteArray.empty) = true from by simpa using hall i (by omega) (by omega)]
      rfl) (by simp only [Nat.zero_add]; exact fin)
    have h' : impl_numbersOf.l3.r (P.length, (P.length : Int), m, P) (0, (0 : Int), []) = some (Sum.inr (P.length, nums P P.length)) := h
    simp only [impl_numbersOf.t, T.get, h']
    exact ⟨_, rfl, rfl⟩
  | some j =>
    obtain ⟨_, hj, hp, hbefore⟩ := firstAt_some hf
    have h := iter_run (step := impl_numbersOf.l3.st (P.length, (P.length : Int), m, P)) (f := fun i => (i, (i : Int), nums P i)) (e := Sum.inl (false, j, nums P j)) (n := j) (N := manyRounds) (k := 0) (many_lt (by omega)) (fun i hi => by
      simp only [Nat.zero_add]
      rw [step i (by omega), show okN (P.getD i ByteArray.empty) = true from by simpa using hbefore i (by omega) hi]
      rfl) (by
      simp only [Nat.zero_add]
      rw [step j (by omega), show okN (P.getD j ByteArray.empty) = false from by simpa using hp]
      rfl)
    have h' : impl_numbersOf.l3.r (P.length, (P.length : Int), m, P) (0, (0 : Int), []) = some (Sum.inl (false, j, nums P j)) := h
    simp only [impl_numbersOf.t, T.get, h']
    exact ⟨_, rfl, rfl⟩
theorem numv_lt (w : ByteArray) : numv w < 4294967296 := nz_has (k := .f32) (acc32 _ (Nat.le_refl _))
theorem numv_text {w : ByteArray} (h : okN w = true) (hn : isNaN .f32 (numv w) = false) : hexT (numv w) = w := by
  unfold okN at h
  rw [Bool.and_eq_true, Bool.and_eq_true] at h
  obtain ⟨h1, h2, _⟩ := h
  unfold numv at hn ⊢
  rw [nan_nz] at hn
  rw [nz_of_not hn]
  exact text_of w (by simpa using h1) h2

/-! A stone's text, read. -/
theorem dig_no (c : UInt8) (hc : isDg c = false) (n : Nat) : ∀ x ∈ (hexT n).data.toList, x ≠ c := by
  intro x hx q
  subst q
  have h : isDg x = true := by
    rw [hexT_data] at hx
    have q : ∀ k, isDg (dgB (k % 16)) = true := fun k => (dg_is _ (Nat.mod_lt _ (by omega))).1
    simp only [List.mem_cons, List.not_mem_nil, or_false] at hx
    rcases hx with rfl | rfl | rfl | rfl | rfl | rfl | rfl | rfl <;> exact q _
  rw [hc] at h
  cases h
theorem hex_ok {n : Nat} (h : n < 4294967296) (hn : isNaN .f32 n = false) : okN (hexT n) = true ∧ numv (hexT n) = n := by
  unfold okN numv
  rw [hexT_acc n h, hexT_digits, hexT_size, nz_of_not hn]
  unfold cb
  rw [hn]
  simp
theorem read_back (a b c d : Nat) (m : Int) (ha : a < 4294967296) (hb : b < 4294967296) (hc : c < 4294967296) (hd : d < 4294967296) (hok : spec_l04Ok a b c d = true) : (impl_ReadStone.t (text4 a b c d) m).get = some (a, b, c, d, 0) := by
  obtain ⟨n0, n1, n2, n3⟩ := ok_nums hok
  have e : (text4 a b c d).data.toList = (hexT a).data.toList ++ 47 :: ((hexT b).data.toList ++ 47 :: ((hexT c).data.toList ++ 47 :: (hexT d).data.toList)) := by
    unfold text4
    simp [ByteArray.data_append]
  have hP : splitL (text4 a b c d) (ByteArray.mk #[47]) = [hexT a, hexT b, hexT c, hexT d] := by
    refine bytes_ext ?_
    rw [split_pieces, e, pcs_cut _ (dig_no 47 (by decide) a), pcs_cut _ (dig_no 47 (by decide) b), pcs_cut _ (dig_no 47 (by decide) c), pcs_ncut (dig_no 47 (by decide) d)]
    rfl
  have hsz : (text4 a b c d).size = 35 := by
    have h : (text4 a b c d).data.toList.length = 35 := by
      rw [e]
      simp only [List.length_append, List.length_cons, show ∀ x, (hexT x).data.toList.length = 8 from hexT_size]
    exact h
  have hguard : (Nat.ble (text4 a b c d).size 1048576 && Nat.ble 1 (ByteArray.size (ByteArray.mk #[47]))) = true := by
    rw [hsz]
    rfl
  obtain ⟨o0, v0⟩ := hex_ok ha n0
  obtain ⟨o1, v1⟩ := hex_ok hb n1
  obtain ⟨o2, v2⟩ := hex_ok hc n2
  obtain ⟨o3, v3⟩ := hex_ok hd n3
  obtain ⟨r, hr, hcase⟩ := numbers_t [hexT a, hexT b, hexT c, hexT d] m (by simp)
  have hf : firstAt (fun i => !okN (List.getD [hexT a, hexT b, hexT c, hexT d] i ByteArray.empty)) [hexT a, hexT b, hexT c, hexT d].length 0 = none := by
    refine firstAt_none.2 fun i _ hi => ?_
    have hi' : i < 4 := hi
    match i, hi' with
    | 0, _ => simp [o0]
    | 1, _ => simp [o1]
    | 2, _ => simp [o2]
    | 3, _ => simp [o3]
  rw [hf] at hcase
  dsimp only at hcase
  subst hcase
  have hst := stone_text a b c d m ha hb hc hd
  rw [hok] at hst
  have en : nums [hexT a, hexT b, hexT c, hexT d] [hexT a, hexT b, hexT c, hexT d].length = [a, b, c, d] := by
    show [numv (hexT a), numv (hexT b), numv (hexT c), numv (hexT d)] = _
    rw [v0, v1, v2, v3]
  have g0 : List.getD [a, b, c, d] 0 0 = a := rfl
  have g1 : List.getD [a, b, c, d] 1 0 = b := rfl
  have g2 : List.getD [a, b, c, d] 2 0 = c := rfl
  have g3 : List.getD [a, b, c, d] 3 0 = d := rfl
  have hne : ((([hexT a, hexT b, hexT c, hexT d].length : Nat) : Int) != 4) = false := rfl
  rw [en] at hr
  simp only [impl_ReadStone.t, T.get, hguard, hP, show impl_numbersOf.ok [hexT a, hexT b, hexT c, hexT d].length m [hexT a, hexT b, hexT c, hexT d] = true from T.ok_of_get (hr), show impl_numbersOf [hexT a, hexT b, hexT c, hexT d].length m [hexT a, hexT b, hexT c, hexT d] = _ from T.val_of_get (hr), hne, Option.isSome_some, Option.getD_some, Sum.isLeft, getRightD, g0, g1, g2, g3, show impl_StoneText.ok a b c d m = true from T.ok_of_get (hst), show impl_StoneText a b c d m = _ from T.val_of_get (hst), seq_eq, cond_true, decide_true]
  rfl

/-! A torque shared by two stones. -/
section
variable (a b c d a' b' c' d' : Nat)
noncomputable def tot (f u : Nat) : Nat := fadd .f32 (fadd .f32 0 (spec_l04Load a b c d u f)) (spec_l04Load a' b' c' d' u f)
theorem sum2_t (u f : Nat) : (spec_l04Sum.t 2 u f [a, b, c, d, a', b', c', d']).get = some (tot a b c d a' b' c' d' f u) := by
  have hf := iter_run (step := spec_l04Sum.l3.st (2, u, f, [a, b, c, d, a', b', c', d'])) (f := fun i => match i with | 0 => (0, (0 : Int)) | 1 => (fadd .f32 0 (spec_l04Load a b c d u f), 1) | _ => (tot a b c d a' b' c' d' f u, 2)) (e := tot a b c d a' b' c' d' f u) (n := 2) (N := manyRounds) (k := 0) (many_lt (by omega)) (fun i hi => ?_) ?_
  · have h2 : spec_l04Sum.l3.r (2, u, f, [a, b, c, d, a', b', c', d']) (0, (0 : Int)) = some (tot a b c d a' b' c' d' f u) := hf
    simp only [spec_l04Sum.t, T.get, h2]
    rfl
  · rcases (by omega : i = 0 ∨ i = 1) with rfl | rfl <;> rfl
  · rfl
theorem sum2i_t (u f : Nat) : (impl_ShareTorque_1.t u 2 f [a, b, c, d, a', b', c', d']).get = some (tot a b c d a' b' c' d' f u) := by
  have hf := iter_run (step := impl_ShareTorque_1.l3.st (u, 2, ((2 : Nat) : Int), 2, f, [a, b, c, d, a', b', c', d'])) (f := fun i => match i with | 0 => (0, (0 : Int)) | 1 => (fadd .f32 0 (spec_l04Load a b c d u f), 1) | _ => (tot a b c d a' b' c' d' f u, 2)) (e := tot a b c d a' b' c' d' f u) (n := 2) (N := manyRounds) (k := 0) (many_lt (by omega)) (fun i hi => ?_) ?_
  · have h2 : impl_ShareTorque_1.l3.r (u, 2, ((2 : Nat) : Int), 2, f, [a, b, c, d, a', b', c', d']) (0, (0 : Int)) = some (tot a b c d a' b' c' d' f u) := hf
    simp only [impl_ShareTorque_1.t, T.get, h2]
    rfl
  · rcases (by omega : i = 0 ∨ i = 1) with rfl | rfl <;> rfl
  · rfl
theorem steady2_r (t f n : Nat) (hn : n ≤ 60) : spec_l04Steady.l6.r (2, t, f, (n : Int), [a, b, c, d, a', b', c', d']) (0, 1149239296, 0) = some (bs (tot a b c d a' b' c' d' f) t n).1 := by
  refine iter_run (step := spec_l04Steady.l6.st (2, t, f, (n : Int), [a, b, c, d, a', b', c', d'])) (f := fun i => ((bs (tot a b c d a' b' c' d' f) t i).1, (bs (tot a b c d a' b' c' d' f) t i).2, (i : Int))) (n := n) (N := manyRounds) (k := 0) (many_lt (by omega)) (fun i hi => ?_) ?_
  · have hs := sum2_t a b c d a' b' c' d' (fdiv .f32 (fadd .f32 (bs (tot a b c d a' b' c' d' f) t i).1 (bs (tot a b c d a' b' c' d' f) t i).2) 1073741824) f
    simp only [Nat.zero_add, spec_l04Steady.l6.st, spec_l04Steady.l6.s, T.get, show spec_l04Sum.ok 2 (fdiv .f32 (fadd .f32 (bs (tot a b c d a' b' c' d' f) t i).1 (bs (tot a b c d a' b' c' d' f) t i).2) 1073741824) f [a, b, c, d, a', b', c', d'] = true from T.ok_of_get (hs), show spec_l04Sum 2 (fdiv .f32 (fadd .f32 (bs (tot a b c d a' b' c' d' f) t i).1 (bs (tot a b c d a' b' c' d' f) t i).2) 1073741824) f [a, b, c, d, a', b', c', d'] = _ from T.val_of_get (hs), decide_eq_true (by omega : (i : Int) < (n : Int)), wrap64_succ (show i + 1 < 9223372036854775808 by omega), bs]
    cases fgt .f32 (tot a b c d a' b' c' d' f (fdiv .f32 (fadd .f32 (bs (tot a b c d a' b' c' d' f) t i).1 (bs (tot a b c d a' b' c' d' f) t i).2) 1073741824)) t <;> rfl
  · simp only [Nat.zero_add, spec_l04Steady.l6.st, spec_l04Steady.l6.s, T.get, decide_eq_false (by omega : ¬ (n : Int) < (n : Int))]
    rfl
theorem steady2i_t (t f n : Nat) (hn : n ≤ 60) : (impl_steady_w1.t t (n : Int) 2 f [a, b, c, d, a', b', c', d']).get = some (bs (tot a b c d a' b' c' d' f) t n).1 := by
  have hr : impl_steady_w1.l3.r (t, (n : Int), 2, f, [a, b, c, d, a', b', c', d']) (0, 1149239296, 0) = some (bs (tot a b c d a' b' c' d' f) t n).1 := by
    refine iter_run (step := impl_steady_w1.l3.st (t, (n : Int), 2, f, [a, b, c, d, a', b', c', d'])) (f := fun i => ((bs (tot a b c d a' b' c' d' f) t i).1, (bs (tot a b c d a' b' c' d' f) t i).2, (i : Int))) (n := n) (N := manyRounds) (k := 0) (many_lt (by omega)) (fun i hi => ?_) ?_
    · have hs := sum2i_t a b c d a' b' c' d' (fdiv .f32 (fadd .f32 (bs (tot a b c d a' b' c' d' f) t i).1 (bs (tot a b c d a' b' c' d' f) t i).2) 1073741824) f
      simp only [Nat.zero_add, impl_steady_w1.l3.st, impl_steady_w1.l3.s, T.get, impl_halved, impl_halved.t, T.val, show impl_ShareTorque_1.ok (fdiv .f32 (fadd .f32 (bs (tot a b c d a' b' c' d' f) t i).1 (bs (tot a b c d a' b' c' d' f) t i).2) 1073741824) 2 f [a, b, c, d, a', b', c', d'] = true from T.ok_of_get (hs), show impl_ShareTorque_1 (fdiv .f32 (fadd .f32 (bs (tot a b c d a' b' c' d' f) t i).1 (bs (tot a b c d a' b' c' d' f) t i).2) 1073741824) 2 f [a, b, c, d, a', b', c', d'] = _ from T.val_of_get (hs), decide_eq_true (by omega : (i : Int) < (n : Int)), wrap64_succ (show i + 1 < 9223372036854775808 by omega), bs]
      cases fgt .f32 (tot a b c d a' b' c' d' f (fdiv .f32 (fadd .f32 (bs (tot a b c d a' b' c' d' f) t i).1 (bs (tot a b c d a' b' c' d' f) t i).2) 1073741824)) t <;> rfl
    · simp only [Nat.zero_add, impl_steady_w1.l3.st, impl_steady_w1.l3.s, T.get, decide_eq_false (by omega : ¬ (n : Int) < (n : Int))]
      rfl
  simp only [impl_steady_w1.t, T.get, hr]
  rfl
theorem parts_s (e f : Nat) (m : Int) : spec_ShareTorque.l15.r (2, f, e, m, [a, b, c, d, a', b', c', d']) (0, (0 : Int), []) = some (2, [spec_l04Load a b c d e f, spec_l04Load a' b' c' d' e f]) := by
  refine iter_run (step := spec_ShareTorque.l15.st (2, f, e, m, [a, b, c, d, a', b', c', d'])) (f := fun i => match i with | 0 => (0, (0 : Int), []) | 1 => (1, (1 : Int), [spec_l04Load a b c d e f]) | _ => (2, (2 : Int), [spec_l04Load a b c d e f, spec_l04Load a' b' c' d' e f])) (n := 2) (N := manyRounds) (k := 0) (many_lt (by omega)) (fun i hi => ?_) rfl
  rcases (by omega : i = 0 ∨ i = 1) with rfl | rfl <;> rfl
theorem parts_i (e f : Nat) (m : Int) : impl_ShareTorque.l12.r (e, 2, ((2 : Nat) : Int), m, [a, b, c, d, a', b', c', d'], f) (0, (0 : Int), []) = some (2, [spec_l04Load a b c d e f, spec_l04Load a' b' c' d' e f]) := by
  refine iter_run (step := impl_ShareTorque.l12.st (e, 2, ((2 : Nat) : Int), m, [a, b, c, d, a', b', c', d'], f)) (f := fun i => match i with | 0 => (0, (0 : Int), []) | 1 => (1, (1 : Int), [spec_l04Load a b c d e f]) | _ => (2, (2 : Int), [spec_l04Load a b c d e f, spec_l04Load a' b' c' d' e f])) (n := 2) (N := manyRounds) (k := 0) (many_lt (by omega)) (fun i hi => ?_) rfl
  rcases (by omega : i = 0 ∨ i = 1) with rfl | rfl <;> rfl
variable (hok : spec_l04Ok a b c d = true) (hok' : spec_l04Ok a' b' c' d' = true)
include hok hok'
theorem check_s (t f : Nat) (m : Int) : spec_ShareTorque.l3.r (2, t, f, 0, m, [a, b, c, d, a', b', c', d'], []) (0 : Int) = some (.inr ()) := by
  refine iter_run (step := spec_ShareTorque.l3.st (2, t, f, 0, m, [a, b, c, d, a', b', c', d'], [])) (f := fun i => ((i : Nat) : Int)) (n := 2) (N := manyRounds) (k := 0) (many_lt (by omega)) (fun i hi => ?_) rfl
  have g0 : spec_l04Ok (List.getD [a, b, c, d, a', b', c', d'] (Int.toNat ((0 : Nat) : Int) * 4) 0) (List.getD [a, b, c, d, a', b', c', d'] (Int.toNat ((0 : Nat) : Int) * 4 + 1) 0) (List.getD [a, b, c, d, a', b', c', d'] (Int.toNat ((0 : Nat) : Int) * 4 + 1 + 1) 0) (List.getD [a, b, c, d, a', b', c', d'] (Int.toNat ((0 : Nat) : Int) * 4 + 1 + 1 + 1) 0) = true := hok
  have g1 : spec_l04Ok (List.getD [a, b, c, d, a', b', c', d'] (Int.toNat ((1 : Nat) : Int) * 4) 0) (List.getD [a, b, c, d, a', b', c', d'] (Int.toNat ((1 : Nat) : Int) * 4 + 1) 0) (List.getD [a, b, c, d, a', b', c', d'] (Int.toNat ((1 : Nat) : Int) * 4 + 1 + 1) 0) (List.getD [a, b, c, d, a', b', c', d'] (Int.toNat ((1 : Nat) : Int) * 4 + 1 + 1 + 1) 0) = true := hok'
  rcases (by omega : i = 0 ∨ i = 1) with rfl | rfl
  · simp only [Nat.zero_add, spec_ShareTorque.l3.st, spec_ShareTorque.l3.s, T.get, g0]
    rfl
  · simp only [Nat.zero_add, spec_ShareTorque.l3.st, spec_ShareTorque.l3.s, T.get, g1]
    rfl
theorem check_i : (impl_Stone.t 2 [a, b, c, d, a', b', c', d']).get = some false := by
  have hr : impl_Stone_2.l2.r (2, ((2 : Nat) : Int), [a, b, c, d, a', b', c', d']) (0 : Int) = some (.inr ()) := by
    refine iter_run (step := impl_Stone_2.l2.st (2, ((2 : Nat) : Int), [a, b, c, d, a', b', c', d'])) (f := fun i => ((i : Nat) : Int)) (n := 2) (N := manyRounds) (k := 0) (many_lt (by omega)) (fun i hi => ?_) rfl
    have g0 : impl_ShareTorque_2 (List.getD [a, b, c, d, a', b', c', d'] (Int.toNat ((0 : Nat) : Int) * 4) 0) (List.getD [a, b, c, d, a', b', c', d'] (Int.toNat ((0 : Nat) : Int) * 4 + 1) 0) (List.getD [a, b, c, d, a', b', c', d'] (Int.toNat ((0 : Nat) : Int) * 4 + 1 + 1) 0) (List.getD [a, b, c, d, a', b', c', d'] (Int.toNat ((0 : Nat) : Int) * 4 + 1 + 1 + 1) 0) = false := by
      show impl_ShareTorque_2 a b c d = false
      simp only [impl_ShareTorque_2, impl_ShareTorque_2.t, T.val, valid_eq, hok]
      rfl
    have g1 : impl_ShareTorque_2 (List.getD [a, b, c, d, a', b', c', d'] (Int.toNat ((1 : Nat) : Int) * 4) 0) (List.getD [a, b, c, d, a', b', c', d'] (Int.toNat ((1 : Nat) : Int) * 4 + 1) 0) (List.getD [a, b, c, d, a', b', c', d'] (Int.toNat ((1 : Nat) : Int) * 4 + 1 + 1) 0) (List.getD [a, b, c, d, a', b', c', d'] (Int.toNat ((1 : Nat) : Int) * 4 + 1 + 1 + 1) 0) = false := by
      show impl_ShareTorque_2 a' b' c' d' = false
      simp only [impl_ShareTorque_2, impl_ShareTorque_2.t, T.val, valid_eq, hok']
      rfl
    rcases (by omega : i = 0 ∨ i = 1) with rfl | rfl
    · simp only [Nat.zero_add, impl_Stone_2.l2.st, impl_Stone_2.l2.s, T.get, g0]
      rfl
    · simp only [Nat.zero_add, impl_Stone_2.l2.st, impl_Stone_2.l2.s, T.get, g1]
      rfl
  have hi : (impl_Stone_2.t 2 [a, b, c, d, a', b', c', d']).get = some (-1) := by
    simp only [impl_Stone_2.t, T.get, hr]
    rfl
  simp only [impl_Stone.t, T.get, show impl_Stone_2.ok 2 [a, b, c, d, a', b', c', d'] = true from T.ok_of_get (hi), show impl_Stone_2 2 [a, b, c, d, a', b', c', d'] = _ from T.val_of_get (hi)]
  rfl
theorem share2 (t f : Nat) (m : Int) (ht : spec_l03Amount t = true) (hf : spec_l04Rate f = true) :
    (fgt .f32 (tot a b c d a' b' c' d' f 0) t = true → (spec_ShareTorque.t 2 t f m [a, b, c, d, a', b', c', d']).get = some (0, 6, []) ∧ (impl_ShareTorque.t 2 t f m [a, b, c, d, a', b', c', d']).get = some (.inl 6)) ∧
    (fgt .f32 (tot a b c d a' b' c' d' f 0) t = false → ∃ x y, fadd .f32 (fadd .f32 0 x) y = tot a b c d a' b' c' d' f (bs (tot a b c d a' b' c' d' f) t 40).1 ∧ (spec_ShareTorque.t 2 t f m [a, b, c, d, a', b', c', d']).get = some (2, 0, [x, y]) ∧ (impl_ShareTorque.t 2 t f m [a, b, c, d, a', b', c', d']).get = some (.inr (2, 0, [x, y]))) := by
  have hs : (spec_l04Steady.t 2 t f (40 : Int) [a, b, c, d, a', b', c', d']).get = some (bif fgt .f32 (tot a b c d a' b' c' d' f 0) t then (0, false) else ((bs (tot a b c d a' b' c' d' f) t 40).1, true)) := by
    have hr := steady2_r a b c d a' b' c' d' t f 40 (by omega)
    have hr' : spec_l04Steady.l6.r (2, t, f, (40 : Int), [a, b, c, d, a', b', c', d']) (0, 1149239296, 0) = some (bs (tot a b c d a' b' c' d' f) t 40).1 := hr
    simp only [spec_l04Steady.t, T.get, show spec_l04Sum.ok 2 0 f [a, b, c, d, a', b', c', d'] = true from T.ok_of_get (sum2_t a b c d a' b' c' d' 0 f), show spec_l04Sum 2 0 f [a, b, c, d, a', b', c', d'] = _ from T.val_of_get (sum2_t a b c d a' b' c' d' 0 f), hr']
    cases fgt .f32 (tot a b c d a' b' c' d' f 0) t <;> rfl
  have hi : (impl_steady_w1.t t (40 : Int) 2 f [a, b, c, d, a', b', c', d']).get = some (bs (tot a b c d a' b' c' d' f) t 40).1 := steady2i_t a b c d a' b' c' d' t f 40 (by omega)
  simp only [spec_ShareTorque.t, impl_ShareTorque.t, T.get, check_s a b c d a' b' c' d' hok hok', show impl_Stone.ok 2 [a, b, c, d, a', b', c', d'] = true from T.ok_of_get (check_i a b c d a' b' c' d' hok hok'), show impl_Stone 2 [a, b, c, d, a', b', c', d'] = _ from T.val_of_get (check_i a b c d a' b' c' d' hok hok'), rate_eq, amount_eq, ht, hf, show spec_l04Steady.ok 2 t f (40 : Int) [a, b, c, d, a', b', c', d'] = true from T.ok_of_get (hs), show spec_l04Steady 2 t f (40 : Int) [a, b, c, d, a', b', c', d'] = _ from T.val_of_get (hs), show impl_steady_w1.ok t (40 : Int) 2 f [a, b, c, d, a', b', c', d'] = true from T.ok_of_get (hi), show impl_steady_w1 t (40 : Int) 2 f [a, b, c, d, a', b', c', d'] = _ from T.val_of_get (hi), show impl_ShareTorque_1.ok 0 2 f [a, b, c, d, a', b', c', d'] = true from T.ok_of_get (sum2i_t a b c d a' b' c' d' 0 f), show impl_ShareTorque_1 0 2 f [a, b, c, d, a', b', c', d'] = _ from T.val_of_get (sum2i_t a b c d a' b' c' d' 0 f), parts_s, parts_i]
  cases fgt .f32 (tot a b c d a' b' c' d' f 0) t with
  | true => exact ⟨fun _ => ⟨rfl, rfl⟩, fun h => by cases h⟩
  | false => exact ⟨fun h => (by cases h), fun _ => ⟨_, _, rfl, rfl, rfl⟩⟩
end

theorem le_not_gt {a b : Nat} (ha : Nn a) (hb : Nn b) : fle .f32 a b = !fgt .f32 a b := by
  rw [fle_nn ha hb, fgt_nn ha hb]
  by_cases h : rg a ≤ rg b
  · rw [decide_eq_true h, decide_eq_false (by omega)]
    rfl
  · rw [decide_eq_false h, decide_eq_true (by omega)]
    rfl
theorem sub_below {a b : Nat} (ha : Nn a) (hb : Nn b) : flt .f32 (fsub .f32 a b) 0 = fgt .f32 b a := by
  rw [fgt_nn hb ha]
  by_cases h : rg b ≤ rg a
  · obtain ⟨h1, _⟩ := sub_ge ha hb h
    rw [flt_nn h1 (nb_self (K := 0) (by decide)).1, (nb_self (K := 0) (by decide)).2, decide_eq_false (by omega), decide_eq_false (by omega)]
  · obtain ⟨h1, h2, h3, h4⟩ := sub_lt ha hb (by omega)
    rw [h1, decide_eq_true (show rg a < rg b by omega)]
    unfold flt
    rw [neg_order (by omega) h4 (nb_self (K := 0) (by decide)).1]
    rfl
theorem idle_nb {a b c d u : Nat} (h : Stony a b c d) (hu : Nb 1149247488 u) : Nb 1175413312 (spec_l04Idle a b c d u) := by
  have h1 : Nb 1174413312 (fmul .f32 b u) := nb_mul (okF_nb h.2.1) hu (by omega) (by omega) (by kernel_rfl) (by omega)
  exact nb_add (okF_nb h.1) h1 (by omega) (by omega) (by kernel_rfl) (by omega)
/-- Without feed the load is the idle one. -/
theorem bare_rg {a b c d u : Nat} (h : Stony a b c d) (hu : Nb 1149247488 u) : rg (spec_l04Load a b c d u 0) = rg (spec_l04Idle a b c d u) := by
  have e : spec_l04Load a b c d u 0 = fadd .f32 (spec_l04Idle a b c d u) (fmul .f32 c 0) := rfl
  have n0 := nb_self (K := 0) (by decide)
  have hi := idle_nb h hu
  have hc := (okF_nb h.2.2.1).1
  have hz : rg (fmul .f32 c 0) = 0 := by
    rw [rg_mul hc n0.1, n0.2]
    have : mag 0 = 0 := by decide
    rw [this, Nat.mul_zero, near_zero]
    rfl
  have hn : Nn (fmul .f32 c 0) := nn_mul hc n0.1 (by omega)
  rw [e, rg_add hi.1 hn, hz]
  have : mag 0 = 0 := by decide
  rw [this, Nat.add_zero, near_mag (nn_rg hi.1)]
theorem feed_code {a b c d t u : Nat} (h : Stony a b c d) (ht : spec_l03Amount t = true) (hu : spec_l04Rate u = true) (m : Int) : (spec_FeedFor a b c d t u m).2 = bif flt .f32 (fsub .f32 t (spec_l04Idle a b c d u)) 0 then 6 else 0 := by
  simp only [spec_FeedFor, spec_FeedFor.t, spec_l04Turned, spec_l04Turned.t, spec_l04Asked, spec_l04Asked.t, T.val, stony_ok h, ht, hu, rate_0]
  cases flt .f32 (fsub .f32 t (spec_l04Idle a b c d u)) 0
  · cases feq .f32 c 0
    · cases fgt .f32 (fdiv .f32 (fsub .f32 t (spec_l04Idle a b c d u)) c) 1149239296 <;> rfl
    · rfl
  · rfl
theorem same1 (x : Nat) : (spec_l01Same.t x x).get = some true := by
  simp only [spec_l01Same.t, T.get, fne_self, Int.toNat_natCast]
  cases isNaN .f32 x
  · simp
  · rfl
theorem num1 (x : Nat) : (impl_SameNumber.t x x).get = some true := by
  simp only [impl_SameNumber.t, T.get, fne_self, Int.toNat_natCast]
  cases isNaN .f32 x
  · simp
  · rfl
theorem num_t (x : Nat) (m : Int) : (spec_SameNumber.t x x m).get = some true := by
  simp only [spec_SameNumber.t, T.get, show spec_l01Same.ok x x = true from T.ok_of_get (same1 x), show spec_l01Same x x = _ from T.val_of_get (same1 x)]
  rfl
theorem stoneS_t (a b c d : Nat) (m : Int) : (spec_SameStone.t a b c d a b c d m).get = some true := by
  simp only [spec_SameStone.t, T.get, show spec_l01Same.ok a a = true from T.ok_of_get (same1 a), show spec_l01Same a a = _ from T.val_of_get (same1 a), show spec_l01Same.ok b b = true from T.ok_of_get (same1 b), show spec_l01Same b b = _ from T.val_of_get (same1 b), show spec_l01Same.ok c c = true from T.ok_of_get (same1 c), show spec_l01Same c c = _ from T.val_of_get (same1 c), show spec_l01Same.ok d d = true from T.ok_of_get (same1 d), show spec_l01Same d d = _ from T.val_of_get (same1 d)]
  rfl
theorem stoneI_t (a b c d : Nat) (m : Int) : (impl_SameStone.t a b c d a b c d m).get = some true := by
  simp only [impl_SameStone.t, T.get, show impl_SameNumber.ok a a = true from T.ok_of_get (num1 a), show impl_SameNumber a a = _ from T.val_of_get (num1 a), show impl_SameNumber.ok b b = true from T.ok_of_get (num1 b), show impl_SameNumber b b = _ from T.val_of_get (num1 b), show impl_SameNumber.ok c c = true from T.ok_of_get (num1 c), show impl_SameNumber c c = _ from T.val_of_get (num1 c), show impl_SameNumber.ok d d = true from T.ok_of_get (num1 d), show impl_SameNumber d d = _ from T.val_of_get (num1 d)]
  rfl
theorem valid_m (a b c d : Nat) (m : Int) : impl_ValidStone_w1 a b c d m = spec_l04Ok a b c d := by
  rw [← valid_eq]
  simp only [impl_ValidStone_w1, impl_ValidStone_w1.t, impl_ValidStone, impl_ValidStone.t, T.val]
theorem sum0 (m : Int) : (impl_SumOf.t 0 m []).get = some (0, 0) := by
  have hr : impl_SumOf.l5.r (0, ((0 : Nat) : Int), m, []) (0, (0 : Int)) = some 0 := iter_run (step := impl_SumOf.l5.st (0, ((0 : Nat) : Int), m, [])) (f := fun _ => (0, (0 : Int))) (n := 0) (N := manyRounds) (k := 0) (many_lt (by omega)) (fun i hi => absurd hi (by omega)) rfl
  simp only [impl_SumOf.t, T.get, hr]
  rfl
theorem sum_two (x y : Nat) (m : Int) : (impl_SumOf.t 2 m [x, y]).get = some (fadd .f32 (fadd .f32 0 x) y, 0) := by
  have hr : impl_SumOf.l5.r (2, ((2 : Nat) : Int), m, [x, y]) (0, (0 : Int)) = some (fadd .f32 (fadd .f32 0 x) y) := iter_run (step := impl_SumOf.l5.st (2, ((2 : Nat) : Int), m, [x, y])) (f := fun i => match i with | 0 => (0, (0 : Int)) | 1 => (fadd .f32 0 x, (1 : Int)) | _ => (fadd .f32 (fadd .f32 0 x) y, (2 : Int))) (n := 2) (N := manyRounds) (k := 0) (many_lt (by omega)) (fun i hi => by
    rcases (by omega : i = 0 ∨ i = 1) with rfl | rfl <;> rfl) rfl
  simp only [impl_SumOf.t, T.get, hr]
  rfl
theorem list0 (m : Int) : (spec_SameNumbers.t 0 m []).get = some true := by
  have hr : spec_SameNumbers.l4.r (0, (0 : Int), m, []) () = some () := iter_run (step := spec_SameNumbers.l4.st (0, (0 : Int), m, [])) (f := fun _ => ()) (n := 0) (N := manyRounds) (k := 0) (many_lt (by omega)) (fun i hi => absurd hi (by omega)) rfl
  simp only [spec_SameNumbers.t, T.get, hr]
  rfl
theorem list_two (x y : Nat) (m : Int) : (spec_SameNumbers_w1.t 2 2 m [x, y] [x, y]).get = some true := by
  have hr : spec_SameNumbers_w1.l4.r (2, 2, m, [x, y], [x, y]) (0 : Int) = some (.inr ()) := iter_run (step := spec_SameNumbers_w1.l4.st (2, 2, m, [x, y], [x, y])) (f := fun i => ((i : Nat) : Int)) (n := 2) (N := manyRounds) (k := 0) (many_lt (by omega)) (fun i hi => by
    have g0 : spec_l01Same (List.getD [x, y] (Int.toNat ((0 : Nat) : Int) * 1) 0) (List.getD [x, y] (Int.toNat ((0 : Nat) : Int) * 1) 0) = true := T.val_of_get (same1 x)
    have g1 : spec_l01Same (List.getD [x, y] (Int.toNat ((1 : Nat) : Int) * 1) 0) (List.getD [x, y] (Int.toNat ((1 : Nat) : Int) * 1) 0) = true := T.val_of_get (same1 y)
    have k0 : spec_l01Same.ok (List.getD [x, y] (Int.toNat ((0 : Nat) : Int) * 1) 0) (List.getD [x, y] (Int.toNat ((0 : Nat) : Int) * 1) 0) = true := T.ok_of_get (same1 x)
    have k1 : spec_l01Same.ok (List.getD [x, y] (Int.toNat ((1 : Nat) : Int) * 1) 0) (List.getD [x, y] (Int.toNat ((1 : Nat) : Int) * 1) 0) = true := T.ok_of_get (same1 y)
    rcases (by omega : i = 0 ∨ i = 1) with rfl | rfl
    · simp only [Nat.zero_add, spec_SameNumbers_w1.l4.st, spec_SameNumbers_w1.l4.s, T.get, g0, k0]
      rfl
    · simp only [Nat.zero_add, spec_SameNumbers_w1.l4.st, spec_SameNumbers_w1.l4.s, T.get, g1, k1]
      rfl) rfl
  simp only [spec_SameNumbers_w1.t, T.get, hr]
  rfl
theorem tot_nb {a b c d a' b' c' d' f u : Nat} (h : Stony a b c d) (h' : Stony a' b' c' d') (hu : Nb 1149247488 u) (hf : Nb 1091567616 f) : Nb 1200000000 (tot a b c d a' b' c' d' f u) := by
  have n0 := nb_self (K := 0) (by decide)
  have h1 : Nb 1176256512 (fadd .f32 0 (spec_l04Load a b c d u f)) := nb_add (J := 0) (K := 1176256512) ⟨n0.1, by rw [n0.2]; omega⟩ (load_nb h hu hf) (by omega) (by omega) (by kernel_rfl) (by omega)
  exact nb_add h1 (load_nb h' hu hf) (by omega) (by omega) (by kernel_rfl) (by omega)
theorem src_of {xs : List Int} (h : ∀ x ∈ xs, IntKind.min .u8 ≤ x ∧ x ≤ IntKind.max .u8) (hl : xs.length ≤ 4096) : srcOk xs.length xs := by
  refine ⟨rfl, by omega, fun x hx => ?_⟩
  have := h x hx
  have e1 : IntKind.min .u8 = 0 := by decide
  have e2 : IntKind.max .u8 = 255 := by decide
  rw [e1, e2] at this
  exact this
theorem big_eq (n : Nat) (m : Int) (xs : List Int) : laws_f6big n m xs = decide ((n : Int) > 4096) := by
  simp only [laws_f6big, laws_f6big.t, T.val]
theorem stony_words {a b c d : Nat} (h : Stony a b c d) : a < 4294967296 ∧ b < 4294967296 ∧ c < 4294967296 ∧ d < 4294967296 := by
  have q : ∀ {K x}, okF K x = true → x < 4294967296 := fun h => by
    simp only [okF, Bool.and_eq_true, decide_eq_true_eq] at h
    omega
  exact ⟨q h.1, q h.2.1, q h.2.2.1, q h.2.2.2⟩
theorem law_small (m : Int) (xs ys : List Int) (hx' : ∀ x ∈ xs, IntKind.min .u8 ≤ x ∧ x ≤ IntKind.max .u8) (hx : xs.length ≤ 4096) (hy' : ∀ x ∈ ys, IntKind.min .u8 ≤ x ∧ x ≤ IntKind.max .u8) (hy : ys.length ≤ 4096) : (laws_FnLoads.t xs.length ys.length m xs ys).get = some true := by
  have sx := src_of hx' hx
  have sy := src_of hy' hy
  obtain ⟨a, b, c, d, q1, hS⟩ := stone_t sx m
  obtain ⟨a', b', c', d', q2, hS'⟩ := stone_t sy m
  obtain ⟨tv, q3, tl⟩ := p6pick_t sy 200 m
  obtain ⟨fv, q4, fl⟩ := p6pick_t sx 64 m
  obtain ⟨uv, q5, ul⟩ := p6pick_t sy 64 m
  have ot := vals val200 (by omega) tl
  have of := vals val64 (by omega) fl
  have ou := vals val64 (by omega) ul
  have at1 := vals' amount200 (by omega) tl
  have at2 := vals' amount2 (by omega) tl
  have ot2 := vals' twice200 (by omega) tl
  have of1 := vals' next64 (by omega) fl
  have ou1 := vals' next64 (by omega) ul
  have gf := of_decide_eq_true (vals' grow64 (by omega) fl)
  have gu := of_decide_eq_true (vals' grow64 (by omega) ul)
  have e3 : fdiv .f32 (fofint .f32 (tv : Int)) 1082130432 = val (tv : Int) 1082130432 := rfl
  have e4 : fdiv .f32 (fofint .f32 (fv : Int)) 1090519040 = val (fv : Int) 1090519040 := rfl
  have e5 : fdiv .f32 (fofint .f32 (uv : Int)) 1090519040 = val (uv : Int) 1090519040 := rfl
  have b1 : laws_f6big xs.length m xs = false := by rw [big_eq]; exact decide_eq_false (by omega)
  have b2 : laws_f6big ys.length m ys = false := by rw [big_eq]; exact decide_eq_false (by omega)
  simp only [laws_FnLoads.t, T.get, T.get_join, b1, b2, cond_false, show spec_P6Stone.ok xs.length m xs = true from T.ok_of_get (q1), show spec_P6Stone xs.length m xs = _ from T.val_of_get (q1), show spec_P6Stone.ok ys.length m ys = true from T.ok_of_get (q2), show spec_P6Stone ys.length m ys = _ from T.val_of_get (q2), show spec_P6Pick.ok ys.length (200 : Int) m ys = true from T.ok_of_get (q3), show spec_P6Pick ys.length (200 : Int) m ys = _ from T.val_of_get (q3), show spec_P6Pick.ok xs.length (64 : Int) m xs = true from T.ok_of_get (q4), show spec_P6Pick xs.length (64 : Int) m xs = _ from T.val_of_get (q4), show spec_P6Pick.ok ys.length (64 : Int) m ys = true from T.ok_of_get (q5), show spec_P6Pick ys.length (64 : Int) m ys = _ from T.val_of_get (q5), e3, e4, e5]
  clear q1 q2 q3 q4 q5 e3 e4 e5 tl fl ul sx sy hx' hy' hx hy b1 b2
  generalize val (tv : Int) 1082130432 = t at *
  generalize val (fv : Int) 1090519040 = f at *
  generalize val (uv : Int) 1090519040 = u at *
  have ok := stony_ok hS
  have ok' := stony_ok hS'
  obtain ⟨w1, w2, w3, w4⟩ := stony_words hS
  have h1 := stone_text a b c d m w1 w2 w3 w4
  rw [ok] at h1
  have h2 := read_back a b c d m w1 w2 w3 w4 ok
  have rf := okF_rate of
  have ru := okF_rate ou
  have nf : Nb 1091567616 f := nb_mono (okF_nb of) (by omega)
  have nu : Nb 1149247488 u := nb_mono (okF_nb ou) (by omega)
  have n0 : Nb 1149247488 0 := by
    have := nb_self (K := 0) (by decide)
    exact ⟨this.1, by rw [this.2]; omega⟩
  have r0 : spec_l04Rate 0 = true := rate_0
  have s40 := speed_code hS at1 rf (n := 40) (by omega) m
  have s5 := speed_code hS at1 rf (n := 5) (by omega) m
  obtain ⟨r, k1, k2⟩ := speed_t a b c d t f 40 m
  obtain ⟨r5, k3, k4⟩ := speed_t a b c d t f 5 m
  have er : r = _ := Option.some.inj (k1.symm.trans s40)
  have er5 : r5 = _ := Option.some.inj (k3.symm.trans s5)
  subst er
  subst er5
  simp only [cond_true] at h1
  have i40 : impl_SteadySpeed a b c d t f (40 : Int) m = _ := T.val_of_get k2
  have j40 : impl_SteadySpeed.ok a b c d t f (40 : Int) m = true := T.ok_of_get k2
  have i5 : impl_SteadySpeed a b c d t f (5 : Int) m = _ := T.val_of_get k4
  have j5 : impl_SteadySpeed.ok a b c d t f (5 : Int) m = true := T.ok_of_get k4
  have v40 : spec_SteadySpeed a b c d t f (40 : Int) m = _ := T.val_of_get s40
  have u40 : spec_SteadySpeed.ok a b c d t f (40 : Int) m = true := T.ok_of_get s40
  have sn : ∀ x, spec_SameNumber x x m = true := fun x => T.val_of_get (num_t x m)
  have sn' : ∀ x, spec_SameNumber.ok x x m = true := fun x => T.ok_of_get (num_t x m)
  have nt : Nn t := (okF_nb ot).1
  have nt2 : Nn (fmul .f32 1073741824 t) := (okF_nb ot2).1
  have nf1 : Nb 1091567616 (fadd .f32 f 1065353216) := okF_nb of1
  have nu1 : Nb 1149247488 (fadd .f32 u 1065353216) := nb_mono (okF_nb ou1) (by omega)
  have nl : ∀ {v g}, Nb 1149247488 v → Nb 1091567616 g → Nn (spec_l04Load a b c d v g) := fun hv hg => (load_nb hS hv hg).1
  have g1 : flt .f32 (spec_l04Load a b c d u (fadd .f32 f 1065353216)) (spec_l04Load a b c d u f) = false := by
    rw [flt_nn (nl nu nf1) (nl nu nf)]
    exact decide_eq_false (by have := load_mono hS nu nu nf nf1 (Nat.le_refl _) gf; omega)
  have g2 : flt .f32 (spec_l04Load a b c d (fadd .f32 u 1065353216) f) (spec_l04Load a b c d u f) = false := by
    rw [flt_nn (nl nu1 nf) (nl nu nf)]
    exact decide_eq_false (by have := load_mono hS nu nu1 nf nf gu (Nat.le_refl _); omega)
  have nz9 : Nb 1091567616 0 := by
    have := nb_self (K := 0) (by decide)
    exact ⟨this.1, by rw [this.2]; omega⟩
  have g3 : fle .f32 (spec_l04Load a b c d u 0) t = !flt .f32 (fsub .f32 t (spec_l04Idle a b c d u)) 0 := by
    rw [sub_below nt (idle_nb hS nu).1, le_not_gt (nl nu nz9) nt, fgt_nn (nl nu nz9) nt, fgt_nn (idle_nb hS nu).1 nt, bare_rg hS nu]
  have hfeed := feed_code hS at1 ru m
  obtain ⟨sh1, sh2⟩ := share2 a b c d a' b' c' d' ok ok' (fmul .f32 1073741824 t) f m at2 rf
  have hfl := fun e (he : spec_l04Rate e = true) => flour_code hS he rf m
  have ld0 : fle .f32 (spec_l04Load a b c d 0 f) t = !fgt .f32 (spec_l04Load a b c d 0 f) t := le_not_gt (nl n0 nf) nt
  simp only [show impl_StoneText.ok a b c d m = true from T.ok_of_get (h1), show impl_StoneText a b c d m = _ from T.val_of_get (h1), show impl_ReadStone.ok (text4 a b c d) m = true from T.ok_of_get (h2), show impl_ReadStone (text4 a b c d) m = _ from T.val_of_get (h2), i40, j40, i5, j5, v40, u40, load_eq, load_code hS r0 rf, valid_m, ok, show spec_SameStone.ok a b c d a b c d m = true from T.ok_of_get (stoneS_t a b c d m), show spec_SameStone a b c d a b c d m = _ from T.val_of_get (stoneS_t a b c d m), show impl_SameStone.ok a b c d a b c d m = true from T.ok_of_get (stoneI_t a b c d m), show impl_SameStone a b c d a b c d m = _ from T.val_of_get (stoneI_t a b c d m), load_code hS ru rf, load_code hS ru (okF_rate of1), load_code hS (okF_rate ou1) rf, load_code hS ru r0, feed_eq, flour_eq, hfeed, g1, g2, g3, ld0, sn, sn', bne_self_eq_false, cond_true, cond_false, Bool.not_true, Bool.not_false]
  have hnn0 : fle .f32 0 (fmul .f32 1073741824 t) = true := by
    rw [fle_nn (nb_self (K := 0) (by decide)).1 nt2, (nb_self (K := 0) (by decide)).2]
    exact decide_eq_true (Nat.zero_le _)
  cases hs : fgt .f32 (tot a b c d a' b' c' d' f 0) (fmul .f32 1073741824 t) with
  | true =>
    obtain ⟨y1, y2⟩ := sh1 hs
    simp only [show spec_ShareTorque.ok 2 (fmul .f32 1073741824 t) f m [a, b, c, d, a', b', c', d'] = true from T.ok_of_get (y1), show spec_ShareTorque 2 (fmul .f32 1073741824 t) f m [a, b, c, d, a', b', c', d'] = _ from T.val_of_get (y1), show impl_ShareTorque.ok 2 (fmul .f32 1073741824 t) f m [a, b, c, d, a', b', c', d'] = true from T.ok_of_get (y2), show impl_ShareTorque 2 (fmul .f32 1073741824 t) f m [a, b, c, d, a', b', c', d'] = _ from T.val_of_get (y2), show spec_SameNumbers.ok 0 m [] = true from T.ok_of_get (list0 m), show spec_SameNumbers 0 m [] = _ from T.val_of_get (list0 m), show impl_SumOf.ok 0 m [] = true from T.ok_of_get (sum0 m), show impl_SumOf 0 m [] = _ from T.val_of_get (sum0 m), hnn0, getLeftD, Sum.isLeft, cond_true, cond_false]
    clear sh1 sh2 g1 g2 g3 hfeed
    generalize flt .f32 (fsub .f32 t (spec_l04Idle a b c d u)) 0 = q
    cases hc : fgt .f32 (spec_l04Load a b c d 0 f) t with
    | true =>
      simp only [cond_true, cond_false, sn, sn', Bool.not_true, Bool.not_false, bne_self_eq_false, joinG_go]
      cases q <;> rfl
    | false =>
      obtain ⟨p1, p2, p3, p4, p5⟩ := speed_facts hS ot nf hc
      generalize (bs (fun u => spec_l04Load a b c d u f) t 40).1 = e at *
      generalize (bs (fun u => spec_l04Load a b c d u f) t 5).1 = e5 at *
      simp only [cond_true, cond_false, sn, sn', Bool.not_true, Bool.not_false, bne_self_eq_false, joinG_go, load_code hS p2 rf, hfl e p2, p1, p3, p4, p5]
      cases q <;> rfl
  | false =>
    obtain ⟨x, y, hxy, y1, y2⟩ := sh2 hs
    obtain ⟨z1, _, _, z4⟩ := bs_ok (tot a b c d a' b' c' d' f) (fmul .f32 1073741824 t) hs 40
    have hle : fle .f32 (fadd .f32 (fadd .f32 0 x) y) (fmul .f32 1073741824 t) = true := by
      rw [hxy, le_not_gt (tot_nb hS hS' (nb_mono z1 (by omega)) nf).1 nt2, z4]
      rfl
    clear z1 z4 hxy
    simp only [show spec_ShareTorque.ok 2 (fmul .f32 1073741824 t) f m [a, b, c, d, a', b', c', d'] = true from T.ok_of_get (y1), show spec_ShareTorque 2 (fmul .f32 1073741824 t) f m [a, b, c, d, a', b', c', d'] = _ from T.val_of_get (y1), show impl_ShareTorque.ok 2 (fmul .f32 1073741824 t) f m [a, b, c, d, a', b', c', d'] = true from T.ok_of_get (y2), show impl_ShareTorque 2 (fmul .f32 1073741824 t) f m [a, b, c, d, a', b', c', d'] = _ from T.val_of_get (y2), show spec_SameNumbers_w1.ok 2 2 m [x, y] [x, y] = true from T.ok_of_get (list_two x y m), show spec_SameNumbers_w1 2 2 m [x, y] [x, y] = _ from T.val_of_get (list_two x y m), show impl_SumOf.ok 2 m [x, y] = true from T.ok_of_get (sum_two x y m), show impl_SumOf 2 m [x, y] = _ from T.val_of_get (sum_two x y m), hle, getRightD, Sum.isLeft, cond_true, cond_false]
    clear sh1 sh2 g1 g2 g3 hfeed
    generalize flt .f32 (fsub .f32 t (spec_l04Idle a b c d u)) 0 = q
    cases hc : fgt .f32 (spec_l04Load a b c d 0 f) t with
    | true =>
      simp only [cond_true, cond_false, sn, sn', Bool.not_true, Bool.not_false, bne_self_eq_false, joinG_go]
      cases q <;> rfl
    | false =>
      obtain ⟨p1, p2, p3, p4, p5⟩ := speed_facts hS ot nf hc
      generalize (bs (fun u => spec_l04Load a b c d u f) t 40).1 = e at *
      generalize (bs (fun u => spec_l04Load a b c d u f) t 5).1 = e5 at *
      simp only [cond_true, cond_false, sn, sn', Bool.not_true, Bool.not_false, bne_self_eq_false, joinG_go, load_code hS p2 rf, hfl e p2, p1, p3, p4, p5]
      cases q <;> rfl
theorem law_holds (m : Int) (xs ys : List Int) (FACTS : ∀ x ∈ xs, IntKind.min .u8 ≤ x ∧ x ≤ IntKind.max .u8) (hx : xs.length ≤ maxLen) (hy' : ∀ x ∈ ys, IntKind.min .u8 ≤ x ∧ x ≤ IntKind.max .u8) (hy : ys.length ≤ maxLen) : (laws_FnLoads.t xs.length ys.length m xs ys).get = some true := by
  by_cases h1 : xs.length ≤ 4096
  · by_cases h2 : ys.length ≤ 4096
    · exact law_small m xs ys FACTS h1 hy' h2
    · have b1 : laws_f6big xs.length m xs = false := by rw [big_eq]; exact decide_eq_false (by omega)
      have b2 : laws_f6big ys.length m ys = true := by rw [big_eq]; exact decide_eq_true (by omega)
      simp only [laws_FnLoads.t, T.get, b1, b2, cond_true, cond_false]
  · have b1 : laws_f6big xs.length m xs = true := by rw [big_eq]; exact decide_eq_true (by omega)
    simp only [laws_FnLoads.t, T.get, b1, cond_true]

theorem law_plain (mx : Int) (xs0 : List Int) (xs1 : List Int) (f0 : ∀ x ∈ xs0, (IntKind.min .u8 ≤ x ∧ x ≤ IntKind.max .u8)) (y0 : List.length xs0 ≤ maxLen) (f1 : ∀ x ∈ xs1, (IntKind.min .u8 ≤ x ∧ x ≤ IntKind.max .u8)) (y1 : List.length xs1 ≤ maxLen) : (laws_FnLoads.tr (xs0.length, xs1.length, mx, xs0, xs1)).get = some true := law_holds mx xs0 xs1 f0 y0 f1 y1
theorem own : ownKnob Tryd.prog.godebug = none := by kernel_rfl
theorem laidOut : laidOutB Tryd.prog = true := by kernel_rfl
theorem ground {W : World} (h : W.ShapedOpen Tryd.prog) : Sx.Ground W := ground_of (by kernel_rfl) h
/-- What the walk gives, for every argument and every world. -/
theorem contract (H : Type) (enc : TypeId × Value → H) (W : World) (base : Nat) (args : Array Value) (ds gs : List (DataW H)) (before : List MemPlace)
    (hval0 : ∀ (j : Nat) t v, Tryd.f4.params[j]? = some t → args[j]? = some v → Value.okWide Tryd.prog W .any base t v)
    (hW : DataW.Whole enc Tryd.prog Tryd.f4.params.toList Rows.fnLoadsSpec.vars false W args.toList ds gs before) (hsh : W.ShapedOpen Tryd.prog) :
    Calls Tryd.prog 4 args W fun e W' => ∃ v, e = .returned v ∧ Rows.fnLoadsSpec.post enc Tryd.prog Tryd.f4 false true false false W args v W' := by
  have hG := ground hsh
  obtain ⟨mx, hmx⟩ := cell_of_shapedOpen_int (k := .i64) (g := 1) (t := 3) (zero := #[.int .i64 0]) hsh (Nat.le_of_ble_eq_true (by kernel_rfl)) (by kernel_rfl) rfl (by kernel_rfl) (by kernel_rfl) Tryd.underlying3
  have hval : ∀ (j : Nat) t v, Tryd.f4.params[j]? = some t → args[j]? = some v → Value.okWide Tryd.prog W .any base t v := hval0
  have hW' := hW
  obtain ⟨p, q, hA0, hV, rfl, hfz, hnd⟩ := hW
  have hA : DataW.TrodAll enc Tryd.prog W 0 (fun _ => true) true Tryd.f4.params.toList args.toList ds p := hA0
  rw [Tryd.params4] at hA hval
  obtain ⟨v0, vs0, d0, ds0, p0, q0, hargs, rfl, rfl, h0, rr0⟩ := trodAll_cons hA
  obtain ⟨v1, vs1, d1, ds1, p1, q1, rfl, rfl, rfl, h1, rr1⟩ := trodAll_cons rr0
  obtain ⟨rfl, rfl, rfl⟩ := trodAll_nil rr1
  obtain rfl : args = #[v0, v1] := by cases args; simp_all
  obtain ⟨rfl, rfl⟩ := trodVars_none hV
  have k0 := h0
  have lt0 : ∀ x ∈ p0, x.block < W.heap.size := by obtain ⟨m, hm⟩ := k0; exact DataW.trod_lt m _ _ _ hm
  obtain ⟨l0, xs0, w0, r0, f0, y0⟩ := open_its Tryd.underlying29 Tryd.underlying5 (by kernel_rfl) hG (hval 0 29 v0 rfl rfl) k0
  have k1 := h1
  have lt1 : ∀ x ∈ p1, x.block < W.heap.size := by obtain ⟨m, hm⟩ := k1; exact DataW.trod_lt m _ _ _ hm
  obtain ⟨l1, xs1, w1, r1, f1, y1⟩ := open_its Tryd.underlying29 Tryd.underlying5 (by kernel_rfl) hG (hval 1 29 v1 rfl rfl) k1
  clear hA0 hval0
  refine (laws_FnLoads.walk (xs0.length, xs1.length, mx, xs0, xs1) (law_plain mx xs0 xs1 f0 y0 f1 y1) (ρ := fun i => (lget ([(⟨1, 0, 0⟩, ⟨false, 0, 1 + 1, .vs [.it .i64 mx]⟩), (l0, ⟨false, 0, 0, .is .u8 xs0⟩), (l1, ⟨false, 0, 0, .is .u8 xs1⟩)] : List (Sx.Loc × Blk)) i).map (·.1)) (Rs_cons' (r0 _ 1 rfl) (Rs_cons' (r1 _ 2 rfl) Rs_nil')) (HpR.ofBl [(⟨1, 0, 0⟩, ⟨false, 0, 1 + 1, .vs [.it .i64 mx]⟩), (l0, ⟨false, 0, 0, .is .u8 xs0⟩), (l1, ⟨false, 0, 0, .is .u8 xs1⟩)] (List.forall_mem_cons.2 ⟨pinned_bl hmx, (List.forall_mem_cons.2 ⟨rowIn_bl w0, (List.forall_mem_cons.2 ⟨rowIn_bl w1, (List.forall_mem_nil _)⟩)⟩)⟩))).mono fun e W' ⟨he, bel⟩ => ?_
  subst he
  exact ⟨_, rfl, _, _, _, [], _, [], hW', trodAll_mk1 (shut_bool Tryd.underlying4 _), (trodAll_cons_mk (Below.trod laidOut (by kernel_rfl) (of_decide_eq_true (by kernel_rfl)) k0 bel lt0) (trodAll_cons_mk (Below.trod laidOut (by kernel_rfl) (of_decide_eq_true (by kernel_rfl)) k1 bel lt1) trodAll_mk0)), rfl, bel.frame _, fun h => by cases h⟩
/-- A world for the witness: the settled one, the two tables holding what their initialisers lay. -/
noncomputable def laidWorld (os : Os) : World :=
  let w0 := World.holding Tryd.prog os ⟨#[], #[], []⟩
  let put (h : Array Obj) (g : Nat) (cs : Array Value) : Array Obj := h.modify g fun
    | .cells _ t frozen => .cells cs t frozen
    | o => o
  let h1 := put w0.heap 2 (Lib.firstTab.map fun z => Value.int .u8 z).toArray
  let h2 := put h1 3 ((List.range 16).flatMap fun i => [Value.int .u8 (Lib.accLo i), Value.int .u8 (Lib.accHi i)]).toArray
  { w0 with heap := h2 }
theorem laid_met (os : Os) : laidMet Tryd.prog Rows.fnLoadsRow.laid ((laidWorld os).forCall (fun _ _ => 0) ⟨#[], #[.slice none 0 0, .slice none 0 0], []⟩).memory :=
  laidMet_of_run' 8 (by kernel_rfl) (by kernel_rfl)
theorem reads (os : Os) {H : Type} (enc : TypeId × Value → H) : ∃ places, DataW.whole enc Tryd.prog ((laidWorld os).forCall (fun _ _ => 0) ⟨#[], #[.slice none 0 0, .slice none 0 0], []⟩).memory Tryd.f4.params.toList Rows.fnLoadsSpec.vars false #[Value.slice none 0 0, Value.slice none 0 0].toList 8 = some ([.nil, .nil], [], places) :=
  ⟨[], by kernel_rfl⟩
set_option maxRecDepth 100000 in
theorem lifted (os : Os) (started : os.Started) (H : Type) (enc : TypeId × Value → H) (F : Stop.Interp) :
    ReturnsInHanded {} Tryd.checked os 4 .any ((OpenSpec.ofChange Rows.fnLoadsSpec).preRow enc Tryd.prog Tryd.f4 Rows.fnLoadsRow.domain false Rows.fnLoadsRow.laid) (((OpenSpec.ofChange Rows.fnLoadsSpec).at F).post enc Tryd.prog Tryd.f4 false true false false) := by
  obtain ⟨places, hx⟩ := reads os enc
  refine returnsInHanded_of_row (C := Tryd.checked) (s := OpenSpec.ofChange Rows.fnLoadsSpec) own started (by kernel_rfl) Tryd.func4
    (witness_row_at (enc := enc) (C := Tryd.checked) false (laidWorld os) #[.slice none 0 0, .slice none 0 0] rfl (by kernel_rfl) (by kernel_rfl) (by kernel_rfl)
      (OpenSpec.preRow_of_cond 8 hx (by kernel_rfl) (fun k hk => by cases hk) (by kernel_rfl) (laid_met os))) ?_
  intro W base args ds gs before hval hW _ _ _ _ hsh _
  exact contract H enc W base args ds gs before hval hW hsh
theorem said : Rows.FnLoadsSaid :=
  OpenClaim.holds_of_cond 4 Tryd.f4 rfl rfl rfl rfl rfl rfl rfl ⟨rfl, rfl, rfl, rfl, rfl⟩ rfl rfl rfl rfl rfl (by kernel_rfl) Tryd.func4 (by kernel_rfl)
    (of_decide_eq_true (by kernel_rfl)) (by unfold Func.isWrapper; first | (rw [if_pos (by decide +kernel)]; kernel_rfl) | (rw [if_neg (by decide +kernel)]; exact ⟨rfl, rfl⟩))
    (fun os started H enc _ F => by rw [OpenClaim.pre_eq_preRow]; exact lifted os started H enc F)
theorem bare (f : FuncId) (fn : Func) (hf : Tryd.pinned.checked.prog.funcNamed Rows.fnLoadsRow.func = some f) (hfn : Tryd.pinned.checked.prog.funcs[f]? = some fn) :
    false = Tryd.pinned.checked.prog.looks [] ∧ ∀ (j : Nat) t, fn.params[j]? = some t → Tryd.pinned.checked.prog.wantsStandIn t = false := by
  obtain rfl : f = 4 := Option.some.inj ((show Tryd.prog.funcNamed Rows.fnLoadsRow.func = some 4 by kernel_rfl).symm.trans hf) |>.symm
  obtain rfl : fn = Tryd.f4 := (Option.some.inj (Tryd.func4.symm.trans hfn)).symm
  refine ⟨by kernel_rfl, fun j t ht => ?_⟩
  rw [Tryd.params4] at ht
  obtain rfl : t = 29 := by simpa using Array.mem_of_getElem? ht
  exact (show Tryd.prog.wantsStandIn 29 = false by kernel_rfl)
theorem proved : Rows.FnLoadsCardSaid :=
  Claim7.holds_tied_plain_at .later [] _ _ _ _ said (fun _ h => by cases h) (by kernel_rfl) (fun _ h => by cases h) fnLoads_row_tie rfl ⟨rfl, rfl⟩ (by kernel_rfl) rfl bare (by kernel_rfl)
end Go.Proofs.YtffpnngoafpidaaDoor
