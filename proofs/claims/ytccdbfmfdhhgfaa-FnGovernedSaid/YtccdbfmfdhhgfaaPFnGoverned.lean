/- For every input the call of FnGoverned returns true, and each argument reads afterwards as it read before; there is no condition. -/
import Derived.Test.YtccdbfmfdhhgfaaWFnGoverned
import Derived.Test.YtccdbfmfdhhgfaaSxS
import Derived.Test.YtccdbfmfdhhgfaaSxA1
import Derived.Test.YtccdbfmfdhhgfaaRows
import Derived.WalkKit
import Derived.ProofKit
import Derived.OpenShut
import Derived.ShutString
import Derived.ChangeOld
import Derived.Below
import Derived.Carry
import Derived.HandedShaped
namespace Go.Proofs.Ytccdbfmfdhhgfaa
open Go Go.RowKit Sx
open Go.ChangeShapes Go.WideShapes Go.ChangeAt
set_option linter.unusedVariables false
set_option linter.unusedSimpArgs false
set_option maxRecDepth 100000

/-! Draws out of bytes: they always end, and what is drawn lies below what was asked for. -/
theorem ibits255 (a : Int) : 0 ≤ ibits .and .u64 a 255 ∧ ibits .and .u64 a 255 ≤ 255 := by
  have e : (BitVec.ofInt 64 a &&& BitVec.ofInt 64 255).toNat ≤ 255 := by
    rw [BitVec.toNat_and]
    exact Nat.le_trans Nat.and_le_right (by decide)
  have h : ibits .and .u64 a 255 = IntKind.wrap .u64 (((BitVec.ofInt 64 a &&& BitVec.ofInt 64 255).toNat : Nat) : Int) := rfl
  rw [h]
  generalize (BitVec.ofInt 64 a &&& BitVec.ofInt 64 255).toNat = q at e
  have w : IntKind.wrap .u64 (q : Int) = (q : Int) % 18446744073709551616 := rfl
  rw [w]
  omega
/-- A source of bytes that may be drawn from. -/
def srcOk (n : Nat) (xs : List Int) : Prop := xs.length = n ∧ n ≤ 4611686018427387904 ∧ ∀ x ∈ xs, 0 ≤ x ∧ x ≤ 255
theorem src_get {n : Nat} {xs : List Int} (h : srcOk n xs) (i : Nat) : 0 ≤ xs.getD i 0 ∧ xs.getD i 0 ≤ 255 := by
  by_cases hi : i < xs.length
  · have : xs.getD i 0 = xs[i] := by simp [List.getD, List.getElem?_eq_getElem hi]
    rw [this]
    exact h.2.2 _ (List.getElem_mem hi)
  · have : xs.getD i 0 = 0 := by simp [List.getD, List.getElem?_eq_none (by omega : xs.length ≤ i)]
    rw [this]
    omega
theorem next_t {n : Nat} {xs : List Int} (hs : srcOk n xs) (pos : Nat) (h : Int) (hp : pos < 4611686018427387904) : ∃ v h', (spec_l00Src_next.t n (pos : Int) h xs).get = some (v, n, ((pos + 1 : Nat) : Int), h') ∧ 0 ≤ v ∧ v ≤ 255 := by
  have hw : ∀ a, IntKind.wrap .i64 (ibits .and .u64 a 255) = ibits .and .u64 a 255 := fun a => by
    have := ibits255 a
    exact wrap64 (by omega) (by omega)
  have hg := src_get hs pos
  have hwg : IntKind.wrap .i64 (xs.getD pos 0) = xs.getD pos 0 := wrap64 (by omega) (by omega)
  simp only [spec_l00Src_next.t, T.get, bounds_nat, ble_decide, Int.toNat_natCast, Nat.mul_one, Nat.zero_add, hs.1, hw, wrap64_succ (show pos + 1 < 9223372036854775808 by omega), hwg]
  by_cases hlt : pos < n
  · rw [decide_eq_true (by omega : (pos : Int) < (n : Int)), decide_eq_true hlt, decide_eq_true (by omega : pos + 1 ≤ n), decide_eq_true (by omega : ((pos + 1 : Nat) : Int) ≤ (n : Int))]
    exact ⟨_, _, rfl, hg.1, hg.2⟩
  · rw [decide_eq_false (by omega : ¬ (pos : Int) < (n : Int))]
    cases hc : decide (((pos + 1 : Nat) : Int) ≤ (n : Int)) with
    | true => exact ⟨_, _, rfl, by omega, by omega⟩
    | false => exact ⟨_, _, rfl, (ibits255 _).1, (ibits255 _).2⟩
theorem pick_t {n : Nat} {xs : List Int} (hs : srcOk n xs) (k : Nat) (pos : Nat) (h : Int) (hp : pos < 4611686018427387000) : ∃ (v pos' : Nat) (h' : Int), (spec_l00Src_pick.t (k : Int) n (pos : Int) h xs).get = some ((v : Int), n, (pos' : Int), h') ∧ (v = 0 ∨ v < k) ∧ pos' ≤ pos + 2 := by
  simp only [spec_l00Src_pick.t, T.get]
  by_cases h1 : k ≤ 1
  · rw [decide_eq_true (by omega : (k : Int) ≤ 1)]
    exact ⟨0, pos, h, rfl, .inl rfl, by omega⟩
  · rw [decide_eq_false (by omega : ¬ (k : Int) ≤ 1)]
    obtain ⟨v, h', q1, q2, q3⟩ := next_t hs pos h (by omega)
    obtain ⟨v2, h2, r1, r2, r3⟩ := next_t hs (pos + 1) h' (by omega)
    obtain ⟨v, rfl⟩ : ∃ w : Nat, v = w := ⟨v.toNat, by omega⟩
    obtain ⟨v2, rfl⟩ : ∃ w : Nat, v2 = w := ⟨v2.toNat, by omega⟩
    have hk0 : ((k : Int) == 0) = false := by
      rw [beq_eq_false_iff_ne]
      omega
    have e0 : IntKind.wrap .i64 ((v : Int) * 256) = ((v * 256 : Nat) : Int) := wrap64_of (by omega) (by omega)
    have e1 : IntKind.wrap .i64 (((v * 256 : Nat) : Int) + (v2 : Int)) = ((v * 256 + v2 : Nat) : Int) := wrap64_of (by omega) (by omega)
    have t1 : Int.tmod ((v * 256 + v2 : Nat) : Int) (k : Int) = (((v * 256 + v2) % k : Nat) : Int) := by rw [Int.ofNat_tmod]
    have t2 : Int.tmod (v : Int) (k : Int) = ((v % k : Nat) : Int) := by rw [Int.ofNat_tmod]
    simp only [show spec_l00Src_next.ok n (pos : Int) h xs = true from T.ok_of_get (q1), show spec_l00Src_next n (pos : Int) h xs = _ from T.val_of_get (q1), show spec_l00Src_next.ok n ((pos + 1 : Nat) : Int) h' xs = true from T.ok_of_get (r1), show spec_l00Src_next n ((pos + 1 : Nat) : Int) h' xs = _ from T.val_of_get (r1), hk0, e0, e1, t1, t2]
    by_cases h2 : k > 200
    · rw [decide_eq_true (by omega : (k : Int) > 200)]
      exact ⟨_, pos + 1 + 1, _, rfl, .inr (Nat.mod_lt _ (by omega)), by omega⟩
    · rw [decide_eq_false (by omega : ¬ (k : Int) > 200)]
      exact ⟨_, pos + 1, _, rfl, .inr (Nat.mod_lt _ (by omega)), by omega⟩

/-! Numbers that are not below nought: their order is that of their rungs; bounded ones. -/
theorem fle_nn {a b : Nat} (ha : Nn a) (hb : Nn b) : fle .f32 a b = decide (rg a ≤ rg b) := by
  unfold fle
  rw [nn_order ha hb]
  rcases Nat.lt_trichotomy (rg a) (rg b) with h | h | h
  · rw [Nat.compare_eq_lt.2 h, decide_eq_true (by omega)]; rfl
  · rw [Nat.compare_eq_eq.2 h, decide_eq_true (by omega)]; rfl
  · rw [Nat.compare_eq_gt.2 h, decide_eq_false (by omega)]; rfl
theorem fgt_nn {a b : Nat} (ha : Nn a) (hb : Nn b) : fgt .f32 a b = decide (rg b < rg a) := by
  unfold fgt
  rw [nn_order ha hb]
  rcases Nat.lt_trichotomy (rg a) (rg b) with h | h | h
  · rw [Nat.compare_eq_lt.2 h, decide_eq_false (by omega)]; rfl
  · rw [Nat.compare_eq_eq.2 h, decide_eq_false (by omega)]; rfl
  · rw [Nat.compare_eq_gt.2 h, decide_eq_true (by omega)]; rfl
theorem flt_nn {a b : Nat} (ha : Nn a) (hb : Nn b) : flt .f32 a b = decide (rg a < rg b) := by rw [← fgt_flip, fgt_nn hb ha]
/-- Not below nought, and no more than a bound, by its word. -/
def Nb (K x : Nat) : Prop := Nn x ∧ rg x ≤ K
theorem nb_self {K : Nat} (h : K < 2139095040) : Nn K ∧ rg K = K := ⟨.inl h, by unfold rg; omega⟩
theorem nb_mono {J K x : Nat} (h : Nb J x) (hk : J ≤ K) : Nb K x := ⟨h.1, Nat.le_trans h.2 hk⟩
theorem nb_add {J K L a b : Nat} (ha : Nb J a) (hb : Nb K b) (hJ : J < 2139095040) (hK : K < 2139095040) (h : decide (rg (fadd .f32 J K) ≤ L) = true) (hL : L < 2139095040) : Nb L (fadd .f32 a b) := by
  have h1 : rg (fadd .f32 a b) ≤ L := Nat.le_trans (add_mono ha.1 (nb_self hJ).1 hb.1 (nb_self hK).1 (by rw [(nb_self hJ).2]; exact ha.2) (by rw [(nb_self hK).2]; exact hb.2)) (of_decide_eq_true h)
  exact ⟨nn_add ha.1 hb.1 (by omega), h1⟩
theorem nb_mul {J K L a b : Nat} (ha : Nb J a) (hb : Nb K b) (hJ : J < 2139095040) (hK : K < 2139095040) (h : decide (rg (fmul .f32 J K) ≤ L) = true) (hL : L < 2139095040) : Nb L (fmul .f32 a b) := by
  have h1 : rg (fmul .f32 a b) ≤ L := Nat.le_trans (mul_mono ha.1 (nb_self hJ).1 hb.1 (nb_self hK).1 (by rw [(nb_self hJ).2]; exact ha.2) (by rw [(nb_self hK).2]; exact hb.2)) (of_decide_eq_true h)
  exact ⟨nn_mul ha.1 hb.1 (by omega), h1⟩

/-! More of the order of floats. -/
theorem feq_nn {a b : Nat} (ha : Nn a) (hb : Nn b) : feq .f32 a b = decide (rg a = rg b) := by
  unfold feq
  rw [nn_order ha hb]
  rcases Nat.lt_trichotomy (rg a) (rg b) with h | h | h
  · rw [Nat.compare_eq_lt.2 h, decide_eq_false (by omega)]; rfl
  · rw [Nat.compare_eq_eq.2 h, decide_eq_true h]; rfl
  · rw [Nat.compare_eq_gt.2 h, decide_eq_false (by omega)]; rfl
theorem le_not_gt {a b : Nat} (ha : Nn a) (hb : Nn b) : fle .f32 a b = !fgt .f32 a b := by
  rw [fle_nn ha hb, fgt_nn ha hb]
  by_cases h : rg a ≤ rg b
  · rw [decide_eq_true h, decide_eq_false (by omega)]
    rfl
  · rw [decide_eq_false h, decide_eq_true (by omega)]
    rfl
theorem nn_0 : Nn 0 ∧ rg 0 = 0 := nb_self (K := 0) (by decide)
theorem inf_word : FloatKind.f32.format.read 2139095040 = .infinity false := by kernel_rfl
theorem inf_gt {h : Nat} (hh : Nn h) : fgt .f32 2139095040 h = true := by
  obtain ⟨s, m, e, r1, _⟩ := nn_read hh
  unfold fgt Ieee.Format.order
  rw [inf_word, r1]
  rfl
/-- A quotient is a number, or an infinity. -/
theorem div_np {a b : Nat} (ha : Nn a) (hb : Nn b) (h0 : rg b ≠ 0) : Nn (fdiv .f32 a b) ∨ fdiv .f32 a b = 2139095040 := by
  by_cases hr : rg (fdiv .f32 a b) < 2139095040
  · exact .inl (nn_div ha hb h0 hr)
  · obtain ⟨s, m, p, e, hs, hv⟩ := div_raw ha hb h0
    have hle := near_le m p
    have h1 : rg (fdiv .f32 a b) = FloatKind.f32.format.nearest false m p := by rw [e, rg_near hs]
    have hsf : s = false := by
      cases s with
      | false => rfl
      | true =>
        rw [hs rfl, near_zero] at h1
        have : FloatKind.f32.format.word false 0 = 0 := rfl
        omega
    subst hsf
    refine .inr ?_
    rw [nz_of_not (nearest_num .f32 false m p)] at e
    have e' : fdiv .f32 a b = FloatKind.f32.format.nearest false m p := e
    omega
theorem nan_word {r : Nat} (h1 : 2139095040 < r % 2147483648) : isNaN .f32 r = true := by
  have e2 : FloatKind.f32.format.signWeight = 2147483648 := by kernel_rfl
  have e3 : FloatKind.f32.format.binade = 8388608 := by kernel_rfl
  have e4 : FloatKind.f32.format.infRung = 2139095040 := by kernel_rfl
  show (FloatKind.f32.format.read r).isNaN = true
  unfold Ieee.Format.read
  dsimp only
  rw [e2, e3, e4, if_neg (by omega), if_neg (by omega), if_neg (by omega)]
  rfl
theorem order_nan {x y : Nat} (h : isNaN .f32 x = true) : FloatKind.f32.format.order x y = none := by
  have h1 : (FloatKind.f32.format.read x).isNaN = true := h
  unfold Ieee.Format.order
  cases hx : FloatKind.f32.format.read x with
  | nan s t => rfl
  | infinity s => rw [hx] at h1; cases h1
  | number s m e => rw [hx] at h1; cases h1
/-- What is above nought is so by its word. -/
theorem gt0_word {x : Nat} (h : flHas .f32 x) (hg : fgt .f32 x 0 = true) : x ≤ 2139095040 := by
  have hx : x < 4294967296 := h
  refine Nat.le_of_not_lt fun hlt => ?_
  have key : fgt .f32 x 0 = false := by
    rcases Nat.lt_or_ge x 2147483648 with h1 | h1
    · unfold fgt
      rw [order_nan (nan_word (r := x) (by omega))]
      rfl
    · obtain ⟨r, rfl⟩ : ∃ r, x = 2147483648 + r := ⟨x - 2147483648, by omega⟩
      rcases Nat.lt_trichotomy r 2139095040 with h2 | h2 | h2
      · rcases Nat.eq_zero_or_pos r with h3 | h3
        · subst h3
          kernel_rfl
        · unfold fgt
          rw [neg_order h3 h2 nn_0.1]
          rfl
      · subst h2
        kernel_rfl
      · unfold fgt
        rw [order_nan (nan_word (r := 2147483648 + r) (by omega))]
        rfl
  rw [key] at hg
  cases hg
theorem pos_nn {x : Nat} (h : flHas .f32 x) (hg : fgt .f32 x 0 = true) (h2 : fgt .f32 x 1149239296 = false) : Nn x ∧ rg x ≤ 1149239296 := by
  have h1 := gt0_word h hg
  have h3 : x ≠ 2139095040 := fun e => by
    rw [e, inf_gt (nb_self (K := 1149239296) (by decide)).1] at h2
    cases h2
  have n1 := nb_self (K := 1149239296) (by decide)
  have hn : Nn x := .inl (by omega)
  rw [fgt_nn hn n1.1, n1.2] at h2
  have := of_decide_eq_false h2
  exact ⟨hn, by omega⟩
theorem mul_one {a : Nat} (ha : Nn a) : rg (fmul .f32 a 1065353216) = rg a := by
  have n1 := nb_self (K := 1065353216) (by decide)
  have e : mag 1065353216 = 2 ^ 149 := by
    unfold mag
    rw [if_neg (by decide)]
  rw [rg_mul ha n1.1, n1.2, e]
  have h2 := nearest_shift FloatKind.f32.format false (mag (rg a)) 149 (-149)
  have e3 : (-149 : Int) - ((149 : Nat) : Int) = -298 := by omega
  rw [e3] at h2
  rw [h2, near_mag (nn_rg ha)]
theorem fneg_neg {r : Nat} (h : r < 2139095040) : fneg .f32 (2147483648 + r) = r := by
  have e : Op.negFloat .f32 (2147483648 + r) = r := by
    show (2147483648 + r) ^^^ 2 ^ 31 = r
    have h1 := Nat.two_pow_add_eq_or_of_lt (i := 31) (b := r) (by omega) 1
    have h2 : 2147483648 + r = 2 ^ 31 ^^^ r := by
      refine Nat.eq_of_testBit_eq fun i => ?_
      rw [Nat.testBit_xor]
      by_cases hi : i = 31
      · subst hi
        rw [Nat.testBit_two_pow_self, Nat.testBit_lt_two_pow (show r < 2 ^ 31 by omega)]
        have : (2147483648 + r).testBit 31 = true := by
          rw [Nat.testBit_eq_decide_div_mod_eq]
          exact decide_eq_true (by omega)
        rw [this]
        rfl
      · rw [Nat.testBit_two_pow_of_ne (by omega), Bool.false_xor]
        have e2 : 2147483648 + r = 2 ^ 31 * 1 + r := by omega
        rw [e2, Nat.testBit_two_pow_mul_add 1 (show r < 2 ^ 31 by omega)]
        by_cases h3 : i < 31
        · rw [if_pos h3]
        · rw [if_neg h3, Nat.testBit_lt_two_pow (show r < 2 ^ i from Nat.lt_of_lt_of_le (show r < 2 ^ 31 by omega) (Nat.pow_le_pow_right (by omega) (by omega)))]
          have : i - 31 ≠ 0 := by omega
          obtain ⟨k, hk⟩ : ∃ k, i - 31 = k + 1 := ⟨i - 32, by omega⟩
          rw [hk]
          simp [Nat.testBit_succ]
    rw [h2, Nat.xor_comm (2 ^ 31), Nat.xor_assoc, Nat.xor_self, Nat.xor_zero]
  unfold fneg
  rw [e]
  exact nz_of_not (by
    obtain ⟨s, m, e, r1, _⟩ := nn_read (b := r) (.inl h)
    show (FloatKind.f32.format.read r).isNaN = false
    rw [r1]
    rfl)
/-- How far apart two numbers are, by the rung. -/
noncomputable def dist (x y : Nat) : Nat := if rg y ≤ rg x then rg (fsub .f32 x y) else rg (fsub .f32 y x)
theorem size_sub {x y : Nat} (hx : Nn x) (hy : Nn y) : Nn (spec_l01Size (fsub .f32 x y)) ∧ rg (spec_l01Size (fsub .f32 x y)) = dist x y := by
  have hs : ∀ v, spec_l01Size v = bif flt .f32 v 0 then fneg .f32 v else v := fun v => by simp only [spec_l01Size, spec_l01Size.t, T.val]
  unfold dist
  rw [hs]
  by_cases h : rg y ≤ rg x
  · obtain ⟨h1, _⟩ := sub_ge hx hy h
    rw [if_pos h, flt_nn h1 nn_0.1, nn_0.2, decide_eq_false (by omega)]
    exact ⟨h1, rfl⟩
  · obtain ⟨h1, h2, h3, h4⟩ := sub_lt hx hy (by omega)
    have hf : flt .f32 (2147483648 + rg (fsub .f32 y x)) 0 = true := by
      unfold flt
      rw [neg_order (by omega) h4 nn_0.1]
      rfl
    rw [if_neg h, h1, hf, cond_true, fneg_neg h4]
    refine ⟨.inl h4, ?_⟩
    exact (nb_self h4).2
theorem fmax_pos {a b : Nat} (ha : Nn a) (hb : Nn b) : Nn (fmax .f32 a b) ∧ rg (fmax .f32 a b) = max (rg a) (rg b) := by
  unfold fmax
  rw [nn_order ha hb]
  rcases Nat.lt_trichotomy (rg a) (rg b) with h | h | h
  · rw [Nat.compare_eq_lt.2 h]
    exact ⟨hb, by dsimp only; omega⟩
  · rw [Nat.compare_eq_eq.2 h]
    dsimp only
    cases (FloatKind.f32.decode a).neg
    · exact ⟨ha, by dsimp only [cond_false]; omega⟩
    · exact ⟨hb, by dsimp only [cond_true]; omega⟩
  · rw [Nat.compare_eq_gt.2 h]
    exact ⟨ha, by dsimp only; omega⟩
theorem order_neg {r b : Nat} (h0 : 0 < r) (h : r < 2139095040) (hb : Nn b) : FloatKind.f32.format.order b (2147483648 + r) = some .gt := by
  have h1 : fgt .f32 b (2147483648 + r) = true := by
    rw [fgt_flip]
    unfold flt
    rw [neg_order h0 h hb]
    rfl
  unfold fgt at h1
  exact eq_of_beq h1
theorem max_sub {x y : Nat} (hx : Nn x) (hy : Nn y) : Nn (fmax .f32 (fsub .f32 x y) (fsub .f32 y x)) ∧ rg (fmax .f32 (fsub .f32 x y) (fsub .f32 y x)) = dist x y := by
  unfold dist
  rcases Nat.lt_trichotomy (rg x) (rg y) with h | h | h
  · obtain ⟨h1, h2, h3, h4⟩ := sub_lt hx hy h
    obtain ⟨q1, _⟩ := sub_ge hy hx (Nat.le_of_lt h)
    rw [if_neg (by omega), h1]
    unfold fmax
    rw [neg_order (by omega) h4 q1]
    exact ⟨q1, rfl⟩
  · obtain ⟨q1, q2⟩ := sub_ge hx hy (by omega)
    obtain ⟨q3, q4⟩ := sub_ge hy hx (by omega)
    obtain ⟨m1, m2⟩ := fmax_pos q1 q3
    rw [if_pos (by omega)]
    refine ⟨m1, ?_⟩
    rw [m2, q2, q4, h, Nat.max_self]
  · obtain ⟨h1, h2, h3, h4⟩ := sub_lt hy hx h
    obtain ⟨q1, _⟩ := sub_ge hx hy (Nat.le_of_lt h)
    rw [if_pos (by omega), h1]
    unfold fmax
    rw [order_neg (by omega) h4 q1]
    exact ⟨q1, rfl⟩

def laws_toGovernor (x0 : Int) (x1 x2 x3 x4 x5 x6 x7 : Nat) := (x0, x1, x2, x3, x4, x5, x6, x7)
def laws_toState (x0 : Nat) (x1 : Int) := (x0, x1)
theorem within_eq (x y z : Int) : impl_within x y z = spec_l00In x y z := by
  simp only [impl_within, impl_within.t, spec_l00In, spec_l00In.t, T.val, ge_iff_le]

-- lies in the core (SxQ)

theorem length_eq (x : Nat) : impl_IsLength x = spec_l03Length x := by
  simp only [impl_IsLength, impl_IsLength.t, impl_between, impl_between.t, spec_l03Length, spec_l03Length.t, T.val, fge_flip]

theorem vmill_eq (x0 : Int) (x1 x2 : Nat) : impl_ValidMill x0 x1 x2 = spec_l03Mill x0 x1 x2 := by
  simp only [impl_ValidMill, impl_ValidMill.t, spec_l03Mill, spec_l03Mill.t, T.val, within_eq, length_eq]
theorem length_pos {x : Nat} (h : spec_l03Length x = true) : isNaN .f32 x = false ∧ ∀ s e, FloatKind.f32.format.read x ≠ .number s 0 e := by
  simp only [spec_l03Length, spec_l03Length.t, T.val, fge_flip] at h
  cases h1 : fle .f32 1031798784 x with
  | false => rw [h1] at h; cases h
  | true => exact pos_of_le (show FloatKind.f32.format.read 1031798784 = .number false 8388608 (-27) by kernel_rfl) (by omega) h1
theorem mill_pos {x0 : Int} {x1 x2 : Nat} (h : spec_l03Mill x0 x1 x2 = true) : isNaN .f32 x1 = false ∧ ∀ s e, FloatKind.f32.format.read x1 ≠ .number s 0 e := by
  refine length_pos ?_
  simp only [spec_l03Mill, spec_l03Mill.t, T.val] at h
  generalize spec_l00In (IntKind.wrap .i64 x0) 4 48 = p at h
  generalize spec_l03Length x1 = q at h ⊢
  cases p <;> cases q <;> first | rfl | cases h

theorem gov_eq (x0 : Int) (x1 x2 x3 x4 x5 x6 x7 : Nat) : laws_toGovernor x0 x1 x2 x3 x4 x5 x6 x7 = (x0, x1, x2, x3, x4, x5, x6, x7) := rfl
theorem speed_eq (x : Nat) : impl_isSpeed x = spec_l03Speed x := by
  simp only [impl_isSpeed, impl_isSpeed.t, impl_between, impl_between.t, spec_l03Speed, spec_l03Speed.t, T.val, fge_flip]
theorem gok_eq (x0 : Int) (x1 x2 x3 x4 x5 x6 x7 : Nat) : impl_ValidGovernor x0 x1 x2 x3 x4 x5 x6 x7 = spec_l03Ok x0 x1 x2 x3 x4 x5 x6 x7 := by
  simp only [impl_ValidGovernor, impl_ValidGovernor.t, spec_l03Ok, spec_l03Ok.t, T.val, vmill_eq, length_eq]
  cases spec_l03Mill x0 x1 x2 <;> cases spec_l03Length x3 <;> cases spec_l03Length x4 <;> cases spec_l03Length x7 <;> rfl
theorem gok_mill {x0 : Int} {x1 x2 x3 x4 x5 x6 x7 : Nat} (h : spec_l03Ok x0 x1 x2 x3 x4 x5 x6 x7 = true) : spec_l03Mill x0 x1 x2 = true := by
  simp only [spec_l03Ok, spec_l03Ok.t, T.val] at h
  cases hm : spec_l03Mill x0 x1 x2 with
  | true => rfl
  | false => rw [hm] at h; cases h

theorem state_eq (x0 : Nat) (x1 : Int) : laws_toState x0 x1 = (x0, x1) := rfl
theorem vstate_eq (x0 : Nat) (x1 : Int) : impl_ValidState x0 x1 = spec_l03State x0 x1 := by
  simp only [impl_ValidState, impl_ValidState.t, spec_l03State, spec_l03State.t, T.val, speed_eq, within_eq]
theorem both_eq (x0 : Int) (x1 x2 x3 x4 x5 x6 x7 x8 : Nat) (x9 : Int) : spec_l03Both x0 x1 x2 x3 x4 x5 x6 x7 x8 x9 = bif spec_l03Ok x0 x1 x2 x3 x4 x5 x6 x7 && spec_l03State x8 x9 then 0 else 1 := by
  simp only [spec_l03Both, spec_l03Both.t, T.val]
  cases spec_l03Ok x0 x1 x2 x3 x4 x5 x6 x7 <;> cases spec_l03State x8 x9 <;> rfl

theorem amount_eq (x : Nat) : impl_isAmount x = spec_l03Amount x := by
  simp only [impl_isAmount, impl_isAmount.t, impl_between, impl_between.t, spec_l03Amount, spec_l03Amount.t, T.val, fge_flip]

/-- Whether all loads are amounts. -/
noncomputable def allAm (xs : List Nat) : Bool := !anyAt (fun i => !spec_l03Amount (xs.getD i 0)) xs.length

theorem bad_eq (x : Nat) : impl_governorCode_1 x = !spec_l03Amount x := by
  simp only [impl_governorCode_1, impl_governorCode_1.t, T.val, amount_eq]
theorem index_r (xs : List Nat) (h : xs.length < 9223372036854775807) : slices_IndexFunc_float32_float32.l2.r (xs.length, ((xs.length : Nat) : Int), xs) 0 = some (match firstAt (fun i => !spec_l03Amount (xs.getD i 0)) xs.length 0 with | some i => (Sum.inl (i : Int) : Int ⊕ Unit) | none => Sum.inr ()) := by
  refine iter_first (fun i => !spec_l03Amount (xs.getD i 0)) (fun i => (Sum.inl (i : Int) : Int ⊕ Unit)) (.inr ()) xs.length h (fun i hi => ?_) ?_
  · simp only [slices_IndexFunc_float32_float32.l2.st, slices_IndexFunc_float32_float32.l2.s, T.get, bounds_nat, ble_decide, Int.toNat_natCast, Nat.mul_one, bad_eq]
    rw [decide_eq_true (by omega : (i : Int) < (xs.length : Int)), decide_eq_true hi, decide_eq_true (by omega : i + 1 ≤ xs.length)]
    cases spec_l03Amount (xs.getD i 0) <;> rfl
  · simp only [slices_IndexFunc_float32_float32.l2.st, slices_IndexFunc_float32_float32.l2.s, T.get]
    rw [decide_eq_false (by omega)]
    rfl
theorem contains_t (xs : List Nat) (h : xs.length < 9223372036854775807) : (slices_ContainsFunc_float32_float32.t xs.length xs).get = some (!allAm xs) := by
  have h1 : (slices_IndexFunc_float32_float32.t xs.length xs).get = some (match firstAt (fun i => !spec_l03Amount (xs.getD i 0)) xs.length 0 with | some i => (i : Int) | none => -1) := by
    simp only [slices_IndexFunc_float32_float32.t, T.get, index_r xs h, Option.isSome_some, cond_true, Option.getD_some]
    cases firstAt (fun i => !spec_l03Amount (xs.getD i 0)) xs.length 0 <;> rfl
  simp only [slices_ContainsFunc_float32_float32.t, T.get, show slices_IndexFunc_float32_float32.ok xs.length xs = true from T.ok_of_get h1, show slices_IndexFunc_float32_float32 xs.length xs = _ from T.val_of_get h1, cond_true]
  unfold allAm
  rw [← firstAt_any, Bool.not_not]
  cases firstAt (fun i => !spec_l03Amount (xs.getD i 0)) xs.length 0 with
  | none => rfl
  | some i =>
    simp only [Option.isSome_some, Option.some.injEq, decide_eq_true_eq]
    omega

theorem code_t (x0 : Int) (x1 x2 x3 x4 x5 x6 x7 x8 : Nat) (x9 : Int) (xs : List Nat) (h : xs.length < 9223372036854775807) : (impl_governorCode.t x0 x1 x2 x3 x4 x5 x6 x7 x8 x9 xs.length xs).get = some (bif spec_l03Ok x0 x1 x2 x3 x4 x5 x6 x7 && spec_l03State x8 x9 then (bif allAm xs then 0 else 2) else 1) := by
  simp only [impl_governorCode.t, T.get, gok_eq, vstate_eq, show slices_ContainsFunc_float32_float32.ok xs.length xs = true from T.ok_of_get (contains_t xs h), show slices_ContainsFunc_float32_float32 xs.length xs = _ from T.val_of_get (contains_t xs h)]
  cases spec_l03Ok x0 x1 x2 x3 x4 x5 x6 x7 <;> cases spec_l03State x8 x9 <;> cases allAm xs <;> rfl
theorem code_ok (x0 : Int) (x1 x2 x3 x4 x5 x6 x7 x8 : Nat) (x9 : Int) (xs : List Nat) (h : xs.length < 9223372036854775807) : impl_governorCode.ok x0 x1 x2 x3 x4 x5 x6 x7 x8 x9 xs.length xs = true := T.ok_of_get (code_t x0 x1 x2 x3 x4 x5 x6 x7 x8 x9 xs h)
theorem code_val (x0 : Int) (x1 x2 x3 x4 x5 x6 x7 x8 : Nat) (x9 : Int) (xs : List Nat) (h : xs.length < 9223372036854775807) : impl_governorCode x0 x1 x2 x3 x4 x5 x6 x7 x8 x9 xs.length xs = bif spec_l03Ok x0 x1 x2 x3 x4 x5 x6 x7 && spec_l03State x8 x9 then (bif allAm xs then 0 else 2) else 1 := T.val_of_get (code_t x0 x1 x2 x3 x4 x5 x6 x7 x8 x9 xs h)

theorem nil_r : slices_IndexFunc_float32_float32_w1.l2.r (((0 : Nat) : Int), (0 : Int)) () = some () :=
  iter_run (step := slices_IndexFunc_float32_float32_w1.l2.st (((0 : Nat) : Int), (0 : Int))) (f := fun _ => ()) (e := ()) (n := 0) (N := manyRounds) (k := 0) (many_lt (by omega)) (fun i hi => absurd hi (by omega)) rfl
theorem nil_t : slices_ContainsFunc_float32_float32_w1.t.get = some false := by
  have h1 : slices_IndexFunc_float32_float32_w1.t.get = some (-1) := by
    simp only [slices_IndexFunc_float32_float32_w1.t, T.get, nil_r, Option.isSome_some, cond_true]
  simp only [slices_ContainsFunc_float32_float32_w1.t, T.get, show slices_IndexFunc_float32_float32_w1.ok = true from T.ok_of_get h1, show slices_IndexFunc_float32_float32_w1 = -1 from T.val_of_get h1, cond_true]
  rfl
theorem code0_t (x0 : Int) (x1 x2 x3 x4 x5 x6 x7 x8 : Nat) (x9 : Int) : (impl_governorCode_w1.t x0 x1 x2 x3 x4 x5 x6 x7 x8 x9).get = some (spec_l03Both x0 x1 x2 x3 x4 x5 x6 x7 x8 x9) := by
  simp only [impl_governorCode_w1.t, T.get, gok_eq, vstate_eq, both_eq, show slices_ContainsFunc_float32_float32_w1.ok = true from T.ok_of_get nil_t, show slices_ContainsFunc_float32_float32_w1 = false from T.val_of_get nil_t]
  cases spec_l03Ok x0 x1 x2 x3 x4 x5 x6 x7 <;> cases spec_l03State x8 x9 <;> rfl
theorem both_ok {x0 : Int} {x1 x2 x3 x4 x5 x6 x7 x8 : Nat} {x9 : Int} (h : (spec_l03Both x0 x1 x2 x3 x4 x5 x6 x7 x8 x9 != 0) = false) : spec_l03Ok x0 x1 x2 x3 x4 x5 x6 x7 = true := by
  rw [both_eq] at h
  cases hg : spec_l03Ok x0 x1 x2 x3 x4 x5 x6 x7 with
  | true => rfl
  | false => rw [hg] at h; cases h

-- lies in the core (SxQ)

theorem sqrt_eq (x : Nat) : math_Sqrt x = fsqrt x := rfl
theorem root_ok (x : Nat) : spec_l03Root.ok x = true := by
  simp only [spec_l03Root.ok, spec_l03Root.t, T.ok, sqrt_eq, open_wide, open_sqrt, cond_false]
theorem fast_ok (x : Nat) : spec_l03Fast.ok x = true := by
  simp only [spec_l03Fast.ok, spec_l03Fast.t, T.ok, root_ok, cond_true]
theorem speedw_ok (x : Nat) : impl_waterSpeed.ok x = true := by
  simp only [impl_waterSpeed.ok, impl_waterSpeed.t, T.ok, sqrt_eq, open_wide, open_sqrt, cond_false]
theorem speedw_eq (x : Nat) : impl_waterSpeed x = spec_l03Fast x := by
  simp only [impl_waterSpeed, impl_waterSpeed.t, spec_l03Fast, spec_l03Fast.t, spec_l03Root, spec_l03Root.t, T.val, sqrt_eq, open_wide, open_sqrt, root_ok, cond_false, cond_true]

theorem flow_ok (x0 x1 : Nat) (x2 : Int) : spec_l03Flow.ok x0 x1 x2 = true := by
  simp only [spec_l03Flow.ok, spec_l03Flow.t, T.ok, fast_ok, cond_true]
theorem through_ok (x0 x1 : Nat) (x2 : Int) : impl_flowThrough.ok x0 x1 x2 = true := by
  simp only [impl_flowThrough.ok, impl_flowThrough.t, T.ok, speedw_ok, cond_true]
theorem through_eq (x0 x1 : Nat) (x2 : Int) : impl_flowThrough x0 x1 x2 = spec_l03Flow x0 x1 x2 := by
  simp only [impl_flowThrough, impl_flowThrough.t, spec_l03Flow, spec_l03Flow.t, T.val, speedw_ok, speedw_eq, fast_ok, cond_true]

theorem gfill_eq (x0 x1 : Nat) (x2 : Int) (x3 x4 x5 x6 x7 x8 x9 : Nat) (hx : flHas .f32 x3) (h : spec_l03Mill x2 x3 x4 = true) : impl_Mill_fill x0 x1 x2 x3 x4 x5 x6 x7 x8 x9 = spec_l03Fill x2 x3 x4 x0 x1 := by
  obtain ⟨h1, h2⟩ := mill_pos h
  simp only [impl_Mill_fill, impl_Mill_fill.t, spec_l03Fill, spec_l03Fill.t, T.val, fmin_gen (fdiv_has .f32 _ _) (fun h => canon_nan h) hx h1 h2]
theorem gtorque_eq (x0 x1 : Nat) (x2 : Int) (x3 x4 x5 x6 x7 x8 x9 : Nat) (hx : flHas .f32 x3) (h : spec_l03Mill x2 x3 x4 = true) : impl_Mill_torque x0 x1 x2 x3 x4 x5 x6 x7 x8 x9 = spec_l03Torque x2 x3 x4 x0 x1 := by
  simp only [impl_Mill_torque, impl_Mill_torque.t, spec_l03Torque, spec_l03Torque.t, T.val, gfill_eq x0 x1 x2 x3 x4 x5 x6 x7 x8 x9 hx h]
theorem at_ok (x0 : Int) (x1 x2 x3 x4 x5 x6 x7 x8 : Nat) (x9 : Int) : spec_l03At.ok x0 x1 x2 x3 x4 x5 x6 x7 x8 x9 = true := by
  simp only [spec_l03At.ok, spec_l03At.t, T.ok, flow_ok, cond_true]
theorem tat_ok (x0 : Nat) (x1 x2 : Int) (x3 x4 x5 x6 x7 x8 x9 : Nat) : impl_Governor_torqueAt.ok x0 x1 x2 x3 x4 x5 x6 x7 x8 x9 = true := by
  simp only [impl_Governor_torqueAt.ok, impl_Governor_torqueAt.t, T.ok, through_ok, cond_true]
theorem tat_eq (x0 : Nat) (x1 x2 : Int) (x3 x4 x5 x6 x7 x8 x9 : Nat) (hx : flHas .f32 x3) (h : spec_l03Mill x2 x3 x4 = true) : impl_Governor_torqueAt x0 x1 x2 x3 x4 x5 x6 x7 x8 x9 = spec_l03At x2 x3 x4 x5 x6 x7 x8 x9 x0 x1 := by
  simp only [impl_Governor_torqueAt, impl_Governor_torqueAt.t, spec_l03At, spec_l03At.t, T.val, through_ok, through_eq, flow_ok, cond_true, gtorque_eq _ _ x2 x3 x4 x5 x6 x7 x8 x9 hx h]

theorem gate_eq (x0 : Nat) (x1 x2 : Int) (x3 x4 x5 x6 x7 x8 x9 : Nat) : impl_Governor_gateBehind x0 x1 x2 x3 x4 x5 x6 x7 x8 x9 = spec_l03Gate x2 x3 x4 x5 x6 x7 x8 x9 x0 x1 := by
  simp only [impl_Governor_gateBehind, impl_Governor_gateBehind.t, spec_l03Gate, spec_l03Gate.t, spec_l00Max, spec_l00Max.t, spec_l00Min, spec_l00Min.t, T.val, gt_iff_lt, Bool.cond_decide]

theorem least_eq (x : Nat) : impl_atLeast0 x = spec_l03Least x := by
  simp only [impl_atLeast0, impl_atLeast0.t, spec_l03Least, spec_l03Least.t, T.val]

-- lies in the core (SxQ)

theorem gt_up {v : Nat} (h : fgt .f32 v 1149239296 = true) : fgt .f32 v 0 = true := by
  have hr : FloatKind.f32.format.read 1149239296 = .number false 8388608 (-13) := by kernel_rfl
  have h0 : FloatKind.f32.format.read 0 = .number false 0 (-149) := by kernel_rfl
  unfold fgt Ieee.Format.order at h ⊢
  rw [hr] at h
  rw [h0]
  cases hv : FloatKind.f32.format.read v with
  | nan s t => rw [hv] at h; cases h
  | infinity s => rw [hv] at h; cases s <;> first | rfl | (cases h; done)
  | number s m e =>
    rw [hv] at h
    have h1 : (8388608 * 2 ^ ((-13 : Int) - min e (-13)).toNat : Int) < Ieee.signed s m (e - min e (-13)).toNat := by
      have h2 : Ieee.signed false 8388608 ((-13 : Int) - min e (-13)).toNat < Ieee.signed s m (e - min e (-13)).toNat := by
        simpa only [Ieee.Datum.order, beq_iff_eq, Option.some.injEq, Int.compare_eq_gt] using h
      rw [signed_f] at h2
      simpa using h2
    have hp : (0 : Int) < 8388608 * 2 ^ ((-13 : Int) - min e (-13)).toNat := by
      have : (0 : Int) < 2 ^ ((-13 : Int) - min e (-13)).toNat := Int.pow_pos (by omega)
      omega
    have h3 : s = false ∧ 0 < m := by
      cases s with
      | true =>
        rw [signed_t] at h1
        omega
      | false =>
        rw [signed_f] at h1
        refine ⟨rfl, Nat.pos_of_ne_zero ?_⟩
        rintro rfl
        simp at h1
        omega
    obtain ⟨rfl, hm⟩ := h3
    have h4 : Ieee.signed false 0 ((-149 : Int) - min e (-149)).toNat < Ieee.signed false m (e - min e (-149)).toNat := by
      rw [signed_f, signed_f]
      have : 0 < m * 2 ^ (e - min e (-149)).toNat := Nat.mul_pos hm (Nat.two_pow_pos _)
      omega
    simpa only [Ieee.Datum.order, beq_iff_eq, Option.some.injEq, Int.compare_eq_gt] using h4
theorem least_min {v : Nat} (hv : flHas .f32 v) (hc : isNaN .f32 v = true → v = nanOf .f32) : fmin .f32 (spec_l03Least v) 1149239296 = bif fgt .f32 v 1149239296 then spec_l03Least 1149239296 else spec_l03Least v := by
  have hr : FloatKind.f32.format.read 1149239296 = .number false 8388608 (-13) := by kernel_rfl
  have hn : isNaN .f32 1149239296 = false := by kernel_rfl
  have hy : flHas .f32 1149239296 := by unfold flHas; decide
  have h0 : flHas .f32 0 := by unfold flHas; decide
  have hl : spec_l03Least v = bif fgt .f32 v 0 then v else 0 := by simp only [spec_l03Least, spec_l03Least.t, T.val]
  have hm : spec_l03Least 1149239296 = 1149239296 := by kernel_rfl
  rw [hm, hl]
  cases h : fgt .f32 v 0 with
  | true =>
    simp only [cond_true]
    exact fmin_gen hv hc hy hn fun s e h => by rw [hr] at h; cases h
  | false =>
    cases h2 : fgt .f32 v 1149239296 with
    | true => rw [gt_up h2] at h; cases h
    | false =>
      show fmin .f32 0 1149239296 = 0
      kernel_rfl
theorem tick_ok (x0 : Int) (x1 x2 x3 x4 x5 x6 x7 x8 : Nat) (x9 : Int) (x10 : Nat) : spec_l03Tick.ok x0 x1 x2 x3 x4 x5 x6 x7 x8 x9 x10 = true := by
  simp only [spec_l03Tick.ok, spec_l03Tick.t, T.ok, at_ok, cond_true, Bool.cond_self]
theorem ticki_ok (x0 : Nat) (x1 : Int) (x2 : Nat) (x3 : Int) (x4 x5 x6 x7 x8 x9 x10 : Nat) : impl_Governor_tick.ok x0 x1 x2 x3 x4 x5 x6 x7 x8 x9 x10 = true := by
  simp only [impl_Governor_tick.ok, impl_Governor_tick.t, T.ok, tat_ok, cond_true]
theorem tick_eq (x0 : Nat) (x1 : Int) (x2 : Nat) (x3 : Int) (x4 x5 x6 x7 x8 x9 x10 : Nat) (hx : flHas .f32 x4) (h : spec_l03Mill x3 x4 x5 = true) : impl_Governor_tick x0 x1 x2 x3 x4 x5 x6 x7 x8 x9 x10 = spec_l03Tick x3 x4 x5 x6 x7 x8 x9 x10 x0 x1 x2 := by
  simp only [impl_Governor_tick, impl_Governor_tick.t, spec_l03Tick, spec_l03Tick.t, T.val, tat_ok, at_ok, cond_true, gate_eq, tat_eq _ _ x3 x4 x5 x6 x7 x8 x9 x10 hx h, least_eq, least_min (fadd_has .f32 _ _) (fun h => canon_nan h)]
  generalize fgt .f32 _ 1149239296 = c
  cases c <;> rfl

theorem same_ok (x y : Nat) : spec_l01Same.ok x y = true := by
  simp only [spec_l01Same.ok, spec_l01Same.t, T.ok, fne_self, Int.toNat_natCast]
  cases isNaN .f32 x <;> cases isNaN .f32 y <;> rfl
theorem number_ok (x y : Nat) : impl_SameNumber.ok x y = true := by
  simp only [impl_SameNumber.ok, impl_SameNumber.t, T.ok, fne_self, Int.toNat_natCast]
  cases isNaN .f32 x <;> cases isNaN .f32 y <;> rfl
theorem number_same (x y : Nat) : impl_SameNumber x y = spec_l01Same x y := by
  simp only [impl_SameNumber, impl_SameNumber.t, spec_l01Same, spec_l01Same.t, T.val, fne_self, Int.toNat_natCast]
  cases isNaN .f32 x <;> cases isNaN .f32 y <;> rfl

theorem sstate_ok (x0 : Nat) (x1 : Int) (x2 : Nat) (x3 : Int) : spec_SameState.ok x0 x1 x2 x3 = true := by
  simp only [spec_SameState.ok, spec_SameState.t, T.ok, same_ok, cond_true, Bool.cond_self]
theorem istate_ok (x0 : Nat) (x1 : Int) (x2 : Nat) (x3 : Int) : impl_SameState.ok x0 x1 x2 x3 = true := by
  simp only [impl_SameState.ok, impl_SameState.t, T.ok, number_ok, cond_true, Bool.cond_self]
theorem sstate_eq (x0 : Nat) (x1 : Int) (x2 : Nat) (x3 : Int) : impl_SameState x0 x1 x2 x3 = spec_SameState x0 x1 x2 x3 := by
  simp only [impl_SameState, impl_SameState.t, spec_SameState, spec_SameState.t, T.val, same_ok, number_ok, number_same, cond_true]

theorem gated_eq (x0 : Int) (x1 x2 x3 x4 x5 x6 x7 x8 x9 : Nat) : impl_gateCode x0 x1 x2 x3 x4 x5 x6 x7 x8 x9 = spec_l03Gated x0 x1 x2 x3 x4 x5 x6 x7 x8 x9 := by
  simp only [impl_gateCode, impl_gateCode.t, spec_l03Gated, spec_l03Gated.t, T.val, gok_eq, speed_eq, amount_eq]
theorem gated_ok {x0 : Int} {x1 x2 x3 x4 x5 x6 x7 x8 x9 : Nat} (h : (spec_l03Gated x0 x1 x2 x3 x4 x5 x6 x7 x8 x9 != 0) = false) : spec_l03Mill x0 x1 x2 = true := by
  simp only [spec_l03Gated, spec_l03Gated.t, T.val] at h
  cases hg : spec_l03Ok x0 x1 x2 x3 x4 x5 x6 x7 with
  | true => exact gok_mill hg
  | false => rw [hg] at h; cases h

theorem size_eq (x : Nat) (h : flHas .f32 x) : impl_size x = spec_l01Size x := by
  simp only [impl_size, impl_size.t, spec_l01Size, spec_l01Size.t, T.val]
  cases hl : flt .f32 x 0 with
  | false => rfl
  | true => exact sub_zero_neg .f32 x h hl

theorem first_loads (xs : List Nat) (x0 : Int) (x1 x2 x3 x4 x5 x6 x7 x8 : Nat) (x9 : Int) (h : xs.length < 9223372036854775807) : spec_TickAll.l6.r (xs.length, 0, xs, x0, x1, x2, x3, x4, x5, x6, x7, x8, x9, []) 0 = some (bif allAm xs then (Sum.inr () : Int ⊕ Unit) else Sum.inl 2) := by
  have hf := iter_first (step := spec_TickAll.l6.st (xs.length, 0, xs, x0, x1, x2, x3, x4, x5, x6, x7, x8, x9, [])) (fun i => !spec_l03Amount (xs.getD i 0)) (fun i => (Sum.inl 2 : Int ⊕ Unit)) (.inr ()) xs.length h (fun i hi => ?_) ?_
  · unfold allAm
    rw [← firstAt_any]
    refine hf.trans ?_
    cases firstAt (fun i => !spec_l03Amount (xs.getD i 0)) xs.length 0 <;> rfl
  · simp only [spec_TickAll.l6.st, spec_TickAll.l6.s, T.get, bounds_nat, ble_decide, Int.toNat_natCast, Nat.mul_one]
    rw [decide_eq_true (by omega : (i : Int) < (xs.length : Int)), decide_eq_true hi, decide_eq_true (by omega : i + 1 ≤ xs.length)]
    cases spec_l03Amount (xs.getD i 0) <;> rfl
  · simp only [spec_TickAll.l6.st, spec_TickAll.l6.s, T.get]
    rw [decide_eq_false (by omega)]
    rfl
theorem ticks_r (xs : List Nat) (x0 : Int) (x1 x2 x3 x4 x5 x6 x7 x8 : Nat) (x9 : Int) (hx : flHas .f32 x1) (hm : spec_l03Mill x0 x1 x2 = true) (h : xs.length ≤ 100) :
    ∃ rows, rows.length = xs.length ∧ spec_TickAll.l13.r (xs.length, xs, x0, x1, x2, x3, x4, x5, x6, x7) (0, 0, x8, x9, []) = some (xs.length, rows) ∧ impl_TickAll.l8.r (xs.length, (xs.length : Int), xs, x0, x1, x2, x3, x4, x5, x6, x7) (0, 0, x8, x9, []) = some (xs.length, rows) := by
  obtain ⟨e, e', h1, h2, h3, h4, rfl⟩ := iter_two (step := spec_TickAll.l13.st (xs.length, xs, x0, x1, x2, x3, x4, x5, x6, x7)) (step' := impl_TickAll.l8.st (xs.length, (xs.length : Int), xs, x0, x1, x2, x3, x4, x5, x6, x7))
    (R := fun s t => s = t ∧ ∃ i : Nat, i ≤ xs.length ∧ s.1 = i ∧ s.2.1 = (i : Int) ∧ s.2.2.2.2.length = i) (E := fun e e' => e.1 = xs.length ∧ e.2.length = xs.length ∧ e = e') (fun s => xs.length - s.1) (by
    rintro ⟨n, c, a, b, rows⟩ _ ⟨rfl, i, hi, hn, hc, hr⟩
    dsimp only at hn hc hr
    subst hn
    subst hc
    simp only [spec_TickAll.l13.st, spec_TickAll.l13.s, impl_TickAll.l8.st, impl_TickAll.l8.s, T.get, bounds_nat, ble_decide, Int.toNat_natCast, Nat.mul_one, tick_ok, ticki_ok, tick_eq _ _ _ x0 x1 x2 x3 x4 x5 x6 x7 hx hm]
    by_cases hlt : n < xs.length
    · rw [decide_eq_true (by omega : (n : Int) < (xs.length : Int)), decide_eq_true hlt, decide_eq_true (by omega : n + 1 ≤ xs.length), wrap64_succ (by omega)]
      generalize spec_l03Tick x0 x1 x2 x3 x4 x5 x6 x7 a b (xs.getD n 0) = q
      have hcond : (Nat.beq 2 (List.length [[Sc.n q.1, Sc.i q.2]] * 2) && (Nat.beq (rows.length * 2) (n * 2) && decide ((n + 1) * 8 ≤ 35184372088832) && decide (n + 1 ≤ 35184372088832))) = true := by
        rw [hr, Nat.beq_refl, decide_eq_true (by omega), decide_eq_true (by omega)]
        rfl
      simp only [hcond, cond_true]
      exact .inl ⟨_, _, rfl, rfl, ⟨rfl, n + 1, by omega, rfl, rfl, by simp [hr]⟩, by dsimp only; omega⟩
    · rw [decide_eq_false (by omega : ¬ (n : Int) < (xs.length : Int))]
      exact .inr ⟨_, _, rfl, rfl, (by omega : n = xs.length), by dsimp only; omega, rfl⟩) manyRounds (0, 0, x8, x9, []) (0, 0, x8, x9, []) ⟨rfl, 0, by omega, rfl, rfl, rfl⟩ (many_lt (by dsimp only; omega))
  obtain ⟨n, rows⟩ := e
  dsimp only at h3 h4
  subst h3
  exact ⟨rows, h4, h1, h2⟩
theorem ticks_t (xs : List Nat) (x0 : Int) (x1 x2 x3 x4 x5 x6 x7 x8 : Nat) (x9 : Int) (hx : flHas .f32 x1) (h : xs.length < 1099511627776) :
    (∃ c, c ≠ 0 ∧ (spec_TickAll.t x0 x1 x2 x3 x4 x5 x6 x7 x8 x9 xs.length xs).get = some (0, c, []) ∧ (impl_TickAll.t x0 x1 x2 x3 x4 x5 x6 x7 x8 x9 xs.length xs).get = some (.inl c)) ∨
    (∃ n rows, List.length rows = n ∧ n ≤ 100 ∧ (spec_TickAll.t x0 x1 x2 x3 x4 x5 x6 x7 x8 x9 xs.length xs).get = some (n, 0, rows) ∧ (impl_TickAll.t x0 x1 x2 x3 x4 x5 x6 x7 x8 x9 xs.length xs).get = some (.inr (n, 0, rows))) := by
  simp only [spec_TickAll.t, impl_TickAll.t, T.get, both_eq, first_loads xs x0 x1 x2 x3 x4 x5 x6 x7 x8 x9 (by omega), code_ok x0 x1 x2 x3 x4 x5 x6 x7 x8 x9 xs (by omega), code_val x0 x1 x2 x3 x4 x5 x6 x7 x8 x9 xs (by omega), Option.isSome_some, Option.getD_some]
  cases hg : spec_l03Ok x0 x1 x2 x3 x4 x5 x6 x7 with
  | false => exact .inl ⟨1, by decide, rfl, rfl⟩
  | true =>
    cases hs : spec_l03State x8 x9 with
    | false => exact .inl ⟨1, by decide, rfl, rfl⟩
    | true =>
      cases ha : allAm xs with
      | false => exact .inl ⟨2, by decide, rfl, rfl⟩
      | true =>
        by_cases hb : (xs.length : Int) > 100
        · rw [decide_eq_true hb]
          exact .inl ⟨3, by decide, rfl, rfl⟩
        · rw [decide_eq_false hb]
          obtain ⟨rows, h1, h2, h3⟩ := ticks_r xs x0 x1 x2 x3 x4 x5 x6 x7 x8 x9 hx (gok_mill hg) (by omega)
          rw [h2, h3]
          exact .inr ⟨xs.length, rows, h1, by omega, rfl, rfl⟩

theorem wrap_i16 (n : Int) : IntKind.i16.wrap n = (n + 32768) % 65536 - 32768 := by
  unfold IntKind.wrap
  simp [IntKind.bits, IntKind.signed]
  try omega
theorem wrap_i8 (n : Int) : IntKind.i8.wrap n = (n + 128) % 256 - 128 := by
  unfold IntKind.wrap
  simp [IntKind.bits, IntKind.signed]
  try omega
def val (v : Int) (c : Nat) : Nat := fdiv .f32 (fofint .f32 v) c
theorem vals' {n : Nat} {P : Nat → Bool} (h : (List.range n).all P = true) (hn : 0 < n) {v : Nat} (hv : v = 0 ∨ v < n) : P v = true := by
  rw [List.all_eq_true] at h
  exact h v (List.mem_range.2 (by omega))
theorem condT (x : Nat) (l n : Nat) (hl : l = n) (hn : n ≤ 60) : (Nat.ble 1 (List.length [x]) && (Nat.beq l (n * 1) && Nat.ble ((n + 1) * 4) 35184372088832 && Nat.ble (n + 1) 35184372088832)) = true := by
  rw [hl, Nat.mul_one, Nat.beq_refl, ble_decide, ble_decide, ble_decide, decide_eq_true (by simp : 1 ≤ List.length [x]), decide_eq_true (by omega : (n + 1) * 4 ≤ 35184372088832), decide_eq_true (by omega : n + 1 ≤ 35184372088832)]
  rfl
theorem torques_t {n : Nat} {xs : List Int} (hs : srcOk n xs) (P : Nat → Bool) (hP : ∀ v : Nat, v = 0 ∨ v < 200 → P (val (v : Int) 1082130432) = true) : ∃ out, (spec_P6Torques.t n xs).get = some (List.length out, out) ∧ out.length ≤ 6 ∧ ∀ i, i < out.length → P (out.getD i 0) = true := by
  obtain ⟨v, p1, h1, q1, g1, l1⟩ := pick_t hs 7 0 0 (by omega)
  have hv : v ≤ 6 := by omega
  obtain ⟨e, r1, r2⟩ := iter_ends (step := spec_P6Torques.l4.st xs) (R := fun s => ∃ (j pos : Nat), j ≤ v ∧ s.1 = j ∧ s.2.1 = ((v - j : Nat) : Int) ∧ s.2.2.1 = n ∧ s.2.2.2.1 = (pos : Int) ∧ pos ≤ 2 + 2 * j ∧ s.2.2.2.2.2.length = j ∧ ∀ i, i < j → P (s.2.2.2.2.2.getD i 0) = true)
    (E := fun e => e.1 = e.2.length ∧ e.2.length ≤ 6 ∧ ∀ i, i < e.2.length → P (e.2.getD i 0) = true) (fun s => s.2.1.toNat) (by
    rintro ⟨l, k, m, pos', h, out⟩ ⟨j, pos, hj, a1, a2, a3, a4, a5, a6, a7⟩
    dsimp only at a1 a2 a3 a4 a5 a6 a7
    subst a1 a2 a3 a4
    by_cases hlt : l < v
    · obtain ⟨v2, p2, h2, q2, g2, l2⟩ := pick_t hs 200 pos h (by omega)
      have hc := fun x => condT x out.length l a6 (by omega)
      refine .inl ⟨(l + 1, ((v - (l + 1) : Nat) : Int), m, (p2 : Int), h2, out ++ [val (v2 : Int) 1082130432]), ?_, ⟨l + 1, p2, by omega, rfl, rfl, rfl, rfl, by omega, by simp [a6], fun i hi => ?_⟩, by dsimp only; omega⟩
      · have hw : IntKind.wrap .i64 (((v - l : Nat) : Int) - 1) = ((v - (l + 1) : Nat) : Int) := wrap64_of (by omega) (by omega)
        simp only [spec_P6Torques.l4.st, spec_P6Torques.l4.s, T.get, show spec_l00Src_pick.ok (200 : Int) m (pos : Int) h xs = true from T.ok_of_get (q2), show spec_l00Src_pick (200 : Int) m (pos : Int) h xs = _ from T.val_of_get (q2), hc, hw]
        rw [decide_eq_true (by omega : ((v - l : Nat) : Int) > 0)]
        rfl
      · rcases Nat.lt_or_ge i l with h3 | h3
        · have : (out ++ [val (v2 : Int) 1082130432]).getD i 0 = out.getD i 0 := by
            simp [List.getD, List.getElem?_append_left (by omega : i < out.length)]
          dsimp only
          rw [this]
          exact a7 i h3
        · have hi' : i = out.length := by omega
          have : (out ++ [val (v2 : Int) 1082130432]).getD i 0 = val (v2 : Int) 1082130432 := by
            rw [hi']
            simp [List.getD]
          dsimp only
          rw [this]
          exact hP v2 g2
    · refine .inr ⟨(l, out), ?_, a6.symm, by dsimp only; omega, fun i hi => a7 i (by dsimp only at hi; omega)⟩
      simp only [spec_P6Torques.l4.st, spec_P6Torques.l4.s, T.get]
      rw [decide_eq_false (by omega : ¬ ((v - l : Nat) : Int) > 0)]
      rfl) manyRounds (0, (v : Int), n, (p1 : Int), h1, []) ⟨0, p1, by omega, rfl, rfl, rfl, rfl, by omega, rfl, fun i hi => by omega⟩ (many_lt (by dsimp only; omega))
  obtain ⟨l, out⟩ := e
  obtain ⟨r2, r3, r4⟩ := r2
  dsimp only at r2 r3 r4
  subst r2
  refine ⟨out, ?_, r3, r4⟩
  have r1' : spec_P6Torques.l4.r xs (0, (v : Int), n, (p1 : Int), h1, []) = some (out.length, out) := r1
  simp only [spec_P6Torques.t, T.get, spec_l00From, spec_l00From.t, T.val, show spec_l00Src_pick.ok (7 : Int) n 0 0 xs = true from T.ok_of_get (q1), show spec_l00Src_pick (7 : Int) n 0 0 xs = _ from T.val_of_get (q1), r1']
  rfl
theorem allAm_of {xs : List Nat} (h : ∀ i, i < xs.length → spec_l03Amount (xs.getD i 0) = true) : allAm xs = true := by
  unfold allAm
  cases hq : anyAt (fun i => !spec_l03Amount (xs.getD i 0)) xs.length with
  | false => rfl
  | true =>
    obtain ⟨i, hi, h2⟩ := anyAt_true.1 hq
    rw [h i hi] at h2
    cases h2

theorem amount200 : (List.range 200).all (fun v => spec_l03Amount (val (v : Int) 1082130432)) = true := by kernel_rfl
/-! Drawn governors and states. -/
noncomputable def lenOk (K x : Nat) : Bool := decide (x < 2139095040) && decide (x ≤ K) && spec_l03Length x
noncomputable def headOk (x : Nat) : Bool := lenOk 1090519040 x && (decide (spec_l03Fast x < 2139095040) && decide (spec_l03Fast x ≤ 1096810496))
theorem len64 : (List.range 64).all (fun v => lenOk 1090519040 (val ((v + 1 : Nat) : Int) 1090519040)) = true := by kernel_rfl
theorem head64 : (List.range 64).all (fun v => headOk (val ((v + 1 : Nat) : Int) 1090519040)) = true := by kernel_rfl
theorem inert900 : (List.range 900).all (fun v => lenOk 1149239296 (fofint .f32 ((v + 1 : Nat) : Int))) = true := by kernel_rfl
noncomputable def rangeOk (lo hi : Nat) : Bool := decide (lo < 2139095040) && decide (hi < 2139095040) && (fge .f32 lo 0 && fle .f32 hi 1149239296 && flt .f32 lo hi)
theorem range800 : (List.range 40).all (fun u => (List.range 20).all (fun v => rangeOk (val (u : Int) 1073741824) (fadd .f32 (val (u : Int) 1073741824) (val ((v + 1 : Nat) : Int) 1073741824)))) = true := by kernel_rfl
noncomputable def speedOk (x : Nat) : Bool := decide (x < 2139095040) && decide (x ≤ 1149239296)
theorem speed120 : (List.range 120).all (fun v => speedOk (val (v : Int) 1082130432)) = true := by kernel_rfl
theorem lenOk_nb {K x : Nat} (h : lenOk K x = true) : Nb K x ∧ spec_l03Length x = true := by
  simp only [lenOk, Bool.and_eq_true, decide_eq_true_eq] at h
  exact ⟨⟨.inl h.1.1, by have := (nb_self h.1.1).2; omega⟩, h.2⟩
def GovOk (n : Int) (h r A H lo hi I : Nat) : Prop := (4 ≤ n ∧ n ≤ 23) ∧ lenOk 1090519040 h = true ∧ lenOk 1090519040 r = true ∧ lenOk 1090519040 A = true ∧ headOk H = true ∧ rangeOk lo hi = true ∧ lenOk 1149239296 I = true
theorem gov_ok {n : Int} {h r A H lo hi I : Nat} (g : GovOk n h r A H lo hi I) : spec_l03Ok n h r A H lo hi I = true := by
  obtain ⟨⟨g0, g0'⟩, g1, g2, g3, g4, g5, g6⟩ := g
  have e4 : lenOk 1090519040 H = true := by
    simp only [headOk, Bool.and_eq_true] at g4
    exact g4.1
  simp only [rangeOk, Bool.and_eq_true, decide_eq_true_eq] at g5
  have hw : IntKind.wrap .i64 n = n := wrap64 (by omega) (by omega)
  have hi' : spec_l00In n 4 48 = true := by
    simp only [spec_l00In, spec_l00In.t, T.val, decide_eq_true (by omega : n ≥ 4), decide_eq_true (by omega : n ≤ 48)]
    rfl
  simp only [spec_l03Ok, spec_l03Ok.t, spec_l03Mill, spec_l03Mill.t, T.val, hw, hi', (lenOk_nb g1).2, (lenOk_nb g2).2, (lenOk_nb g3).2, (lenOk_nb e4).2, (lenOk_nb g6).2, g5.2.1.1, g5.2.1.2, g5.2.2]
  rfl
theorem one_plus {v k : Nat} (h : v = 0 ∨ v < k) (hk : k < 100000) : IntKind.wrap .i64 ((1 : Int) + (v : Int)) = ((v + 1 : Nat) : Int) := wrap64_of (by omega) (by omega)
theorem gov_t {n : Nat} {xs : List Int} (hs : srcOk n xs) : ∃ q h r A H lo hi I, (spec_P6Governor.t n xs).get = some (q, h, r, A, H, lo, hi, I) ∧ GovOk q h r A H lo hi I := by
  obtain ⟨v1, p1, h1, q1, g1, l1⟩ := pick_t hs 20 0 0 (by omega)
  obtain ⟨v2, p2, h2, q2, g2, l2⟩ := pick_t hs 64 p1 h1 (by omega)
  obtain ⟨v3, p3, h3, q3, g3, l3⟩ := pick_t hs 64 p2 h2 (by omega)
  obtain ⟨v4, p4, h4, q4, g4, l4⟩ := pick_t hs 64 p3 h3 (by omega)
  obtain ⟨v5, p5, h5, q5, g5, l5⟩ := pick_t hs 64 p4 h4 (by omega)
  obtain ⟨v6, p6, h6, q6, g6, l6⟩ := pick_t hs 40 p5 h5 (by omega)
  obtain ⟨v7, p7, h7, q7, g7, l7⟩ := pick_t hs 20 p6 h6 (by omega)
  obtain ⟨v8, p8, h8, q8, g8, l8⟩ := pick_t hs 900 p7 h7 (by omega)
  have w1 : IntKind.wrap .i16 (IntKind.wrap .i64 ((4 : Int) + (v1 : Int))) = ((v1 + 4 : Nat) : Int) := by
    rw [wrap64 (by omega) (by omega)]
    rw [wrap_i16]
    omega
  have long : ∀ {v p p' : Nat} {h h' : Int}, (spec_l00Src_pick.t (64 : Int) n (p : Int) h xs).get = some ((v : Int), n, (p' : Int), h') → v = 0 ∨ v < 64 → (spec_l03Long.t n (p : Int) h xs).get = some (val ((v + 1 : Nat) : Int) 1090519040, n, (p' : Int), h') := by
    intro v p p' h h' hq hv
    simp only [spec_l03Long.t, T.get, show spec_l00Src_pick.ok (64 : Int) n (p : Int) h xs = true from T.ok_of_get (hq), show spec_l00Src_pick (64 : Int) n (p : Int) h xs = _ from T.val_of_get (hq), one_plus hv (by omega)]
    rfl
  have k2 := long q2 g2
  have k3 := long q3 g3
  have k4 := long q4 g4
  have k5 := long q5 g5
  have hw : (spec_l03Wheel.t n 0 0 xs).get = some (((v1 + 4 : Nat) : Int), val ((v2 + 1 : Nat) : Int) 1090519040, val ((v3 + 1 : Nat) : Int) 1090519040, n, (p3 : Int), h3) := by
    simp only [spec_l03Wheel.t, T.get, show spec_l00Src_pick.ok (20 : Int) n 0 0 xs = true from T.ok_of_get (q1), show spec_l00Src_pick (20 : Int) n 0 0 xs = _ from T.val_of_get (q1), show spec_l03Long.ok n (p1 : Int) h1 xs = true from T.ok_of_get (k2), show spec_l03Long n (p1 : Int) h1 xs = _ from T.val_of_get (k2), show spec_l03Long.ok n (p2 : Int) h2 xs = true from T.ok_of_get (k3), show spec_l03Long n (p2 : Int) h2 xs = _ from T.val_of_get (k3), w1]
    rfl
  have hd : (spec_l03Drawn.t n 0 0 xs).get = some (((v1 + 4 : Nat) : Int), val ((v2 + 1 : Nat) : Int) 1090519040, val ((v3 + 1 : Nat) : Int) 1090519040, val ((v4 + 1 : Nat) : Int) 1090519040, val ((v5 + 1 : Nat) : Int) 1090519040, val (v6 : Int) 1073741824, fadd .f32 (val (v6 : Int) 1073741824) (val ((v7 + 1 : Nat) : Int) 1073741824), fofint .f32 ((v8 + 1 : Nat) : Int), n, (p8 : Int), h8) := by
    simp only [spec_l03Drawn.t, T.get, show spec_l03Wheel.ok n 0 0 xs = true from T.ok_of_get (hw), show spec_l03Wheel n 0 0 xs = _ from T.val_of_get (hw), show spec_l03Long.ok n (p3 : Int) h3 xs = true from T.ok_of_get (k4), show spec_l03Long n (p3 : Int) h3 xs = _ from T.val_of_get (k4), show spec_l03Long.ok n (p4 : Int) h4 xs = true from T.ok_of_get (k5), show spec_l03Long n (p4 : Int) h4 xs = _ from T.val_of_get (k5), show spec_l00Src_pick.ok (40 : Int) n (p5 : Int) h5 xs = true from T.ok_of_get (q6), show spec_l00Src_pick (40 : Int) n (p5 : Int) h5 xs = _ from T.val_of_get (q6), show spec_l00Src_pick.ok (20 : Int) n (p6 : Int) h6 xs = true from T.ok_of_get (q7), show spec_l00Src_pick (20 : Int) n (p6 : Int) h6 xs = _ from T.val_of_get (q7), show spec_l00Src_pick.ok (900 : Int) n (p7 : Int) h7 xs = true from T.ok_of_get (q8), show spec_l00Src_pick (900 : Int) n (p7 : Int) h7 xs = _ from T.val_of_get (q8), one_plus g7 (by omega), one_plus g8 (by omega)]
    rfl
  refine ⟨((v1 + 4 : Nat) : Int), val ((v2 + 1 : Nat) : Int) 1090519040, val ((v3 + 1 : Nat) : Int) 1090519040, val ((v4 + 1 : Nat) : Int) 1090519040, val ((v5 + 1 : Nat) : Int) 1090519040, val (v6 : Int) 1073741824, fadd .f32 (val (v6 : Int) 1073741824) (val ((v7 + 1 : Nat) : Int) 1073741824), fofint .f32 ((v8 + 1 : Nat) : Int), ?_, ⟨by omega, by omega⟩, vals' len64 (by omega) g2, vals' len64 (by omega) g3, vals' len64 (by omega) g4, vals' head64 (by omega) g5, vals' (vals' range800 (by omega) g6) (by omega) g7, vals' inert900 (by omega) g8⟩
  simp only [spec_P6Governor.t, T.get, spec_l00From, spec_l00From.t, T.val, show spec_l03Drawn.ok n 0 0 xs = true from T.ok_of_get (hd), show spec_l03Drawn n 0 0 xs = _ from T.val_of_get (hd)]
  rfl
def Sok (v : Nat) (k : Int) : Prop := Nb 1149239296 v ∧ 0 ≤ k ∧ k ≤ 16
theorem sok_state {v : Nat} {k : Int} (h : Sok v k) : spec_l03State v k = true := by
  have n0 := nb_self (K := 0) (by decide)
  have n1 := nb_self (K := 1149239296) (by decide)
  have h1 : fle .f32 0 v = true := by
    rw [fle_nn n0.1 h.1.1, n0.2]
    exact decide_eq_true (Nat.zero_le _)
  have h2 : fle .f32 v 1149239296 = true := by
    rw [fle_nn h.1.1 n1.1, n1.2]
    exact decide_eq_true h.1.2
  have hw : IntKind.wrap .i64 k = k := wrap64 (by have := h.2.1; omega) (by have := h.2.2; omega)
  have hi' : spec_l00In k 0 16 = true := by
    simp only [spec_l00In, spec_l00In.t, T.val, decide_eq_true (by have := h.2.1; omega : k ≥ 0), decide_eq_true (by have := h.2.2; omega : k ≤ 16)]
    rfl
  simp only [spec_l03State, spec_l03State.t, spec_l03Speed, spec_l03Speed.t, T.val, fge_flip, h1, h2, hw, hi']
  rfl
theorem wrap8 {k : Int} (h0 : 0 ≤ k) (h1 : k ≤ 16) : IntKind.wrap .i8 k = k := by
  rw [wrap_i8]
  omega
theorem state_t {n : Nat} {xs : List Int} (hs : srcOk n xs) : ∃ v k, (spec_P6State.t n xs).get = some (v, k) ∧ Sok v k := by
  obtain ⟨v1, p1, h1, q1, g1, l1⟩ := pick_t hs 120 0 0 (by omega)
  obtain ⟨v2, p2, h2, q2, g2, l2⟩ := pick_t hs 17 p1 h1 (by omega)
  have hd : (spec_l03StateDrawn.t n 0 0 xs).get = some (val (v1 : Int) 1082130432, (v2 : Int), n, (p2 : Int), h2) := by
    simp only [spec_l03StateDrawn.t, T.get, show spec_l00Src_pick.ok (120 : Int) n 0 0 xs = true from T.ok_of_get (q1), show spec_l00Src_pick (120 : Int) n 0 0 xs = _ from T.val_of_get (q1), show spec_l00Src_pick.ok (17 : Int) n (p1 : Int) h1 xs = true from T.ok_of_get (q2), show spec_l00Src_pick (17 : Int) n (p1 : Int) h1 xs = _ from T.val_of_get (q2), wrap8 (show (0 : Int) ≤ (v2 : Int) by omega) (show (v2 : Int) ≤ 16 by omega)]
    rfl
  refine ⟨val (v1 : Int) 1082130432, (v2 : Int), ?_, ?_, by omega, by omega⟩
  · simp only [spec_P6State.t, T.get, spec_l00From, spec_l00From.t, T.val, show spec_l03StateDrawn.ok n 0 0 xs = true from T.ok_of_get (hd), show spec_l03StateDrawn n 0 0 xs = _ from T.val_of_get (hd)]
    rfl
  · have := vals' speed120 (by omega) g1
    simp only [speedOk, Bool.and_eq_true, decide_eq_true_eq] at this
    exact ⟨.inl this.1, by have h := (nb_self this.1).2; omega⟩
theorem p6pick_t {n : Nat} {xs : List Int} (hs : srcOk n xs) (k : Nat) : ∃ v : Nat, (spec_P6Pick.t n (k : Int) xs).get = some (v : Int) ∧ (v = 0 ∨ v < k) := by
  obtain ⟨v1, p1, h1, q1, g1, l1⟩ := pick_t hs k 0 0 (by omega)
  simp only [spec_P6Pick.t, T.get, spec_l00From, spec_l00From.t, T.val, show spec_l00Src_pick.ok (k : Int) n 0 0 xs = true from T.ok_of_get (q1), show spec_l00Src_pick (k : Int) n 0 0 xs = _ from T.val_of_get (q1)]
  exact ⟨v1, rfl, g1⟩

/-! A governor's torques and ticks. -/
theorem fastNb {H : Nat} (h : headOk H = true) : Nb 1096810496 (spec_l03Fast H) := by
  simp only [headOk, Bool.and_eq_true, decide_eq_true_eq] at h
  exact ⟨.inl h.2.1, by have := (nb_self h.2.1).2; omega⟩
theorem ints17 : (List.range 49).all (fun v => decide (fofint .f32 (v : Int) < 2139095040) && decide (fofint .f32 (v : Int) ≤ 1111752704)) = true := by kernel_rfl
theorem ints4 : (List.range 49).all (fun v => decide (v < 4) || decide (1065353216 ≤ fofint .f32 (v : Int))) = true := by kernel_rfl
theorem int_nb {v : Nat} (h : v < 49) : Nb 1111752704 (fofint .f32 (v : Int)) := by
  have := vals' ints17 (by omega) (.inr h)
  simp only [Bool.and_eq_true, decide_eq_true_eq] at this
  exact ⟨.inl this.1, by have h := (nb_self this.1).2; omega⟩
theorem flow_nb {A H : Nat} {k : Int} (hA : Nb 1090519040 A) (hH : headOk H = true) (h0 : 0 ≤ k) (h1 : k ≤ 16) : Nb 1176000000 (spec_l03Flow A H k) := by
  obtain ⟨v, rfl⟩ : ∃ v : Nat, k = (v : Int) := ⟨k.toNat, by omega⟩
  have e : spec_l03Flow A H (v : Int) = fmul .f32 (fdiv .f32 (fmul .f32 A (fofint .f32 (v : Int))) 1098907648) (spec_l03Fast H) := by
    simp only [spec_l03Flow, spec_l03Flow.t, T.val, fast_ok, cond_true]
  rw [e]
  have hk := int_nb (v := v) (by omega)
  have h2 : Nb 1140000000 (fmul .f32 A (fofint .f32 (v : Int))) := nb_mul hA hk (by omega) (by omega) (by kernel_rfl) (by omega)
  have n16 := nb_self (K := 1098907648) (by decide)
  have h3 : rg (fdiv .f32 (fmul .f32 A (fofint .f32 (v : Int))) 1098907648) ≤ rg (fmul .f32 A (fofint .f32 (v : Int))) := div_le h2.1 n16.1 (by rw [n16.2]; decide)
  have h4 : Nb 1140000000 (fdiv .f32 (fmul .f32 A (fofint .f32 (v : Int))) 1098907648) := ⟨nn_div h2.1 n16.1 (by rw [n16.2]; decide) (by have := h2.2; omega), Nat.le_trans h3 h2.2⟩
  exact nb_mul h4 (fastNb hH) (by omega) (by omega) (by kernel_rfl) (by omega)
theorem fill_nb {n : Int} {h r fl v : Nat} (hn : 4 ≤ n ∧ n ≤ 23) (hh : Nb 1090519040 h) (hf : Nb 1176000000 fl) (hv : Nb 1149239296 v) : Nb 1090519040 (spec_l03Fill n h r fl v) := by
  obtain ⟨k, rfl⟩ : ∃ k : Nat, n = (k : Int) := ⟨n.toNat, by omega⟩
  simp only [spec_l03Fill, spec_l03Fill.t, T.val]
  cases h1 : feq .f32 fl 0 with
  | true => exact ⟨nn_0.1, by show rg 0 ≤ _; rw [nn_0.2]; omega⟩
  | false =>
    cases h2 : feq .f32 v 0 with
    | true => exact hh
    | false =>
      simp only [cond_false]
      have hk := int_nb (v := k) (by omega)
      have hk1 : 1065353216 ≤ rg (fofint .f32 (k : Int)) := by
        have h3 := vals' ints4 (by omega) (.inr (show k < 49 by omega))
        have h4 := vals' ints17 (by omega) (.inr (show k < 49 by omega))
        simp only [Bool.or_eq_true, Bool.and_eq_true, decide_eq_true_eq] at h3 h4
        rw [(nb_self h4.1).2]
        omega
      have hm : Nb 1200000000 (fmul .f32 v (fofint .f32 (k : Int))) := nb_mul hv hk (by omega) (by omega) (by kernel_rfl) (by omega)
      have n1 := nb_self (K := 1065353216) (by decide)
      have hpos : rg v ≤ rg (fmul .f32 v (fofint .f32 (k : Int))) := by
        have := mul_mono hv.1 hv.1 n1.1 hk.1 (Nat.le_refl _) (by rw [n1.2]; exact hk1)
        rwa [mul_one hv.1] at this
      have hv0 : rg v ≠ 0 := by
        rw [feq_nn hv.1 nn_0.1, nn_0.2] at h2
        exact of_decide_eq_false h2
      rcases div_np hf.1 hm.1 (by omega) with hq | hq
      · rw [fgt_nn hq hh.1]
        by_cases hlt : rg h < rg (fdiv .f32 fl (fmul .f32 v (fofint .f32 (k : Int))))
        · rw [decide_eq_true hlt]
          exact hh
        · rw [decide_eq_false hlt]
          exact ⟨hq, by have := hh.2; dsimp only [cond_false]; omega⟩
      · rw [hq, inf_gt hh.1]
        exact hh
theorem at_nb {n : Int} {h r A H lo hi I v : Nat} {k : Int} (g : GovOk n h r A H lo hi I) (hv : Nb 1149239296 v) (h0 : 0 ≤ k) (h1 : k ≤ 16) : Nb 1196000000 (spec_l03At n h r A H lo hi I v k) := by
  obtain ⟨gn, g1, g2, g3, g4, g5, g6⟩ := g
  have e : spec_l03At n h r A H lo hi I v k = spec_l03Torque n h r (spec_l03Flow A H k) v := by
    simp only [spec_l03At, spec_l03At.t, T.val, flow_ok, cond_true]
  have e2 : spec_l03Torque n h r (spec_l03Flow A H k) v = fmul .f32 (fmul .f32 (fmul .f32 (fmul .f32 (spec_l03Fill n h r (spec_l03Flow A H k) v) 1092419584) (fofint .f32 (IntKind.wrap .i16 (Int.tdiv n (2 : Int))))) r) 1059061760 := rfl
  rw [e, e2]
  have f1 := fill_nb (r := r) gn (lenOk_nb g1).1 (flow_nb (lenOk_nb g3).1 g4 h0 h1) hv
  have c1 : Nb 1092419584 1092419584 := ⟨.inl (by omega), by rw [(nb_self (K := 1092419584) (by decide)).2]; omega⟩
  have c2 : Nb 1059061760 1059061760 := ⟨.inl (by omega), by rw [(nb_self (K := 1059061760) (by decide)).2]; omega⟩
  have hd : Nb 1111752704 (fofint .f32 (IntKind.wrap .i16 (Int.tdiv n (2 : Int)))) := by
    obtain ⟨q, rfl⟩ : ∃ q : Nat, n = (q : Int) := ⟨n.toNat, by omega⟩
    have : IntKind.wrap .i16 (Int.tdiv (q : Int) 2) = ((q / 2 : Nat) : Int) := by
      rw [show (2 : Int) = ((2 : Nat) : Int) from rfl, ← Int.ofNat_tdiv, wrap_i16]
      omega
    rw [this]
    exact int_nb (by omega)
  have a1 : Nb 1120000000 (fmul .f32 (spec_l03Fill n h r (spec_l03Flow A H k) v) 1092419584) := nb_mul f1 c1 (by omega) (by omega) (by kernel_rfl) (by omega)
  have a2 : Nb 1170000000 (fmul .f32 (fmul .f32 (spec_l03Fill n h r (spec_l03Flow A H k) v) 1092419584) (fofint .f32 (IntKind.wrap .i16 (Int.tdiv n (2 : Int))))) := nb_mul a1 hd (by omega) (by omega) (by kernel_rfl) (by omega)
  have a3 : Nb 1196000000 (fmul .f32 (fmul .f32 (fmul .f32 (spec_l03Fill n h r (spec_l03Flow A H k) v) 1092419584) (fofint .f32 (IntKind.wrap .i16 (Int.tdiv n (2 : Int))))) r) := nb_mul a2 (lenOk_nb g2).1 (by omega) (by omega) (by kernel_rfl) (by omega)
  exact nb_mul a3 c2 (by omega) (by omega) (by kernel_rfl) (by omega)
theorem gate_range {n : Int} {h r A H lo hi I v : Nat} {k : Int} (h0 : 0 ≤ k) (h1 : k ≤ 16) :
    0 ≤ spec_l03Gate n h r A H lo hi I v k ∧ spec_l03Gate n h r A H lo hi I v k ≤ 16 ∧ k - 1 ≤ spec_l03Gate n h r A H lo hi I v k ∧ spec_l03Gate n h r A H lo hi I v k ≤ k + 1 ∧
    (fgt .f32 v hi = true → spec_l03Gate n h r A H lo hi I v k ≤ k) ∧ (fgt .f32 v hi = false → flt .f32 v lo = true → k ≤ spec_l03Gate n h r A H lo hi I v k) ∧ (fgt .f32 v hi = false → flt .f32 v lo = false → spec_l03Gate n h r A H lo hi I v k = k) := by
  have w0 : IntKind.wrap .i64 k = k := wrap64 (by omega) (by omega)
  have w1 : IntKind.wrap .i64 (k - 1) = k - 1 := wrap64 (by omega) (by omega)
  have w2 : IntKind.wrap .i64 (k + 1) = k + 1 := wrap64 (by omega) (by omega)
  simp only [spec_l03Gate, spec_l03Gate.t, spec_l00Max, spec_l00Max.t, spec_l00Min, spec_l00Min.t, T.val, w0, w1, w2]
  cases fgt .f32 v hi with
  | true =>
    by_cases hd : (0 : Int) > k - 1
    · rw [decide_eq_true hd]
      simp
      omega
    · rw [decide_eq_false hd]
      simp
      omega
  | false =>
    cases flt .f32 v lo with
    | true =>
      by_cases hd : (16 : Int) < k + 1
      · rw [decide_eq_true hd]
        simp
        omega
      · rw [decide_eq_false hd]
        simp
        omega
    | false =>
      simp
      omega
theorem tick_sok {n : Int} {h r A H lo hi I v load : Nat} {k : Int} (hs : Sok v k) :
    Sok (spec_l03Tick n h r A H lo hi I v k load).1 (spec_l03Tick n h r A H lo hi I v k load).2 ∧ (spec_l03Tick n h r A H lo hi I v k load).2 = spec_l03Gate n h r A H lo hi I v k := by
  obtain ⟨g0, g1, _⟩ := gate_range (n := n) (h := h) (r := r) (A := A) (H := H) (lo := lo) (hi := hi) (I := I) (v := v) hs.2.1 hs.2.2
  have lp : ∀ v, spec_l03Least v = bif fgt .f32 v 0 then v else 0 := fun v => by simp only [spec_l03Least, spec_l03Least.t, T.val]
  have n1 := nb_self (K := 1149239296) (by decide)
  simp only [spec_l03Tick, spec_l03Tick.t, T.val, at_ok, cond_true, wrap8 g0 g1]
  have hh : flHas .f32 (fadd .f32 v (fdiv .f32 (fsub .f32 (spec_l03At n h r A H lo hi I v (spec_l03Gate n h r A H lo hi I v k)) load) I)) := fadd_has .f32 _ _
  generalize fadd .f32 v (fdiv .f32 (fsub .f32 (spec_l03At n h r A H lo hi I v (spec_l03Gate n h r A H lo hi I v k)) load) I) = X at hh
  cases hx : fgt .f32 X 1149239296 with
  | true =>
    have : spec_l03Least 1149239296 = 1149239296 := by kernel_rfl
    refine ⟨⟨?_, g0, g1⟩, rfl⟩
    show Nb 1149239296 (spec_l03Least 1149239296)
    rw [this]
    exact ⟨n1.1, by rw [n1.2]; omega⟩
  | false =>
    refine ⟨⟨?_, g0, g1⟩, rfl⟩
    show Nb 1149239296 (spec_l03Least X)
    rw [lp]
    cases hy : fgt .f32 X 0 with
    | true => exact pos_nn hh hy hx
    | false => exact ⟨nn_0.1, by show rg 0 ≤ _; rw [nn_0.2]; omega⟩
/-! Ticks one behind the other. -/
section
variable (n : Int) (h r A H lo hi I v0 : Nat) (k0 : Int) (q : Nat → Nat)
noncomputable def St : Nat → Nat × Int
  | 0 => (v0, k0)
  | i + 1 => spec_l03Tick n h r A H lo hi I (St i).1 (St i).2 (q i)
noncomputable def Rw (i : Nat) : List (List Sc) := (List.range i).map (fun j => [Sc.n (St n h r A H lo hi I v0 k0 q (j + 1)).1, Sc.i (St n h r A H lo hi I v0 k0 q (j + 1)).2])
theorem Rw_succ (i : Nat) : Rw n h r A H lo hi I v0 k0 q (i + 1) = Rw n h r A H lo hi I v0 k0 q i ++ [[Sc.n (St n h r A H lo hi I v0 k0 q (i + 1)).1, Sc.i (St n h r A H lo hi I v0 k0 q (i + 1)).2]] := by
  unfold Rw
  rw [List.range_succ, List.map_append]
  rfl
theorem Rw_len (i : Nat) : (Rw n h r A H lo hi I v0 k0 q i).length = i := by
  unfold Rw
  rw [List.length_map, List.length_range]
theorem Rw_get {i m : Nat} (hi' : i < m) : (Rw n h r A H lo hi I v0 k0 q m).getD i [] = [Sc.n (St n h r A H lo hi I v0 k0 q (i + 1)).1, Sc.i (St n h r A H lo hi I v0 k0 q (i + 1)).2] := by
  unfold Rw
  simp [List.getD, hi']
theorem St_sok (hs : Sok v0 k0) : ∀ i, Sok (St n h r A H lo hi I v0 k0 q i).1 (St n h r A H lo hi I v0 k0 q i).2
  | 0 => hs
  | i + 1 => (tick_sok (St_sok hs i)).1
end
theorem gov_flh {n : Int} {h r A H lo hi I : Nat} (g : GovOk n h r A H lo hi I) : flHas .f32 h := by
  have := g.2.1
  simp only [lenOk, Bool.and_eq_true, decide_eq_true_eq] at this
  show h < 4294967296
  omega
theorem ticksS_r (n : Int) (h r A H lo hi I v0 : Nat) (k0 : Int) (xs : List Nat) (hn : xs.length ≤ 100) : spec_TickAll.l13.r (xs.length, xs, n, h, r, A, H, lo, hi, I) (0, (0 : Int), v0, k0, []) = some (xs.length, Rw n h r A H lo hi I v0 k0 (fun i => xs.getD i 0) xs.length) := by
  refine iter_run (step := spec_TickAll.l13.st (xs.length, xs, n, h, r, A, H, lo, hi, I)) (f := fun i => (i, (i : Int), (St n h r A H lo hi I v0 k0 (fun i => xs.getD i 0) i).1, (St n h r A H lo hi I v0 k0 (fun i => xs.getD i 0) i).2, Rw n h r A H lo hi I v0 k0 (fun i => xs.getD i 0) i)) (n := xs.length) (N := manyRounds) (k := 0) (many_lt (by omega)) (fun i hi' => ?_) ?_
  · simp only [Nat.zero_add]
    rw [Rw_succ]
    have hr := Rw_len n h r A H lo hi I v0 k0 (fun i => xs.getD i 0) i
    have e1 : spec_l03Tick n h r A H lo hi I (St n h r A H lo hi I v0 k0 (fun i => xs.getD i 0) i).1 (St n h r A H lo hi I v0 k0 (fun i => xs.getD i 0) i).2 (xs.getD i 0) = St n h r A H lo hi I v0 k0 (fun i => xs.getD i 0) (i + 1) := rfl
    simp only [spec_TickAll.l13.st, spec_TickAll.l13.s, T.get, bounds_nat, ble_decide, Int.toNat_natCast, Nat.mul_one, tick_ok, e1]
    generalize St n h r A H lo hi I v0 k0 (fun i => xs.getD i 0) (i + 1) = q
    generalize Rw n h r A H lo hi I v0 k0 (fun i => xs.getD i 0) i = rows at hr
    have hcond : (Nat.beq 2 (List.length [[Sc.n q.1, Sc.i q.2]] * 2) && (Nat.beq (rows.length * 2) (i * 2) && decide ((i + 1) * 8 ≤ 35184372088832) && decide (i + 1 ≤ 35184372088832))) = true := by
      rw [hr, Nat.beq_refl, decide_eq_true (by omega), decide_eq_true (by omega)]
      rfl
    simp only [hcond]
    rw [decide_eq_true (by omega : (i : Int) < (xs.length : Int)), decide_eq_true hi', decide_eq_true (by omega : i + 1 ≤ xs.length), wrap64_succ (by omega)]
    rfl
  · simp only [Nat.zero_add, spec_TickAll.l13.st, spec_TickAll.l13.s, T.get]
    rw [decide_eq_false (by omega)]
    rfl
section
variable {n : Int} {h r A H lo hi I v0 : Nat} {k0 : Int} (g : GovOk n h r A H lo hi I) (hs : Sok v0 k0)
include g hs
theorem ticks_s {xs : List Nat} (ha : allAm xs = true) (hn : xs.length ≤ 100) : (spec_TickAll.t n h r A H lo hi I v0 k0 xs.length xs).get = some (xs.length, 0, Rw n h r A H lo hi I v0 k0 (fun i => xs.getD i 0) xs.length) := by
  simp only [spec_TickAll.t, T.get, both_eq, gov_ok g, sok_state hs, first_loads xs n h r A H lo hi I v0 k0 (by omega), ha, ticksS_r n h r A H lo hi I v0 k0 xs hn]
  rw [decide_eq_false (by omega)]
  rfl
theorem ticks_i {xs : List Nat} (ha : allAm xs = true) (hn : xs.length ≤ 100) : (impl_TickAll.t n h r A H lo hi I v0 k0 xs.length xs).get = some (.inr (xs.length, 0, Rw n h r A H lo hi I v0 k0 (fun i => xs.getD i 0) xs.length)) := by
  have h1 := ticks_s g hs ha hn
  rcases ticks_t xs n h r A H lo hi I v0 k0 (gov_flh g) (by omega) with ⟨c, hc, h2, _⟩ | ⟨m, rows, _, _, h2, h3⟩
  · have := Option.some.inj (h1.symm.trans h2)
    simp only [Prod.mk.injEq] at this
    exact absurd this.2.1.symm hc
  · have := Option.some.inj (h1.symm.trans h2)
    simp only [Prod.mk.injEq] at this
    obtain ⟨rfl, _, rfl⟩ := this
    exact h3
theorem behind_v : (impl_GateBehind.t n h r A H lo hi I v0 k0).get = some (spec_l03Gate n h r A H lo hi I v0 k0, 0) := by
  have hb : spec_l03Both n h r A H lo hi I v0 k0 = 0 := by rw [both_eq, gov_ok g, sok_state hs]; rfl
  simp only [impl_GateBehind.t, T.get, gate_eq, show impl_governorCode_w1.ok n h r A H lo hi I v0 k0 = true from T.ok_of_get (code0_t n h r A H lo hi I v0 k0), show impl_governorCode_w1 n h r A H lo hi I v0 k0 = _ from T.val_of_get (code0_t n h r A H lo hi I v0 k0), hb]
  rfl
theorem once_v {l : Nat} (hl : spec_l03Amount l = true) : (impl_TickOnce.t n h r A H lo hi I v0 k0 l).get = some ((spec_l03Tick n h r A H lo hi I v0 k0 l).1, (spec_l03Tick n h r A H lo hi I v0 k0 l).2, 0) := by
  have e1 := code_ok n h r A H lo hi I v0 k0 [l] (by simp)
  have e2 := code_val n h r A H lo hi I v0 k0 [l] (by simp)
  have ha : allAm [l] = true := allAm_of (fun i hi => by
    have : i = 0 := by simpa using hi
    subst this
    exact hl)
  simp only [List.length_cons, List.length_nil, Nat.zero_add, ha, gov_ok g, sok_state hs] at e1 e2
  simp only [impl_TickOnce.t, T.get, e1, e2, ticki_ok, tick_eq _ _ _ n h r A H lo hi I (gov_flh g) (gok_mill (gov_ok g))]
  rfl
theorem at_v : (spec_TorqueAt.t n h r A H lo hi I v0 k0).get = some (spec_l03At n h r A H lo hi I v0 k0, 0) ∧ (impl_TorqueAt.t n h r A H lo hi I v0 k0).get = some (spec_l03At n h r A H lo hi I v0 k0, 0) := by
  have hb : spec_l03Both n h r A H lo hi I v0 k0 = 0 := by rw [both_eq, gov_ok g, sok_state hs]; rfl
  simp only [spec_TorqueAt.t, impl_TorqueAt.t, T.get, at_ok, tat_ok, show impl_governorCode_w1.ok n h r A H lo hi I v0 k0 = true from T.ok_of_get (code0_t n h r A H lo hi I v0 k0), show impl_governorCode_w1 n h r A H lo hi I v0 k0 = _ from T.val_of_get (code0_t n h r A H lo hi I v0 k0), hb, tat_eq _ _ n h r A H lo hi I (gov_flh g) (gok_mill (gov_ok g)), wrap64 (show (-9223372036854775808 : Int) ≤ k0 by have := hs.2.1; omega) (show k0 < 9223372036854775808 by have := hs.2.2; omega), bne_self_eq_false, cond_true, cond_false, and_self]
end
theorem same1 (x : Nat) : (spec_l01Same.t x x).get = some true := by
  simp only [spec_l01Same.t, T.get, fne_self, Int.toNat_natCast]
  cases isNaN .f32 x
  · simp
  · rfl
theorem num_t (x : Nat) : (spec_SameNumber.t x x).get = some true := by
  simp only [spec_SameNumber.t, T.get, show spec_l01Same.ok x x = true from T.ok_of_get (same1 x), show spec_l01Same x x = _ from T.val_of_get (same1 x)]
  rfl
theorem sstate_refl (v : Nat) (k : Int) : spec_SameState v k v k = true := by
  simp only [spec_SameState, spec_SameState.t, T.val, same_ok, show spec_l01Same v v = true from T.val_of_get (same1 v)]
  simp
theorem states_same (rows : List (List Sc)) (hl : rows.length < 1000000) : (spec_SameStates_w1.t rows.length rows.length rows rows).get = some true := by
  have hr : spec_SameStates_w1.l4.r (rows.length, rows.length, rows, rows) (0 : Int) = some (.inr ()) := by
    refine iter_run (step := spec_SameStates_w1.l4.st (rows.length, rows.length, rows, rows)) (f := fun i => (i : Int)) (n := rows.length) (N := manyRounds) (k := 0) (many_lt (by omega)) (fun i hi => ?_) ?_
    · simp only [Nat.zero_add, spec_SameStates_w1.l4.st, spec_SameStates_w1.l4.s, T.get, bounds_nat, ble_decide, Int.toNat_natCast, sstate_ok, sstate_refl]
      rw [decide_eq_true (by omega : (i : Int) < (rows.length : Int)), decide_eq_true hi, decide_eq_true (by omega : i + 1 ≤ rows.length), wrap64_succ (by omega)]
      rfl
    · simp only [Nat.zero_add, spec_SameStates_w1.l4.st, spec_SameStates_w1.l4.s, T.get]
      rw [decide_eq_false (by omega)]
      rfl
  simp only [spec_SameStates_w1.t, T.get, hr]
  simp
theorem range_nn {lo hi : Nat} (h : rangeOk lo hi = true) : Nn lo ∧ Nn hi ∧ rg lo < rg hi := by
  simp only [rangeOk, Bool.and_eq_true, decide_eq_true_eq] at h
  have a : Nn lo := .inl h.1.1
  have b : Nn hi := .inl h.1.2
  refine ⟨a, b, ?_⟩
  have := h.2.2
  rw [flt_nn a b] at this
  exact of_decide_eq_true this
theorem walk_r (k1 : Nat) (u1 u2 : List Int) {n : Int} {h r A H lo hi I v0 : Nat} {k0 : Int} (g : GovOk n h r A H lo hi I) (hs : Sok v0 k0) {xs : List Nat} (ha : ∀ i, i < xs.length → spec_l03Amount (xs.getD i 0) = true) (hn : xs.length ≤ 100) :
    laws_FnGoverned.l12.r (k1, xs.length, xs.length, u1, u2, n, h, r, A, H, lo, hi, I, v0, k0, xs, Rw n h r A H lo hi I v0 k0 (fun i => xs.getD i 0) xs.length) ((0 : Int), v0, k0) = some (.inr ()) := by
  refine iter_run (step := laws_FnGoverned.l12.st (k1, xs.length, xs.length, u1, u2, n, h, r, A, H, lo, hi, I, v0, k0, xs, Rw n h r A H lo hi I v0 k0 (fun i => xs.getD i 0) xs.length)) (f := fun i => ((i : Int), (St n h r A H lo hi I v0 k0 (fun i => xs.getD i 0) i).1, (St n h r A H lo hi I v0 k0 (fun i => xs.getD i 0) i).2)) (n := xs.length) (N := manyRounds) (k := 0) (many_lt (by omega)) (fun i hi' => ?_) ?_
  · simp only [Nat.zero_add]
    have hS := St_sok n h r A H lo hi I v0 k0 (fun i => xs.getD i 0) hs i
    have hG := Rw_get n h r A H lo hi I v0 k0 (fun i => xs.getD i 0) hi'
    have hL := Rw_len n h r A H lo hi I v0 k0 (fun i => xs.getD i 0) xs.length
    have e1 : St n h r A H lo hi I v0 k0 (fun i => xs.getD i 0) (i + 1) = spec_l03Tick n h r A H lo hi I (St n h r A H lo hi I v0 k0 (fun i => xs.getD i 0) i).1 (St n h r A H lo hi I v0 k0 (fun i => xs.getD i 0) i).2 (xs.getD i 0) := rfl
    rw [e1] at hG
    simp only [e1]
    generalize hq : Rw n h r A H lo hi I v0 k0 (fun i => xs.getD i 0) xs.length = rows at *
    generalize St n h r A H lo hi I v0 k0 (fun i => xs.getD i 0) i = s at *
    obtain ⟨v, k⟩ := s
    dsimp only at *
    have b1 := behind_v g hS
    have o1 := once_v g hS (ha i hi')
    obtain ⟨t1, t2⟩ := tick_sok (n := n) (h := h) (r := r) (A := A) (H := H) (lo := lo) (hi := hi) (I := I) (load := xs.getD i 0) hS
    obtain ⟨r1, r2, r3, r4, r5, r6, r7⟩ := gate_range (n := n) (h := h) (r := r) (A := A) (H := H) (lo := lo) (hi := hi) (I := I) (v := v) hS.2.1 hS.2.2
    rw [← t2] at r1 r2 r3 r4 r5 r6 r7 b1
    obtain ⟨z1, z2, z3⟩ := range_nn g.2.2.2.2.2.1
    have vs := vstate_eq (spec_l03Tick n h r A H lo hi I v k (xs.getD i 0)).1 (spec_l03Tick n h r A H lo hi I v k (xs.getD i 0)).2
    rw [sok_state t1] at vs
    generalize spec_l03Tick n h r A H lo hi I v k (xs.getD i 0) = s' at *
    obtain ⟨v', k'⟩ := s'
    dsimp only at *
    have hk := hS.2
    have w1 : IntKind.wrap .i64 k = k := wrap64 (by omega) (by omega)
    have w2 : IntKind.wrap .i64 k' = k' := wrap64 (by omega) (by omega)
    have w3 : IntKind.wrap .i64 (k - 1) = k - 1 := wrap64 (by omega) (by omega)
    have w4 : IntKind.wrap .i64 (k + 1) = k + 1 := wrap64 (by omega) (by omega)
    simp only [laws_FnGoverned.l12.st, laws_FnGoverned.l12.s, T.get, T.get_join, bounds_nat, ble_decide, Int.toNat_natCast, Nat.mul_one, show impl_GateBehind.ok n h r A H lo hi I v k = true from T.ok_of_get (b1), show impl_GateBehind n h r A H lo hi I v k = _ from T.val_of_get (b1), show impl_TickOnce.ok n h r A H lo hi I v k (xs.getD i 0) = true from T.ok_of_get (o1), show impl_TickOnce n h r A H lo hi I v k (xs.getD i 0) = _ from T.val_of_get (o1), hG, hL, List.getD_cons_zero, List.getD_cons_succ, Sc.nat, Sc.int, sstate_ok, istate_ok, sstate_eq, sstate_refl, vs, w1, w2, w3, w4, bne_self_eq_false, decide_eq_false (by omega : ¬ k' < k - 1), decide_eq_false (by omega : ¬ k' > k + 1)]
    rw [decide_eq_true (by omega : (i : Int) < (xs.length : Int)), decide_eq_true hi', decide_eq_true (by omega : i + 1 ≤ xs.length), wrap64_succ (by omega)]
    have f1 : fgt .f32 v hi = decide (rg hi < rg v) := fgt_nn hS.1.1 z2
    have f2 : flt .f32 v lo = decide (rg v < rg lo) := flt_nn hS.1.1 z1
    have f3 : fge .f32 v lo = decide (rg lo ≤ rg v) := by rw [fge_flip, fle_nn z1 hS.1.1]
    have f4 : fle .f32 v hi = decide (rg v ≤ rg hi) := fle_nn hS.1.1 z2
    rw [f1] at r5 r6 r7
    rw [f2] at r6 r7
    simp only [f1, f2, f3, f4]
    by_cases c1 : rg hi < rg v
    · have := r5 (decide_eq_true c1)
      rw [decide_eq_true c1, decide_eq_false (by omega : ¬ rg v < rg lo), decide_eq_true (by omega : rg lo ≤ rg v), decide_eq_false (by omega : ¬ rg v ≤ rg hi), decide_eq_false (by omega : ¬ k' > k)]
      rfl
    · by_cases c2 : rg v < rg lo
      · have := r6 (decide_eq_false c1) (decide_eq_true c2)
        rw [decide_eq_false c1, decide_eq_true c2, decide_eq_false (by omega : ¬ rg lo ≤ rg v), decide_eq_false (by omega : ¬ k' < k)]
        rfl
      · have := r7 (decide_eq_false c1) (decide_eq_false c2)
        subst this
        rw [decide_eq_false c1, decide_eq_false c2, decide_eq_true (by omega : rg lo ≤ rg v), decide_eq_true (by omega : rg v ≤ rg hi), bne_self_eq_false]
        rfl
  · simp only [Nat.zero_add, laws_FnGoverned.l12.st, laws_FnGoverned.l12.s, T.get]
    rw [decide_eq_false (by omega)]
    rfl
/-! From which tick on the speed is as it should be. -/
section
variable (n : Int) (h r A H lo hi I v0 : Nat) (k0 : Int) (q : Nat → Nat)
noncomputable def inn (i : Nat) : Bool := fge .f32 (St n h r A H lo hi I v0 k0 q (i + 1)).1 lo && fle .f32 (St n h r A H lo hi I v0 k0 q (i + 1)).1 hi
noncomputable def back : Nat → Nat
  | 0 => 0
  | i + 1 => bif inn n h r A H lo hi I v0 k0 q i then back i else i + 1
theorem back_le : ∀ i, back n h r A H lo hi I v0 k0 q i ≤ i
  | 0 => Nat.le_refl _
  | i + 1 => by
    have := back_le i
    rw [back]
    cases inn n h r A H lo hi I v0 k0 q i
    · exact Nat.le_refl _
    · exact Nat.le_succ_of_le this
theorem back_in : ∀ m i, back n h r A H lo hi I v0 k0 q m ≤ i → i < m → inn n h r A H lo hi I v0 k0 q i = true
  | 0, i, _, h2 => by omega
  | m + 1, i, h1, h2 => by
    rw [back] at h1
    cases hc : inn n h r A H lo hi I v0 k0 q m with
    | false =>
      rw [hc] at h1
      dsimp only [cond_false] at h1
      omega
    | true =>
      rw [hc] at h1
      rcases Nat.lt_or_ge i m with h3 | h3
      · exact back_in m i h1 h3
      · have : i = m := by omega
        subst this
        exact hc
theorem back_out : ∀ m j, back n h r A H lo hi I v0 k0 q m = j + 1 → inn n h r A H lo hi I v0 k0 q j = false
  | 0, j, h1 => by
    rw [back] at h1
    omega
  | m + 1, j, h1 => by
    rw [back] at h1
    cases hc : inn n h r A H lo hi I v0 k0 q m with
    | false =>
      rw [hc] at h1
      have : m = j := by simpa using h1
      subst this
      exact hc
    | true =>
      rw [hc] at h1
      exact back_out m j h1
end
theorem back_r (n : Int) (h r A H lo hi I v0 : Nat) (k0 : Int) (xs : List Nat) (N : Nat) (hn : N ≤ 100) (q : Nat → Nat) : ∀ m M, m ≤ N → m < M → iterT (spec_WithinFrom.l5.st (N, xs, n, h, r, A, H, lo, hi, I, Rw n h r A H lo hi I v0 k0 q N)) M (m : Int) = some (back n h r A H lo hi I v0 k0 q m : Int)
  | m, 0, _, h2 => by omega
  | 0, M + 1, _, _ => by
    rw [iterT_succ]
    rfl
  | m + 1, M + 1, h1, h2 => by
    have e1 : IntKind.wrap .i64 (((m + 1 : Nat) : Int) - 1) = (m : Int) := wrap64_of (by omega) (by omega)
    have hG := Rw_get n h r A H lo hi I v0 k0 q (show m < N by omega)
    have hL := Rw_len n h r A H lo hi I v0 k0 q N
    have ih := back_r n h r A H lo hi I v0 k0 xs N hn q m M (by omega) (by omega)
    rw [iterT_succ, back]
    unfold inn
    generalize Rw n h r A H lo hi I v0 k0 q N = rows at *
    simp only [spec_WithinFrom.l5.st, spec_WithinFrom.l5.s, T.get, bounds_nat, ble_decide, Int.toNat_natCast, e1, hG, hL, List.getD_cons_zero, Sc.nat] at ih ⊢
    rw [decide_eq_true (by omega : ((m + 1 : Nat) : Int) > 0), decide_eq_true (by omega : m < N), decide_eq_true (by omega : m + 1 ≤ N)]
    cases fge .f32 (St n h r A H lo hi I v0 k0 q (m + 1)).1 lo with
    | false => rfl
    | true =>
      cases fle .f32 (St n h r A H lo hi I v0 k0 q (m + 1)).1 hi with
      | false => rfl
      | true => exact ih
namespace WF
theorem back_s (rows : List (List Sc)) (xs : List Nat) (x0 : Int) (x1 x2 x3 x4 x5 x6 x7 : Nat) (h : rows.length ≤ 100) :
    ∃ e, spec_WithinFrom.l5.r (rows.length, xs, x0, x1, x2, x3, x4, x5, x6, x7, rows) (rows.length : Int) = some e ∧ impl_WithinFrom.l5v1.r (rows.length, xs, x0, x1, x2, x3, x4, x5, x6, x7, rows) (rows.length : Int) = some e := by
  obtain ⟨e, e', h1, h2, rfl⟩ := iter_two (step := spec_WithinFrom.l5.st (rows.length, xs, x0, x1, x2, x3, x4, x5, x6, x7, rows)) (step' := impl_WithinFrom.l5v1.st (rows.length, xs, x0, x1, x2, x3, x4, x5, x6, x7, rows)) (R := fun s t => s = t ∧ ∃ i : Nat, i ≤ rows.length ∧ s = (i : Int)) (E := fun e e' => e = e') (fun s => s.toNat) (by
    rintro _ _ ⟨rfl, i, hi, rfl⟩
    simp only [spec_WithinFrom.l5.st, spec_WithinFrom.l5.s, impl_WithinFrom.l5v1.st, impl_WithinFrom.l5v1.s, T.get, impl_between, impl_between.t, T.val, fge_flip]
    cases i with
    | zero => exact .inr ⟨_, _, rfl, rfl, rfl⟩
    | succ i =>
      have e1 : IntKind.wrap .i64 (((i + 1 : Nat) : Int) - 1) = (i : Int) := wrap64_of (by omega) (by omega)
      rw [decide_eq_true (by omega : ((i + 1 : Nat) : Int) > 0), e1]
      simp only [bounds_nat, ble_decide, Int.toNat_natCast]
      rw [decide_eq_true (by omega : i < rows.length), decide_eq_true (by omega : i + 1 ≤ rows.length)]
      generalize fle .f32 x5 (Sc.nat (List.getD (List.getD rows i []) 0 (.n 0))) = p
      generalize fle .f32 (Sc.nat (List.getD (List.getD rows i []) 0 (.n 0))) x6 = q
      cases p with
      | false => exact .inr ⟨_, _, rfl, rfl, rfl⟩
      | true =>
        cases q with
        | false => exact .inr ⟨_, _, rfl, rfl, rfl⟩
        | true => exact .inl ⟨_, _, rfl, rfl, ⟨rfl, i, by omega, rfl⟩, by omega⟩) manyRounds (rows.length : Int) (rows.length : Int) ⟨rfl, rows.length, Nat.le_refl _, rfl⟩ (many_lt (by omega))
  exact ⟨e, h1, h2⟩
theorem from_t (xs : List Nat) (x0 : Int) (x1 x2 x3 x4 x5 x6 x7 x8 : Nat) (x9 : Int) (hx : flHas .f32 x1) (h : xs.length < 1099511627776) : ∃ r, (spec_WithinFrom.t x0 x1 x2 x3 x4 x5 x6 x7 x8 x9 xs.length xs).get = some r ∧ (impl_WithinFrom.t x0 x1 x2 x3 x4 x5 x6 x7 x8 x9 xs.length xs).get = some r := by
  rcases ticks_t xs x0 x1 x2 x3 x4 x5 x6 x7 x8 x9 hx h with ⟨c, hc, h1, h2⟩ | ⟨n, rows, hn, hn2, h1, h2⟩
  · have hc' : (c != 0) = true := by simpa using hc
    simp only [spec_WithinFrom.t, impl_WithinFrom.t, T.get, show spec_TickAll.ok x0 x1 x2 x3 x4 x5 x6 x7 x8 x9 xs.length xs = true from T.ok_of_get (h1), show spec_TickAll x0 x1 x2 x3 x4 x5 x6 x7 x8 x9 xs.length xs = _ from T.val_of_get (h1), show impl_TickAll.ok x0 x1 x2 x3 x4 x5 x6 x7 x8 x9 xs.length xs = true from T.ok_of_get (h2), show impl_TickAll x0 x1 x2 x3 x4 x5 x6 x7 x8 x9 xs.length xs = _ from T.val_of_get (h2), getLeftD, Sum.isLeft, hc', cond_true]
    exact ⟨_, rfl, rfl⟩
  · subst hn
    obtain ⟨e, h3, h4⟩ := back_s rows xs x0 x1 x2 x3 x4 x5 x6 x7 hn2
    simp only [spec_WithinFrom.t, impl_WithinFrom.t, T.get, show spec_TickAll.ok x0 x1 x2 x3 x4 x5 x6 x7 x8 x9 xs.length xs = true from T.ok_of_get (h1), show spec_TickAll x0 x1 x2 x3 x4 x5 x6 x7 x8 x9 xs.length xs = _ from T.val_of_get (h1), show impl_TickAll.ok x0 x1 x2 x3 x4 x5 x6 x7 x8 x9 xs.length xs = true from T.ok_of_get (h2), show impl_TickAll x0 x1 x2 x3 x4 x5 x6 x7 x8 x9 xs.length xs = _ from T.val_of_get (h2), getRightD, Sum.isLeft, h3, h4, Option.isSome_some, Option.getD_some]
    cases e == (rows.length : Int) <;> exact ⟨_, rfl, rfl⟩
end WF

namespace SF
theorem all1 (x : Nat) : allAm [x] = spec_l03Amount x := by
  unfold allAm
  simp [anyAt]
theorem loop_r (x0 : Int) (x1 x2 x3 x4 x5 x6 x7 x8 : Nat) (x9 : Int) (x10 : Nat) (hx : flHas .f32 x1) (hm : spec_l03Mill x0 x1 x2 = true) : ∃ e, spec_SteadyFrom.l7.r (x10, x0, x1, x2, x3, x4, x5, x6, x7, 0, 0) (0, x8, x9) = some e ∧ impl_SteadyFrom.l5.r (x10, x0, x1, x2, x3, x4, x5, x6, x7, 0, 0) (0, x8, x9) = some e := by
  obtain ⟨e, e', h1, h2, rfl⟩ := iter_two (step := spec_SteadyFrom.l7.st (x10, x0, x1, x2, x3, x4, x5, x6, x7, 0, 0)) (step' := impl_SteadyFrom.l5.st (x10, x0, x1, x2, x3, x4, x5, x6, x7, 0, 0)) (R := fun s t => s = t ∧ ∃ i : Nat, i ≤ 100 ∧ s.1 = (i : Int)) (E := fun e e' => e = e') (fun s => 100 - s.1.toNat) (by
    rintro ⟨c, a, b⟩ _ ⟨rfl, i, hi, hc⟩
    dsimp only at hc
    subst hc
    simp only [spec_SteadyFrom.l7.st, spec_SteadyFrom.l7.s, impl_SteadyFrom.l5.st, impl_SteadyFrom.l5.s, T.get, tick_ok, ticki_ok, tick_eq _ _ _ x0 x1 x2 x3 x4 x5 x6 x7 hx hm, sstate_ok, istate_ok, sstate_eq]
    by_cases hlt : i < 100
    · rw [decide_eq_true (by omega : (i : Int) < 100), wrap64_succ (by omega)]
      simp only [cond_true]
      generalize spec_l03Tick x0 x1 x2 x3 x4 x5 x6 x7 a b x10 = q
      cases spec_SameState q.1 q.2 a b with
      | true => exact .inr ⟨_, _, rfl, rfl, rfl⟩
      | false => exact .inl ⟨_, _, rfl, rfl, ⟨rfl, i + 1, by omega, rfl⟩, by dsimp only; omega⟩
    · rw [decide_eq_false (by omega : ¬ (i : Int) < 100)]
      exact .inr ⟨_, _, rfl, rfl, rfl⟩) manyRounds (0, x8, x9) (0, x8, x9) ⟨rfl, 0, by omega, rfl⟩ (many_lt (by simp))
  exact ⟨e, h1, h2⟩
theorem from_t (x0 : Int) (x1 x2 x3 x4 x5 x6 x7 x8 : Nat) (x9 : Int) (x10 : Nat) (hx : flHas .f32 x1) : ∃ r, (spec_SteadyFrom.t x0 x1 x2 x3 x4 x5 x6 x7 x8 x9 x10).get = some r ∧ (impl_SteadyFrom.t x0 x1 x2 x3 x4 x5 x6 x7 x8 x9 x10).get = some r := by
  have e1 := code_ok x0 x1 x2 x3 x4 x5 x6 x7 x8 x9 [x10] (by simp)
  have e2 := code_val x0 x1 x2 x3 x4 x5 x6 x7 x8 x9 [x10] (by simp)
  simp only [List.length_cons, List.length_nil, Nat.zero_add, all1] at e1 e2
  simp only [spec_SteadyFrom.t, impl_SteadyFrom.t, T.get, both_eq, e1, e2]
  cases hg : spec_l03Ok x0 x1 x2 x3 x4 x5 x6 x7 with
  | false => cases spec_l03Amount x10 <;> exact ⟨_, rfl, rfl⟩
  | true =>
    obtain ⟨e, h1, h2⟩ := loop_r x0 x1 x2 x3 x4 x5 x6 x7 x8 x9 x10 hx (gok_mill hg)
    rw [h1, h2]
    simp only [Option.isSome_some, Option.getD_some]
    cases spec_l03State x8 x9 <;> cases spec_l03Amount x10 <;> cases Sum.isLeft e <;> exact ⟨_, rfl, rfl⟩
end SF

namespace BG
theorem loop_r (x0 : Int) (x1 x2 x3 x4 x5 x6 x7 x8 x9 : Nat) (hx : flHas .f32 x1) (hm : spec_l03Mill x0 x1 x2 = true) : ∃ e, spec_BestGate.l6.r (x8, x9, x0, x1, x2, x3, x4, x5, x6, x7) (0, 1) = some e ∧ impl_BestGate.l6.r (x8, x9, x0, x1, x2, x3, x4, x5, x6, x7) (0, spec_l01Size (fsub .f32 (spec_l03At x0 x1 x2 x3 x4 x5 x6 x7 x8 0) x9), 1) = some e := by
  obtain ⟨e, e', h1, h2, rfl⟩ := iter_two (step := spec_BestGate.l6.st (x8, x9, x0, x1, x2, x3, x4, x5, x6, x7)) (step' := impl_BestGate.l6.st (x8, x9, x0, x1, x2, x3, x4, x5, x6, x7)) (R := fun s t => t = (s.1, spec_l01Size (fsub .f32 (spec_l03At x0 x1 x2 x3 x4 x5 x6 x7 x8 s.1) x9), s.2) ∧ ∃ i : Nat, i ≤ 17 ∧ s.2 = (i : Int)) (E := fun e e' => e = e') (fun s => 17 - s.2.toNat) (by
    rintro ⟨b, c⟩ _ ⟨rfl, i, hi, hc⟩
    dsimp only at hc
    subst hc
    simp only [spec_BestGate.l6.st, spec_BestGate.l6.s, impl_BestGate.l6.st, impl_BestGate.l6.s, T.get, at_ok, tat_ok, tat_eq _ _ x0 x1 x2 x3 x4 x5 x6 x7 hx hm, size_eq _ (fsub_has _ _ _)]
    by_cases hlt : i ≤ 16
    · rw [decide_eq_true (by omega : (i : Int) ≤ 16), wrap64_succ (by omega)]
      simp only [cond_true]
      cases flt .f32 (spec_l01Size (fsub .f32 (spec_l03At x0 x1 x2 x3 x4 x5 x6 x7 x8 (i : Int)) x9)) (spec_l01Size (fsub .f32 (spec_l03At x0 x1 x2 x3 x4 x5 x6 x7 x8 b) x9)) with
      | true => exact .inl ⟨_, _, rfl, rfl, ⟨rfl, i + 1, by omega, rfl⟩, by dsimp only; omega⟩
      | false => exact .inl ⟨_, _, rfl, rfl, ⟨rfl, i + 1, by omega, rfl⟩, by dsimp only; omega⟩
    · rw [decide_eq_false (by omega : ¬ (i : Int) ≤ 16)]
      exact .inr ⟨_, _, rfl, rfl, rfl⟩) manyRounds (0, 1) (0, spec_l01Size (fsub .f32 (spec_l03At x0 x1 x2 x3 x4 x5 x6 x7 x8 0) x9), 1) ⟨rfl, 1, by omega, rfl⟩ (many_lt (by simp))
  exact ⟨e, h1, h2⟩
theorem best_t (x0 : Int) (x1 x2 x3 x4 x5 x6 x7 x8 x9 : Nat) (hx : flHas .f32 x1) : ∃ r, (spec_BestGate.t x0 x1 x2 x3 x4 x5 x6 x7 x8 x9).get = some r ∧ (impl_BestGate.t x0 x1 x2 x3 x4 x5 x6 x7 x8 x9).get = some r := by
  simp only [spec_BestGate.t, impl_BestGate.t, T.get, gated_eq, tat_ok]
  cases h : (spec_l03Gated x0 x1 x2 x3 x4 x5 x6 x7 x8 x9 != 0) with
  | true => exact ⟨_, rfl, rfl⟩
  | false =>
    obtain ⟨e, h1, h2⟩ := loop_r x0 x1 x2 x3 x4 x5 x6 x7 x8 x9 hx (gated_ok h)
    rw [tat_eq _ _ x0 x1 x2 x3 x4 x5 x6 x7 hx (gated_ok h), size_eq _ (fsub_has _ _ _), h1, h2]
    exact ⟨_, rfl, rfl⟩
end BG

namespace LG
theorem loop_r (x0 : Int) (x1 x2 x3 x4 x5 x6 x7 x8 x9 : Nat) (hx : flHas .f32 x1) (hm : spec_l03Mill x0 x1 x2 = true) : ∃ e, spec_LeastGate.l5.r (x8, x9, x0, x1, x2, x3, x4, x5, x6, x7) 0 = some e ∧ impl_LeastGate.l5.r (x8, x9, x0, x1, x2, x3, x4, x5, x6, x7) 0 = some e := by
  obtain ⟨e, e', h1, h2, rfl⟩ := iter_two (step := spec_LeastGate.l5.st (x8, x9, x0, x1, x2, x3, x4, x5, x6, x7)) (step' := impl_LeastGate.l5.st (x8, x9, x0, x1, x2, x3, x4, x5, x6, x7)) (R := fun s t => s = t ∧ ∃ i : Nat, i ≤ 17 ∧ s = (i : Int)) (E := fun e e' => e = e') (fun s => 17 - s.toNat) (by
    rintro _ _ ⟨rfl, i, hi, rfl⟩
    simp only [spec_LeastGate.l5.st, spec_LeastGate.l5.s, impl_LeastGate.l5.st, impl_LeastGate.l5.s, T.get, at_ok, tat_ok, tat_eq _ _ x0 x1 x2 x3 x4 x5 x6 x7 hx hm]
    by_cases hlt : i ≤ 16
    · rw [decide_eq_true (by omega : (i : Int) ≤ 16), decide_eq_true (by omega : (i : Int) < 17), wrap64_succ (by omega)]
      simp only [cond_true]
      cases fge .f32 (spec_l03At x0 x1 x2 x3 x4 x5 x6 x7 x8 (i : Int)) x9 with
      | true => exact .inr ⟨_, _, rfl, rfl, rfl⟩
      | false => exact .inl ⟨_, _, rfl, rfl, ⟨rfl, i + 1, by omega, rfl⟩, by omega⟩
    · rw [decide_eq_false (by omega : ¬ (i : Int) ≤ 16), decide_eq_false (by omega : ¬ (i : Int) < 17)]
      exact .inr ⟨_, _, rfl, rfl, rfl⟩) manyRounds 0 0 ⟨rfl, 0, by omega, rfl⟩ (many_lt (by simp))
  exact ⟨e, h1, h2⟩
theorem least_t (x0 : Int) (x1 x2 x3 x4 x5 x6 x7 x8 x9 : Nat) (hx : flHas .f32 x1) : ∃ r, (spec_LeastGate.t x0 x1 x2 x3 x4 x5 x6 x7 x8 x9).get = some r ∧ (impl_LeastGate.t x0 x1 x2 x3 x4 x5 x6 x7 x8 x9).get = some r := by
  simp only [spec_LeastGate.t, impl_LeastGate.t, T.get, gated_eq]
  cases h : (spec_l03Gated x0 x1 x2 x3 x4 x5 x6 x7 x8 x9 != 0) with
  | true => exact ⟨_, rfl, rfl⟩
  | false =>
    obtain ⟨e, h1, h2⟩ := loop_r x0 x1 x2 x3 x4 x5 x6 x7 x8 x9 hx (gated_ok h)
    rw [h1, h2]
    simp only [Option.isSome_some, Option.getD_some, cond_true, cond_false]
    cases Sum.isLeft e <;> exact ⟨_, rfl, rfl⟩
end LG

section
variable {n : Int} {h r A H lo hi I v0 : Nat} {k0 : Int} (g : GovOk n h r A H lo hi I) (hs : Sok v0 k0)
include g hs
theorem within_s {xs : List Nat} (ha : allAm xs = true) (hn : xs.length ≤ 100) : (spec_WithinFrom.t n h r A H lo hi I v0 k0 xs.length xs).get = some (bif decide (back n h r A H lo hi I v0 k0 (fun i => xs.getD i 0) xs.length = xs.length) then (0, 6) else ((back n h r A H lo hi I v0 k0 (fun i => xs.getD i 0) xs.length : Int), 0)) := by
  have hr : spec_WithinFrom.l5.r (xs.length, xs, n, h, r, A, H, lo, hi, I, Rw n h r A H lo hi I v0 k0 (fun i => xs.getD i 0) xs.length) (xs.length : Int) = some (back n h r A H lo hi I v0 k0 (fun i => xs.getD i 0) xs.length : Int) := back_r n h r A H lo hi I v0 k0 xs xs.length hn _ _ _ (Nat.le_refl _) (many_lt (by omega))
  simp only [spec_WithinFrom.t, T.get, show spec_TickAll.ok n h r A H lo hi I v0 k0 xs.length xs = true from T.ok_of_get (ticks_s g hs ha hn), show spec_TickAll n h r A H lo hi I v0 k0 xs.length xs = _ from T.val_of_get (ticks_s g hs ha hn), hr]
  have he : (((back n h r A H lo hi I v0 k0 (fun i => xs.getD i 0) xs.length : Nat) : Int) == (xs.length : Int)) = decide (back n h r A H lo hi I v0 k0 (fun i => xs.getD i 0) xs.length = xs.length) := by
    by_cases hh : back n h r A H lo hi I v0 k0 (fun i => xs.getD i 0) xs.length = xs.length
    · rw [decide_eq_true hh, hh]
      simp
    · rw [decide_eq_false hh, beq_eq_false_iff_ne]
      omega
  simp only [Option.isSome_some, Option.getD_some, he]
  cases decide (back n h r A H lo hi I v0 k0 (fun i => xs.getD i 0) xs.length = xs.length) <;> rfl
theorem within_i {xs : List Nat} (ha : allAm xs = true) (hn : xs.length ≤ 100) : (impl_WithinFrom.t n h r A H lo hi I v0 k0 xs.length xs).get = some (bif decide (back n h r A H lo hi I v0 k0 (fun i => xs.getD i 0) xs.length = xs.length) then (0, 6) else ((back n h r A H lo hi I v0 k0 (fun i => xs.getD i 0) xs.length : Int), 0)) := by
  obtain ⟨e, h1, h2⟩ := WF.from_t xs n h r A H lo hi I v0 k0 (gov_flh g) (by omega)
  rw [h2, ← within_s g hs ha hn, h1]
/-- The state that stays. -/
theorem steady_s {l : Nat} (hl : spec_l03Amount l = true) : (spec_SteadyFrom.t n h r A H lo hi I v0 k0 l).get = some (match firstAt (fun i => spec_SameState (St n h r A H lo hi I v0 k0 (fun _ => l) (i + 1)).1 (St n h r A H lo hi I v0 k0 (fun _ => l) (i + 1)).2 (St n h r A H lo hi I v0 k0 (fun _ => l) i).1 (St n h r A H lo hi I v0 k0 (fun _ => l) i).2) 100 0 with | some i => ((St n h r A H lo hi I v0 k0 (fun _ => l) i).1, (St n h r A H lo hi I v0 k0 (fun _ => l) i).2, (i : Int), 0) | none => (0, 0, 0, 6)) := by
  have step : ∀ i : Nat, i < 100 → (spec_SteadyFrom.l7.st (l, n, h, r, A, H, lo, hi, I, 0, 0) ((i : Int), (St n h r A H lo hi I v0 k0 (fun _ => l) i).1, (St n h r A H lo hi I v0 k0 (fun _ => l) i).2)).get = some (bif spec_SameState (St n h r A H lo hi I v0 k0 (fun _ => l) (i + 1)).1 (St n h r A H lo hi I v0 k0 (fun _ => l) (i + 1)).2 (St n h r A H lo hi I v0 k0 (fun _ => l) i).1 (St n h r A H lo hi I v0 k0 (fun _ => l) i).2 then .inr (.inl ((i : Int), 0, (St n h r A H lo hi I v0 k0 (fun _ => l) i).1, (St n h r A H lo hi I v0 k0 (fun _ => l) i).2)) else .inl (((i + 1 : Nat) : Int), (St n h r A H lo hi I v0 k0 (fun _ => l) (i + 1)).1, (St n h r A H lo hi I v0 k0 (fun _ => l) (i + 1)).2)) := fun i hi' => by
    have e1 : spec_l03Tick n h r A H lo hi I (St n h r A H lo hi I v0 k0 (fun _ => l) i).1 (St n h r A H lo hi I v0 k0 (fun _ => l) i).2 l = St n h r A H lo hi I v0 k0 (fun _ => l) (i + 1) := rfl
    simp only [spec_SteadyFrom.l7.st, spec_SteadyFrom.l7.s, T.get, tick_ok, sstate_ok, e1]
    rw [decide_eq_true (by omega : (i : Int) < 100), wrap64_succ (by omega)]
    cases spec_SameState (St n h r A H lo hi I v0 k0 (fun _ => l) (i + 1)).1 (St n h r A H lo hi I v0 k0 (fun _ => l) (i + 1)).2 (St n h r A H lo hi I v0 k0 (fun _ => l) i).1 (St n h r A H lo hi I v0 k0 (fun _ => l) i).2 <;> rfl
  have hb : spec_l03Both n h r A H lo hi I v0 k0 = 0 := by rw [both_eq, gov_ok g, sok_state hs]; rfl
  cases hf : firstAt (fun i => spec_SameState (St n h r A H lo hi I v0 k0 (fun _ => l) (i + 1)).1 (St n h r A H lo hi I v0 k0 (fun _ => l) (i + 1)).2 (St n h r A H lo hi I v0 k0 (fun _ => l) i).1 (St n h r A H lo hi I v0 k0 (fun _ => l) i).2) 100 0 with
  | none =>
    have hall := firstAt_none.1 hf
    have hr : spec_SteadyFrom.l7.r (l, n, h, r, A, H, lo, hi, I, 0, 0) ((0 : Int), v0, k0) = some (.inr ()) := iter_run (step := spec_SteadyFrom.l7.st (l, n, h, r, A, H, lo, hi, I, 0, 0)) (f := fun i => ((i : Int), (St n h r A H lo hi I v0 k0 (fun _ => l) i).1, (St n h r A H lo hi I v0 k0 (fun _ => l) i).2)) (n := 100) (N := manyRounds) (k := 0) (many_lt (by omega)) (fun i hi' => by
      have := hall i (by omega) (by omega)
      simp only [Nat.zero_add]
      rw [step i hi', this]
      rfl) rfl
    simp only [spec_SteadyFrom.t, T.get, hb, hl, hr]
    rfl
  | some j =>
    obtain ⟨_, hj, hp, hbefore⟩ := firstAt_some hf
    have hr : spec_SteadyFrom.l7.r (l, n, h, r, A, H, lo, hi, I, 0, 0) ((0 : Int), v0, k0) = some (.inl ((j : Int), 0, (St n h r A H lo hi I v0 k0 (fun _ => l) j).1, (St n h r A H lo hi I v0 k0 (fun _ => l) j).2)) := iter_run (step := spec_SteadyFrom.l7.st (l, n, h, r, A, H, lo, hi, I, 0, 0)) (f := fun i => ((i : Int), (St n h r A H lo hi I v0 k0 (fun _ => l) i).1, (St n h r A H lo hi I v0 k0 (fun _ => l) i).2)) (n := j) (N := manyRounds) (k := 0) (many_lt (by omega)) (fun i hi' => by
      have := hbefore i (by omega) hi'
      simp only [Nat.zero_add]
      rw [step i (by omega), this]
      rfl) (by
      simp only [Nat.zero_add]
      rw [step j (by omega), hp]
      rfl)
    simp only [spec_SteadyFrom.t, T.get, hb, hl, hr]
    rfl
end
section
variable {n : Int} {h r A H lo hi I v0 : Nat} {k0 : Int} (g : GovOk n h r A H lo hi I) (hs : Sok v0 k0)
include g hs
theorem steady_i {l : Nat} (hl : spec_l03Amount l = true) : (impl_SteadyFrom.t n h r A H lo hi I v0 k0 l).get = some (match firstAt (fun i => spec_SameState (St n h r A H lo hi I v0 k0 (fun _ => l) (i + 1)).1 (St n h r A H lo hi I v0 k0 (fun _ => l) (i + 1)).2 (St n h r A H lo hi I v0 k0 (fun _ => l) i).1 (St n h r A H lo hi I v0 k0 (fun _ => l) i).2) 100 0 with | some i => ((St n h r A H lo hi I v0 k0 (fun _ => l) i).1, (St n h r A H lo hi I v0 k0 (fun _ => l) i).2, (i : Int), 0) | none => (0, 0, 0, 6)) := by
  obtain ⟨e, h1, h2⟩ := SF.from_t n h r A H lo hi I v0 k0 l (gov_flh g)
  rw [h2, ← steady_s g hs hl, h1]
theorem gated_0 {l : Nat} (hl : spec_l03Amount l = true) : spec_l03Gated n h r A H lo hi I v0 l = 0 := by
  have hsp : spec_l03Speed v0 = true := by
    have := sok_state hs
    simp only [spec_l03State, spec_l03State.t, T.val] at this
    cases hq : spec_l03Speed v0 with
    | true => rfl
    | false => rw [hq] at this; cases this
  simp only [spec_l03Gated, spec_l03Gated.t, T.val, gov_ok g, hsp, hl]
  rfl
end
section
variable (n : Int) (h r A H lo hi I v0 l : Nat)
noncomputable def atk (j : Nat) : Nat := spec_l03At n h r A H lo hi I v0 (j : Int)
noncomputable def Bg : Nat → Nat
  | 0 => 0
  | i + 1 => bif flt .f32 (spec_l01Size (fsub .f32 (atk n h r A H lo hi I v0 (i + 1)) l)) (spec_l01Size (fsub .f32 (atk n h r A H lo hi I v0 (Bg i)) l)) then i + 1 else Bg i
theorem best_r : spec_BestGate.l6.r (v0, l, n, h, r, A, H, lo, hi, I) ((0 : Int), (1 : Int)) = some (Bg n h r A H lo hi I v0 l 16 : Int) := by
  refine iter_run (step := spec_BestGate.l6.st (v0, l, n, h, r, A, H, lo, hi, I)) (f := fun i => ((Bg n h r A H lo hi I v0 l i : Int), ((i + 1 : Nat) : Int))) (n := 16) (N := manyRounds) (k := 0) (many_lt (by omega)) (fun i hi' => ?_) ?_
  · simp only [Nat.zero_add]
    rw [Bg]
    have e1 : ∀ j : Nat, spec_l03At n h r A H lo hi I v0 (j : Int) = atk n h r A H lo hi I v0 j := fun _ => rfl
    simp only [spec_BestGate.l6.st, spec_BestGate.l6.s, T.get, at_ok, e1]
    rw [decide_eq_true (by omega : ((i + 1 : Nat) : Int) ≤ 16), wrap64_succ (by omega)]
    cases flt .f32 (spec_l01Size (fsub .f32 (atk n h r A H lo hi I v0 (i + 1)) l)) (spec_l01Size (fsub .f32 (atk n h r A H lo hi I v0 (Bg n h r A H lo hi I v0 l i)) l)) <;> rfl
  · simp only [Nat.zero_add, spec_BestGate.l6.st, spec_BestGate.l6.s, T.get]
    rfl
theorem least_r : spec_LeastGate.l5.r (v0, l, n, h, r, A, H, lo, hi, I) (0 : Int) = some (match firstAt (fun i => fge .f32 (atk n h r A H lo hi I v0 i) l) 17 0 with | some i => (Sum.inl ((i : Int), 0) : (Int × Int) ⊕ Unit) | none => Sum.inr ()) := by
  refine iter_first (ε := (Int × Int) ⊕ Unit) (fun i => fge .f32 (atk n h r A H lo hi I v0 i) l) (fun i => .inl ((i : Int), 0)) (.inr ()) 17 (by omega) (fun i hi' => ?_) ?_
  · have e1 : ∀ j : Nat, spec_l03At n h r A H lo hi I v0 (j : Int) = atk n h r A H lo hi I v0 j := fun _ => rfl
    simp only [spec_LeastGate.l5.st, spec_LeastGate.l5.s, T.get, at_ok, e1]
    rw [decide_eq_true (by omega : (i : Int) ≤ 16)]
    cases fge .f32 (atk n h r A H lo hi I v0 i) l <;> rfl
  · simp only [spec_LeastGate.l5.st, spec_LeastGate.l5.s, T.get]
    rfl
end
theorem best_facts {n : Int} {h r A H lo hi I v0 l : Nat} {k0 : Int} (g : GovOk n h r A H lo hi I) (hs : Sok v0 k0) (nl : Nn l) : ∀ i, i ≤ 16 → Bg n h r A H lo hi I v0 l i ≤ i ∧ ∀ j, j ≤ i → dist (atk n h r A H lo hi I v0 (Bg n h r A H lo hi I v0 l i)) l ≤ dist (atk n h r A H lo hi I v0 j) l
  | 0, _ => ⟨Nat.le_refl _, fun j hj => by
      have : j = 0 := by omega
      subst this
      exact Nat.le_refl _⟩
  | i + 1, hi' => by
    obtain ⟨h1, h2⟩ := best_facts g hs nl i (by omega)
    have na : ∀ j, j ≤ 16 → Nn (atk n h r A H lo hi I v0 j) := fun j hj => (at_nb g hs.1 (by omega) (by omega)).1
    obtain ⟨s1, s2⟩ := size_sub (na (i + 1) hi') nl
    obtain ⟨s3, s4⟩ := size_sub (na (Bg n h r A H lo hi I v0 l i) (by omega)) nl
    rw [Bg, flt_nn s1 s3, s2, s4]
    by_cases hlt : dist (atk n h r A H lo hi I v0 (i + 1)) l < dist (atk n h r A H lo hi I v0 (Bg n h r A H lo hi I v0 l i)) l
    · rw [decide_eq_true hlt]
      refine ⟨Nat.le_refl _, fun j hj => ?_⟩
      dsimp only [cond_true]
      rcases Nat.lt_or_ge j (i + 1) with h5 | h5
      · have := h2 j (by omega)
        omega
      · have : j = i + 1 := by omega
        subst this
        exact Nat.le_refl _
    · rw [decide_eq_false hlt]
      refine ⟨by dsimp only [cond_false]; omega, fun j hj => ?_⟩
      dsimp only [cond_false]
      rcases Nat.lt_or_ge j (i + 1) with h5 | h5
      · exact h2 j (by omega)
      · have : j = i + 1 := by omega
        subst this
        omega
section
variable {n : Int} {h r A H lo hi I v0 : Nat} {k0 : Int} (g : GovOk n h r A H lo hi I) (hs : Sok v0 k0)
include g hs
theorem best_v {l : Nat} (hl : spec_l03Amount l = true) : (spec_BestGate.t n h r A H lo hi I v0 l).get = some ((Bg n h r A H lo hi I v0 l 16 : Int), 0) ∧ (impl_BestGate.t n h r A H lo hi I v0 l).get = some ((Bg n h r A H lo hi I v0 l 16 : Int), 0) := by
  have h0 : (spec_BestGate.t n h r A H lo hi I v0 l).get = some ((Bg n h r A H lo hi I v0 l 16 : Int), 0) := by
    simp only [spec_BestGate.t, T.get, gated_0 g hs hl, best_r]
    rfl
  obtain ⟨e, h1, h2⟩ := BG.best_t n h r A H lo hi I v0 l (gov_flh g)
  exact ⟨h0, by rw [h2, ← h0, h1]⟩
theorem least_v {l : Nat} (hl : spec_l03Amount l = true) : (spec_LeastGate.t n h r A H lo hi I v0 l).get = some (match firstAt (fun i => fge .f32 (atk n h r A H lo hi I v0 i) l) 17 0 with | some i => ((i : Int), 0) | none => (0, 6)) ∧ (impl_LeastGate.t n h r A H lo hi I v0 l).get = some (match firstAt (fun i => fge .f32 (atk n h r A H lo hi I v0 i) l) 17 0 with | some i => ((i : Int), 0) | none => (0, 6)) := by
  have h0 : (spec_LeastGate.t n h r A H lo hi I v0 l).get = some (match firstAt (fun i => fge .f32 (atk n h r A H lo hi I v0 i) l) 17 0 with | some i => ((i : Int), 0) | none => (0, 6)) := by
    simp only [spec_LeastGate.t, T.get, gated_0 g hs hl, least_r]
    cases firstAt (fun i => fge .f32 (atk n h r A H lo hi I v0 i) l) 17 0 <;> rfl
  obtain ⟨e, h1, h2⟩ := LG.least_t n h r A H lo hi I v0 l (gov_flh g)
  exact ⟨h0, by rw [h2, ← h0, h1]⟩
/-- The loop over all gates. -/
theorem gates_r (u1 u2 : List Int) {l : Nat} (nl : Nn l) (c low : Int) (hc : (∃ j : Nat, firstAt (fun i => fge .f32 (atk n h r A H lo hi I v0 i) l) 17 0 = some j ∧ c = 0 ∧ low = (j : Int)) ∨ (firstAt (fun i => fge .f32 (atk n h r A H lo hi I v0 i) l) 17 0 = none ∧ c = 6)) :
    laws_FnGoverned.l53.r (l, c, low, fmax .f32 (fsub .f32 (atk n h r A H lo hi I v0 (Bg n h r A H lo hi I v0 l 16)) l) (fsub .f32 l (atk n h r A H lo hi I v0 (Bg n h r A H lo hi I v0 l 16))), u1, u2, n, h, r, A, H, lo, hi, I, v0, k0) (0 : Int) = some (.inr ()) := by
  refine iter_run (step := laws_FnGoverned.l53.st (l, c, low, fmax .f32 (fsub .f32 (atk n h r A H lo hi I v0 (Bg n h r A H lo hi I v0 l 16)) l) (fsub .f32 l (atk n h r A H lo hi I v0 (Bg n h r A H lo hi I v0 l 16))), u1, u2, n, h, r, A, H, lo, hi, I, v0, k0)) (f := fun i => (i : Int)) (n := 17) (N := manyRounds) (k := 0) (many_lt (by omega)) (fun i hi' => ?_) ?_
  · obtain ⟨b1, b2⟩ := best_facts (l := l) g hs nl 16 (by omega)
    have na : ∀ j, j ≤ 16 → Nn (atk n h r A H lo hi I v0 j) := fun j hj => (at_nb g hs.1 (by omega) (by omega)).1
    obtain ⟨s1, s2⟩ := max_sub (na i (by omega)) nl
    obtain ⟨s3, s4⟩ := max_sub (na (Bg n h r A H lo hi I v0 l 16) (by omega)) nl
    have hfar : flt .f32 (fmax .f32 (fsub .f32 (atk n h r A H lo hi I v0 i) l) (fsub .f32 l (atk n h r A H lo hi I v0 i))) (fmax .f32 (fsub .f32 (atk n h r A H lo hi I v0 (Bg n h r A H lo hi I v0 l 16)) l) (fsub .f32 l (atk n h r A H lo hi I v0 (Bg n h r A H lo hi I v0 l 16)))) = false := by
      rw [flt_nn s1 s3, s2, s4]
      exact decide_eq_false (by have := b2 i (by omega); omega)
    have hs' : Sok v0 (i : Int) := ⟨hs.1, by omega, by omega⟩
    obtain ⟨t1, t2⟩ := at_v g hs'
    have e1 : spec_l03At n h r A H lo hi I v0 (i : Int) = atk n h r A H lo hi I v0 i := rfl
    rw [e1] at t1 t2
    simp only [Nat.zero_add, laws_FnGoverned.l53.st, laws_FnGoverned.l53.s, T.get, wrap8 (show (0 : Int) ≤ (i : Int) by omega) (show (i : Int) ≤ 16 by omega), show spec_TorqueAt.ok n h r A H lo hi I v0 (i : Int) = true from T.ok_of_get (t1), show spec_TorqueAt n h r A H lo hi I v0 (i : Int) = _ from T.val_of_get (t1), show impl_TorqueAt.ok n h r A H lo hi I v0 (i : Int) = true from T.ok_of_get (t2), show impl_TorqueAt n h r A H lo hi I v0 (i : Int) = _ from T.val_of_get (t2), show spec_SameNumber.ok (atk n h r A H lo hi I v0 i) (atk n h r A H lo hi I v0 i) = true from T.ok_of_get (num_t _), show spec_SameNumber (atk n h r A H lo hi I v0 i) (atk n h r A H lo hi I v0 i) = _ from T.val_of_get (num_t _), hfar, bne_self_eq_false]
    rw [decide_eq_true (by omega : (i : Int) ≤ 16), wrap64_succ (by omega)]
    rcases hc with ⟨j, hj, rfl, rfl⟩ | ⟨hj, rfl⟩
    · obtain ⟨_, hj2, hp, hbefore⟩ := firstAt_some hj
      rcases Nat.lt_or_ge i j with h5 | h5
      · have h6 : fge .f32 (atk n h r A H lo hi I v0 i) l = false := hbefore i (by omega) h5
        rw [h6]
        rfl
      · rw [decide_eq_false (by omega : ¬ (i : Int) < (j : Int))]
        cases fge .f32 (atk n h r A H lo hi I v0 i) l <;> rfl
    · have h6 : fge .f32 (atk n h r A H lo hi I v0 i) l = false := firstAt_none.1 hj i (by omega) (by omega)
      rw [h6]
      rfl
  · simp only [Nat.zero_add, laws_FnGoverned.l53.st, laws_FnGoverned.l53.s, T.get]
    rfl
end
/-- The loop over the states. -/
theorem inside_r (k1 : Nat) (u1 u2 : List Int) (n : Int) (h r A H lo hi I v0 : Nat) (k0 : Int) (q : Nat → Nat) (N : Nat) (hN : N ≤ 100) (c first : Int) (hc : (back n h r A H lo hi I v0 k0 q N < N ∧ c = 0 ∧ first = (back n h r A H lo hi I v0 k0 q N : Int)) ∨ (back n h r A H lo hi I v0 k0 q N = N ∧ c = 6)) :
    laws_FnGoverned.l26.r (k1, N, c, first, u1, u2, n, h, r, A, H, lo, hi, I, v0, k0, Rw n h r A H lo hi I v0 k0 q N) (0 : Int) = some (.inr ()) := by
  refine iter_run (step := laws_FnGoverned.l26.st (k1, N, c, first, u1, u2, n, h, r, A, H, lo, hi, I, v0, k0, Rw n h r A H lo hi I v0 k0 q N)) (f := fun i => (i : Int)) (n := N) (N := manyRounds) (k := 0) (many_lt (by omega)) (fun i hi' => ?_) ?_
  · have hG := Rw_get n h r A H lo hi I v0 k0 q hi'
    have hL := Rw_len n h r A H lo hi I v0 k0 q N
    have B1 := back_in n h r A H lo hi I v0 k0 q N i
    have B2 := back_out n h r A H lo hi I v0 k0 q N
    unfold inn at B1 B2
    generalize back n h r A H lo hi I v0 k0 q N = b at *
    generalize Rw n h r A H lo hi I v0 k0 q N = rows at *
    have w1 : IntKind.wrap .i64 ((N : Int) - 1) = (N : Int) - 1 := wrap64 (by omega) (by omega)
    simp only [Nat.zero_add, laws_FnGoverned.l26.st, laws_FnGoverned.l26.s, T.get, bounds_nat, ble_decide, Int.toNat_natCast, hG, hL, List.getD_cons_zero, Sc.nat, w1]
    rw [decide_eq_true (by omega : (i : Int) < (N : Int)), decide_eq_true hi', decide_eq_true (by omega : i + 1 ≤ N), wrap64_succ (by omega)]
    rcases hc with ⟨hb, rfl, rfl⟩ | ⟨rfl, rfl⟩
    · have w2 : IntKind.wrap .i64 ((b : Int) - 1) = (b : Int) - 1 := wrap64 (by omega) (by omega)
      rw [w2]
      rcases Nat.lt_or_ge i b with h5 | h5
      · have e1 : ((i : Int) == (N : Int) - 1) = false := beq_eq_false_iff_ne.2 (by omega)
        rw [decide_eq_false (by omega : ¬ (i : Int) ≥ (b : Int)), e1]
        by_cases h6 : i + 1 = b
        · have h7 := B2 i h6.symm
          revert h7
          cases fge .f32 (St n h r A H lo hi I v0 k0 q (i + 1)).1 lo <;> cases fle .f32 (St n h r A H lo hi I v0 k0 q (i + 1)).1 hi <;> cases ((i : Int) == (b : Int) - 1) <;> first | exact fun _ => rfl | (intro h; cases h)
        · have e2 : ((i : Int) == (b : Int) - 1) = false := beq_eq_false_iff_ne.2 (by omega)
          rw [e2]
          cases fge .f32 (St n h r A H lo hi I v0 k0 q (i + 1)).1 lo <;> cases fle .f32 (St n h r A H lo hi I v0 k0 q (i + 1)).1 hi <;> rfl
      · have h7 := B1 h5 hi'
        have e2 : ((i : Int) == (b : Int) - 1) = false := beq_eq_false_iff_ne.2 (by omega)
        rw [decide_eq_true (by omega : (i : Int) ≥ (b : Int)), e2]
        revert h7
        cases fge .f32 (St n h r A H lo hi I v0 k0 q (i + 1)).1 lo <;> cases fle .f32 (St n h r A H lo hi I v0 k0 q (i + 1)).1 hi <;> cases ((i : Int) == (N : Int) - 1) <;> first | exact fun _ => rfl | (intro h; cases h)
    · by_cases h6 : i + 1 = b
      · have h7 := B2 i h6.symm
        revert h7
        cases fge .f32 (St n h r A H lo hi I v0 k0 q (i + 1)).1 lo <;> cases fle .f32 (St n h r A H lo hi I v0 k0 q (i + 1)).1 hi <;> cases ((i : Int) == (b : Int) - 1) <;> first | exact fun _ => rfl | (intro h; cases h)
      · have e1 : ((i : Int) == (b : Int) - 1) = false := beq_eq_false_iff_ne.2 (by omega)
        rw [e1]
        cases fge .f32 (St n h r A H lo hi I v0 k0 q (i + 1)).1 lo <;> cases fle .f32 (St n h r A H lo hi I v0 k0 q (i + 1)).1 hi <;> rfl
  · simp only [Nat.zero_add, laws_FnGoverned.l26.st, laws_FnGoverned.l26.s, T.get]
    rw [decide_eq_false (by omega)]
    rfl
theorem src_of {xs : List Int} (h : ∀ x ∈ xs, IntKind.min .u8 ≤ x ∧ x ≤ IntKind.max .u8) (hl : xs.length ≤ 4096) : srcOk xs.length xs := by
  refine ⟨rfl, by omega, fun x hx => ?_⟩
  have := h x hx
  have e1 : IntKind.min .u8 = 0 := by decide
  have e2 : IntKind.max .u8 = 255 := by decide
  rw [e1, e2] at this
  exact this
theorem big_eq (n : Nat) (xs : List Int) : laws_f6big n xs = decide ((n : Int) > 4096) := by
  simp only [laws_f6big, laws_f6big.t, T.val]
theorem amount100 : (List.range 100).all (fun v => spec_l03Amount (val (v : Int) 1082130432) && decide (val (v : Int) 1082130432 < 2139095040)) = true := by kernel_rfl
theorem law_small (xs ys : List Int) (hx' : ∀ x ∈ xs, IntKind.min .u8 ≤ x ∧ x ≤ IntKind.max .u8) (hx : xs.length ≤ 4096) (hy' : ∀ x ∈ ys, IntKind.min .u8 ≤ x ∧ x ≤ IntKind.max .u8) (hy : ys.length ≤ 4096) : (laws_FnGoverned.t xs.length ys.length xs ys).get = some true := by
  have sx := src_of hx' hx
  have sy := src_of hy' hy
  obtain ⟨n, h, r, A, H, lo, hi, I, q1, g⟩ := gov_t sx
  obtain ⟨v0, k0, q2, hs⟩ := state_t sy
  obtain ⟨ts, q3, tn, tf⟩ := torques_t sy (fun x => spec_l03Amount x) (fun v hv => vals' amount200 (by omega) hv)
  obtain ⟨lv, q4, ll⟩ := p6pick_t sx 100
  have hl2 := vals' amount100 (by omega) ll
  simp only [Bool.and_eq_true, decide_eq_true_eq] at hl2
  have hl := hl2.1
  have nl : Nn (val (lv : Int) 1082130432) := .inl hl2.2
  have e4 : fdiv .f32 (fofint .f32 (lv : Int)) 1082130432 = val (lv : Int) 1082130432 := rfl
  have b1 : laws_f6big xs.length xs = false := by rw [big_eq]; exact decide_eq_false (by omega)
  have b2 : laws_f6big ys.length ys = false := by rw [big_eq]; exact decide_eq_false (by omega)
  have ha := allAm_of tf
  have hn : ts.length ≤ 100 := by omega
  have t1 := ticks_s g hs ha hn
  have t2 := ticks_i g hs ha hn
  have vg := gok_eq n h r A H lo hi I
  rw [gov_ok g] at vg
  have vs := vstate_eq v0 k0
  rw [sok_state hs] at vs
  have ss := states_same (Rw n h r A H lo hi I v0 k0 (fun i => ts.getD i 0) ts.length) (by rw [Rw_len]; omega)
  rw [Rw_len] at ss
  have w1 := walk_r xs.length xs ys g hs tf hn
  have w2 := within_s g hs ha hn
  have w3 := within_i g hs ha hn
  have s1 := steady_s g hs hl
  have s2 := steady_i g hs hl
  obtain ⟨bb1, bb2⟩ := best_v g hs hl
  obtain ⟨l1, l2⟩ := least_v g hs hl
  obtain ⟨f1, _⟩ := best_facts (l := val (lv : Int) 1082130432) g hs nl 16 (by omega)
  have hin := fun c first => inside_r xs.length xs ys n h r A H lo hi I v0 k0 (fun i => ts.getD i 0) ts.length hn c first
  have hga := fun c low => gates_r g hs xs ys nl c low
  have hbl := back_le n h r A H lo hi I v0 k0 (fun i => ts.getD i 0) ts.length
  have hsB : Sok v0 (Bg n h r A H lo hi I v0 (val (lv : Int) 1082130432) 16 : Int) := ⟨hs.1, by omega, by omega⟩
  obtain ⟨o1, o2⟩ := at_v g hsB
  have e5 : spec_l03At n h r A H lo hi I v0 (Bg n h r A H lo hi I v0 (val (lv : Int) 1082130432) 16 : Int) = atk n h r A H lo hi I v0 (Bg n h r A H lo hi I v0 (val (lv : Int) 1082130432) 16) := rfl
  rw [e5] at o1 o2
  have hB8 : IntKind.wrap .i8 (Bg n h r A H lo hi I v0 (val (lv : Int) 1082130432) 16 : Int) = (Bg n h r A H lo hi I v0 (val (lv : Int) 1082130432) 16 : Int) := wrap8 (by omega) (by omega)
  have hSt := fun i => St_sok n h r A H lo hi I v0 k0 (fun _ => val (lv : Int) 1082130432) hs i
  have hon := fun i => once_v g (hSt i) hl
  have W : ∃ c first, (spec_WithinFrom.t n h r A H lo hi I v0 k0 ts.length ts).get = some (first, c) ∧ (impl_WithinFrom.t n h r A H lo hi I v0 k0 ts.length ts).get = some (first, c) ∧ laws_FnGoverned.l26.r (xs.length, ts.length, c, first, xs, ys, n, h, r, A, H, lo, hi, I, v0, k0, Rw n h r A H lo hi I v0 k0 (fun i => ts.getD i 0) ts.length) (0 : Int) = some (.inr ()) ∧ (c = 0 ∨ c = 6) := by
    by_cases hb : back n h r A H lo hi I v0 k0 (fun i => ts.getD i 0) ts.length = ts.length
    · rw [decide_eq_true hb] at w2 w3
      exact ⟨6, 0, w2, w3, hin 6 0 (.inr ⟨hb, rfl⟩), .inr rfl⟩
    · rw [decide_eq_false hb] at w2 w3
      exact ⟨0, _, w2, w3, hin 0 _ (.inl ⟨by omega, rfl, rfl⟩), .inl rfl⟩
  have L : ∃ c low, (spec_LeastGate.t n h r A H lo hi I v0 (val (lv : Int) 1082130432)).get = some (low, c) ∧ (impl_LeastGate.t n h r A H lo hi I v0 (val (lv : Int) 1082130432)).get = some (low, c) ∧ laws_FnGoverned.l53.r (val (lv : Int) 1082130432, c, low, fmax .f32 (fsub .f32 (atk n h r A H lo hi I v0 (Bg n h r A H lo hi I v0 (val (lv : Int) 1082130432) 16)) (val (lv : Int) 1082130432)) (fsub .f32 (val (lv : Int) 1082130432) (atk n h r A H lo hi I v0 (Bg n h r A H lo hi I v0 (val (lv : Int) 1082130432) 16))), xs, ys, n, h, r, A, H, lo, hi, I, v0, k0) (0 : Int) = some (.inr ()) := by
    cases hf : firstAt (fun i => fge .f32 (atk n h r A H lo hi I v0 i) (val (lv : Int) 1082130432)) 17 0 with
    | none =>
      rw [hf] at l1 l2
      exact ⟨6, 0, l1, l2, hga 6 0 (.inr ⟨hf, rfl⟩)⟩
    | some j =>
      rw [hf] at l1 l2
      exact ⟨0, _, l1, l2, hga 0 _ (.inl ⟨j, hf, rfl, rfl⟩)⟩
  have S : (∃ (v : Nat) (k i : Int) (v' : Nat) (k' : Int), (spec_SteadyFrom.t n h r A H lo hi I v0 k0 (val (lv : Int) 1082130432)).get = some (v, k, i, 0) ∧ (impl_SteadyFrom.t n h r A H lo hi I v0 k0 (val (lv : Int) 1082130432)).get = some (v, k, i, 0) ∧ 0 ≤ i ∧ i < 100 ∧ (impl_TickOnce.t n h r A H lo hi I v k (val (lv : Int) 1082130432)).get = some (v', k', 0) ∧ spec_SameState v' k' v k = true) ∨
      ((spec_SteadyFrom.t n h r A H lo hi I v0 k0 (val (lv : Int) 1082130432)).get = some (0, 0, 0, 6) ∧ (impl_SteadyFrom.t n h r A H lo hi I v0 k0 (val (lv : Int) 1082130432)).get = some (0, 0, 0, 6)) := by
    cases hf : firstAt (fun i => spec_SameState (St n h r A H lo hi I v0 k0 (fun _ => val (lv : Int) 1082130432) (i + 1)).1 (St n h r A H lo hi I v0 k0 (fun _ => val (lv : Int) 1082130432) (i + 1)).2 (St n h r A H lo hi I v0 k0 (fun _ => val (lv : Int) 1082130432) i).1 (St n h r A H lo hi I v0 k0 (fun _ => val (lv : Int) 1082130432) i).2) 100 0 with
    | none =>
      rw [hf] at s1 s2
      exact .inr ⟨s1, s2⟩
    | some j =>
      rw [hf] at s1 s2
      obtain ⟨_, hj, hp, _⟩ := firstAt_some hf
      exact .inl ⟨_, _, _, _, _, s1, s2, by omega, by omega, hon j, hp⟩
  clear w2 w3 s1 s2 l1 l2 hin hga hon hSt
  obtain ⟨c, first, w2, w3, w4, hc⟩ := W
  obtain ⟨c2, low, l1, l2, l3⟩ := L
  have j1 : (bif c != 0 then (bif c != 6 then some (some false) else some none) else some none) = some (none : Option Bool) := by
    rcases hc with rfl | rfl <;> rfl
  simp only [laws_FnGoverned.t, T.get, T.get_join, b1, b2, cond_false, show spec_P6Governor.ok xs.length xs = true from T.ok_of_get (q1), show spec_P6Governor xs.length xs = _ from T.val_of_get (q1), show spec_P6State.ok ys.length ys = true from T.ok_of_get (q2), show spec_P6State ys.length ys = _ from T.val_of_get (q2), show spec_P6Torques.ok ys.length ys = true from T.ok_of_get (q3), show spec_P6Torques ys.length ys = _ from T.val_of_get (q3), show spec_P6Pick.ok xs.length (100 : Int) xs = true from T.ok_of_get (q4), show spec_P6Pick xs.length (100 : Int) xs = _ from T.val_of_get (q4), e4,
    show spec_TickAll.ok n h r A H lo hi I v0 k0 ts.length ts = true from T.ok_of_get (t1), show spec_TickAll n h r A H lo hi I v0 k0 ts.length ts = _ from T.val_of_get (t1), show impl_TickAll.ok n h r A H lo hi I v0 k0 ts.length ts = true from T.ok_of_get (t2), show impl_TickAll n h r A H lo hi I v0 k0 ts.length ts = _ from T.val_of_get (t2), Sum.isLeft, getRightD, show spec_SameStates_w1.ok ts.length ts.length (Rw n h r A H lo hi I v0 k0 (fun i => ts.getD i 0) ts.length) (Rw n h r A H lo hi I v0 k0 (fun i => ts.getD i 0) ts.length) = true from T.ok_of_get (ss), show spec_SameStates_w1 ts.length ts.length (Rw n h r A H lo hi I v0 k0 (fun i => ts.getD i 0) ts.length) (Rw n h r A H lo hi I v0 k0 (fun i => ts.getD i 0) ts.length) = _ from T.val_of_get (ss), vg, vs, w1,
    show spec_WithinFrom.ok n h r A H lo hi I v0 k0 ts.length ts = true from T.ok_of_get (w2), show spec_WithinFrom n h r A H lo hi I v0 k0 ts.length ts = _ from T.val_of_get (w2), show impl_WithinFrom.ok n h r A H lo hi I v0 k0 ts.length ts = true from T.ok_of_get (w3), show impl_WithinFrom n h r A H lo hi I v0 k0 ts.length ts = _ from T.val_of_get (w3), w4, sstate_ok, sstate_refl, j1, joinG_go,
    show spec_BestGate.ok n h r A H lo hi I v0 (val (lv : Int) 1082130432) = true from T.ok_of_get (bb1), show spec_BestGate n h r A H lo hi I v0 (val (lv : Int) 1082130432) = _ from T.val_of_get (bb1), show impl_BestGate.ok n h r A H lo hi I v0 (val (lv : Int) 1082130432) = true from T.ok_of_get (bb2), show impl_BestGate n h r A H lo hi I v0 (val (lv : Int) 1082130432) = _ from T.val_of_get (bb2), show spec_LeastGate.ok n h r A H lo hi I v0 (val (lv : Int) 1082130432) = true from T.ok_of_get (l1), show spec_LeastGate n h r A H lo hi I v0 (val (lv : Int) 1082130432) = _ from T.val_of_get (l1), show impl_LeastGate.ok n h r A H lo hi I v0 (val (lv : Int) 1082130432) = true from T.ok_of_get (l2), show impl_LeastGate n h r A H lo hi I v0 (val (lv : Int) 1082130432) = _ from T.val_of_get (l2),
    hB8, show impl_TorqueAt.ok n h r A H lo hi I v0 (Bg n h r A H lo hi I v0 (val (lv : Int) 1082130432) 16 : Int) = true from T.ok_of_get (o2), show impl_TorqueAt n h r A H lo hi I v0 (Bg n h r A H lo hi I v0 (val (lv : Int) 1082130432) 16 : Int) = _ from T.val_of_get (o2), l3, bne_self_eq_false, cond_true, cond_false, Bool.not_true, Bool.not_false, Option.isSome_some, Option.getD_some]
  have g0 : decide ((Bg n h r A H lo hi I v0 (val (lv : Int) 1082130432) 16 : Int) < 0) = false := decide_eq_false (by omega)
  have g16 : decide ((Bg n h r A H lo hi I v0 (val (lv : Int) 1082130432) 16 : Int) > 16) = false := decide_eq_false (by omega)
  rcases S with ⟨v, k, i, v', k', s1, s2, hi0, hi1, s3, s4⟩ | ⟨s1, s2⟩
  · simp only [show spec_SteadyFrom.ok n h r A H lo hi I v0 k0 (val (lv : Int) 1082130432) = true from T.ok_of_get (s1), show spec_SteadyFrom n h r A H lo hi I v0 k0 (val (lv : Int) 1082130432) = _ from T.val_of_get (s1), show impl_SteadyFrom.ok n h r A H lo hi I v0 k0 (val (lv : Int) 1082130432) = true from T.ok_of_get (s2), show impl_SteadyFrom n h r A H lo hi I v0 k0 (val (lv : Int) 1082130432) = _ from T.val_of_get (s2), sstate_refl, show impl_TickOnce.ok n h r A H lo hi I v k (val (lv : Int) 1082130432) = true from T.ok_of_get (s3), show impl_TickOnce n h r A H lo hi I v k (val (lv : Int) 1082130432) = _ from T.val_of_get (s3), s4, decide_eq_false (show ¬ i < 0 by omega), decide_eq_false (show ¬ i ≥ 100 by omega), g0, g16, bne_self_eq_false]
    rfl
  · simp only [show spec_SteadyFrom.ok n h r A H lo hi I v0 k0 (val (lv : Int) 1082130432) = true from T.ok_of_get (s1), show spec_SteadyFrom n h r A H lo hi I v0 k0 (val (lv : Int) 1082130432) = _ from T.val_of_get (s1), show impl_SteadyFrom.ok n h r A H lo hi I v0 k0 (val (lv : Int) 1082130432) = true from T.ok_of_get (s2), show impl_SteadyFrom n h r A H lo hi I v0 k0 (val (lv : Int) 1082130432) = _ from T.val_of_get (s2), sstate_refl, g0, g16, bne_self_eq_false]
    rfl
/- FACTS -/
theorem law_holds (xs ys : List Int) (f0 : ∀ x ∈ xs, IntKind.min .u8 ≤ x ∧ x ≤ IntKind.max .u8) (y0 : xs.length ≤ maxLen) (f1 : ∀ x ∈ ys, IntKind.min .u8 ≤ x ∧ x ≤ IntKind.max .u8) (y1 : ys.length ≤ maxLen) : (laws_FnGoverned.t xs.length ys.length xs ys).get = some true := by
  by_cases h1 : xs.length ≤ 4096
  · by_cases h2 : ys.length ≤ 4096
    · exact law_small xs ys f0 h1 f1 h2
    · have b1 : laws_f6big xs.length xs = false := by rw [big_eq]; exact decide_eq_false (by omega)
      have b2 : laws_f6big ys.length ys = true := by rw [big_eq]; exact decide_eq_true (by omega)
      simp only [laws_FnGoverned.t, T.get, b1, b2, cond_true, cond_false]
  · have b1 : laws_f6big xs.length xs = true := by rw [big_eq]; exact decide_eq_true (by omega)
    simp only [laws_FnGoverned.t, T.get, b1, cond_true]

theorem law_plain (xs0 : List Int) (xs1 : List Int) (f0 : ∀ x ∈ xs0, (IntKind.min .u8 ≤ x ∧ x ≤ IntKind.max .u8)) (y0 : List.length xs0 ≤ maxLen) (f1 : ∀ x ∈ xs1, (IntKind.min .u8 ≤ x ∧ x ≤ IntKind.max .u8)) (y1 : List.length xs1 ≤ maxLen) : (laws_FnGoverned.tr (xs0.length, xs1.length, xs0, xs1)).get = some true := law_holds xs0 xs1 f0 y0 f1 y1
theorem own : ownKnob Try.prog.godebug = none := by kernel_rfl
theorem laidOut : laidOutB Try.prog = true := by kernel_rfl
theorem ground {W : World} (h : W.ShapedOpen Try.prog) : Sx.Ground W := ground_of (by kernel_rfl) h
theorem lifted (os : Os) (started : os.Started) (H : Type) (enc : TypeId × Value → H) :
    ReturnsInHanded {} Try.checked os 3 .any (Rows.fnGovernedSpec.pre6 enc Try.prog Try.f3 Rows.fnGovernedRow.domain false) (Rows.fnGovernedSpec.post enc Try.prog Try.f3 false true false false) := by
  refine returnsInHanded_of_change_shaped (C := Try.checked) own started (by kernel_rfl) Try.func3
    (ChangeSpec.witness6 (enc := enc) (C := Try.checked) false ⟨#[], #[.slice none 0 0, .slice none 0 0], []⟩ 8 (by kernel_rfl) (by kernel_rfl) (by kernel_rfl) (by kernel_rfl)) ?_
  intro W base args ds gs before hval0 hW hcnd _ hsh _
  have hG := ground hsh
  have hval : ∀ (j : Nat) t v, Try.f3.params[j]? = some t → args[j]? = some v → Value.okWide Try.prog W .any base t v := hval0
  have hW' := hW
  obtain ⟨p, q, hA0, hV, rfl, hfz, hnd⟩ := hW
  have hA : DataW.TrodAll enc Try.prog W 0 (fun _ => true) true Try.f3.params.toList args.toList ds p := hA0
  rw [Try.params3] at hA hval
  obtain ⟨v0, vs0, d0, ds0, p0, q0, hargs, rfl, rfl, h0, rr0⟩ := trodAll_cons hA
  obtain ⟨v1, vs1, d1, ds1, p1, q1, rfl, rfl, rfl, h1, rr1⟩ := trodAll_cons rr0
  obtain ⟨rfl, rfl, rfl⟩ := trodAll_nil rr1
  obtain rfl : args = #[v0, v1] := by cases args; simp_all
  obtain ⟨rfl, rfl⟩ := trodVars_none hV
  have k0 := h0
  have lt0 : ∀ x ∈ p0, x.block < W.heap.size := by obtain ⟨m, hm⟩ := k0; exact DataW.trod_lt m _ _ _ hm
  obtain ⟨l0, xs0, w0, r0, f0, y0⟩ := open_its Try.underlying22 Try.underlying5 (by kernel_rfl) hG (hval 0 22 v0 rfl rfl) k0
  have k1 := h1
  have lt1 : ∀ x ∈ p1, x.block < W.heap.size := by obtain ⟨m, hm⟩ := k1; exact DataW.trod_lt m _ _ _ hm
  obtain ⟨l1, xs1, w1, r1, f1, y1⟩ := open_its Try.underlying22 Try.underlying5 (by kernel_rfl) hG (hval 1 22 v1 rfl rfl) k1
  clear hA0 hval0
  refine (laws_FnGoverned.walk (xs0.length, xs1.length, xs0, xs1) (law_plain xs0 xs1 f0 y0 f1 y1) (ρ := fun i => (lget ([(l0, .is .u8 xs0), (l1, .is .u8 xs1)] : List (Sx.Loc × Cells)) i).map (·.1)) (Rs_cons' (r0 _ 0 rfl) (Rs_cons' (r1 _ 1 rfl) Rs_nil')) (HpR.ofRo [(l0, .is .u8 xs0), (l1, .is .u8 xs1)] ((List.forall_mem_cons.2 ⟨w0, (List.forall_mem_cons.2 ⟨w1, List.forall_mem_nil _⟩)⟩)))).mono fun e W' ⟨he, bel⟩ => ?_
  subst he
  exact ⟨_, rfl, _, _, _, [], _, [], hW', trodAll_mk1 (shut_bool Try.underlying4 _), (trodAll_cons_mk (Below.trod laidOut (by kernel_rfl) (of_decide_eq_true (by kernel_rfl)) k0 bel lt0) (trodAll_cons_mk (Below.trod laidOut (by kernel_rfl) (of_decide_eq_true (by kernel_rfl)) k1 bel lt1) trodAll_mk0)), rfl, bel.frame _, fun h => by cases h⟩
theorem over : Rows.fnGovernedRow.holds Try.pinned (OpenSpec.ofChange Rows.fnGovernedSpec) :=
  OpenClaim.holds_of_wide 3 Try.f3 rfl rfl rfl rfl rfl rfl rfl ⟨rfl, rfl, rfl, rfl, rfl⟩ rfl rfl rfl rfl rfl (by kernel_rfl) Try.func3 (by kernel_rfl)
    (of_decide_eq_true (by kernel_rfl)) (by unfold Func.isWrapper; first | (rw [if_pos (by decide +kernel)]; kernel_rfl) | (rw [if_neg (by decide +kernel)]; exact ⟨rfl, rfl⟩))
    (fun os started H enc _ => lifted os started H enc)
theorem proved : Rows.FnGovernedSaid := over
end Go.Proofs.Ytccdbfmfdhhgfaa
