/- For every input the call of FnBelts returns true, and each argument reads afterwards as it read before; there is no condition. -/
import Derived.Test.YtkfpmiggolmabaaDoorWFnBelts
import Derived.Test.YtkfpmiggolmabaaDoorSxS
import Derived.Test.YtkfpmiggolmabaaDoorSxV
import Derived.Test.YtkfpmiggolmabaaDoorSxW
import Derived.Test.YtkfpmiggolmabaaDoorSxA1
import Derived.Test.YtkfpmiggolmabaaDoorCards
import Derived.Test.YtkfpmiggolmabaaDoorTie
import Derived.WalkKit
import Derived.ProofKit
import Derived.OpenShut
import Derived.ShutString
import Derived.ChangeOld
import Derived.Below
import Derived.Carry
import Derived.HandedShaped
import Derived.Deep.DeepHandedRow
import Derived.Lib.LaidTab
import Derived.Shelf.Vars
import Derived.Lib.LaidU8
import Derived.Lib.DecodeN
namespace Go.Proofs.YtkfpmiggolmabaaDoor
open Go Go.RowKit Sx
open Go.ChangeShapes Go.WideShapes Go.ChangeAt
set_option linter.unusedVariables false
set_option linter.unusedSimpArgs false
set_option maxRecDepth 100000

/-! Draws out of bytes: they always end, and what is drawn lies below what was asked for. -/
theorem ibits255 (a : Int) : 0 ≤ ibits .and .u64 a 255 ∧ ibits .and .u64 a 255 ≤ 255 := by
  have e : (BitVec.ofInt 64 a &&& BitVec.ofInt 64 255).toNat ≤ 255 := by
    rw [BitVec.toNat_and]
    exact Nat.le_trans Nat.and_le_right (by decide)
  have h : ibits .and .u64 a 255 = IntKind.wrap .u64 (((BitVec.ofInt 64 a &&& BitVec.ofInt 64 255).toNat : Nat) : Int) := rfl
  rw [h]
  generalize (BitVec.ofInt 64 a &&& BitVec.ofInt 64 255).toNat = q at e
  have w : IntKind.wrap .u64 (q : Int) = (q : Int) % 18446744073709551616 := rfl
  rw [w]
  omega
/-- A source of bytes that may be drawn from. -/
def srcOk (n : Nat) (xs : List Int) : Prop := xs.length = n ∧ n ≤ 4611686018427387904 ∧ ∀ x ∈ xs, 0 ≤ x ∧ x ≤ 255
theorem src_get {n : Nat} {xs : List Int} (h : srcOk n xs) (i : Nat) : 0 ≤ xs.getD i 0 ∧ xs.getD i 0 ≤ 255 := by
  by_cases hi : i < xs.length
  · have : xs.getD i 0 = xs[i] := by simp [List.getD, List.getElem?_eq_getElem hi]
    rw [this]
    exact h.2.2 _ (List.getElem_mem hi)
  · have : xs.getD i 0 = 0 := by simp [List.getD, List.getElem?_eq_none (by omega : xs.length ≤ i)]
    rw [this]
    omega
theorem next_t {n : Nat} {xs : List Int} (hs : srcOk n xs) (pos : Nat) (h : Int) (hp : pos < 4611686018427387904) : ∃ v h', (spec_l00Src_next.t n (pos : Int) h xs).get = some (v, n, ((pos + 1 : Nat) : Int), h') ∧ 0 ≤ v ∧ v ≤ 255 := by
  have hw : ∀ a, IntKind.wrap .i64 (ibits .and .u64 a 255) = ibits .and .u64 a 255 := fun a => by
    have := ibits255 a
    exact wrap64 (by omega) (by omega)
  have hg := src_get hs pos
  have hwg : IntKind.wrap .i64 (xs.getD pos 0) = xs.getD pos 0 := wrap64 (by omega) (by omega)
  simp only [spec_l00Src_next.t, T.get, bounds_nat, ble_decide, Int.toNat_natCast, Nat.mul_one, Nat.zero_add, hs.1, hw, wrap64_succ (show pos + 1 < 9223372036854775808 by omega), hwg]
  by_cases hlt : pos < n
  · rw [decide_eq_true (by omega : (pos : Int) < (n : Int)), decide_eq_true hlt, decide_eq_true (by omega : pos + 1 ≤ n), decide_eq_true (by omega : ((pos + 1 : Nat) : Int) ≤ (n : Int))]
    exact ⟨_, _, rfl, hg.1, hg.2⟩
  · rw [decide_eq_false (by omega : ¬ (pos : Int) < (n : Int))]
    cases hc : decide (((pos + 1 : Nat) : Int) ≤ (n : Int)) with
    | true => exact ⟨_, _, rfl, by omega, by omega⟩
    | false => exact ⟨_, _, rfl, (ibits255 _).1, (ibits255 _).2⟩
theorem pick_t {n : Nat} {xs : List Int} (hs : srcOk n xs) (k : Nat) (pos : Nat) (h : Int) (hp : pos < 4611686018427387000) : ∃ (v pos' : Nat) (h' : Int), (spec_l00Src_pick.t (k : Int) n (pos : Int) h xs).get = some ((v : Int), n, (pos' : Int), h') ∧ (v = 0 ∨ v < k) ∧ pos' ≤ pos + 2 := by
  simp only [spec_l00Src_pick.t, T.get]
  by_cases h1 : k ≤ 1
  · rw [decide_eq_true (by omega : (k : Int) ≤ 1)]
    exact ⟨0, pos, h, rfl, .inl rfl, by omega⟩
  · rw [decide_eq_false (by omega : ¬ (k : Int) ≤ 1)]
    obtain ⟨v, h', q1, q2, q3⟩ := next_t hs pos h (by omega)
    obtain ⟨v2, h2, r1, r2, r3⟩ := next_t hs (pos + 1) h' (by omega)
    obtain ⟨v, rfl⟩ : ∃ w : Nat, v = w := ⟨v.toNat, by omega⟩
    obtain ⟨v2, rfl⟩ : ∃ w : Nat, v2 = w := ⟨v2.toNat, by omega⟩
    have hk0 : ((k : Int) == 0) = false := by
      rw [beq_eq_false_iff_ne]
      omega
    have e0 : IntKind.wrap .i64 ((v : Int) * 256) = ((v * 256 : Nat) : Int) := wrap64_of (by omega) (by omega)
    have e1 : IntKind.wrap .i64 (((v * 256 : Nat) : Int) + (v2 : Int)) = ((v * 256 + v2 : Nat) : Int) := wrap64_of (by omega) (by omega)
    have t1 : Int.tmod ((v * 256 + v2 : Nat) : Int) (k : Int) = (((v * 256 + v2) % k : Nat) : Int) := by rw [Int.ofNat_tmod]
    have t2 : Int.tmod (v : Int) (k : Int) = ((v % k : Nat) : Int) := by rw [Int.ofNat_tmod]
    simp only [show spec_l00Src_next.ok n (pos : Int) h xs = true from T.ok_of_get (q1), show spec_l00Src_next n (pos : Int) h xs = _ from T.val_of_get (q1), show spec_l00Src_next.ok n ((pos + 1 : Nat) : Int) h' xs = true from T.ok_of_get (r1), show spec_l00Src_next n ((pos + 1 : Nat) : Int) h' xs = _ from T.val_of_get (r1), hk0, e0, e1, t1, t2]
    by_cases h2 : k > 200
    · rw [decide_eq_true (by omega : (k : Int) > 200)]
      exact ⟨_, pos + 1 + 1, _, rfl, .inr (Nat.mod_lt _ (by omega)), by omega⟩
    · rw [decide_eq_false (by omega : ¬ (k : Int) > 200)]
      exact ⟨_, pos + 1, _, rfl, .inr (Nat.mod_lt _ (by omega)), by omega⟩

theorem one_t {n : Nat} {xs : List Int} (hs : srcOk n xs) (k : Nat) (pos : Nat) (h : Int) (hp : pos < 4611686018427387000) : ∃ (b : Bool) (pos' : Nat) (h' : Int), (spec_l00Src_one.t (k : Int) n (pos : Int) h xs).get = some (b, n, (pos' : Int), h') ∧ pos' ≤ pos + 2 := by
  obtain ⟨v, pos', h', q1, _, q3⟩ := pick_t hs k pos h hp
  simp only [spec_l00Src_one.t, T.get, show spec_l00Src_pick.ok (k : Int) n (pos : Int) h xs = true from T.ok_of_get (q1), show spec_l00Src_pick (k : Int) n (pos : Int) h xs = _ from T.val_of_get (q1)]
  exact ⟨_, pos', h', rfl, q3⟩

/-! Numbers that are not below nought: their order is that of their rungs; bounded ones. -/
theorem fle_nn {a b : Nat} (ha : Nn a) (hb : Nn b) : fle .f32 a b = decide (rg a ≤ rg b) := by
  unfold fle
  rw [nn_order ha hb]
  rcases Nat.lt_trichotomy (rg a) (rg b) with h | h | h
  · rw [Nat.compare_eq_lt.2 h, decide_eq_true (by omega)]; rfl
  · rw [Nat.compare_eq_eq.2 h, decide_eq_true (by omega)]; rfl
  · rw [Nat.compare_eq_gt.2 h, decide_eq_false (by omega)]; rfl
theorem fgt_nn {a b : Nat} (ha : Nn a) (hb : Nn b) : fgt .f32 a b = decide (rg b < rg a) := by
  unfold fgt
  rw [nn_order ha hb]
  rcases Nat.lt_trichotomy (rg a) (rg b) with h | h | h
  · rw [Nat.compare_eq_lt.2 h, decide_eq_false (by omega)]; rfl
  · rw [Nat.compare_eq_eq.2 h, decide_eq_false (by omega)]; rfl
  · rw [Nat.compare_eq_gt.2 h, decide_eq_true (by omega)]; rfl
theorem flt_nn {a b : Nat} (ha : Nn a) (hb : Nn b) : flt .f32 a b = decide (rg a < rg b) := by rw [← fgt_flip, fgt_nn hb ha]
/-- Not below nought, and no more than a bound, by its word. -/
def Nb (K x : Nat) : Prop := Nn x ∧ rg x ≤ K
theorem nb_self {K : Nat} (h : K < 2139095040) : Nn K ∧ rg K = K := ⟨.inl h, by unfold rg; omega⟩
theorem nb_mono {J K x : Nat} (h : Nb J x) (hk : J ≤ K) : Nb K x := ⟨h.1, Nat.le_trans h.2 hk⟩
theorem nb_add {J K L a b : Nat} (ha : Nb J a) (hb : Nb K b) (hJ : J < 2139095040) (hK : K < 2139095040) (h : decide (rg (fadd .f32 J K) ≤ L) = true) (hL : L < 2139095040) : Nb L (fadd .f32 a b) := by
  have h1 : rg (fadd .f32 a b) ≤ L := Nat.le_trans (add_mono ha.1 (nb_self hJ).1 hb.1 (nb_self hK).1 (by rw [(nb_self hJ).2]; exact ha.2) (by rw [(nb_self hK).2]; exact hb.2)) (of_decide_eq_true h)
  exact ⟨nn_add ha.1 hb.1 (by omega), h1⟩
theorem nb_mul {J K L a b : Nat} (ha : Nb J a) (hb : Nb K b) (hJ : J < 2139095040) (hK : K < 2139095040) (h : decide (rg (fmul .f32 J K) ≤ L) = true) (hL : L < 2139095040) : Nb L (fmul .f32 a b) := by
  have h1 : rg (fmul .f32 a b) ≤ L := Nat.le_trans (mul_mono ha.1 (nb_self hJ).1 hb.1 (nb_self hK).1 (by rw [(nb_self hJ).2]; exact ha.2) (by rw [(nb_self hK).2]; exact hb.2)) (of_decide_eq_true h)
  exact ⟨nn_mul ha.1 hb.1 (by omega), h1⟩

/-! More of the order of floats. -/
theorem feq_nn {a b : Nat} (ha : Nn a) (hb : Nn b) : feq .f32 a b = decide (rg a = rg b) := by
  unfold feq
  rw [nn_order ha hb]
  rcases Nat.lt_trichotomy (rg a) (rg b) with h | h | h
  · rw [Nat.compare_eq_lt.2 h, decide_eq_false (by omega)]; rfl
  · rw [Nat.compare_eq_eq.2 h, decide_eq_true h]; rfl
  · rw [Nat.compare_eq_gt.2 h, decide_eq_false (by omega)]; rfl
theorem le_not_gt {a b : Nat} (ha : Nn a) (hb : Nn b) : fle .f32 a b = !fgt .f32 a b := by
  rw [fle_nn ha hb, fgt_nn ha hb]
  by_cases h : rg a ≤ rg b
  · rw [decide_eq_true h, decide_eq_false (by omega)]
    rfl
  · rw [decide_eq_false h, decide_eq_true (by omega)]
    rfl
theorem nn_0 : Nn 0 ∧ rg 0 = 0 := nb_self (K := 0) (by decide)
theorem inf_word : FloatKind.f32.format.read 2139095040 = .infinity false := by kernel_rfl
theorem inf_gt {h : Nat} (hh : Nn h) : fgt .f32 2139095040 h = true := by
  obtain ⟨s, m, e, r1, _⟩ := nn_read hh
  unfold fgt Ieee.Format.order
  rw [inf_word, r1]
  rfl
/-- A quotient is a number, or an infinity. -/
theorem div_np {a b : Nat} (ha : Nn a) (hb : Nn b) (h0 : rg b ≠ 0) : Nn (fdiv .f32 a b) ∨ fdiv .f32 a b = 2139095040 := by
  by_cases hr : rg (fdiv .f32 a b) < 2139095040
  · exact .inl (nn_div ha hb h0 hr)
  · obtain ⟨s, m, p, e, hs, hv⟩ := div_raw ha hb h0
    have hle := near_le m p
    have h1 : rg (fdiv .f32 a b) = FloatKind.f32.format.nearest false m p := by rw [e, rg_near hs]
    have hsf : s = false := by
      cases s with
      | false => rfl
      | true =>
        rw [hs rfl, near_zero] at h1
        have : FloatKind.f32.format.word false 0 = 0 := rfl
        omega
    subst hsf
    refine .inr ?_
    rw [nz_of_not (nearest_num .f32 false m p)] at e
    have e' : fdiv .f32 a b = FloatKind.f32.format.nearest false m p := e
    omega
theorem nan_word {r : Nat} (h1 : 2139095040 < r % 2147483648) : isNaN .f32 r = true := by
  have e2 : FloatKind.f32.format.signWeight = 2147483648 := by kernel_rfl
  have e3 : FloatKind.f32.format.binade = 8388608 := by kernel_rfl
  have e4 : FloatKind.f32.format.infRung = 2139095040 := by kernel_rfl
  show (FloatKind.f32.format.read r).isNaN = true
  unfold Ieee.Format.read
  dsimp only
  rw [e2, e3, e4, if_neg (by omega), if_neg (by omega), if_neg (by omega)]
  rfl
theorem order_nan {x y : Nat} (h : isNaN .f32 x = true) : FloatKind.f32.format.order x y = none := by
  have h1 : (FloatKind.f32.format.read x).isNaN = true := h
  unfold Ieee.Format.order
  cases hx : FloatKind.f32.format.read x with
  | nan s t => rfl
  | infinity s => rw [hx] at h1; cases h1
  | number s m e => rw [hx] at h1; cases h1
/-- What is above nought is so by its word. -/
theorem gt0_word {x : Nat} (h : flHas .f32 x) (hg : fgt .f32 x 0 = true) : x ≤ 2139095040 := by
  have hx : x < 4294967296 := h
  refine Nat.le_of_not_lt fun hlt => ?_
  have key : fgt .f32 x 0 = false := by
    rcases Nat.lt_or_ge x 2147483648 with h1 | h1
    · unfold fgt
      rw [order_nan (nan_word (r := x) (by omega))]
      rfl
    · obtain ⟨r, rfl⟩ : ∃ r, x = 2147483648 + r := ⟨x - 2147483648, by omega⟩
      rcases Nat.lt_trichotomy r 2139095040 with h2 | h2 | h2
      · rcases Nat.eq_zero_or_pos r with h3 | h3
        · subst h3
          kernel_rfl
        · unfold fgt
          rw [neg_order h3 h2 nn_0.1]
          rfl
      · subst h2
        kernel_rfl
      · unfold fgt
        rw [order_nan (nan_word (r := 2147483648 + r) (by omega))]
        rfl
  rw [key] at hg
  cases hg
theorem pos_nn {x : Nat} (h : flHas .f32 x) (hg : fgt .f32 x 0 = true) (h2 : fgt .f32 x 1149239296 = false) : Nn x ∧ rg x ≤ 1149239296 := by
  have h1 := gt0_word h hg
  have h3 : x ≠ 2139095040 := fun e => by
    rw [e, inf_gt (nb_self (K := 1149239296) (by decide)).1] at h2
    cases h2
  have n1 := nb_self (K := 1149239296) (by decide)
  have hn : Nn x := .inl (by omega)
  rw [fgt_nn hn n1.1, n1.2] at h2
  have := of_decide_eq_false h2
  exact ⟨hn, by omega⟩
theorem mul_one {a : Nat} (ha : Nn a) : rg (fmul .f32 a 1065353216) = rg a := by
  have n1 := nb_self (K := 1065353216) (by decide)
  have e : mag 1065353216 = 2 ^ 149 := by
    unfold mag
    rw [if_neg (by decide)]
  rw [rg_mul ha n1.1, n1.2, e]
  have h2 := nearest_shift FloatKind.f32.format false (mag (rg a)) 149 (-149)
  have e3 : (-149 : Int) - ((149 : Nat) : Int) = -298 := by omega
  rw [e3] at h2
  rw [h2, near_mag (nn_rg ha)]
theorem fneg_neg {r : Nat} (h : r < 2139095040) : fneg .f32 (2147483648 + r) = r := by
  have e : Op.negFloat .f32 (2147483648 + r) = r := by
    show (2147483648 + r) ^^^ 2 ^ 31 = r
    have h1 := Nat.two_pow_add_eq_or_of_lt (i := 31) (b := r) (by omega) 1
    have h2 : 2147483648 + r = 2 ^ 31 ^^^ r := by
      refine Nat.eq_of_testBit_eq fun i => ?_
      rw [Nat.testBit_xor]
      by_cases hi : i = 31
      · subst hi
        rw [Nat.testBit_two_pow_self, Nat.testBit_lt_two_pow (show r < 2 ^ 31 by omega)]
        have : (2147483648 + r).testBit 31 = true := by
          rw [Nat.testBit_eq_decide_div_mod_eq]
          exact decide_eq_true (by omega)
        rw [this]
        rfl
      · rw [Nat.testBit_two_pow_of_ne (by omega), Bool.false_xor]
        have e2 : 2147483648 + r = 2 ^ 31 * 1 + r := by omega
        rw [e2, Nat.testBit_two_pow_mul_add 1 (show r < 2 ^ 31 by omega)]
        by_cases h3 : i < 31
        · rw [if_pos h3]
        · rw [if_neg h3, Nat.testBit_lt_two_pow (show r < 2 ^ i from Nat.lt_of_lt_of_le (show r < 2 ^ 31 by omega) (Nat.pow_le_pow_right (by omega) (by omega)))]
          have : i - 31 ≠ 0 := by omega
          obtain ⟨k, hk⟩ : ∃ k, i - 31 = k + 1 := ⟨i - 32, by omega⟩
          rw [hk]
          simp [Nat.testBit_succ]
    rw [h2, Nat.xor_comm (2 ^ 31), Nat.xor_assoc, Nat.xor_self, Nat.xor_zero]
  unfold fneg
  rw [e]
  exact nz_of_not (by
    obtain ⟨s, m, e, r1, _⟩ := nn_read (b := r) (.inl h)
    show (FloatKind.f32.format.read r).isNaN = false
    rw [r1]
    rfl)
/-- How far apart two numbers are, by the rung. -/
noncomputable def dist (x y : Nat) : Nat := if rg y ≤ rg x then rg (fsub .f32 x y) else rg (fsub .f32 y x)
theorem fmax_pos {a b : Nat} (ha : Nn a) (hb : Nn b) : Nn (fmax .f32 a b) ∧ rg (fmax .f32 a b) = max (rg a) (rg b) := by
  unfold fmax
  rw [nn_order ha hb]
  rcases Nat.lt_trichotomy (rg a) (rg b) with h | h | h
  · rw [Nat.compare_eq_lt.2 h]
    exact ⟨hb, by dsimp only; omega⟩
  · rw [Nat.compare_eq_eq.2 h]
    dsimp only
    cases (FloatKind.f32.decode a).neg
    · exact ⟨ha, by dsimp only [cond_false]; omega⟩
    · exact ⟨hb, by dsimp only [cond_true]; omega⟩
  · rw [Nat.compare_eq_gt.2 h]
    exact ⟨ha, by dsimp only; omega⟩
theorem order_neg {r b : Nat} (h0 : 0 < r) (h : r < 2139095040) (hb : Nn b) : FloatKind.f32.format.order b (2147483648 + r) = some .gt := by
  have h1 : fgt .f32 b (2147483648 + r) = true := by
    rw [fgt_flip]
    unfold flt
    rw [neg_order h0 h hb]
    rfl
  unfold fgt at h1
  exact eq_of_beq h1
theorem max_sub {x y : Nat} (hx : Nn x) (hy : Nn y) : Nn (fmax .f32 (fsub .f32 x y) (fsub .f32 y x)) ∧ rg (fmax .f32 (fsub .f32 x y) (fsub .f32 y x)) = dist x y := by
  unfold dist
  rcases Nat.lt_trichotomy (rg x) (rg y) with h | h | h
  · obtain ⟨h1, h2, h3, h4⟩ := sub_lt hx hy h
    obtain ⟨q1, _⟩ := sub_ge hy hx (Nat.le_of_lt h)
    rw [if_neg (by omega), h1]
    unfold fmax
    rw [neg_order (by omega) h4 q1]
    exact ⟨q1, rfl⟩
  · obtain ⟨q1, q2⟩ := sub_ge hx hy (by omega)
    obtain ⟨q3, q4⟩ := sub_ge hy hx (by omega)
    obtain ⟨m1, m2⟩ := fmax_pos q1 q3
    rw [if_pos (by omega)]
    refine ⟨m1, ?_⟩
    rw [m2, q2, q4, h, Nat.max_self]
  · obtain ⟨h1, h2, h3, h4⟩ := sub_lt hy hx h
    obtain ⟨q1, _⟩ := sub_ge hx hy (Nat.le_of_lt h)
    rw [if_pos (by omega), h1]
    unfold fmax
    rw [order_neg (by omega) h4 q1]
    exact ⟨q1, rfl⟩

theorem size_sub {x y : Nat} (hx : Nn x) (hy : Nn y) : Nn (spec_l01Size (fsub .f32 x y)) ∧ rg (spec_l01Size (fsub .f32 x y)) = dist x y := by
  have hs : ∀ v, spec_l01Size v = bif flt .f32 v 0 then fneg .f32 v else v := fun v => by simp only [spec_l01Size, spec_l01Size.t, T.val]
  unfold dist
  rw [hs]
  by_cases h : rg y ≤ rg x
  · obtain ⟨h1, _⟩ := sub_ge hx hy h
    rw [if_pos h, flt_nn h1 nn_0.1, nn_0.2, decide_eq_false (by omega)]
    exact ⟨h1, rfl⟩
  · obtain ⟨h1, h2, h3, h4⟩ := sub_lt hx hy (by omega)
    have hf : flt .f32 (2147483648 + rg (fsub .f32 y x)) 0 = true := by
      unfold flt
      rw [neg_order (by omega) h4 nn_0.1]
      rfl
    rw [if_neg h, h1, hf, cond_true, fneg_neg h4]
    refine ⟨.inl h4, ?_⟩
    exact (nb_self h4).2

/-! Sums and products in either order; sizes; a doubled pull. -/
theorem add_comm' {a b : Nat} (ha : Nn a) (hb : Nn b) : rg (fadd .f32 a b) = rg (fadd .f32 b a) := by rw [rg_add ha hb, rg_add hb ha, Nat.add_comm]
theorem mul_comm' {a b : Nat} (ha : Nn a) (hb : Nn b) : rg (fmul .f32 a b) = rg (fmul .f32 b a) := by rw [rg_mul ha hb, rg_mul hb ha, Nat.mul_comm]
theorem fneg_pos {r : Nat} (h : r < 2139095040) : fneg .f32 r = 2147483648 + r := by
  have e : Op.negFloat .f32 r = 2147483648 + r := by
    have h1 := fneg_neg h
    have h2 : Op.negFloat .f32 (2147483648 + r) = r := by
      show (2147483648 + r) ^^^ 2 ^ 31 = r
      refine Nat.eq_of_testBit_eq fun i => ?_
      rw [Nat.testBit_xor]
      have e2 : 2147483648 + r = 2 ^ 31 * 1 + r := by omega
      by_cases hi : i = 31
      · subst hi
        rw [Nat.testBit_two_pow_self, Nat.testBit_lt_two_pow (show r < 2 ^ 31 by omega)]
        have : (2147483648 + r).testBit 31 = true := by
          rw [Nat.testBit_eq_decide_div_mod_eq]
          exact decide_eq_true (by omega)
        rw [this]
        rfl
      · rw [Nat.testBit_two_pow_of_ne (by omega), Bool.xor_false, e2, Nat.testBit_two_pow_mul_add 1 (show r < 2 ^ 31 by omega)]
        by_cases h3 : i < 31
        · rw [if_pos h3]
        · rw [if_neg h3, Nat.testBit_lt_two_pow (show r < 2 ^ i from Nat.lt_of_lt_of_le (show r < 2 ^ 31 by omega) (Nat.pow_le_pow_right (by omega) (by omega)))]
          obtain ⟨k, hk⟩ : ∃ k, i - 31 = k + 1 := ⟨i - 32, by omega⟩
          rw [hk]
          simp [Nat.testBit_succ]
    have h3 : (2147483648 + r) ^^^ 2 ^ 31 = r := h2
    show r ^^^ 2 ^ 31 = 2147483648 + r
    conv => lhs; rw [← h3]
    rw [Nat.xor_assoc, Nat.xor_self, Nat.xor_zero]
  unfold fneg
  rw [e]
  exact nz_of_not (by
    obtain ⟨m, e, r1, _⟩ := neg_read h
    show (FloatKind.f32.format.read (2147483648 + r)).isNaN = false
    rw [r1]
    rfl)
theorem fneg_zero : fneg .f32 2147483648 = 0 := by kernel_rfl
/-- The size of a number and of its opposite. -/
theorem abs_max {o : Nat} (h : Nn o) : (Nn (fmax .f32 o (fneg .f32 o)) ∧ rg (fmax .f32 o (fneg .f32 o)) = rg o) ∧ (Nn (fmax .f32 (fneg .f32 o) (fneg .f32 (fneg .f32 o))) ∧ rg (fmax .f32 (fneg .f32 o) (fneg .f32 (fneg .f32 o))) = rg o) := by
  have z : Nn 2147483648 ∧ rg 2147483648 = 0 := ⟨.inr rfl, by decide⟩
  rcases h with h | h
  · have hr := (nb_self h).2
    rcases Nat.eq_zero_or_pos o with h0 | h0
    · subst h0
      rw [fneg_pos h]
      have e : fneg .f32 (2147483648 + 0) = 0 := fneg_zero
      rw [e]
      obtain ⟨a1, a2⟩ := fmax_pos nn_0.1 z.1
      obtain ⟨a3, a4⟩ := fmax_pos z.1 nn_0.1
      rw [nn_0.2, z.2] at a2
      rw [nn_0.2, z.2] at a4
      exact ⟨⟨a1, by rw [nn_0.2]; exact a2⟩, ⟨a3, by rw [nn_0.2]; exact a4⟩⟩
    · rw [fneg_pos h, fneg_neg h]
      have hn : Nn o := .inl h
      constructor
      · unfold fmax
        rw [order_neg h0 h hn]
        exact ⟨hn, rfl⟩
      · unfold fmax
        rw [neg_order h0 h hn]
        exact ⟨hn, rfl⟩
  · subst h
    rw [fneg_zero]
    have e : fneg .f32 0 = 2147483648 := fneg_pos (by decide)
    rw [e]
    obtain ⟨a1, a2⟩ := fmax_pos z.1 nn_0.1
    obtain ⟨a3, a4⟩ := fmax_pos nn_0.1 z.1
    rw [nn_0.2, z.2] at a2
    rw [nn_0.2, z.2] at a4
    exact ⟨⟨a1, by rw [z.2]; exact a2⟩, ⟨a3, by rw [z.2]; exact a4⟩⟩
theorem fneg_nn {o : Nat} (h : Nn o) (h0 : rg o = 0) : Nn (fneg .f32 o) := by
  rcases h with h | h
  · have : o = 0 := by have := (nb_self h).2; omega
    subst this
    rw [fneg_pos (by decide)]
    exact .inr rfl
  · subst h
    rw [fneg_zero]
    exact nn_0.1
theorem log2_ge {m L : Nat} (h : 2 ^ L ≤ m) : L ≤ m.log2 := by
  have hm : m ≠ 0 := by have := Nat.two_pow_pos L; omega
  exact (Nat.le_log2 hm).2 h
/-- Twice a number over the same is twice as much. -/
theorem div_dbl {t t2 g : Nat} (ht : Nn t) (ht2 : Nn t2) (hg : Nn g) (h2 : mag (rg t2) = 2 * mag (rg t)) (h1 : 1065353216 ≤ rg t) (hg1 : 1065353216 ≤ rg g) (hg2 : rg g ≤ 1166016512) : rg (fdiv .f32 t2 g) = min (rg (fdiv .f32 t g) + 8388608) 2139095040 ∧ 8388608 ≤ rg (fdiv .f32 t g) := by
  obtain ⟨L, hL⟩ : ∃ L, L = 1000 := ⟨_, rfl⟩
  have hM : 2 ^ 149 ≤ mag (rg t) := by
    have := mag_le_iff.2 h1
    have e : mag 1065353216 = 2 ^ 149 := by
      unfold mag
      rw [if_neg (by decide)]
    rwa [e] at this
  have hN : mag (rg g) ≤ 2 ^ 161 := by
    have := mag_le_iff.2 hg2
    have e : mag 1166016512 = 2 ^ 161 := by
      unfold mag
      rw [if_neg (by decide)]
    rwa [e] at this
  have hN0 : 0 < mag (rg g) := mag_pos (by omega)
  rw [rg_div ht2 hg (by omega) L (by omega), rg_div ht hg (by omega) (L + 1) (by omega), h2]
  have eq : qs (2 * mag (rg t)) (mag (rg g)) L = qs (mag (rg t)) (mag (rg g)) (L + 1) := by
    unfold qs
    have : 2 * mag (rg t) * 2 ^ L = mag (rg t) * 2 ^ (L + 1) := by
      rw [Nat.pow_succ, Nat.mul_comm 2, Nat.mul_assoc, Nat.mul_comm 2]
    rw [this]
  rw [eq]
  have hq : 2 ^ (L - 11) ≤ qs (mag (rg t)) (mag (rg g)) (L + 1) := by
    have h3 : 2 ^ (L - 11) ≤ mag (rg t) * 2 ^ (L + 1) / mag (rg g) := by
      refine (Nat.le_div_iff_mul_le hN0).2 ?_
      have h4 : 2 ^ (L - 11) * mag (rg g) ≤ 2 ^ (L - 11) * 2 ^ 161 := Nat.mul_le_mul_left _ hN
      have h5 : 2 ^ 149 * 2 ^ (L + 1) ≤ mag (rg t) * 2 ^ (L + 1) := Nat.mul_le_mul_right _ hM
      rw [← Nat.pow_add] at h4 h5
      have h6 : L - 11 + 161 = 149 + (L + 1) := by omega
      rw [h6] at h4
      exact Nat.le_trans h4 h5
    unfold qs
    omega
  have hlog := log2_ge hq
  have hne : qs (mag (rg t)) (mag (rg g)) (L + 1) ≠ 0 := by
    have := Nat.two_pow_pos (L - 11)
    omega
  have hs := near_scale (p := -((L + 1 : Nat) : Int) - 1) hne (by omega)
  have e2 : -((L + 1 : Nat) : Int) - 1 + 1 = -(L : Int) - 1 := by omega
  rw [e2] at hs
  refine ⟨hs, ?_⟩
  have e1 : FloatKind.f32.format.leastPlace = -149 := by kernel_rfl
  have e3 : FloatKind.f32.format.fractionBits = 23 := rfl
  have e4 : FloatKind.f32.format.binade = 8388608 := by kernel_rfl
  have e5 : FloatKind.f32.format.infRung = 2139095040 := by kernel_rfl
  have h7 := nearest_ge FloatKind.f32.format (qs (mag (rg t)) (mag (rg g)) (L + 1)) (-((L + 1 : Nat) : Int) - 1) hne (by rw [e1, e3]; omega)
  rw [e1, e3, e4, e5] at h7
  refine Nat.le_trans ?_ h7
  refine Nat.le_min.2 ⟨?_, by decide⟩
  exact Nat.le_mul_of_pos_left _ (Nat.succ_pos _)
theorem pull_mono {t t2 g : Nat} (ht : Nn t) (ht2 : Nn t2) (hg : Nn g) (h2 : mag (rg t2) = 2 * mag (rg t)) (h1 : rg t = 0 ∨ 1065353216 ≤ rg t) (h3 : rg t2 ≤ 1200000000) (hg1 : 1065353216 ≤ rg g) (hg2 : rg g ≤ 1166016512) :
    rg (fsub .f32 t (fdiv .f32 t g)) ≤ rg (fsub .f32 t2 (fdiv .f32 t2 g)) := by
  have hlt : rg t ≤ rg t2 := by
    refine mag_le_iff.1 ?_
    omega
  have d1 := div_le ht hg hg1
  have d2 := div_le ht2 hg hg1
  have n1 := nn_div ht hg (by omega) (by omega)
  have n2 := nn_div ht2 hg (by omega) (by omega)
  rw [(sub_ge ht n1 d1).2, (sub_ge ht2 n2 d2).2]
  rcases h1 with h1 | h1
  · have e : mag (rg t) = 0 := by rw [h1]; decide
    rw [e, Nat.zero_sub, near_zero]
    exact Nat.zero_le _
  · obtain ⟨e1, e2⟩ := div_dbl ht ht2 hg h2 h1 hg1 hg2
    have e3 : rg (fdiv .f32 t2 g) = dbl (rg (fdiv .f32 t g)) := by
      rw [e1]
      unfold dbl
      rw [if_neg (by omega)]
      omega
    rw [e3, mag_dbl, h2]
    refine nearest_mono _ _ ?_
    omega

theorem size_eq (x : Nat) (h : flHas .f32 x) : impl_size x = spec_l01Size x := by
  simp only [impl_size, impl_size.t, spec_l01Size, spec_l01Size.t, T.val]
  cases hl : flt .f32 x 0 with
  | false => rfl
  | true => exact sub_zero_neg .f32 x h hl

/-! More bounds by rungs. -/
theorem fge_nn {a b : Nat} (ha : Nn a) (hb : Nn b) : fge .f32 a b = decide (rg b ≤ rg a) := by rw [fge_flip, fle_nn hb ha]
theorem fne_nn {a b : Nat} (ha : Nn a) (hb : Nn b) : fne .f32 a b = decide (rg a ≠ rg b) := by
  unfold fne
  rw [nn_order ha hb]
  by_cases h : rg a = rg b
  · rw [h, decide_eq_false (by omega)]
    simp
  · rw [decide_eq_true (by omega)]
    rcases Nat.lt_or_gt_of_ne h with h1 | h1
    · rw [Nat.compare_eq_lt.2 h1]
      rfl
    · rw [Nat.compare_eq_gt.2 h1]
      rfl
theorem le_add_l {a b : Nat} (ha : Nn a) (hb : Nn b) : rg a ≤ rg (fadd .f32 a b) := by
  have h0 := rg_add ha nn_0.1
  rw [nn_0.2, show mag 0 = 0 by decide, Nat.add_zero, near_mag (nn_rg ha)] at h0
  have := add_mono ha ha nn_0.1 hb (Nat.le_refl _) (by rw [nn_0.2]; omega)
  omega
theorem le_add_r {a b : Nat} (ha : Nn a) (hb : Nn b) : rg b ≤ rg (fadd .f32 a b) := by
  rw [add_comm' ha hb]
  exact le_add_l hb ha
theorem rung_add {a b c d : Nat} (ha : Nn a) (hb : Nn b) (hc : Nn c) (hd : Nn d) (h1 : rg a = rg c) (h2 : rg b = rg d) : rg (fadd .f32 a b) = rg (fadd .f32 c d) := by rw [rg_add ha hb, rg_add hc hd, h1, h2]
theorem rung_mul {a b c d : Nat} (ha : Nn a) (hb : Nn b) (hc : Nn c) (hd : Nn d) (h1 : rg a = rg c) (h2 : rg b = rg d) : rg (fmul .f32 a b) = rg (fmul .f32 c d) := by rw [rg_mul ha hb, rg_mul hc hd, h1, h2]
theorem rung_div {a b c d : Nat} (ha : Nn a) (hb : Nn b) (hc : Nn c) (hd : Nn d) (h0 : rg b ≠ 0) (h1 : rg a = rg c) (h2 : rg b = rg d) : rg (fdiv .f32 a b) = rg (fdiv .f32 c d) := by
  obtain ⟨L, hL⟩ : ∃ L, L = 1000 := ⟨_, rfl⟩
  rw [rg_div ha hb h0 L (by omega), rg_div hc hd (by omega) L (by omega), h1, h2]
theorem div_up {J K a b : Nat} (ha : Nb J a) (hb : Nn b) (hk : K ≤ rg b) (hJ : J < 2139095040) (hK : K < 2139095040) (h0 : K ≠ 0) : rg (fdiv .f32 a b) ≤ rg (fdiv .f32 J K) := by
  have nJ := nb_self hJ
  have nK := nb_self hK
  refine div_mono ha.1 hb nJ.1 nK.1 (by omega) (by rw [nK.2]; exact h0) ?_
  rw [nJ.2, nK.2]
  exact Nat.mul_le_mul (mag_le_iff.2 ha.2) (mag_le_iff.2 hk)
theorem nb_div {J K L a b : Nat} (ha : Nb J a) (hb : Nn b) (hk : K ≤ rg b) (hJ : J < 2139095040) (hK : K < 2139095040) (h : decide (K ≠ 0 ∧ rg (fdiv .f32 J K) ≤ L) = true) (hL : L < 2139095040) : Nb L (fdiv .f32 a b) := by
  have h' := of_decide_eq_true h
  have h1 := div_up ha hb hk hJ hK h'.1
  exact ⟨nn_div ha.1 hb (by omega) (by omega), by omega⟩
theorem div_dn {J K a b : Nat} (ha : Nn a) (hk : K ≤ rg a) (hb : Nb J b) (h0 : rg b ≠ 0) (hJ : J < 2139095040) (hK : K < 2139095040) : rg (fdiv .f32 K J) ≤ rg (fdiv .f32 a b) := by
  have nJ := nb_self hJ
  have nK := nb_self hK
  have hj := hb.2
  refine div_mono nK.1 nJ.1 ha hb.1 (by rw [nJ.2]; omega) h0 ?_
  rw [nJ.2, nK.2]
  exact Nat.mul_le_mul (mag_le_iff.2 hk) (mag_le_iff.2 hb.2)
theorem mul_dn {J K a b : Nat} (ha : Nn a) (hb : Nn b) (hj : J ≤ rg a) (hk : K ≤ rg b) (hJ : J < 2139095040) (hK : K < 2139095040) : rg (fmul .f32 J K) ≤ rg (fmul .f32 a b) := by
  have nJ := nb_self hJ
  have nK := nb_self hK
  exact mul_mono nJ.1 ha nK.1 hb (by rw [nJ.2]; exact hj) (by rw [nK.2]; exact hk)
theorem two_mul {a : Nat} (ha : Nn a) (h : rg a ≤ 2130706431) : rg (fmul .f32 1073741824 a) = dbl (rg a) := by
  have n1 := nb_self (K := 1073741824) (by decide)
  have e : mag 1073741824 = 2 ^ 150 := by
    unfold mag
    rw [if_neg (by decide)]
  rw [rg_mul n1.1 ha, n1.2, e]
  have h2 := nearest_shift FloatKind.f32.format false (2 * mag (rg a)) 149 (-149)
  have e3 : (-149 : Int) - ((149 : Nat) : Int) = -298 := by omega
  rw [e3] at h2
  have e4 : 2 ^ 150 * mag (rg a) = 2 * mag (rg a) * 2 ^ 149 := by
    rw [show (2 : Nat) ^ 150 = 2 * 2 ^ 149 from Nat.pow_succ' , Nat.mul_assoc, Nat.mul_assoc, Nat.mul_comm (2 ^ 149)]
  rw [e4, h2, near_dbl h]
theorem one_mag : mag 1065353216 = 2 ^ 149 := by
  unfold mag
  rw [if_neg (by decide)]
theorem nn_is {a : Nat} (ha : Nn a) (h : rg a ≠ 0) : a = rg a ∧ a < 2139095040 := by
  rcases ha with h1 | h1
  · exact ⟨(nb_self h1).2.symm, h1⟩
  · rw [h1] at h
    exact absurd (by decide) h

/-! A text cut at a byte. -/
def pre (a : List UInt8) : List (List UInt8) → List (List UInt8)
  | [] => [a]
  | h :: t => (a ++ h) :: t
def pcs (c : UInt8) : List UInt8 → List (List UInt8)
  | [] => [[]]
  | b :: r => if b = c then [] :: pcs c r else pre [b] (pcs c r)
theorem pcs_ne (c : UInt8) : ∀ l, pcs c l ≠ []
  | [] => by simp [pcs]
  | b :: r => by
    unfold pcs
    split
    · simp
    · cases h : pcs c r with
      | nil => exact absurd h (pcs_ne c r)
      | cons x t => simp [pre]
theorem pre_pre (a b : List UInt8) (l : List (List UInt8)) (h : l ≠ []) : pre a (pre b l) = pre (a ++ b) l := by
  cases l with
  | nil => exact absurd rfl h
  | cons x t => simp [pre]
/-- The pieces with the byte between are the text. -/
theorem pcs_join (c : UInt8) : ∀ l, List.intercalate [c] (pcs c l) = l
  | [] => by simp [pcs, List.intercalate, List.intersperse]
  | b :: r => by
    have ih := pcs_join c r
    unfold pcs
    split
    · rename_i h
      subst h
      cases hp : pcs b r with
      | nil => exact absurd hp (pcs_ne b r)
      | cons x t =>
        rw [hp] at ih
        simp [List.intercalate, List.intersperse] at ih ⊢
        exact ih
    · cases hp : pcs c r with
      | nil => exact absurd hp (pcs_ne c r)
      | cons x t =>
        rw [hp] at ih
        cases t with
        | nil =>
          simp [pre, List.intercalate, List.intersperse] at ih ⊢
          exact ih
        | cons y t =>
          simp [pre, List.intercalate, List.intersperse] at ih ⊢
          exact ih
theorem splitK_pcs (c : UInt8) : ∀ l : List UInt8, Go.Lib.splitK [c] 0 (l.count c) l = pcs c l
  | [] => rfl
  | b :: r => by
    have ih := splitK_pcs c r
    by_cases h : b = c
    · subst h
      have e : Go.Lib.index (b :: r) [b] = 0 := by
        unfold Go.Lib.index
        rw [if_pos (by simp [List.isPrefixOf])]
      rw [List.count_cons_self]
      unfold Go.Lib.splitK pcs
      rw [e, if_neg (by decide), if_pos rfl]
      simp [ih]
    · have e : Go.Lib.index (b :: r) [c] = if Go.Lib.index r [c] == -1 then -1 else Go.Lib.index r [c] + 1 := by
        conv => lhs; unfold Go.Lib.index
        rw [if_neg (by simp [List.isPrefixOf]; exact fun hh => absurd hh.symm h)]
      rw [List.count_cons_of_ne (by simpa using h)]
      unfold pcs
      rw [if_neg h, ← ih]
      cases hk : r.count c with
      | zero => rfl
      | succ k =>
        unfold Go.Lib.splitK
        rw [e]
        by_cases hi : (Go.Lib.index r [c] == -1) = true
        · rw [if_pos hi, if_pos (by rfl), if_pos hi]
          rfl
        · have hge := Go.Lib.index_ge r [c]
          have hne : Go.Lib.index r [c] ≠ -1 := fun q => hi (by rw [q]; rfl)
          obtain ⟨i, hi2⟩ : ∃ i : Nat, Go.Lib.index r [c] = i := ⟨(Go.Lib.index r [c]).toNat, by omega⟩
          rw [if_neg hi, hi2, if_neg (by simp; omega), if_neg (by simp)]
          have e2 : ((i : Int) + 1).toNat = i + 1 := by omega
          simp [pre, e2]
theorem split_pieces (x : ByteArray) (c : UInt8) : (splitL x (ByteArray.mk #[c])).map (·.data.toList) = pcs c x.data.toList := by
  unfold splitL
  rw [Go.Lib.splitB_data]
  have e : Go.Lib.countB x (ByteArray.mk #[c]) = x.data.toList.count c := by
    show Go.Lib.count x.data.toList [c] = _
    exact Go.Lib.count_one c _
  rw [e]
  exact splitK_pcs c _
theorem bytes_ext {xs ys : List ByteArray} (h : xs.map (·.data.toList) = ys.map (·.data.toList)) : xs = ys := by
  induction xs generalizing ys with
  | nil =>
    cases ys with
    | nil => rfl
    | cons y r => cases h
  | cons x r ih =>
    cases ys with
    | nil => cases h
    | cons y s =>
      simp only [List.map_cons, List.cons.injEq] at h
      rw [ih h.2, ByteArray.ext (Array.ext' h.1)]
theorem pcs_ncut {c : UInt8} : ∀ {l : List UInt8}, (∀ x ∈ l, x ≠ c) → pcs c l = [l]
  | [], _ => rfl
  | b :: r, h => by
    unfold pcs
    rw [if_neg (h b (List.mem_cons_self ..)), pcs_ncut (fun x hx => h x (List.mem_cons_of_mem _ hx))]
    rfl
theorem pcs_cut {c : UInt8} : ∀ {l : List UInt8} (r : List UInt8), (∀ x ∈ l, x ≠ c) → pcs c (l ++ c :: r) = l :: pcs c r
  | [], r, _ => by
    rw [List.nil_append, pcs, if_pos rfl]
  | b :: l, r, h => by
    rw [List.cons_append, pcs, if_neg (h b (List.mem_cons_self ..)), pcs_cut r (fun x hx => h x (List.mem_cons_of_mem _ hx))]
    rfl

/-- A hexadecimal digit. -/
def dg (n : Nat) : Int := byteAt (ByteArray.mk #[48, 49, 50, 51, 52, 53, 54, 55, 56, 57, 97, 98, 99, 100, 101, 102]) (n : Int)
def hexL (x : Nat) : List Int := [dg (x / 268435456 % 16), dg (x / 16777216 % 16), dg (x / 1048576 % 16), dg (x / 65536 % 16), dg (x / 4096 % 16), dg (x / 256 % 16), dg (x / 16 % 16), dg (x % 16)]
/-- The text of a number's word. -/
def hexT (x : Nat) : ByteArray := Sx.strOf (hexL x)
theorem strOf_size : ∀ (xs : List Int) (b : ByteArray), (xs.foldl (fun r n => r.push (UInt8.ofNat n.toNat)) b).size = b.size + xs.length
  | [], b => rfl
  | x :: r, b => by
    rw [List.foldl_cons, strOf_size r, ByteArray.size_push, List.length_cons]
    omega
theorem hexT_size (x : Nat) : (hexT x).size = 8 := by
  unfold hexT Sx.strOf
  rw [strOf_size]
  rfl
theorem wrapu32 {n : Nat} (h : n < 4294967296) : IntKind.wrap .u32 (n : Int) = n := by
  have : IntKind.wrap .u32 (n : Int) = (n : Int) % 4294967296 := rfl
  rw [this]
  omega
theorem ibits15 (n : Nat) (h : n < 4294967296) : ibits .and .u32 (n : Int) 15 = ((n % 16 : Nat) : Int) := by
  have e : (BitVec.ofInt 32 (n : Int) &&& BitVec.ofInt 32 15).toNat = n % 16 := by
    rw [BitVec.toNat_and]
    have e1 : (BitVec.ofInt 32 (n : Int)).toNat = n := by simp; omega
    have e2 : (BitVec.ofInt 32 15).toNat = 2 ^ 4 - 1 := by decide
    rw [e1, e2, Nat.and_two_pow_sub_one_eq_mod]
  show IntKind.wrap .u32 (((BitVec.ofInt 32 (n : Int) &&& BitVec.ofInt 32 15).toNat : Nat) : Int) = _
  rw [e]
  exact wrapu32 (by omega)
theorem bound16 (n : Nat) (h : n < 16) : bounds (n : Int) (ByteArray.size (ByteArray.mk #[48, 49, 50, 51, 52, 53, 54, 55, 56, 57, 97, 98, 99, 100, 101, 102])) = true := by
  have e : ByteArray.size (ByteArray.mk #[48, 49, 50, 51, 52, 53, 54, 55, 56, 57, 97, 98, 99, 100, 101, 102]) = 16 := rfl
  rw [e, bounds_nat, decide_eq_true h]

def implH (x : Nat) : Nat → List Int
  | 0 => []
  | j + 1 => implH x j ++ [dg (x / 2 ^ (28 - 4 * j) % 16)]
theorem implH_len (x : Nat) : ∀ j, (implH x j).length = j
  | 0 => rfl
  | j + 1 => by
    show (implH x j ++ _).length = _
    rw [List.length_append, implH_len x j]
    rfl
theorem implH_8 (x : Nat) : implH x 8 = hexL x := by
  have e : implH x 8 = [dg (x / 2 ^ 28 % 16), dg (x / 2 ^ 24 % 16), dg (x / 2 ^ 20 % 16), dg (x / 2 ^ 16 % 16), dg (x / 2 ^ 12 % 16), dg (x / 2 ^ 8 % 16), dg (x / 2 ^ 4 % 16), dg (x / 2 ^ 0 % 16)] := rfl
  rw [e]
  unfold hexL
  rw [show (2 : Nat) ^ 28 = 268435456 by decide, show (2 : Nat) ^ 24 = 16777216 by decide, show (2 : Nat) ^ 20 = 1048576 by decide, show (2 : Nat) ^ 16 = 65536 by decide, show (2 : Nat) ^ 12 = 4096 by decide, show (2 : Nat) ^ 8 = 256 by decide, show (2 : Nat) ^ 4 = 16 by decide, show (2 : Nat) ^ 0 = 1 by decide, Nat.div_one]
theorem impl_r (x : Nat) (h : x < 4294967296) : impl_NumberText.l5v1.r (x : Int) (0, (28 : Int), []) = some (8, hexL x) := by
  have hf := iter_run (step := impl_NumberText.l5v1.st (x : Int)) (f := fun j => (j, (28 : Int) - 4 * (j : Int), implH x j)) (e := (8, implH x 8)) (n := 8) (N := manyRounds) (k := 0) (many_lt (by omega)) (fun j hj => ?_) ?_
  · rw [implH_8] at hf
    exact hf
  · simp only [Nat.zero_add]
    have e0 : (28 : Int) - 4 * (j : Int) = ((28 - 4 * j : Nat) : Int) := by omega
    have e1 : min (28 - 4 * j) 32 = 28 - 4 * j := by omega
    have e2 : Int.fdiv (x : Int) (2 ^ (28 - 4 * j)) = ((x / 2 ^ (28 - 4 * j) : Nat) : Int) := by
      rw [Int.fdiv_eq_ediv_of_nonneg _ (Int.pow_nonneg (by decide)), Int.natCast_ediv, Int.natCast_pow]
      rfl
    have e4 : IntKind.wrap .i64 (((28 - 4 * j : Nat) : Int) - 4) = (28 : Int) - 4 * ((j + 1 : Nat) : Int) := by rw [wrap64 (by omega) (by omega)]; omega
    have hc : ∀ y : Int, (Nat.ble 1 (List.length [y]) && (Nat.beq (List.length (implH x j)) (j * 1) && Nat.ble ((j + 1) * 1) 35184372088832 && Nat.ble (j + 1) 35184372088832)) = true := fun y => by
      rw [implH_len, Nat.mul_one, Nat.mul_one, Nat.beq_refl, ble_decide, ble_decide, decide_eq_true (by simp : 1 ≤ List.length [y]), decide_eq_true (by omega : j + 1 ≤ 35184372088832)]
      rfl
    simp only [impl_NumberText.l5v1.st, impl_NumberText.l5v1.s, T.get, e0, e4, Int.toNat_natCast, e1, e2, ibits15 _ (Nat.lt_of_le_of_lt (Nat.div_le_self _ _) h), bound16 _ (Nat.mod_lt _ (by omega : 0 < 16)), hc]
    rw [decide_eq_true (by omega : ((28 - 4 * j : Nat) : Int) ≥ 0), decide_eq_false (by omega : ¬ ((28 - 4 * j : Nat) : Int) < 0)]
    rfl
  · simp only [Nat.zero_add]
    rfl
theorem impl_hex (x : Nat) (h : x < 4294967296) (hn : isNaN .f32 x = false) : (impl_NumberText.t x).get = some (hexT x) := by
  have hlen : (hexL x).length = 8 := rfl
  simp only [impl_NumberText.t, T.get, fne_self, hn, impl_r x h, Option.isSome_some, Option.getD_some, hlen]
  rfl

/-! A number read from its text. -/
def D16 : List UInt8 := [48, 49, 50, 51, 52, 53, 54, 55, 56, 57, 97, 98, 99, 100, 101, 102]
def isDg (b : UInt8) : Bool := (decide (48 ≤ b.toNat) && decide (b.toNat ≤ 57)) || (decide (97 ≤ b.toNat) && decide (b.toNat ≤ 102))
/-- A digit's value; of what is none, nought. -/
def dv (b : UInt8) : Nat := if b.toNat ≤ 57 then (if 48 ≤ b.toNat then b.toNat - 48 else 0) else if 97 ≤ b.toNat then (if b.toNat ≤ 102 then b.toNat - 87 else 0) else 0
def dgB (n : Nat) : UInt8 := UInt8.ofNat (dg n).toNat
theorem byteAll {p : UInt8 → Bool} (h : (List.range 256).all (fun n => p (UInt8.ofNat n)) = true) (b : UInt8) : p b = true := by
  rw [List.all_eq_true] at h
  have := h b.toNat (by have := b.toNat_lt; simpa using this)
  simpa using this
theorem dv_lt (b : UInt8) : dv b < 16 := by
  have := byteAll (p := fun b => decide (dv b < 16)) (by decide +kernel) b
  simpa using this
theorem dv_index (b : UInt8) : (if (0 : Int) > Go.Lib.indexByte D16 b then (0 : Int) else Go.Lib.indexByte D16 b) = (dv b : Int) := by
  have := byteAll (p := fun b => decide ((if (0 : Int) > Go.Lib.indexByte D16 b then (0 : Int) else Go.Lib.indexByte D16 b) = (dv b : Int))) (by decide +kernel) b
  simpa using this
theorem dgB_dv (b : UInt8) (h : isDg b = true) : dgB (dv b) = b := by
  have := byteAll (p := fun b => !isDg b || decide (dgB (dv b) = b)) (by decide +kernel) b
  simpa [h] using this
theorem dg_is (n : Nat) (h : n < 16) : isDg (dgB n) = true ∧ dv (dgB n) = n := by
  have := (List.all_eq_true.1 (show (List.range 16).all (fun n => isDg (dgB n) && decide (dv (dgB n) = n)) = true by decide +kernel)) n (by simpa using h)
  simpa using this
/-- The value of the first digits. -/
def acc (bs : List UInt8) : Nat → Nat
  | 0 => 0
  | i + 1 => acc bs i * 16 + dv (bs.getD i 0)
theorem acc_lt (bs : List UInt8) : ∀ i, acc bs i < 16 ^ i
  | 0 => Nat.one_pos
  | i + 1 => by
    have h1 := acc_lt bs i
    have h2 := dv_lt (bs.getD i 0)
    show acc bs i * 16 + dv _ < 16 ^ (i + 1)
    rw [Nat.pow_succ]
    omega
theorem acc32 (bs : List UInt8) {i : Nat} (h : i ≤ 8) : acc bs i < 4294967296 := by
  have h1 := acc_lt bs i
  have h2 : 16 ^ i ≤ 16 ^ 8 := Nat.pow_le_pow_right (by decide) h
  have : (16 : Nat) ^ 8 = 4294967296 := by decide
  omega
theorem acc28 (bs : List UInt8) {i : Nat} (h : i ≤ 7) : acc bs i < 268435456 := by
  have h1 := acc_lt bs i
  have h2 : 16 ^ i ≤ 16 ^ 7 := Nat.pow_le_pow_right (by decide) h
  have : (16 : Nat) ^ 7 = 268435456 := by decide
  omega
theorem ior16 (a d : Nat) (ha : a < 268435456) (hd : d < 16) : ibits .or .u32 (IntKind.wrap .u32 ((a : Int) * (2 ^ min (Int.toNat (4 : Int)) 32))) (IntKind.wrap .u32 (d : Int)) = ((a * 16 + d : Nat) : Int) := by
  have e0 : (2 : Int) ^ min (Int.toNat (4 : Int)) 32 = 16 := by decide
  have e1 : (a : Int) * 16 = ((a * 16 : Nat) : Int) := by omega
  rw [e0, e1, wrapu32 (by omega), wrapu32 (by omega)]
  have e : (BitVec.ofInt 32 ((a * 16 : Nat) : Int) ||| BitVec.ofInt 32 (d : Int)).toNat = a * 16 + d := by
    rw [BitVec.toNat_or]
    have e1 : (BitVec.ofInt 32 ((a * 16 : Nat) : Int)).toNat = a * 16 := by simp; omega
    have e2 : (BitVec.ofInt 32 (d : Int)).toNat = d := by simp; omega
    rw [e1, e2]
    have := Nat.shiftLeft_add_eq_or_of_lt (a := a) (b := d) (i := 4) (by omega)
    rw [Nat.shiftLeft_eq] at this
    exact this.symm
  show IntKind.wrap .u32 (((BitVec.ofInt 32 ((a * 16 : Nat) : Int) ||| BitVec.ofInt 32 (d : Int)).toNat : Nat) : Int) = _
  rw [e]
  exact wrapu32 (by omega)
theorem byte_of (w : ByteArray) (i : Nat) : byteAt w (i : Int) = ((w.data.toList.getD i 0).toNat : Int) := by
  unfold byteAt
  rw [Int.toNat_natCast]
theorem impl_n (w : ByteArray) : impl_ReadNumber.l3.r (w, (if (8 : Int) < ((w.size : Nat) : Int) then (8 : Int) else ((w.size : Nat) : Int))) (0, 0) = some ((acc w.data.toList (min 8 w.size) : Nat) : Int) := by
  have e : (if (8 : Int) < ((w.size : Nat) : Int) then (8 : Int) else ((w.size : Nat) : Int)) = ((min 8 w.size : Nat) : Int) := by
    split <;> omega
  rw [e]
  have hf := iter_run (step := impl_ReadNumber.l3.st (w, ((min 8 w.size : Nat) : Int))) (f := fun i => (((acc w.data.toList i : Nat) : Int), (i : Int))) (e := ((acc w.data.toList (min 8 w.size) : Nat) : Int)) (n := min 8 w.size) (N := manyRounds) (k := 0) (many_lt (by omega)) (fun i hi => ?_) ?_
  · exact hf
  · simp only [Nat.zero_add]
    have hi8 : i < 8 := by omega
    have eb : Nat.toUInt8 (Int.toNat (byteAt w (i : Int))) = w.data.toList.getD i 0 := by
      rw [byte_of, Int.toNat_natCast]
      simp
    have ed := dv_index (w.data.toList.getD i 0)
    unfold D16 at ed
    simp only [impl_ReadNumber.l3.st, impl_ReadNumber.l3.s, T.get, bounds_nat, eb, ed, ior16 _ _ (acc28 w.data.toList (show i ≤ 7 by omega)) (dv_lt _)]
    rw [decide_eq_true (by omega : (i : Int) < ((min 8 w.size : Nat) : Int)), decide_eq_true (by omega : i < w.size), wrap64_succ (by omega)]
    rfl
  · simp only [Nat.zero_add, impl_ReadNumber.l3.st, impl_ReadNumber.l3.s, T.get]
    rw [decide_eq_false (by omega)]
    rfl
/-- Whether all eight are digits. -/
def allDg (w : ByteArray) : Bool := !(firstAt (fun i => !isDg (w.data.toList.getD i 0)) 8 0).isSome
/-! A word's text, and what is read of it. -/
theorem strOf_data : ∀ (xs : List Int) (b : ByteArray), (xs.foldl (fun r n => r.push (UInt8.ofNat n.toNat)) b).data.toList = b.data.toList ++ xs.map (fun n => UInt8.ofNat n.toNat)
  | [], b => by simp
  | x :: r, b => by
    rw [List.foldl_cons, strOf_data r]
    simp [ByteArray.push]
theorem hexT_data (n : Nat) : (hexT n).data.toList = [dgB (n / 268435456 % 16), dgB (n / 16777216 % 16), dgB (n / 1048576 % 16), dgB (n / 65536 % 16), dgB (n / 4096 % 16), dgB (n / 256 % 16), dgB (n / 16 % 16), dgB (n % 16)] := by
  unfold hexT Sx.strOf
  rw [strOf_data]
  rfl
theorem hexT_acc (n : Nat) (h : n < 4294967296) : acc (hexT n).data.toList 8 = n := by
  rw [hexT_data]
  have e : ∀ a b c d e f g i : UInt8, acc [a, b, c, d, e, f, g, i] 8 = ((((((((0 * 16 + dv a) * 16 + dv b) * 16 + dv c) * 16 + dv d) * 16 + dv e) * 16 + dv f) * 16 + dv g) * 16 + dv i) := fun _ _ _ _ _ _ _ _ => rfl
  rw [e]
  have q : ∀ k, dv (dgB (k % 16)) = k % 16 := fun k => (dg_is _ (Nat.mod_lt _ (by omega))).2
  rw [q, q, q, q, q, q, q, q]
  omega
theorem hexT_digits (n : Nat) : allDg (hexT n) = true := by
  unfold allDg
  have q : ∀ k, isDg (dgB (k % 16)) = true := fun k => (dg_is _ (Nat.mod_lt _ (by omega))).1
  have : firstAt (fun i => !isDg ((hexT n).data.toList.getD i 0)) 8 0 = none := by
    refine firstAt_none.2 fun i _ hi => ?_
    rw [hexT_data]
    match i, hi with
    | 0, _ | 1, _ | 2, _ | 3, _ | 4, _ | 5, _ | 6, _ | 7, _ => simp [q]
  rw [this]
  rfl
/-- Eight digits are the text of their value. -/
theorem text_of (w : ByteArray) (hw : w.size = 8) (h : allDg w = true) : hexT (acc w.data.toList 8) = w := by
  have hl : w.data.toList.length = 8 := hw
  have hd : ∀ i, i < 8 → isDg (w.data.toList.getD i 0) = true := by
    intro i hi
    unfold allDg at h
    cases hf : firstAt (fun i => !isDg (w.data.toList.getD i 0)) 8 0 with
    | none => simpa using firstAt_none.1 hf i (by omega) (by omega)
    | some j => rw [hf] at h; cases h
  refine ByteArray.ext (Array.ext' ?_)
  rw [hexT_data]
  generalize w.data.toList = l at hl hd ⊢
  match l, hl with
  | [a, b, c, d, e, f, g, i], _ =>
    have d0 := hd 0 (by omega); have d1 := hd 1 (by omega); have d2 := hd 2 (by omega); have d3 := hd 3 (by omega)
    have d4 := hd 4 (by omega); have d5 := hd 5 (by omega); have d6 := hd 6 (by omega); have d7 := hd 7 (by omega)
    simp only [List.getD_cons_zero, List.getD_cons_succ] at d0 d1 d2 d3 d4 d5 d6 d7
    have e0 : acc [a, b, c, d, e, f, g, i] 8 = ((((((((0 * 16 + dv a) * 16 + dv b) * 16 + dv c) * 16 + dv d) * 16 + dv e) * 16 + dv f) * 16 + dv g) * 16 + dv i) := rfl
    rw [e0]
    have ka := dv_lt a; have kb := dv_lt b; have kc := dv_lt c; have kd := dv_lt d
    have ke := dv_lt e; have kf := dv_lt f; have kg := dv_lt g; have ki := dv_lt i
    generalize hA : dv a = A at ka ⊢
    generalize hB : dv b = B at kb ⊢
    generalize hC : dv c = C at kc ⊢
    generalize hD : dv d = D at kd ⊢
    generalize hE : dv e = E at ke ⊢
    generalize hF : dv f = F at kf ⊢
    generalize hG : dv g = G at kg ⊢
    generalize hI : dv i = I at ki ⊢
    have m0 : ((((((((0 * 16 + A) * 16 + B) * 16 + C) * 16 + D) * 16 + E) * 16 + F) * 16 + G) * 16 + I) / 268435456 % 16 = A := by omega
    have m1 : ((((((((0 * 16 + A) * 16 + B) * 16 + C) * 16 + D) * 16 + E) * 16 + F) * 16 + G) * 16 + I) / 16777216 % 16 = B := by omega
    have m2 : ((((((((0 * 16 + A) * 16 + B) * 16 + C) * 16 + D) * 16 + E) * 16 + F) * 16 + G) * 16 + I) / 1048576 % 16 = C := by omega
    have m3 : ((((((((0 * 16 + A) * 16 + B) * 16 + C) * 16 + D) * 16 + E) * 16 + F) * 16 + G) * 16 + I) / 65536 % 16 = D := by omega
    have m4 : ((((((((0 * 16 + A) * 16 + B) * 16 + C) * 16 + D) * 16 + E) * 16 + F) * 16 + G) * 16 + I) / 4096 % 16 = E := by omega
    have m5 : ((((((((0 * 16 + A) * 16 + B) * 16 + C) * 16 + D) * 16 + E) * 16 + F) * 16 + G) * 16 + I) / 256 % 16 = F := by omega
    have m6 : ((((((((0 * 16 + A) * 16 + B) * 16 + C) * 16 + D) * 16 + E) * 16 + F) * 16 + G) * 16 + I) / 16 % 16 = G := by omega
    have m7 : ((((((((0 * 16 + A) * 16 + B) * 16 + C) * 16 + D) * 16 + E) * 16 + F) * 16 + G) * 16 + I) % 16 = I := by omega
    rw [m0, m1, m2, m3, m4, m5, m6, m7, ← hA, ← hB, ← hC, ← hD, ← hE, ← hF, ← hG, ← hI, dgB_dv a d0, dgB_dv b d1, dgB_dv c d2, dgB_dv d d3, dgB_dv e d4, dgB_dv f d5, dgB_dv g d6, dgB_dv i d7]

theorem seq_eq (x y : ByteArray) : seq? x y = decide (x = y) := by
  unfold seq?
  rw [Go.Lib.toList_data, Go.Lib.toList_data]
  by_cases h : x = y
  · subst h; simp
  · rw [decide_eq_false h, beq_eq_false_iff_ne]
    exact fun q => h (ByteArray.ext (Array.ext' q))
/-- A number's word, what is none alike. -/
def cb (n : Nat) : Nat := bif isNaN .f32 n then 2143289344 else n
theorem nan_nz (n : Nat) : isNaN .f32 (nz .f32 n) = isNaN .f32 n := by
  cases h : isNaN .f32 n with
  | true =>
    rw [nz_of_nan h]
    obtain ⟨s, t, h⟩ := decode_nanOf .f32
    exact isNaN_of_read h
  | false =>
    rw [nz_of_not h]
    exact h
theorem canon_text : hexT 2143289344 = ByteArray.mk #[55, 102, 99, 48, 48, 48, 48, 48] := by
  refine ByteArray.ext (Array.ext' ?_)
  rw [hexT_data]
  decide +kernel
theorem text_nz (n : Nat) (h : n < 4294967296) : (impl_NumberText.t (nz .f32 n)).get = some (hexT (cb n)) := by
  unfold cb
  cases hn : isNaN .f32 n with
  | true =>
    simp only [impl_NumberText.t, T.get, fne_self, nan_nz, hn, cond_true, canon_text]
  | false =>
    rw [nz_of_not hn]
    exact impl_hex n h hn
theorem cb_lt {n : Nat} (h : n < 4294967296) : cb n < 4294967296 := by
  unfold cb
  cases isNaN .f32 n with
  | true => (show 2143289344 < 4294967296; decide)
  | false => exact h
noncomputable def numv (w : ByteArray) : Nat := nz .f32 (acc w.data.toList 8)
def okN (w : ByteArray) : Bool := decide (w.size = 8) && (allDg w && decide (cb (acc w.data.toList 8) = acc w.data.toList 8))
theorem impl_num (w : ByteArray) : (impl_ReadNumber.t w).get = some (bif okN w then (numv w, 0) else (0, 5)) := by
  have hlt : acc w.data.toList (min 8 w.size) < 4294967296 := acc32 _ (by omega)
  have ht := text_nz _ hlt
  simp only [impl_ReadNumber.t, T.get, impl_n, Option.isSome_some, Option.getD_some, Int.toNat_natCast, show impl_NumberText.ok (nz .f32 (acc w.data.toList (min 8 w.size))) = true from T.ok_of_get (ht), show impl_NumberText (nz .f32 (acc w.data.toList (min 8 w.size))) = _ from T.val_of_get (ht), seq_eq]
  have key : decide (hexT (cb (acc w.data.toList (min 8 w.size))) = w) = okN w := by
    unfold okN
    by_cases hw : w.size = 8
    · have hm : min 8 w.size = 8 := by omega
      rw [hm, decide_eq_true hw, Bool.true_and]
      cases ha : allDg w with
      | false =>
        rw [decide_eq_false, Bool.false_and]
        intro q
        have := hexT_digits (cb (acc w.data.toList 8))
        rw [q, ha] at this
        cases this
      | true =>
        rw [Bool.true_and]
        have h1 := text_of w hw ha
        by_cases hc : cb (acc w.data.toList 8) = acc w.data.toList 8
        · rw [decide_eq_true hc, hc, decide_eq_true h1]
        · rw [decide_eq_false hc, decide_eq_false]
          intro q
          refine hc ?_
          have h2 := hexT_acc (cb (acc w.data.toList 8)) (cb_lt (acc32 _ (Nat.le_refl _)))
          rw [q] at h2
          exact h2.symm
    · rw [decide_eq_false hw, Bool.false_and, decide_eq_false]
      intro q
      refine hw ?_
      rw [← q]
      exact hexT_size _
  rw [key]
  cases ho : okN w with
  | false => rfl
  | true =>
    have hw : w.size = 8 := by
      unfold okN at ho
      rw [Bool.and_eq_true] at ho
      simpa using ho.1
    have hm : min 8 w.size = 8 := by omega
    rw [hm]
    rfl
noncomputable def nums (P : List ByteArray) : Nat → List Nat
  | 0 => []
  | i + 1 => nums P i ++ [numv (P.getD i ByteArray.empty)]
theorem nums_len (P : List ByteArray) : ∀ i, (nums P i).length = i
  | 0 => rfl
  | i + 1 => by
    show (nums P i ++ _).length = _
    rw [List.length_append, nums_len P i]
    rfl
theorem numv_lt (w : ByteArray) : numv w < 4294967296 := nz_has (k := .f32) (acc32 _ (Nat.le_refl _))
theorem numv_text {w : ByteArray} (h : okN w = true) (hn : isNaN .f32 (numv w) = false) : hexT (numv w) = w := by
  unfold okN at h
  rw [Bool.and_eq_true, Bool.and_eq_true] at h
  obtain ⟨h1, h2, _⟩ := h
  unfold numv at hn ⊢
  rw [nan_nz] at hn
  rw [nz_of_not hn]
  exact text_of w (by simpa using h1) h2

theorem dig_no (c : UInt8) (hc : isDg c = false) (n : Nat) : ∀ x ∈ (hexT n).data.toList, x ≠ c := by
  intro x hx q
  subst q
  have h : isDg x = true := by
    rw [hexT_data] at hx
    have q : ∀ k, isDg (dgB (k % 16)) = true := fun k => (dg_is _ (Nat.mod_lt _ (by omega))).1
    simp only [List.mem_cons, List.not_mem_nil, or_false] at hx
    rcases hx with rfl | rfl | rfl | rfl | rfl | rfl | rfl | rfl <;> exact q _
  rw [hc] at h
  cases h
theorem hex_ok {n : Nat} (h : n < 4294967296) (hn : isNaN .f32 n = false) : okN (hexT n) = true ∧ numv (hexT n) = n := by
  unfold okN numv
  rw [hexT_acc n h, hexT_digits, hexT_size, nz_of_not hn]
  unfold cb
  rw [hn]
  simp

/-- Four texts, one behind the other. -/
noncomputable def text4 (a b c d : Nat) : ByteArray := ((((((hexT a) ++ (ByteArray.mk #[32])) ++ (hexT b)) ++ (ByteArray.mk #[32])) ++ (hexT c)) ++ (ByteArray.mk #[32])) ++ (hexT d)
section
variable (a b c d : Nat) (ha : a < 4294967296) (hb : b < 4294967296) (hc : c < 4294967296) (hd : d < 4294967296) (na : isNaN .f32 a = false) (nb : isNaN .f32 b = false) (nc : isNaN .f32 c = false) (nd : isNaN .f32 d = false)
include ha hb hc hd na nb nc nd
theorem texts_r : impl_texts.l3.r (ByteArray.mk #[32], 4, ((4 : Nat) : Int), [a, b, c, d]) (0, (0 : Int), []) = some (4, [hexT a, hexT b, hexT c, hexT d]) := by
  have hf := iter_run (step := impl_texts.l3.st (ByteArray.mk #[32], 4, ((4 : Nat) : Int), [a, b, c, d])) (f := fun j => match j with | 0 => (0, (0 : Int), []) | 1 => (1, (1 : Int), [hexT a]) | 2 => (2, (2 : Int), [hexT a, hexT b]) | 3 => (3, (3 : Int), [hexT a, hexT b, hexT c]) | _ => (4, (4 : Int), [hexT a, hexT b, hexT c, hexT d])) (e := (4, [hexT a, hexT b, hexT c, hexT d])) (n := 4) (N := manyRounds) (k := 0) (many_lt (by omega)) (fun j hj => ?_) ?_
  · exact hf
  · have g0 : List.getD [a, b, c, d] (Int.toNat 0 * 1) 0 = a := rfl
    have g1 : List.getD [a, b, c, d] (Int.toNat 1 * 1) 0 = b := rfl
    have g2 : List.getD [a, b, c, d] (Int.toNat 2 * 1) 0 = c := rfl
    have g3 : List.getD [a, b, c, d] (Int.toNat 3 * 1) 0 = d := rfl
    match j, hj with
    | 0, _ =>
      simp only [impl_texts.l3.st, impl_texts.l3.s, T.get, g0, show impl_NumberText.ok a = true from T.ok_of_get (impl_hex a ha na), show impl_NumberText a = _ from T.val_of_get (impl_hex a ha na)]
      rfl
    | 1, _ =>
      simp only [impl_texts.l3.st, impl_texts.l3.s, T.get, g1, show impl_NumberText.ok b = true from T.ok_of_get (impl_hex b hb nb), show impl_NumberText b = _ from T.val_of_get (impl_hex b hb nb)]
      rfl
    | 2, _ =>
      simp only [impl_texts.l3.st, impl_texts.l3.s, T.get, g2, show impl_NumberText.ok c = true from T.ok_of_get (impl_hex c hc nc), show impl_NumberText c = _ from T.val_of_get (impl_hex c hc nc)]
      rfl
    | 3, _ =>
      simp only [impl_texts.l3.st, impl_texts.l3.s, T.get, g3, show impl_NumberText.ok d = true from T.ok_of_get (impl_hex d hd nd), show impl_NumberText d = _ from T.val_of_get (impl_hex d hd nd)]
      rfl
  · rfl
theorem impl_text : (impl_texts.t (ByteArray.mk #[32]) 4 [a, b, c, d]).get = some (text4 a b c d) := by
  have hl : ∀ x, (hexT x).data.toList.length = 8 := fun x => by
    have := hexT_size x
    exact this
  have hj : joinOk [hexT a, hexT b, hexT c, hexT d] 4 (ByteArray.mk #[32]) = true := by
    unfold joinOk
    have e : (Lib.join ([hexT a, hexT b, hexT c, hexT d].map (·.data.toList)) (ByteArray.mk #[32]).data.toList).length = 35 := by
      simp [Lib.join, List.intercalate, List.intersperse, hl]
    rw [e]
    rfl
  have ht : joinB [hexT a, hexT b, hexT c, hexT d] (ByteArray.mk #[32]) = text4 a b c d := by
    refine ByteArray.ext (Array.ext' ?_)
    simp [joinB, text4, Lib.join, List.intercalate, List.intersperse, ByteArray.data_append]
  simp only [impl_texts.t, T.get, texts_r a b c d ha hb hc hd na nb nc nd, Option.isSome_some, Option.getD_some, hj, ht]
  rfl
end

def laws_toBelt (x0 x1 x2 x3 : Nat) (x4 : Bool) := (x0, x1, x2, x3, x4)
theorem belt_eq (x0 x1 x2 x3 : Nat) (x4 : Bool) : laws_toBelt x0 x1 x2 x3 x4 = (x0, x1, x2, x3, x4) := rfl
theorem tight_eq (x : Nat) : impl_isAmount x = spec_l02Tight x := by
  simp only [impl_isAmount, impl_isAmount.t, impl_between, impl_between.t, spec_l02Tight, spec_l02Tight.t, T.val, fge_flip]
theorem radius_eq (x : Nat) : impl_isRadius x = spec_l02Radius x := by
  simp only [impl_isRadius, impl_isRadius.t, impl_between, impl_between.t, spec_l02Radius, spec_l02Radius.t, T.val, fge_flip]
theorem vbelt_eq (x0 x1 x2 x3 : Nat) (x4 : Bool) : impl_ValidBelt x0 x1 x2 x3 x4 = spec_l02Ok x0 x1 x2 x3 x4 := by
  simp only [impl_ValidBelt, impl_ValidBelt.t, impl_between, impl_between.t, spec_l02Ok, spec_l02Ok.t, T.val, radius_eq, fge_flip]
  cases spec_l02Radius x0 <;> cases spec_l02Radius x1 <;> cases fle .f32 (fadd .f32 x0 x1) x2 <;> cases fle .f32 x2 1199570944 <;> rfl
theorem bcode_eq (x0 x1 x2 x3 : Nat) (x4 b : Bool) : impl_beltCode x0 x1 x2 x3 x4 b = bif spec_l02Ok x0 x1 x2 x3 x4 then (bif b then 0 else 2) else 1 := by
  simp only [impl_beltCode, impl_beltCode.t, T.val, vbelt_eq]
  cases spec_l02Ok x0 x1 x2 x3 x4 <;> cases b <;> rfl
theorem reach_eq (x0 x1 x2 x3 : Nat) (x4 : Bool) : impl_Belt_reach x0 x1 x2 x3 x4 = spec_l02Reach x0 x1 x2 x3 x4 := rfl
theorem wrap_eq (x0 x1 x2 x3 : Nat) (x4 : Bool) : impl_Belt_wrap x0 x1 x2 x3 x4 = spec_l02Wrap x0 x1 x2 x3 x4 := rfl
theorem grip_t (x0 x1 x2 x3 : Nat) (x4 : Bool) : ∃ e, (spec_l02Grip.t x0 x1 x2 x3 x4).get = some e ∧ (impl_Belt_grip.t x0 x1 x2 x3 x4).get = some e := by
  obtain ⟨e, e', h1, h2, rfl⟩ := iter_two (step := spec_l02Grip.l4.st (x0, x1, x2, x3, x4)) (step' := impl_Belt_grip.l3.st (x0, x1, x2, x3, x4)) (R := fun s t => s = t ∧ ∃ i : Nat, i ≤ 4 ∧ s.2 = (i : Int)) (E := fun e e' => e = e') (fun s => 4 - s.2.toNat) (by
    rintro ⟨z, c⟩ _ ⟨rfl, i, hi, hc⟩
    dsimp only at hc
    subst hc
    simp only [spec_l02Grip.l4.st, spec_l02Grip.l4.s, impl_Belt_grip.l3.st, impl_Belt_grip.l3.s, T.get]
    by_cases hlt : i < 4
    · rw [decide_eq_true (by omega : (i : Int) < 4), wrap64_succ (by omega)]
      exact .inl ⟨_, _, rfl, rfl, ⟨rfl, i + 1, by omega, rfl⟩, by dsimp only; omega⟩
    · rw [decide_eq_false (by omega : ¬ (i : Int) < 4)]
      exact .inr ⟨_, _, rfl, rfl, rfl⟩) manyRounds ((fadd .f32 1065353216 (fdiv .f32 (fmul .f32 x3 (spec_l02Wrap x0 x1 x2 x3 x4)) 1098907648)), 0) ((fadd .f32 1065353216 (fdiv .f32 (fmul .f32 x3 (spec_l02Wrap x0 x1 x2 x3 x4)) 1098907648)), 0) ⟨rfl, 0, by omega, rfl⟩ (many_lt (by simp))
  have h1' : spec_l02Grip.l4.r (x0, x1, x2, x3, x4) ((fadd .f32 1065353216 (fdiv .f32 (fmul .f32 x3 (spec_l02Wrap x0 x1 x2 x3 x4)) 1098907648)), 0) = some e := h1
  have h2' : impl_Belt_grip.l3.r (x0, x1, x2, x3, x4) ((fadd .f32 1065353216 (fdiv .f32 (fmul .f32 x3 (spec_l02Wrap x0 x1 x2 x3 x4)) 1098907648)), 0) = some e := h2
  simp only [spec_l02Grip.t, impl_Belt_grip.t, T.get, wrap_eq, h1', h2']
  exact ⟨_, rfl, rfl⟩
theorem pull_t (x0 x1 x2 x3 : Nat) (x4 : Bool) (p : Nat) : ∃ e, (spec_l02Pull.t p x0 x1 x2 x3 x4).get = some e ∧ (impl_Belt_pull.t p x0 x1 x2 x3 x4).get = some e := by
  obtain ⟨e, h1, h2⟩ := grip_t x0 x1 x2 x3 x4
  simp only [spec_l02Pull.t, impl_Belt_pull.t, T.get, show spec_l02Grip.ok x0 x1 x2 x3 x4 = true from T.ok_of_get (h1), show spec_l02Grip x0 x1 x2 x3 x4 = e from T.val_of_get (h1), show impl_Belt_grip.ok x0 x1 x2 x3 x4 = true from T.ok_of_get (h2), show impl_Belt_grip x0 x1 x2 x3 x4 = e from T.val_of_get (h2)]
  exact ⟨_, rfl, rfl⟩
theorem btorque_t (x0 x1 x2 x3 : Nat) (x4 : Bool) (p : Nat) : ∃ e, (spec_l02Pull.t p x0 x1 x2 x3 x4).get = some e ∧ (impl_Belt_torque.t p x0 x1 x2 x3 x4).get = some (fmul .f32 e x0) := by
  obtain ⟨e, h1, h2⟩ := pull_t x0 x1 x2 x3 x4 p
  refine ⟨e, h1, ?_⟩
  simp only [impl_Belt_torque.t, T.get, show impl_Belt_pull.ok p x0 x1 x2 x3 x4 = true from T.ok_of_get (h2), show impl_Belt_pull p x0 x1 x2 x3 x4 = e from T.val_of_get (h2)]
  rfl

theorem orZero_eq (x : Nat) (c : Int) : impl_orZero x c = (bif c != 0 then (0, c) else (x, 0)) := by
  simp only [impl_orZero, impl_orZero.t, T.val]

-- lies in the core (SxQ)

def val (v : Int) (c : Nat) : Nat := fdiv .f32 (fofint .f32 v) c
theorem vals' {n : Nat} {P : Nat → Bool} (h : (List.range n).all P = true) (hn : 0 < n) {v : Nat} (hv : v = 0 ∨ v < n) : P v = true := by
  rw [List.all_eq_true] at h
  exact h v (List.mem_range.2 (by omega))
/-! Drawn belts. -/
noncomputable def numOk (J K x : Nat) : Bool := decide (x < 2139095040) && (decide (J ≤ x) && decide (x ≤ K))
theorem numOk_nb {J K x : Nat} (h : numOk J K x = true) : Nb K x ∧ J ≤ rg x ∧ x < 4294967296 ∧ isNaN .f32 x = false := by
  simp only [numOk, Bool.and_eq_true, decide_eq_true_eq] at h
  have hn : Nn x := .inl h.1
  have hr := (nb_self h.1).2
  obtain ⟨s, m, e, r1, _⟩ := nn_read hn
  refine ⟨⟨hn, by omega⟩, by omega, by omega, ?_⟩
  show (FloatKind.f32.format.read x).isNaN = false
  rw [r1]
  rfl
theorem among_t {n : Nat} {xs : List Int} (hs : srcOk n xs) (l : List Int) (hl : 0 < l.length) (pos : Nat) (h : Int) (hp : pos < 4611686018427387000) : ∃ (j pos' : Nat) (h' : Int), (spec_l00Src_among.t l.length n (pos : Int) h l xs).get = some (l.getD j 0, n, (pos' : Int), h') ∧ j < l.length ∧ pos' ≤ pos + 2 := by
  obtain ⟨v, p', h', q, g, l1⟩ := pick_t hs l.length pos h hp
  have hv : v < l.length := by omega
  refine ⟨v, p', h', ?_, hv, l1⟩
  simp only [spec_l00Src_among.t, T.get, show spec_l00Src_pick.ok ((l.length : Nat) : Int) n (pos : Int) h xs = true from T.ok_of_get (q), show spec_l00Src_pick ((l.length : Nat) : Int) n (pos : Int) h xs = _ from T.val_of_get (q), bounds_nat, ble_decide, Int.toNat_natCast, Nat.mul_one]
  rw [decide_eq_true hv, decide_eq_true (by omega : v + 1 ≤ l.length)]
  rfl
/-- 1/16 and 200 by their words. -/
theorem pulleys : (List.range 200).all (fun v => (List.range 4).all (fun j => numOk 1031798784 1128792064 (fdiv .f32 (fofint .f32 ((v + 1 : Nat) : Int)) (fofint .f32 ([1, 3, 4, 16].getD j 0))))) = true := by kernel_rfl
theorem ways : (List.range 300).all (fun v => (List.range 3).all (fun j => numOk 0 1133903872 (fdiv .f32 (fofint .f32 (v : Int)) (fofint .f32 ([1, 3, 7].getD j 0))))) = true := by kernel_rfl
theorem grips : (List.range 40).all (fun v => (List.range 3).all (fun j => numOk 0 1073741824 (fdiv .f32 (fofint .f32 (v : Int)) (fofint .f32 ([20, 30, 64].getD j 0))))) = true := by kernel_rfl
def Beltly (a b c g : Nat) : Prop := numOk 1031798784 1128792064 a = true ∧ numOk 1031798784 1128792064 b = true ∧ Nb 1150000000 c ∧ rg (fadd .f32 a b) ≤ rg c ∧ c < 2139095040 ∧ numOk 0 1073741824 g = true
theorem one_plus {v k : Nat} (h : v = 0 ∨ v < k) (hk : k < 100000) : IntKind.wrap .i64 ((1 : Int) + (v : Int)) = ((v + 1 : Nat) : Int) := wrap64_of (by omega) (by omega)
theorem pulley_t {n : Nat} {xs : List Int} (hs : srcOk n xs) (pos : Nat) (h : Int) (hp : pos < 4611686018427380000) : ∃ (a pos' : Nat) (h' : Int), (spec_l02Pulley.t n (pos : Int) h xs).get = some (a, n, (pos' : Int), h') ∧ numOk 1031798784 1128792064 a = true ∧ pos' ≤ pos + 4 := by
  obtain ⟨v, p1, h1, q1, g1, l1⟩ := pick_t hs 200 pos h (by omega)
  obtain ⟨j, p2, h2, q2, g2, l2⟩ := among_t hs [1, 3, 4, 16] (by decide) p1 h1 (by omega)
  refine ⟨_, p2, h2, ?_, vals' (vals' pulleys (by omega) g1) (by omega) (.inr g2), by omega⟩
  have q2' : (spec_l00Src_among.t 4 n (p1 : Int) h1 [1, 3, 4, 16] xs).get = some (List.getD [1, 3, 4, 16] j 0, n, (p2 : Int), h2) := q2
  simp only [spec_l02Pulley.t, T.get, show spec_l00Src_pick.ok (200 : Int) n (pos : Int) h xs = true from T.ok_of_get (q1), show spec_l00Src_pick (200 : Int) n (pos : Int) h xs = _ from T.val_of_get (q1), show spec_l00Src_among.ok 4 n (p1 : Int) h1 [1, 3, 4, 16] xs = true from T.ok_of_get (q2'), show spec_l00Src_among 4 n (p1 : Int) h1 [1, 3, 4, 16] xs = _ from T.val_of_get (q2'), one_plus g1 (by omega)]
  rfl
theorem belt_t {n : Nat} {xs : List Int} (hs : srcOk n xs) (m : Int) : ∃ a b c g x, (spec_A2Belt.t n m xs).get = some (a, b, c, g, x) ∧ Beltly a b c g := by
  obtain ⟨a, p1, h1, q1, o1, l1⟩ := pulley_t hs 0 0 (by omega)
  obtain ⟨b, p2, h2, q2, o2, l2⟩ := pulley_t hs p1 h1 (by omega)
  obtain ⟨x, p3, h3, q3, l3⟩ := one_t hs 2 p2 h2 (by omega)
  obtain ⟨v4, p4, h4, q4, g4, l4⟩ := pick_t hs 300 p3 h3 (by omega)
  obtain ⟨j5, p5, h5, q5, g5, l5⟩ := among_t hs [1, 3, 7] (by decide) p4 h4 (by omega)
  obtain ⟨v6, p6, h6, q6, g6, l6⟩ := pick_t hs 40 p5 h5 (by omega)
  obtain ⟨j7, p7, h7, q7, g7, l7⟩ := among_t hs [20, 30, 64] (by decide) p6 h6 (by omega)
  have q5' : (spec_l00Src_among.t 3 n (p4 : Int) h4 [1, 3, 7] xs).get = some (List.getD [1, 3, 7] j5 0, n, (p5 : Int), h5) := q5
  have q7' : (spec_l00Src_among.t 3 n (p6 : Int) h6 [20, 30, 64] xs).get = some (List.getD [20, 30, 64] j7 0, n, (p7 : Int), h7) := q7
  have ow := numOk_nb (vals' (vals' ways (by omega) g4) (by omega) (.inr g5))
  obtain ⟨na, _, _, _⟩ := numOk_nb o1
  obtain ⟨nb, _, _, _⟩ := numOk_nb o2
  have hab : Nb 1140000000 (fadd .f32 a b) := nb_add na nb (by omega) (by omega) (by kernel_rfl) (by omega)
  have hc : Nb 1150000000 (fadd .f32 (fadd .f32 a b) (fdiv .f32 (fofint .f32 (v4 : Int)) (fofint .f32 (List.getD [1, 3, 7] j5 0)))) := nb_add hab ow.1 (by omega) (by omega) (by kernel_rfl) (by omega)
  have hle : rg (fadd .f32 a b) ≤ rg (fadd .f32 (fadd .f32 a b) (fdiv .f32 (fofint .f32 (v4 : Int)) (fofint .f32 (List.getD [1, 3, 7] j5 0)))) := by
    have h0 := rg_add hab.1 nn_0.1
    rw [nn_0.2, show mag 0 = 0 by decide, Nat.add_zero, near_mag (nn_rg hab.1)] at h0
    rw [← h0]
    exact add_mono hab.1 hab.1 nn_0.1 ow.1.1 (by omega) (by rw [nn_0.2]; omega)
  have hpos : 1031798784 ≤ rg (fadd .f32 a b) := by
    have h0 := rg_add na.1 nn_0.1
    rw [nn_0.2, show mag 0 = 0 by decide, Nat.add_zero, near_mag (nn_rg na.1)] at h0
    have := add_mono na.1 na.1 nn_0.1 nb.1 (Nat.le_refl _) (by rw [nn_0.2]; omega)
    omega
  refine ⟨a, b, fadd .f32 (fadd .f32 a b) (fdiv .f32 (fofint .f32 (v4 : Int)) (fofint .f32 (List.getD [1, 3, 7] j5 0))), fdiv .f32 (fofint .f32 (v6 : Int)) (fofint .f32 (List.getD [20, 30, 64] j7 0)), x, ?_, o1, o2, hc, hle, ?_, vals' (vals' grips (by omega) g6) (by omega) (.inr g7)⟩
  · have hd : (spec_l02Drawn.t n 0 0 xs).get = some (a, b, fadd .f32 (fadd .f32 a b) (fdiv .f32 (fofint .f32 (v4 : Int)) (fofint .f32 (List.getD [1, 3, 7] j5 0))), fdiv .f32 (fofint .f32 (v6 : Int)) (fofint .f32 (List.getD [20, 30, 64] j7 0)), x, n, (p7 : Int), h7) := by
      simp only [spec_l02Drawn.t, T.get, show spec_l02Pulley.ok n 0 0 xs = true from T.ok_of_get (q1), show spec_l02Pulley n 0 0 xs = _ from T.val_of_get (q1), show spec_l02Pulley.ok n (p1 : Int) h1 xs = true from T.ok_of_get (q2), show spec_l02Pulley n (p1 : Int) h1 xs = _ from T.val_of_get (q2), show spec_l00Src_one.ok (2 : Int) n (p2 : Int) h2 xs = true from T.ok_of_get (q3), show spec_l00Src_one (2 : Int) n (p2 : Int) h2 xs = _ from T.val_of_get (q3), show spec_l00Src_pick.ok (300 : Int) n (p3 : Int) h3 xs = true from T.ok_of_get (q4), show spec_l00Src_pick (300 : Int) n (p3 : Int) h3 xs = _ from T.val_of_get (q4), show spec_l00Src_among.ok 3 n (p4 : Int) h4 [1, 3, 7] xs = true from T.ok_of_get (q5'), show spec_l00Src_among 3 n (p4 : Int) h4 [1, 3, 7] xs = _ from T.val_of_get (q5'), show spec_l00Src_pick.ok (40 : Int) n (p5 : Int) h5 xs = true from T.ok_of_get (q6), show spec_l00Src_pick (40 : Int) n (p5 : Int) h5 xs = _ from T.val_of_get (q6), show spec_l00Src_among.ok 3 n (p6 : Int) h6 [20, 30, 64] xs = true from T.ok_of_get (q7'), show spec_l00Src_among 3 n (p6 : Int) h6 [20, 30, 64] xs = _ from T.val_of_get (q7')]
      rfl
    simp only [spec_A2Belt.t, T.get, spec_l00From, spec_l00From.t, T.val, show spec_l02Drawn.ok n 0 0 xs = true from T.ok_of_get (hd), show spec_l02Drawn n 0 0 xs = _ from T.val_of_get (hd)]
    rfl
  · rcases hc.1 with h | h
    · exact h
    · rw [h] at hle
      have : rg 2147483648 = 0 := by decide
      omega
theorem numbersN (P : List ByteArray) (m : Int) (n : Nat) (hP : n ≤ P.length) (hn : n ≤ 1000) (ho : ∀ i, i < n → okN (P.getD i ByteArray.empty) = true) : (impl_numbersOf.t n m P).get = some (.inr (n, true, nums P n)) := by
  have hr : impl_numbersOf.l3.r (n, (n : Int), m, P) (0, (0 : Int), []) = some (Sum.inr (n, nums P n)) := by
    refine iter_run (step := impl_numbersOf.l3.st (n, (n : Int), m, P)) (f := fun i => (i, (i : Int), nums P i)) (n := n) (N := manyRounds) (k := 0) (many_lt (by omega)) (fun i hi => ?_) ?_
    · have hn' := impl_num (P.getD i ByteArray.empty)
      rw [ho i hi] at hn'
      have hcd : ∀ y : Nat, (Nat.ble 1 (List.length [y]) && (Nat.beq (List.length (nums P i)) (i * 1) && Nat.ble ((i + 1) * 4) 35184372088832 && Nat.ble (i + 1) 35184372088832)) = true := fun y => by
        rw [nums_len, Nat.mul_one, Nat.beq_refl, ble_decide, ble_decide, ble_decide, decide_eq_true (by simp : 1 ≤ List.length [y]), decide_eq_true (by omega : (i + 1) * 4 ≤ 35184372088832), decide_eq_true (by omega : i + 1 ≤ 35184372088832)]
        rfl
      simp only [Nat.mul_one, ble_decide] at hcd
      simp only [Nat.zero_add, impl_numbersOf.l3.st, impl_numbersOf.l3.s, T.get, bounds_nat, Int.toNat_natCast, Nat.mul_one, show impl_ReadNumber.ok (P.getD i ByteArray.empty) = true from T.ok_of_get (hn'), show impl_ReadNumber (P.getD i ByteArray.empty) = _ from T.val_of_get (hn'), ble_decide, hcd]
      rw [decide_eq_true (by omega : (i : Int) < (n : Int)), decide_eq_true hi, decide_eq_true (by omega : i + 1 ≤ P.length), wrap64_succ (by omega)]
      rfl
    · simp only [Nat.zero_add, impl_numbersOf.l3.st, impl_numbersOf.l3.s, T.get]
      rw [decide_eq_false (by omega)]
      rfl
  simp only [impl_numbersOf.t, T.get, hr]
  rfl
/-! A belt's text, read. -/
def wordB (x : Bool) : ByteArray := bif x then ByteArray.mk #[32, 99, 114, 111, 115, 115, 101, 100] else ByteArray.mk #[32, 111, 112, 101, 110]
def wordT (x : Bool) : ByteArray := bif x then ByteArray.mk #[99, 114, 111, 115, 115, 101, 100] else ByteArray.mk #[111, 112, 101, 110]
set_option linter.unusedSectionVars false
section
variable (a b c d : Nat) (x : Bool) (m : Int) (ha : a < 4294967296) (hb : b < 4294967296) (hc : c < 4294967296) (hd : d < 4294967296) (na : isNaN .f32 a = false) (nb : isNaN .f32 b = false) (nc : isNaN .f32 c = false) (nd : isNaN .f32 d = false) (hok : spec_l02Ok a b c d x = true)
include ha hb hc hd na nb nc nd
theorem text4_data : (text4 a b c d).data.toList = (hexT a).data.toList ++ 32 :: ((hexT b).data.toList ++ 32 :: ((hexT c).data.toList ++ 32 :: (hexT d).data.toList)) := by
  unfold text4
  simp [ByteArray.data_append]
theorem text4_size : (text4 a b c d).size = 35 := by
  have h : (text4 a b c d).data.toList.length = 35 := by
    rw [text4_data a b c d ha hb hc hd na nb nc nd]
    simp only [List.length_append, List.length_cons, show ∀ x, (hexT x).data.toList.length = 8 from hexT_size]
  exact h
include hok
theorem belt_text : (impl_BeltText.t a b c d x m).get = some (text4 a b c d ++ wordB x) := by
  have h2 := impl_text a b c d ha hb hc hd na nb nc nd
  have hs := text4_size a b c d ha hb hc hd na nb nc nd
  have vl := vbelt_eq a b c d x
  rw [hok] at vl
  simp only [impl_BeltText.t, T.get, vl, show impl_texts.ok (ByteArray.mk #[32]) 4 [a, b, c, d] = true from T.ok_of_get (h2), show impl_texts (ByteArray.mk #[32]) 4 [a, b, c, d] = _ from T.val_of_get (h2), hs]
  cases x <;> rfl
theorem numbers4 (w : ByteArray) : (impl_numbersOf.t 4 m [hexT a, hexT b, hexT c, hexT d, w]).get = some (.inr (4, true, [a, b, c, d])) := by
  obtain ⟨o0, v0⟩ := hex_ok ha na
  obtain ⟨o1, v1⟩ := hex_ok hb nb
  obtain ⟨o2, v2⟩ := hex_ok hc nc
  obtain ⟨o3, v3⟩ := hex_ok hd nd
  have h := numbersN [hexT a, hexT b, hexT c, hexT d, w] m 4 (by simp) (by omega) (fun i hi => by
    match i, hi with
    | 0, _ => exact o0
    | 1, _ => exact o1
    | 2, _ => exact o2
    | 3, _ => exact o3)
  have en : nums [hexT a, hexT b, hexT c, hexT d, w] 4 = [a, b, c, d] := by
    show [numv (hexT a), numv (hexT b), numv (hexT c), numv (hexT d)] = _
    rw [v0, v1, v2, v3]
  rw [en] at h
  exact h
theorem read_back : (impl_ReadBelt.t (text4 a b c d ++ wordB x) m).get = some (a, b, c, d, x, 0) := by
  have e : (text4 a b c d ++ wordB x).data.toList = (hexT a).data.toList ++ 32 :: ((hexT b).data.toList ++ 32 :: ((hexT c).data.toList ++ 32 :: ((hexT d).data.toList ++ 32 :: (wordT x).data.toList))) := by
    rw [ByteArray.data_append, Array.toList_append, text4_data a b c d ha hb hc hd na nb nc nd]
    cases x <;> simp [wordB, wordT]
  have hw : ∀ y ∈ (wordT x).data.toList, y ≠ 32 := by cases x <;> decide
  have hP : splitL (text4 a b c d ++ wordB x) (ByteArray.mk #[32]) = [hexT a, hexT b, hexT c, hexT d, wordT x] := by
    refine bytes_ext ?_
    rw [split_pieces, e, pcs_cut _ (dig_no 32 (by decide) a), pcs_cut _ (dig_no 32 (by decide) b), pcs_cut _ (dig_no 32 (by decide) c), pcs_cut _ (dig_no 32 (by decide) d), pcs_ncut hw]
    rfl
  have hsz : (text4 a b c d ++ wordB x).size ≤ 50 := by
    have : (text4 a b c d ++ wordB x).size = (text4 a b c d).size + (wordB x).size := by simp
    rw [this, text4_size a b c d ha hb hc hd na nb nc nd]
    cases x <;> decide
  have hguard : (Nat.ble (text4 a b c d ++ wordB x).size 1048576 && Nat.ble 1 (ByteArray.size (ByteArray.mk #[32]))) = true := by
    rw [ble_decide, decide_eq_true (by omega)]
    rfl
  have h4 := numbers4 a b c d x m ha hb hc hd na nb nc nd hok (wordT x)
  have hst := belt_text a b c d x m ha hb hc hd na nb nc nd hok
  have e4 : Int.toNat (4 : Int) - Int.toNat (0 : Int) = 4 := rfl
  have g0 : List.getD [a, b, c, d] 0 0 = a := rfl
  have g1 : List.getD [a, b, c, d] 1 0 = b := rfl
  have g2 : List.getD [a, b, c, d] 2 0 = c := rfl
  have g3 : List.getD [a, b, c, d] 3 0 = d := rfl
  have g5 : List.getD [hexT a, hexT b, hexT c, hexT d, wordT x] 4 ByteArray.empty = wordT x := rfl
  have hq : seq? (wordT x) (ByteArray.mk #[99, 114, 111, 115, 115, 101, 100]) = x := by cases x <;> (rw [seq_eq]; decide)
  have hne : ((([hexT a, hexT b, hexT c, hexT d, wordT x].length : Nat) : Int) != 5) = false := rfl
  simp only [impl_ReadBelt.t, T.get, hguard, hP, e4, show impl_numbersOf.ok 4 m [hexT a, hexT b, hexT c, hexT d, wordT x] = true from T.ok_of_get (h4), show impl_numbersOf 4 m [hexT a, hexT b, hexT c, hexT d, wordT x] = _ from T.val_of_get (h4), hne, Sum.isLeft, getRightD, g0, g1, g2, g3, g5, hq, show impl_BeltText.ok a b c d x m = true from T.ok_of_get (hst), show impl_BeltText a b c d x m = _ from T.val_of_get (hst), seq_eq, cond_true, decide_true]
  rfl
end
/-! What a drawn belt answers. -/
theorem same1 (x : Nat) : (spec_l01Same.t x x).get = some true := by
  simp only [spec_l01Same.t, T.get, fne_self, Int.toNat_natCast]
  cases isNaN .f32 x
  · simp
  · rfl
theorem isame1 (x : Nat) : (impl_SameNumber.t x x).get = some true := by
  simp only [impl_SameNumber.t, T.get, fne_self, Int.toNat_natCast]
  cases isNaN .f32 x
  · simp
  · rfl
theorem num_t (x : Nat) (m : Int) : (spec_SameNumber.t x x m).get = some true := by
  simp only [spec_SameNumber.t, T.get, show spec_l01Same.ok x x = true from T.ok_of_get (same1 x), show spec_l01Same x x = _ from T.val_of_get (same1 x)]
  rfl
theorem beltS_t (a b c d : Nat) (x : Bool) (m : Int) : (spec_SameBelt.t a b c d x a b c d x m).get = some true := by
  simp only [spec_SameBelt.t, T.get, show spec_l01Same.ok a a = true from T.ok_of_get (same1 a), show spec_l01Same a a = _ from T.val_of_get (same1 a), show spec_l01Same.ok b b = true from T.ok_of_get (same1 b), show spec_l01Same b b = _ from T.val_of_get (same1 b), show spec_l01Same.ok c c = true from T.ok_of_get (same1 c), show spec_l01Same c c = _ from T.val_of_get (same1 c), show spec_l01Same.ok d d = true from T.ok_of_get (same1 d), show spec_l01Same d d = _ from T.val_of_get (same1 d), cond_true, beq_self_eq_true]
theorem beltI_t (a b c d : Nat) (x : Bool) (m : Int) : (impl_SameBelt.t a b c d x a b c d x m).get = some true := by
  simp only [impl_SameBelt.t, T.get, show impl_SameNumber.ok a a = true from T.ok_of_get (isame1 a), show impl_SameNumber a a = _ from T.val_of_get (isame1 a), show impl_SameNumber.ok b b = true from T.ok_of_get (isame1 b), show impl_SameNumber b b = _ from T.val_of_get (isame1 b), show impl_SameNumber.ok c c = true from T.ok_of_get (isame1 c), show impl_SameNumber c c = _ from T.val_of_get (isame1 c), show impl_SameNumber.ok d d = true from T.ok_of_get (isame1 d), show impl_SameNumber d d = _ from T.val_of_get (isame1 d), cond_true, beq_self_eq_true]
structure BF (a b c g : Nat) : Prop where
  na : Nb 1128792064 a
  nb : Nb 1128792064 b
  nc : Nb 1150000000 c
  ng : Nb 1073741824 g
  la : 1031798784 ≤ rg a
  lb : 1031798784 ≤ rg b
  ns : Nb 1140000000 (fadd .f32 a b)
  ls : 1031798784 ≤ rg (fadd .f32 a b)
  sc : rg (fadd .f32 a b) ≤ rg c
theorem bf_of {a b c g : Nat} (h : Beltly a b c g) : BF a b c g := by
  obtain ⟨h1, h2, h3, h4, h5, h6⟩ := h
  obtain ⟨na, la, _, _⟩ := numOk_nb h1
  obtain ⟨nb, lb, _, _⟩ := numOk_nb h2
  obtain ⟨ng, _, _, _⟩ := numOk_nb h6
  have := le_add_l na.1 nb.1
  exact ⟨na, nb, h3, ng, la, lb, nb_add na nb (by omega) (by omega) (by kernel_rfl) (by omega), by omega, h4⟩
theorem radius_ok {a : Nat} (ha : Nb 1128792064 a) (hl : 1031798784 ≤ rg a) : spec_l02Radius a = true := by
  have n1 := nb_self (K := 1031798784) (by decide)
  have n2 := nb_self (K := 1149239296) (by decide)
  have := ha.2
  simp only [spec_l02Radius, spec_l02Radius.t, T.val]
  rw [fge_nn ha.1 n1.1, fle_nn ha.1 n2.1, n1.2, n2.2, decide_eq_true hl, decide_eq_true (by omega)]
  rfl
theorem ok_of {a b c g : Nat} (F : BF a b c g) (x : Bool) : spec_l02Ok a b c g x = true := by
  have n1 := nb_self (K := 1199570944) (by decide)
  have n2 := nb_self (K := 1073741824) (by decide)
  have := F.nc.2
  simp only [spec_l02Ok, spec_l02Ok.t, T.val, radius_ok F.na F.la, radius_ok F.nb F.lb, cond_true]
  rw [fge_nn F.nc.1 F.ns.1, fle_nn F.nc.1 n1.1, fge_nn F.ng.1 nn_0.1, fle_nn F.ng.1 n2.1, n1.2, n2.2, nn_0.2, decide_eq_true F.sc, decide_eq_true (by omega), decide_eq_true F.ng.2]
  rfl
theorem bf_swap {a b c g : Nat} (F : BF a b c g) : BF b a c g := by
  have e := add_comm' F.na.1 F.nb.1
  refine ⟨F.nb, F.na, F.nc, F.ng, F.lb, F.la, nb_add F.nb F.na (by omega) (by omega) (by kernel_rfl) (by omega), ?_, ?_⟩
  · rw [← e]
    exact F.ls
  · rw [← e]
    exact F.sc
/-! How far the pulleys reach. -/
theorem reach_nb {a b c g : Nat} (F : BF a b c g) (x : Bool) : Nb 1140000000 (spec_l02Reach a b c g x) ∧ rg (spec_l02Reach a b c g x) ≤ rg c := by
  have h1 := le_add_l F.na.1 F.nb.1
  have h2 := le_add_r F.na.1 F.nb.1
  have h3 := F.ns.2
  have h4 := F.sc
  simp only [spec_l02Reach, spec_l02Reach.t, T.val]
  cases x with
  | true => exact ⟨F.ns, F.sc⟩
  | false =>
    rw [fgt_nn F.nb.1 F.na.1]
    by_cases h : rg a < rg b
    · rw [decide_eq_true h]
      have h5 := sub_ge F.nb.1 F.na.1 (by omega)
      have h6 := sub_le F.nb.1 F.na.1 (by omega)
      exact ⟨⟨h5.1, by dsimp only [cond_true, cond_false]; omega⟩, by dsimp only [cond_true, cond_false]; omega⟩
    · rw [decide_eq_false h]
      have h5 := sub_ge F.na.1 F.nb.1 (by omega)
      have h6 := sub_le F.na.1 F.nb.1 (by omega)
      exact ⟨⟨h5.1, by dsimp only [cond_true, cond_false]; omega⟩, by dsimp only [cond_true, cond_false]; omega⟩
theorem reach_swap {a b c g : Nat} (F : BF a b c g) (x : Bool) : rg (spec_l02Reach b a c g x) = rg (spec_l02Reach a b c g x) := by
  simp only [spec_l02Reach, spec_l02Reach.t, T.val]
  cases x with
  | true => exact (add_comm' F.na.1 F.nb.1).symm
  | false =>
    rw [fgt_nn F.nb.1 F.na.1, fgt_nn F.na.1 F.nb.1]
    by_cases h : rg a < rg b
    · rw [decide_eq_true h, decide_eq_false (by omega)]
      rfl
    · rw [decide_eq_false h]
      by_cases h2 : rg b < rg a
      · rw [decide_eq_true h2]
        rfl
      · rw [decide_eq_false h2]
        show rg (fsub .f32 b a) = rg (fsub .f32 a b)
        rw [(sub_ge F.nb.1 F.na.1 (by omega)).2, (sub_ge F.na.1 F.nb.1 (by omega)).2, show rg a = rg b by omega]
/-! Its length. -/
theorem len_def (a b c g : Nat) (x : Bool) : spec_l02Length a b c g x = fadd .f32 (fadd .f32 (fmul .f32 1073741824 c) (fmul .f32 1078525952 (fadd .f32 a b))) (fdiv .f32 (fmul .f32 (spec_l02Reach a b c g x) (spec_l02Reach a b c g x)) c) := rfl
structure LP (a b c g : Nat) (x : Bool) : Prop where
  p1 : Nb 1200000000 (fmul .f32 1073741824 c)
  p2 : Nb 1200000000 (fmul .f32 1078525952 (fadd .f32 a b))
  p3 : Nb 1250000000 (fmul .f32 (spec_l02Reach a b c g x) (spec_l02Reach a b c g x))
  p4 : Nb 1300000000 (fdiv .f32 (fmul .f32 (spec_l02Reach a b c g x) (spec_l02Reach a b c g x)) c)
  p5 : Nb 1210000000 (fadd .f32 (fmul .f32 1073741824 c) (fmul .f32 1078525952 (fadd .f32 a b)))
  p6 : Nb 1310000000 (spec_l02Length a b c g x)
theorem lp_of {a b c g : Nat} (F : BF a b c g) (x : Bool) : LP a b c g x := by
  have n1 : Nb 1073741824 1073741824 := ⟨(nb_self (by decide)).1, by decide⟩
  have n2 : Nb 1078525952 1078525952 := ⟨(nb_self (by decide)).1, by decide⟩
  have p1 : Nb 1200000000 (fmul .f32 1073741824 c) := nb_mul n1 F.nc (by omega) (by omega) (by kernel_rfl) (by omega)
  have p2 : Nb 1200000000 (fmul .f32 1078525952 (fadd .f32 a b)) := nb_mul n2 F.ns (by omega) (by omega) (by kernel_rfl) (by omega)
  have r := (reach_nb F x).1
  have p3 : Nb 1250000000 (fmul .f32 (spec_l02Reach a b c g x) (spec_l02Reach a b c g x)) := nb_mul r r (by omega) (by omega) (by kernel_rfl) (by omega)
  have lc := F.ls
  have sc := F.sc
  have p4 : Nb 1300000000 (fdiv .f32 (fmul .f32 (spec_l02Reach a b c g x) (spec_l02Reach a b c g x)) c) := nb_div p3 F.nc.1 (K := 1031798784) (by omega) (by omega) (by omega) (by kernel_rfl) (by omega)
  have p5 : Nb 1210000000 (fadd .f32 (fmul .f32 1073741824 c) (fmul .f32 1078525952 (fadd .f32 a b))) := nb_add p1 p2 (by omega) (by omega) (by kernel_rfl) (by omega)
  exact ⟨p1, p2, p3, p4, p5, nb_add p5 p4 (by omega) (by omega) (by kernel_rfl) (by omega)⟩
theorem len_ge {a b c g : Nat} (F : BF a b c g) (x : Bool) : rg (fmul .f32 1073741824 c) ≤ rg (spec_l02Length a b c g x) := by
  have P := lp_of F x
  have h1 := le_add_l P.p1.1 P.p2.1
  have h2 := le_add_l P.p5.1 P.p4.1
  rw [len_def]
  omega
theorem len_swap {a b c g : Nat} (F : BF a b c g) (x : Bool) : rg (spec_l02Length b a c g x) = rg (spec_l02Length a b c g x) := by
  have P := lp_of F x
  have Q := lp_of (bf_swap F) x
  have n2 : Nn 1078525952 := (nb_self (by decide)).1
  have e := reach_swap F x
  have r := (reach_nb F x).1.1
  have q := (reach_nb (bf_swap F) x).1.1
  have lc := F.ls
  have sc := F.sc
  rw [len_def, len_def]
  exact rung_add Q.p5.1 Q.p4.1 P.p5.1 P.p4.1 (rung_add Q.p1.1 Q.p2.1 P.p1.1 P.p2.1 rfl (rung_mul n2 (bf_swap F).ns.1 n2 F.ns.1 rfl (add_comm' F.nb.1 F.na.1))) (rung_div Q.p3.1 F.nc.1 P.p3.1 F.nc.1 (by omega) (rung_mul q q r r e e) rfl)
theorem len_more {a b c g : Nat} (F : BF a b c g) : rg (spec_l02Length a b c g false) ≤ rg (spec_l02Length a b c g true) := by
  have P := lp_of F false
  have Q := lp_of F true
  have r := (reach_nb F false).1.1
  have q := (reach_nb F true).1.1
  have lc := F.ls
  have sc := F.sc
  have hr : rg (spec_l02Reach a b c g false) ≤ rg (spec_l02Reach a b c g true) := by
    have h1 := le_add_l F.na.1 F.nb.1
    have h2 := le_add_r F.na.1 F.nb.1
    simp only [spec_l02Reach, spec_l02Reach.t, T.val, cond_true, cond_false]
    rw [fgt_nn F.nb.1 F.na.1]
    by_cases h : rg a < rg b
    · rw [decide_eq_true h]
      have h6 := sub_le F.nb.1 F.na.1 (by omega)
      dsimp only [cond_true]
      omega
    · rw [decide_eq_false h]
      have h6 := sub_le F.na.1 F.nb.1 (by omega)
      dsimp only [cond_false]
      omega
  rw [len_def, len_def]
  refine add_mono P.p5.1 Q.p5.1 P.p4.1 Q.p4.1 (Nat.le_refl _) ?_
  refine div_mono P.p3.1 F.nc.1 Q.p3.1 F.nc.1 (by omega) (by omega) (Nat.mul_le_mul_right _ (mag_le_iff.2 (mul_mono r q r q hr hr)))
theorem near_ok {x y : Nat} (m : Int) (hx : Nb 1310000000 x) (hy : Nb 1310000000 y) (e : rg x = rg y) : (spec_A2Near.t x y 897988541 0 m).get = some true := by
  have hs : ∀ {v}, Nn v → spec_l01Size v = v := fun {v} hv => by
    simp only [spec_l01Size, spec_l01Size.t, T.val]
    rw [flt_nn hv nn_0.1, nn_0.2, decide_eq_false (by omega)]
    rfl
  have n1 : Nb 897988541 897988541 := ⟨(nb_self (by decide)).1, by decide⟩
  have h1 : Nb 1310000000 (fmul .f32 x 897988541) := nb_mul hx n1 (by omega) (by omega) (by kernel_rfl) (by omega)
  have h2 : Nb 1310000000 (fadd .f32 (fmul .f32 x 897988541) 0) := nb_add h1 (K := 0) ⟨nn_0.1, by rw [nn_0.2]; omega⟩ (by omega) (by omega) (by kernel_rfl) (by omega)
  obtain ⟨s1, s2⟩ := size_sub hx.1 hy.1
  have hd : dist x y = 0 := by
    unfold dist
    rw [if_pos (by omega), (sub_ge hx.1 hy.1 (by omega)).2, e, Nat.sub_self, near_zero]
    rfl
  simp only [spec_A2Near.t, T.get, hs hx.1, hs hy.1]
  rw [fgt_nn hy.1 hx.1, decide_eq_false (by omega), fle_nn s1 h2.1, s2, hd, decide_eq_true (by omega)]
  rfl
/-! What it wraps, and how it grips. -/
theorem turn_nb {a b c g : Nat} (F : BF a b c g) (x : Bool) : Nb 1073741824 (fdiv .f32 (fmul .f32 1073741824 (spec_l02Reach a b c g x)) c) := by
  obtain ⟨r, rc⟩ := reach_nb F x
  have n1 : Nb 1073741824 1073741824 := ⟨(nb_self (by decide)).1, by decide⟩
  have n2 := nb_self (K := 1065353216) (by decide)
  have p1 : Nb 1200000000 (fmul .f32 1073741824 (spec_l02Reach a b c g x)) := nb_mul n1 r (by omega) (by omega) (by kernel_rfl) (by omega)
  have lc := F.ls
  have sc := F.sc
  have r2 := r.2
  have h : rg (fdiv .f32 (fmul .f32 1073741824 (spec_l02Reach a b c g x)) c) ≤ rg (fdiv .f32 1073741824 1065353216) := by
    refine div_mono p1.1 F.nc.1 n1.1 n2.1 (by omega) (by rw [n2.2]; omega) ?_
    rw [two_mul r.1 (by omega), mag_dbl, n2.2, (nb_self (K := 1073741824) (by decide)).2]
    have e : mag 1073741824 = 2 * mag 1065353216 := by
      rw [← mag_dbl]
      rfl
    rw [e]
    have := mag_le_iff.2 rc
    rw [Nat.mul_assoc, Nat.mul_comm (mag (rg (spec_l02Reach a b c g x))), ← Nat.mul_assoc]
    exact Nat.mul_le_mul_left _ this
  rw [div_one n1.1, (nb_self (K := 1073741824) (by decide)).2] at h
  exact ⟨nn_div p1.1 F.nc.1 (by omega) (by omega), h⟩
theorem wrap_nb {a b c g : Nat} (F : BF a b c g) (x : Bool) : Nb 1085000000 (spec_l02Wrap a b c g x) ∧ (bif x then 1078525952 ≤ rg (spec_l02Wrap a b c g x) else rg (spec_l02Wrap a b c g x) ≤ 1078525952) := by
  have t := turn_nb F x
  have n1 : Nb 1078525952 1078525952 := ⟨(nb_self (by decide)).1, by decide⟩
  have e1 : rg 1078525952 = 1078525952 := by decide
  cases x with
  | true =>
    refine ⟨nb_add n1 t (by omega) (by omega) (by kernel_rfl) (by omega), ?_⟩
    have := le_add_l n1.1 t.1
    rw [e1] at this
    exact this
  | false =>
    have t2 := t.2
    have := sub_le n1.1 t.1 (by omega)
    rw [e1] at this
    exact ⟨⟨(sub_ge n1.1 t.1 (by omega)).1, Nat.le_trans this (by omega)⟩, this⟩
noncomputable def sq (z : Nat) : Nat → Nat
  | 0 => z
  | k + 1 => fmul .f32 (sq z k) (sq z k)
theorem gripv_t (a b c g : Nat) (x : Bool) : (spec_l02Grip.t a b c g x).get = some (sq (fadd .f32 1065353216 (fdiv .f32 (fmul .f32 g (spec_l02Wrap a b c g x)) 1098907648)) 4) := by
  generalize hz : fadd .f32 1065353216 (fdiv .f32 (fmul .f32 g (spec_l02Wrap a b c g x)) 1098907648) = z
  have hr : spec_l02Grip.l4.r (a, b, c, g, x) (z, (0 : Int)) = some (sq z 4) := by
    refine iter_run (step := spec_l02Grip.l4.st (a, b, c, g, x)) (f := fun i => (sq z i, (i : Int))) (n := 4) (N := manyRounds) (k := 0) (many_lt (by omega)) (fun i hi => ?_) ?_
    · simp only [Nat.zero_add, spec_l02Grip.l4.st, spec_l02Grip.l4.s, T.get]
      rw [decide_eq_true (by omega), wrap64_succ (by omega)]
      rfl
    · simp only [Nat.zero_add, spec_l02Grip.l4.st, spec_l02Grip.l4.s, T.get]
      rfl
  simp only [spec_l02Grip.t, T.get, hz, hr]
  rfl
theorem grip_nb {a b c g : Nat} (F : BF a b c g) (x : Bool) : Nb 1166000000 (sq (fadd .f32 1065353216 (fdiv .f32 (fmul .f32 g (spec_l02Wrap a b c g x)) 1098907648)) 4) ∧ 1065353216 ≤ rg (sq (fadd .f32 1065353216 (fdiv .f32 (fmul .f32 g (spec_l02Wrap a b c g x)) 1098907648)) 4) := by
  have w := (wrap_nb F x).1
  have n16 := nb_self (K := 1098907648) (by decide)
  have n1 : Nb 1065353216 1065353216 := ⟨(nb_self (by decide)).1, by decide⟩
  have e1 : rg 1065353216 = 1065353216 := by decide
  have p1 : Nb 1093400000 (fmul .f32 g (spec_l02Wrap a b c g x)) := nb_mul F.ng w (by omega) (by omega) (by kernel_rfl) (by omega)
  have p2 : Nb 1059850000 (fdiv .f32 (fmul .f32 g (spec_l02Wrap a b c g x)) 1098907648) := nb_div p1 n16.1 (K := 1098907648) (by rw [n16.2]; omega) (by omega) (by omega) (by kernel_rfl) (by omega)
  have p3 : Nb 1071000000 (fadd .f32 1065353216 (fdiv .f32 (fmul .f32 g (spec_l02Wrap a b c g x)) 1098907648)) := nb_add n1 p2 (by omega) (by omega) (by kernel_rfl) (by omega)
  have l3 := le_add_l n1.1 p2.1
  rw [e1] at l3
  generalize fadd .f32 1065353216 (fdiv .f32 (fmul .f32 g (spec_l02Wrap a b c g x)) 1098907648) = z at p3 l3
  have up : ∀ {J L y : Nat}, Nb J y → J < 2139095040 → L < 2139095040 → 1065353216 ≤ rg y → decide (rg (fmul .f32 J J) ≤ L) = true → Nb L (fmul .f32 y y) ∧ 1065353216 ≤ rg (fmul .f32 y y) := fun {J L y} hy hJ hL hl hd => by
    refine ⟨nb_mul hy hy hJ hJ hd hL, ?_⟩
    have h := mul_dn hy.1 hy.1 hl hl (by omega) (by omega)
    rwa [show rg (fmul .f32 1065353216 1065353216) = 1065353216 by kernel_rfl] at h
  obtain ⟨q1, m1⟩ := up (L := 1077120000) p3 (by omega) (by omega) l3 (by kernel_rfl)
  obtain ⟨q2, m2⟩ := up (L := 1090250000) q1 (by omega) (by omega) m1 (by kernel_rfl)
  obtain ⟨q3, m3⟩ := up (L := 1115500000) q2 (by omega) (by omega) m2 (by kernel_rfl)
  obtain ⟨q4, m4⟩ := up (L := 1166000000) q3 (by omega) (by omega) m3 (by kernel_rfl)
  exact ⟨q4, m4⟩
/-! The answers by their values. -/
noncomputable def hold (a b c g : Nat) (x : Bool) : Nat := sq (fadd .f32 1065353216 (fdiv .f32 (fmul .f32 g (spec_l02Wrap a b c g x)) 1098907648)) 4
noncomputable def pullV (a b c g : Nat) (x : Bool) (t : Nat) : Nat := fsub .f32 t (fdiv .f32 t (hold a b c g x))
theorem hold_s (a b c g : Nat) (x : Bool) : (spec_l02Grip.t a b c g x).get = some (hold a b c g x) := gripv_t a b c g x
theorem hold_i (a b c g : Nat) (x : Bool) : (impl_Belt_grip.t a b c g x).get = some (hold a b c g x) := by
  obtain ⟨e, h1, h2⟩ := grip_t a b c g x
  rw [hold_s] at h1
  rw [h2, h1]
theorem pull_s (a b c g : Nat) (x : Bool) (t : Nat) : (spec_l02Pull.t t a b c g x).get = some (pullV a b c g x t) := by
  simp only [spec_l02Pull.t, T.get, show spec_l02Grip.ok a b c g x = true from T.ok_of_get (hold_s a b c g x), show spec_l02Grip a b c g x = _ from T.val_of_get (hold_s a b c g x)]
  rfl
theorem pull_i (a b c g : Nat) (x : Bool) (t : Nat) : (impl_Belt_pull.t t a b c g x).get = some (pullV a b c g x t) := by
  simp only [impl_Belt_pull.t, T.get, show impl_Belt_grip.ok a b c g x = true from T.ok_of_get (hold_i a b c g x), show impl_Belt_grip a b c g x = _ from T.val_of_get (hold_i a b c g x)]
  rfl
theorem torq_i (a b c g : Nat) (x : Bool) (t : Nat) : (impl_Belt_torque.t t a b c g x).get = some (fmul .f32 (pullV a b c g x t) a) := by
  simp only [impl_Belt_torque.t, T.get, show impl_Belt_pull.ok t a b c g x = true from T.ok_of_get (pull_i a b c g x t), show impl_Belt_pull t a b c g x = _ from T.val_of_get (pull_i a b c g x t)]
  rfl
theorem plain_eq (x : Nat) : impl_IsPlain x = spec_l01Plain x := by
  simp only [impl_IsPlain, impl_IsPlain.t, impl_between, impl_between.t, spec_l01Plain, spec_l01Plain.t, T.val, fge_flip]
theorem part_eq (x : Nat) : impl_IsPart x = spec_l01Part x := by
  simp only [impl_IsPart, impl_IsPart.t, impl_between, impl_between.t, spec_l01Part, spec_l01Part.t, T.val, fge_flip]
theorem plain_0 : spec_l01Plain 0 = true := by kernel_rfl
theorem plain_8 : spec_l01Plain 1090519040 = true := by kernel_rfl
theorem tight_0 : spec_l02Tight 0 = true := by kernel_rfl
theorem part_0 : spec_l01Part 0 = true := by kernel_rfl
theorem stiff_ok : impl_between 1148846080 1065353216 1233125376 = true := by kernel_rfl
theorem asked_0 {a b c g : Nat} (F : BF a b c g) (x : Bool) {t u : Nat} (ht : spec_l02Tight t = true) (hu : spec_l01Plain u = true) : spec_l02Asked t u a b c g x = 0 := by
  simp only [spec_l02Asked, spec_l02Asked.t, T.val, ok_of F x, ht, hu, Bool.not_true, cond_false]
section
variable {a b c g : Nat} (F : BF a b c g) (x : Bool) (m : Int)
include F
theorem len_i : impl_LengthOf a b c g x m = (spec_l02Length a b c g x, 0) := by
  simp only [impl_LengthOf, impl_LengthOf.t, T.val, orZero_eq, bcode_eq, ok_of F x, cond_true]
  rfl
theorem len_s : spec_LengthOf a b c g x m = (spec_l02Length a b c g x, 0) := by
  simp only [spec_LengthOf, spec_LengthOf.t, T.val, ok_of F x, Bool.not_true, cond_false]
theorem turn_i : impl_TurnBelt a b c g x m = (b, a, c, g, x, 0) := by
  simp only [impl_TurnBelt, impl_TurnBelt.t, T.val, vbelt_eq, ok_of F x, Bool.not_true, cond_false]
theorem wrap_i : impl_WrapOf a b c g x m = (spec_l02Wrap a b c g x, 0) := by
  simp only [impl_WrapOf, impl_WrapOf.t, T.val, orZero_eq, bcode_eq, ok_of F x, cond_true]
  rfl
theorem wrap_s : spec_WrapOf a b c g x m = (spec_l02Wrap a b c g x, 0) := by
  simp only [spec_WrapOf, spec_WrapOf.t, T.val, ok_of F x, Bool.not_true, cond_false]
theorem grip_i : (impl_GripOf.t a b c g x m).get = some (hold a b c g x, 0) := by
  simp only [impl_GripOf.t, T.get, orZero_eq, bcode_eq, ok_of F x, cond_true, bne_self_eq_false, cond_false, show impl_Belt_grip.ok a b c g x = true from T.ok_of_get (hold_i a b c g x), show impl_Belt_grip a b c g x = _ from T.val_of_get (hold_i a b c g x)]
theorem grip_s : (spec_GripOf.t a b c g x m).get = some (hold a b c g x, 0) := by
  simp only [spec_GripOf.t, T.get, ok_of F x, Bool.not_true, cond_false, show spec_l02Grip.ok a b c g x = true from T.ok_of_get (hold_s a b c g x), show spec_l02Grip a b c g x = _ from T.val_of_get (hold_s a b c g x)]
  rfl
theorem vw_i : impl_ValidBelt_w1 a b c g x m = true := by
  have h : impl_ValidBelt_w1 a b c g x m = impl_ValidBelt a b c g x := rfl
  rw [h, vbelt_eq, ok_of F x]
theorem pulls_i {t : Nat} (ht : spec_l02Tight t = true) : (impl_PullOf.t a b c g x t m).get = some (pullV a b c g x t, 0) := by
  simp only [impl_PullOf.t, T.get, orZero_eq, bcode_eq, ok_of F x, tight_eq, ht, cond_true, show impl_Belt_pull.ok t a b c g x = true from T.ok_of_get (pull_i a b c g x t), show impl_Belt_pull t a b c g x = _ from T.val_of_get (pull_i a b c g x t)]
  rfl
theorem pulls_s {t : Nat} (ht : spec_l02Tight t = true) : (spec_PullOf.t a b c g x t m).get = some (pullV a b c g x t, 0) := by
  simp only [spec_PullOf.t, T.get, asked_0 F x ht plain_0, bne_self_eq_false, cond_false, show spec_l02Pull.ok t a b c g x = true from T.ok_of_get (pull_s a b c g x t), show spec_l02Pull t a b c g x = _ from T.val_of_get (pull_s a b c g x t)]
  rfl
theorem torques_i {t : Nat} (ht : spec_l02Tight t = true) : (impl_TorqueOf.t a b c g x t m).get = some (fmul .f32 (pullV a b c g x t) a, 0) := by
  simp only [impl_TorqueOf.t, T.get, orZero_eq, bcode_eq, ok_of F x, tight_eq, ht, cond_true, show impl_Belt_torque.ok t a b c g x = true from T.ok_of_get (torq_i a b c g x t), show impl_Belt_torque t a b c g x = _ from T.val_of_get (torq_i a b c g x t)]
  rfl
theorem long_i {t : Nat} (ht : spec_l02Tight t = true) : impl_StretchedLength a b c g x t 1148846080 m = (fmul .f32 (spec_l02Length a b c g x) (fadd .f32 1065353216 (fdiv .f32 t 1148846080)), 0) := by
  simp only [impl_StretchedLength, impl_StretchedLength.t, T.val, orZero_eq, bcode_eq, ok_of F x, tight_eq, ht, stiff_ok, cond_true]
  rfl
noncomputable def slipV (a P s : Nat) : Nat := bif feq .f32 (fdiv .f32 s a) 0 then 0 else bif fge .f32 (fdiv .f32 s a) P then 1065353216 else fdiv .f32 (fdiv .f32 (fdiv .f32 s a) P) 1115684864
theorem slip_i {t w : Nat} (ht : spec_l02Tight t = true) (hw : spec_l01Plain w = true) (hs : impl_size w = spec_l01Size w) : (impl_SlipFor.t a b c g x t w m).get = some (slipV a (pullV a b c g x t) (spec_l01Size w), 0) := by
  simp only [impl_SlipFor.t, T.get, bcode_eq, ok_of F x, tight_eq, plain_eq, ht, hw, hs, cond_true, cond_false, bne_self_eq_false, show impl_Belt_pull.ok t a b c g x = true from T.ok_of_get (pull_i a b c g x t), show impl_Belt_pull t a b c g x = _ from T.val_of_get (pull_i a b c g x t), slipV]
  cases feq .f32 (fdiv .f32 (spec_l01Size w) a) 0 <;> cases fge .f32 (fdiv .f32 (spec_l01Size w) a) (pullV a b c g x t) <;> rfl
theorem slip_s {t w : Nat} (ht : spec_l02Tight t = true) (hw : spec_l01Plain w = true) : (spec_SlipFor.t a b c g x t w m).get = some (slipV a (pullV a b c g x t) (spec_l01Size w), 0) := by
  simp only [spec_SlipFor.t, T.get, asked_0 F x ht hw, bne_self_eq_false, cond_true, cond_false, show spec_l02Pull.ok t a b c g x = true from T.ok_of_get (pull_s a b c g x t), show spec_l02Pull t a b c g x = _ from T.val_of_get (pull_s a b c g x t), slipV]
  cases feq .f32 (fdiv .f32 (spec_l01Size w) a) 0 <;> cases fge .f32 (fdiv .f32 (spec_l01Size w) a) (pullV a b c g x t) <;> rfl
theorem out_i {k : Nat} (hk : spec_l01Part k = true) : impl_SpeedOut a b c g x 1090519040 k m = (spec_l02Out 1090519040 k a b c g x, 0) := by
  have ho : impl_Belt_out 1090519040 k a b c g x = spec_l02Out 1090519040 k a b c g x := by
    simp only [impl_Belt_out, impl_Belt_out.t, spec_l02Out, spec_l02Out.t, T.val]
  simp only [impl_SpeedOut, impl_SpeedOut.t, T.val, orZero_eq, bcode_eq, ok_of F x, plain_eq, part_eq, plain_8, hk, cond_true, cond_false, bne_self_eq_false, ho]
theorem out_s {k : Nat} (hk : spec_l01Part k = true) : spec_SpeedOut a b c g x 1090519040 k m = (spec_l02Out 1090519040 k a b c g x, 0) := by
  simp only [spec_SpeedOut, spec_SpeedOut.t, T.val, asked_0 F x tight_0 plain_8, hk, Bool.not_true, cond_false, bne_self_eq_false, beq_self_eq_true, cond_true]
/-! How many belts. -/
noncomputable def enough (T s i : Nat) : Bool := fge .f32 (fmul .f32 T (fofint .f32 (i : Int))) s
noncomputable def needV (T s : Nat) : Int × Int := match firstAt (enough T s) 12 1 with | some i => ((i : Int), 0) | none => (0, 6)
theorem need_s {t w : Nat} (ht : spec_l02Tight t = true) (hw : spec_l01Plain w = true) : (spec_BeltsNeeded.t a b c g x t w m).get = some (needV (fmul .f32 (pullV a b c g x t) a) (spec_l01Size w)) := by
  have hr : spec_BeltsNeeded.l6.r (w, fmul .f32 (pullV a b c g x t) a, m) (1 : Int) = some (match firstAt (enough (fmul .f32 (pullV a b c g x t) a) (spec_l01Size w)) 12 1 with | some i => .inl ((i : Int), 0) | none => .inr ()) := by
    refine iter_first_from (step := spec_BeltsNeeded.l6.st (w, fmul .f32 (pullV a b c g x t) a, m)) (enough (fmul .f32 (pullV a b c g x t) a) (spec_l01Size w)) (fun i => .inl ((i : Int), 0)) (.inr ()) 13 (by omega) (fun i hi => ?_) ?_ 12 1 manyRounds (by omega) (many_lt (by omega))
    · simp only [spec_BeltsNeeded.l6.st, spec_BeltsNeeded.l6.s, T.get]
      rw [decide_eq_true (by omega)]
      unfold enough
      cases fge .f32 (fmul .f32 (fmul .f32 (pullV a b c g x t) a) (fofint .f32 (i : Int))) (spec_l01Size w) <;> rfl
    · rfl
  simp only [spec_BeltsNeeded.t, T.get, asked_0 F x ht hw, bne_self_eq_false, cond_true, cond_false, show spec_l02Pull.ok t a b c g x = true from T.ok_of_get (pull_s a b c g x t), show spec_l02Pull t a b c g x = _ from T.val_of_get (pull_s a b c g x t), hr, needV]
  cases firstAt (enough (fmul .f32 (pullV a b c g x t) a) (spec_l01Size w)) 12 1 <;> rfl
theorem need_i {t w : Nat} (ht : spec_l02Tight t = true) (hw : spec_l01Plain w = true) (hs : impl_size w = spec_l01Size w) : (impl_BeltsNeeded.t a b c g x t w m).get = some (needV (fmul .f32 (pullV a b c g x t) a) (spec_l01Size w)) := by
  have hr : impl_BeltsNeeded.l5.r (t, w, m, a, b, c, g, x) (1 : Int) = some (match firstAt (enough (fmul .f32 (pullV a b c g x t) a) (spec_l01Size w)) 12 1 with | some i => .inl ((i : Int), 0) | none => .inr ()) := by
    refine iter_first_from (step := impl_BeltsNeeded.l5.st (t, w, m, a, b, c, g, x)) (enough (fmul .f32 (pullV a b c g x t) a) (spec_l01Size w)) (fun i => .inl ((i : Int), 0)) (.inr ()) 13 (by omega) (fun i hi => ?_) ?_ 12 1 manyRounds (by omega) (many_lt (by omega))
    · simp only [impl_BeltsNeeded.l5.st, impl_BeltsNeeded.l5.s, T.get, show impl_Belt_torque.ok t a b c g x = true from T.ok_of_get (torq_i a b c g x t), show impl_Belt_torque t a b c g x = _ from T.val_of_get (torq_i a b c g x t), hs]
      rw [decide_eq_true (by omega)]
      unfold enough
      cases fge .f32 (fmul .f32 (fmul .f32 (pullV a b c g x t) a) (fofint .f32 (i : Int))) (spec_l01Size w) <;> rfl
    · rfl
  simp only [impl_BeltsNeeded.t, T.get, bcode_eq, ok_of F x, tight_eq, plain_eq, ht, hw, bne_self_eq_false, cond_true, cond_false, hr, needV]
  cases firstAt (enough (fmul .f32 (pullV a b c g x t) a) (spec_l01Size w)) 12 1 <;> rfl
end
/-! The bounds of these answers. -/
noncomputable def tightOk (t : Nat) : Bool := numOk 0 1128792064 t && (spec_l02Tight t && (spec_l02Tight (fmul .f32 1073741824 t) && (decide (rg t = 0) || decide (1065353216 ≤ rg t))))
theorem tights : (List.range 200).all (fun v => tightOk (fofint .f32 (v : Int))) = true := by kernel_rfl
noncomputable def loadOk (w : Nat) : Bool := spec_l01Plain w && (Nat.beq (impl_size w) (spec_l01Size w) && (numOk 0 1090519040 (spec_l01Size w) && ((feq .f32 w 0 == decide (rg (spec_l01Size w) = 0)) && (numOk 0 1090519040 (fmax .f32 w (fneg .f32 w)) && Nat.beq (rg (fmax .f32 w (fneg .f32 w))) (rg (spec_l01Size w))))))
theorem loads : (List.range 65).all (fun v => loadOk (fdiv .f32 (fofint .f32 (IntKind.wrap .i64 (((v : Nat) : Int) - (32 : Int)))) 1082130432)) = true := by kernel_rfl
theorem load_t {n : Nat} {ys : List Int} (hs : srcOk n ys) (m : Int) : ∃ w, (spec_A2Number.t n m ys).get = some w ∧ loadOk w = true := by
  obtain ⟨v, p1, h1, q1, g1, l1⟩ := pick_t hs 65 0 0 (by omega)
  refine ⟨_, ?_, vals' loads (by omega) g1⟩
  have hf : (spec_l01Few.t n 0 0 ys).get = some (fdiv .f32 (fofint .f32 (IntKind.wrap .i64 (((v : Nat) : Int) - (32 : Int)))) 1082130432, n, (p1 : Int), h1) := by
    simp only [spec_l01Few.t, T.get, show spec_l00Src_pick.ok (65 : Int) n 0 0 ys = true from T.ok_of_get (q1), show spec_l00Src_pick (65 : Int) n 0 0 ys = _ from T.val_of_get (q1)]
    rfl
  simp only [spec_A2Number.t, T.get, spec_l00From, spec_l00From.t, T.val, show spec_l01Few.ok n 0 0 ys = true from T.ok_of_get (hf), show spec_l01Few n 0 0 ys = _ from T.val_of_get (hf)]
  rfl
theorem tight_t {n : Nat} {ys : List Int} (hs : srcOk n ys) (m : Int) : ∃ v : Nat, (laws_a2At.t n 0 200 m ys).get = some (v : Int) ∧ tightOk (fofint .f32 (v : Int)) = true := by
  have hg := src_get hs 0
  simp only [laws_a2At.t, T.get]
  by_cases h : n = 0
  · subst h
    exact ⟨0, rfl, vals' (v := 0) tights (by omega) (.inl rfl)⟩
  · have hw : IntKind.wrap .i64 (ys.getD 0 0) = ys.getD 0 0 := wrap64 (by omega) (by omega)
    obtain ⟨u, hu⟩ : ∃ u : Nat, ys.getD 0 0 = (u : Int) := ⟨(ys.getD 0 0).toNat, by omega⟩
    have hb : bounds 0 n = true := by
      rw [show (0 : Int) = ((0 : Nat) : Int) from rfl, bounds_nat, decide_eq_true (by omega)]
    have hl : Nat.ble ((0 + (Int.toNat (0 : Int) * 1)) + 1) (List.length ys) = true := by
      rw [ble_decide, hs.1]
      exact decide_eq_true (by simp; omega)
    refine ⟨u % 200, ?_, vals' (v := u % 200) tights (by omega) (.inr (by omega))⟩
    rw [decide_eq_false (by omega), decide_eq_false (by omega), hb, hl]
    have e0 : (0 + (Int.toNat (0 : Int) * 1)) = 0 := rfl
    rw [e0, hw, hu]
    have e1 : Int.tmod (u : Int) 200 = ((u % 200 : Nat) : Int) := rfl
    rw [e1]
    rfl
theorem tightOk_t {t : Nat} (h : tightOk t = true) : Nb 1128792064 t ∧ spec_l02Tight t = true ∧ spec_l02Tight (fmul .f32 1073741824 t) = true ∧ (rg t = 0 ∨ 1065353216 ≤ rg t) := by
  simp only [tightOk, Bool.and_eq_true, Bool.or_eq_true, decide_eq_true_eq] at h
  obtain ⟨h1, h2, h3, h4⟩ := h
  exact ⟨(numOk_nb h1).1, h2, h3, h4⟩
theorem loadOk_t {w : Nat} (h : loadOk w = true) : spec_l01Plain w = true ∧ impl_size w = spec_l01Size w ∧ Nb 1090519040 (spec_l01Size w) ∧ feq .f32 w 0 = decide (rg (spec_l01Size w) = 0) ∧ Nb 1090519040 (fmax .f32 w (fneg .f32 w)) ∧ rg (fmax .f32 w (fneg .f32 w)) = rg (spec_l01Size w) := by
  simp only [loadOk, Bool.and_eq_true, beq_iff_eq] at h
  obtain ⟨h1, h2, h3, h4, h5, h6⟩ := h
  exact ⟨h1, Nat.eq_of_beq_eq_true h2, (numOk_nb h3).1, h4, (numOk_nb h5).1, Nat.eq_of_beq_eq_true h6⟩
theorem pull_nb {a b c g t : Nat} (F : BF a b c g) (x : Bool) (ht : Nb 1140000000 t) : Nb 1140000000 (pullV a b c g x t) ∧ rg (pullV a b c g x t) ≤ rg t := by
  obtain ⟨hn, hl⟩ := grip_nb F x
  have t2 := ht.2
  have d := div_le ht.1 hn.1 hl
  have nd := nn_div ht.1 hn.1 (by omega) (by omega)
  have s1 := sub_ge ht.1 nd d
  have s2 := sub_le ht.1 nd d
  have s2' : rg (pullV a b c g x t) ≤ rg t := s2
  exact ⟨⟨s1.1, by omega⟩, s2'⟩
theorem pull_more {a b c g t : Nat} (F : BF a b c g) (x : Bool) (ht : Nb 1128792064 t) (h0 : rg t = 0 ∨ 1065353216 ≤ rg t) : Nn (pullV a b c g x (fmul .f32 1073741824 t)) ∧ rg (pullV a b c g x t) ≤ rg (pullV a b c g x (fmul .f32 1073741824 t)) := by
  obtain ⟨hn, hl⟩ := grip_nb F x
  have n2 : Nb 1073741824 1073741824 := ⟨(nb_self (by decide)).1, by decide⟩
  have t2 := ht.2
  have h2 := hn.2
  have d : Nb 1140000000 (fmul .f32 1073741824 t) := nb_mul n2 ht (by omega) (by omega) (by kernel_rfl) (by omega)
  have d2 := d.2
  refine ⟨(pull_nb F x d).1.1, ?_⟩
  exact pull_mono ht.1 d.1 hn.1 (by rw [two_mul ht.1 (by omega), mag_dbl]) h0 (by omega) hl (by
    show rg (sq _ 4) ≤ _
    omega)
/-! Slip. -/
theorem slip_nb {a b c g t s : Nat} (F : BF a b c g) (x : Bool) (ht : Nb 1128792064 t) (hs : Nb 1090519040 s) : Nn (slipV a (pullV a b c g x t) s) ∧ rg (slipV a (pullV a b c g x t) s) ≤ 1065353216 ∧ (rg (slipV a (pullV a b c g x t) s) ≤ 1015021568 ∨ slipV a (pullV a b c g x t) s = 1065353216) ∧ (rg s = 0 → slipV a (pullV a b c g x t) s = 0) := by
  obtain ⟨np, _⟩ := pull_nb F x (nb_mono ht (by omega))
  generalize pullV a b c g x t = P at np ⊢
  have nq : Nb 1140000000 (fdiv .f32 s a) := nb_div hs F.na.1 F.la (by omega) (by omega) (by kernel_rfl) (by omega)
  have hz : rg s = 0 → rg (fdiv .f32 s a) = 0 := fun h => by
    have := div_up (J := 0) ⟨hs.1, by omega⟩ F.na.1 F.la (by omega) (by omega) (by omega)
    rw [show rg (fdiv .f32 0 1031798784) = 0 by kernel_rfl] at this
    omega
  unfold slipV
  rw [feq_nn nq.1 nn_0.1, nn_0.2, fge_nn nq.1 np.1]
  by_cases h1 : rg (fdiv .f32 s a) = 0
  · rw [decide_eq_true h1]
    exact ⟨nn_0.1, by rw [cond_true, nn_0.2]; omega, .inl (by rw [cond_true, nn_0.2]; omega), fun _ => rfl⟩
  · rw [decide_eq_false h1]
    by_cases h2 : rg P ≤ rg (fdiv .f32 s a)
    · rw [decide_eq_true h2]
      simp only [cond_true, cond_false]
      exact ⟨(nb_self (by decide)).1, by decide, .inr (by trivial), fun h => absurd (hz h) h1⟩
    · rw [decide_eq_false h2]
      have n1 : rg P ≠ 0 := by omega
      have l1 := div_le_one nq.1 np.1 n1 (by omega)
      have nd : Nb 1065353216 (fdiv .f32 (fdiv .f32 s a) P) := ⟨nn_div nq.1 np.1 n1 (by omega), l1⟩
      have n64 := nb_self (K := 1115684864) (by decide)
      have nr : Nb 1015021568 (fdiv .f32 (fdiv .f32 (fdiv .f32 s a) P) 1115684864) := nb_div nd n64.1 (K := 1115684864) (by rw [n64.2]; omega) (by omega) (by omega) (by kernel_rfl) (by omega)
      have nr2 := nr.2
      exact ⟨nr.1, by simp only [cond_false]; omega, .inl (by simp only [cond_false]; omega), fun h => absurd (hz h) h1⟩
theorem part_of {k : Nat} (hk : Nn k) (h : rg k ≤ 1065353216) : spec_l01Part k = true := by
  have n1 := nb_self (K := 1065353216) (by decide)
  simp only [spec_l01Part, spec_l01Part.t, T.val]
  rw [fge_nn hk nn_0.1, fle_nn hk n1.1, nn_0.2, n1.2, decide_eq_true (by omega), decide_eq_true h]
  rfl
/-! Speeds. -/
theorem speed_nb {a b c g k : Nat} (F : BF a b c g) (hk : Nn k) (h : rg k ≤ 1065353216) : Nb 1200000000 (fmul .f32 (fmul .f32 1090519040 (fdiv .f32 a b)) (fsub .f32 1065353216 k)) ∧ rg (fmul .f32 (fmul .f32 1090519040 (fdiv .f32 a b)) (fsub .f32 1065353216 k)) ≤ rg (fmul .f32 (fmul .f32 1090519040 (fdiv .f32 a b)) (fsub .f32 1065353216 0)) ∧ 1 ≤ rg (fmul .f32 (fmul .f32 1090519040 (fdiv .f32 a b)) (fsub .f32 1065353216 0)) := by
  have n1 : Nb 1065353216 1065353216 := ⟨(nb_self (by decide)).1, by decide⟩
  have e1 : rg 1065353216 = 1065353216 := by decide
  have n8 : Nb 1090519040 1090519040 := ⟨(nb_self (by decide)).1, by decide⟩
  have e8 : rg 1090519040 = 1090519040 := by decide
  have lb := F.lb
  have nr : Nb 1170000000 (fdiv .f32 a b) := nb_div F.na F.nb.1 F.lb (by omega) (by omega) (by kernel_rfl) (by omega)
  have lr := div_dn F.na.1 F.la F.nb (by omega) (by omega) (by omega)
  have nu : Nb 1195200000 (fmul .f32 1090519040 (fdiv .f32 a b)) := nb_mul n8 nr (by omega) (by omega) (by kernel_rfl) (by omega)
  have lu := mul_dn n8.1 nr.1 (J := 1090519040) (K := 960000000) (by omega) (by
    have : decide (960000000 ≤ rg (fdiv .f32 1031798784 1128792064)) = true := by kernel_rfl
    have := of_decide_eq_true this
    omega) (by omega) (by omega)
  have lk : rg k ≤ rg 1065353216 := by omega
  have s1 := sub_ge n1.1 hk lk
  have s2 := sub_le n1.1 hk lk
  have s3 := sub_mono n1.1 hk n1.1 nn_0.1 lk (Nat.le_refl _) (by rw [nn_0.2]; omega)
  have e0 : rg (fsub .f32 1065353216 0) = 1065353216 := by kernel_rfl
  have z1 := sub_ge n1.1 nn_0.1 (by rw [nn_0.2]; omega)
  have lw := mul_dn nu.1 z1.1 (J := 900000000) (K := 1065353216) (by
    have : decide (900000000 ≤ rg (fmul .f32 1090519040 960000000)) = true := by kernel_rfl
    have := of_decide_eq_true this
    omega) (by omega) (by omega) (by omega)
  refine ⟨nb_mul nu ⟨s1.1, by rw [e1] at s2; exact s2⟩ (by omega) (by omega) (by kernel_rfl) (by omega), mul_mono nu.1 nu.1 s1.1 z1.1 (Nat.le_refl _) s3, ?_⟩
  have : decide (1 ≤ rg (fmul .f32 900000000 1065353216)) = true := by kernel_rfl
  have := of_decide_eq_true this
  omega
theorem out_def (k a b c g : Nat) (x : Bool) : spec_l02Out 1090519040 k a b c g x = bif x then fneg .f32 (fmul .f32 (fmul .f32 1090519040 (fdiv .f32 a b)) (fsub .f32 1065353216 k)) else fmul .f32 (fmul .f32 1090519040 (fdiv .f32 a b)) (fsub .f32 1065353216 k) := by
  simp only [spec_l02Out, spec_l02Out.t, T.val]
theorem speed_ok {a b c g k : Nat} (F : BF a b c g) (x : Bool) (hk : Nn k) (h : rg k ≤ 1065353216) : fgt .f32 (fmax .f32 (spec_l02Out 1090519040 k a b c g x) (fneg .f32 (spec_l02Out 1090519040 k a b c g x))) (fmax .f32 (spec_l02Out 1090519040 0 a b c g x) (fneg .f32 (spec_l02Out 1090519040 0 a b c g x))) = false ∧ flt .f32 (spec_l02Out 1090519040 0 a b c g x) 0 = x := by
  obtain ⟨p1, p2, p3⟩ := speed_nb F hk h
  obtain ⟨q1, _, _⟩ := speed_nb F nn_0.1 (k := 0) (by rw [nn_0.2]; omega)
  simp only [out_def]
  generalize fmul .f32 (fmul .f32 1090519040 (fdiv .f32 a b)) (fsub .f32 1065353216 k) = M at p1 p2
  generalize fmul .f32 (fmul .f32 1090519040 (fdiv .f32 a b)) (fsub .f32 1065353216 0) = N at p2 p3 q1
  obtain ⟨⟨a1, a2⟩, a3, a4⟩ := abs_max p1.1
  obtain ⟨⟨b1, b2⟩, b3, b4⟩ := abs_max q1.1
  cases x with
  | true =>
    simp only [cond_true]
    refine ⟨?_, ?_⟩
    · rw [fgt_nn a3 b3, a4, b4]
      exact decide_eq_false (by omega)
    · obtain ⟨i1, i2⟩ := nn_is q1.1 (by omega)
      rw [fneg_pos i2]
      unfold flt
      rw [neg_order (by omega) i2 nn_0.1]
      rfl
  | false =>
    simp only [cond_false]
    refine ⟨?_, ?_⟩
    · rw [fgt_nn a1 b1, a2, b2]
      exact decide_eq_false (by omega)
    · rw [flt_nn q1.1 nn_0.1, nn_0.2]
      exact decide_eq_false (by omega)
/-! Counts. -/
theorem ints : (List.range 13).all (fun i => numOk 0 1094713344 (fofint .f32 (i : Int))) = true := by kernel_rfl
theorem need_ok {T s S : Nat} (hT : Nb 1200000000 T) (hs : Nb 1090519040 s) (hS : Nb 1090519040 S) (e : rg S = rg s) :
    (∃ i : Nat, 1 ≤ i ∧ i ≤ 12 ∧ needV T s = ((i : Int), 0) ∧ fge .f32 (fmul .f32 (fofint .f32 (i : Int)) T) (fmul .f32 S 1065353199) = true ∧ (i = 1 ∨ flt .f32 (fmul .f32 (fofint .f32 ((i - 1 : Nat) : Int)) T) (fmul .f32 S 1065353224) = true)) ∨ (needV T s = (0, 6) ∧ flt .f32 (fmul .f32 1094713344 T) (fmul .f32 S 1065353224) = true) := by
  have u1 : Nb 1065353224 1065353224 := ⟨(nb_self (by decide)).1, by decide⟩
  have u2 : Nb 1065353199 1065353199 := ⟨(nb_self (by decide)).1, by decide⟩
  have u3 : Nb 1065353216 1065353216 := ⟨(nb_self (by decide)).1, by decide⟩
  have v1 : Nb 1095000000 (fmul .f32 S 1065353224) := nb_mul hS u1 (by omega) (by omega) (by kernel_rfl) (by omega)
  have v2 : Nb 1095000000 (fmul .f32 S 1065353199) := nb_mul hS u2 (by omega) (by omega) (by kernel_rfl) (by omega)
  have m1 := mul_mono hS.1 hS.1 u3.1 u1.1 (Nat.le_refl _) (by decide)
  have m2 := mul_mono hS.1 hS.1 u2.1 u3.1 (Nat.le_refl _) (by decide)
  rw [mul_one hS.1] at m1 m2
  have hi : ∀ i : Nat, i < 13 → Nb 1094713344 (fofint .f32 (i : Int)) := fun i h => (numOk_nb (vals' ints (by omega) (.inr h))).1
  have hp : ∀ i : Nat, i < 13 → Nb 1300000000 (fmul .f32 T (fofint .f32 (i : Int))) ∧ Nb 1300000000 (fmul .f32 (fofint .f32 (i : Int)) T) ∧ rg (fmul .f32 T (fofint .f32 (i : Int))) = rg (fmul .f32 (fofint .f32 (i : Int)) T) := fun i h =>
    ⟨nb_mul hT (hi i h) (by omega) (by omega) (by kernel_rfl) (by omega), nb_mul (hi i h) hT (by omega) (by omega) (by kernel_rfl) (by omega), mul_comm' hT.1 (hi i h).1⟩
  have less : ∀ i : Nat, i < 13 → enough T s i = false → flt .f32 (fmul .f32 (fofint .f32 (i : Int)) T) (fmul .f32 S 1065353224) = true := fun i h hf => by
    obtain ⟨k1, k2, k3⟩ := hp i h
    unfold enough at hf
    rw [fge_nn k1.1 hs.1] at hf
    have := of_decide_eq_false hf
    rw [flt_nn k2.1 v1.1]
    exact decide_eq_true (by omega)
  unfold needV
  cases hf : firstAt (enough T s) 12 1 with
  | none =>
    refine .inr ⟨rfl, ?_⟩
    have := less 12 (by omega) (firstAt_none.1 hf 12 (by omega) (by omega))
    rwa [show fofint .f32 ((12 : Nat) : Int) = 1094713344 by kernel_rfl] at this
  | some i =>
    obtain ⟨h1, h2, h3, h4⟩ := firstAt_some hf
    refine .inl ⟨i, h1, by omega, rfl, ?_, ?_⟩
    · obtain ⟨k1, k2, k3⟩ := hp i (by omega)
      unfold enough at h3
      rw [fge_nn k1.1 hs.1] at h3
      have := of_decide_eq_true h3
      rw [fge_nn k2.1 v2.1]
      exact decide_eq_true (by omega)
    · by_cases h5 : i = 1
      · exact .inl h5
      · exact .inr (less (i - 1) (by omega) (h4 (i - 1) (by omega) (by omega)))
/-! The length, drawn out. -/
theorem long_ok {a b c g t : Nat} (F : BF a b c g) (x : Bool) (ht : Nb 1128792064 t) : flt .f32 (fmul .f32 (spec_l02Length a b c g x) (fadd .f32 1065353216 (fdiv .f32 t 1148846080))) (spec_l02Length a b c g x) = false := by
  have P := (lp_of F x).p6
  have u3 : Nb 1065353216 1065353216 := ⟨(nb_self (by decide)).1, by decide⟩
  have n64 := nb_self (K := 1148846080) (by decide)
  have d : Nb 1100000000 (fdiv .f32 t 1148846080) := nb_div ht n64.1 (K := 1148846080) (by rw [n64.2]; omega) (by omega) (by omega) (by kernel_rfl) (by omega)
  have s : Nb 1110000000 (fadd .f32 1065353216 (fdiv .f32 t 1148846080)) := nb_add u3 d (by omega) (by omega) (by kernel_rfl) (by omega)
  have m : Nb 1400000000 (fmul .f32 (spec_l02Length a b c g x) (fadd .f32 1065353216 (fdiv .f32 t 1148846080))) := nb_mul P s (by omega) (by omega) (by kernel_rfl) (by omega)
  have h := mul_mono P.1 P.1 u3.1 s.1 (Nat.le_refl _) (le_add_l u3.1 d.1)
  rw [mul_one P.1] at h
  rw [flt_nn m.1 P.1]
  exact decide_eq_false (by omega)
theorem nan_f {a : Nat} (h : a < 2139095040) : isNaN .f32 a = false := (numOk_nb (J := 0) (K := 2139095040) (by
  simp only [numOk, Bool.and_eq_true, decide_eq_true_eq]
  have := (nb_self h).2
  omega)).2.2.2
theorem law_small (m : Int) {n k : Nat} {xs ys : List Int} (hs : srcOk n xs) (ht : srcOk k ys) (hn : n ≤ 3000) (hk : k ≤ 3000) : (laws_FnBelts.t n k m xs ys).get = some true := by
  have b1 : laws_a2Long n k m xs ys = false := by
    simp only [laws_a2Long, laws_a2Long.t, T.val]
    rw [decide_eq_false (by omega), decide_eq_false (by omega)]
    rfl
  obtain ⟨a, b, c, g, x, hb, B⟩ := belt_t hs m
  have F := bf_of B
  obtain ⟨B1, B2, B3, B4, B5, B6⟩ := B
  obtain ⟨_, _, ra, ia⟩ := numOk_nb B1
  obtain ⟨_, _, rb, ib⟩ := numOk_nb B2
  obtain ⟨_, _, rg', ig⟩ := numOk_nb B6
  have ic := nan_f B5
  have hok := ok_of F x
  have txt := belt_text a b c g x m ra rb (by omega) rg' ia ib ic ig hok
  have back := read_back a b c g x m ra rb (by omega) rg' ia ib ic ig hok
  obtain ⟨v, hv, tv⟩ := tight_t ht m
  obtain ⟨w, hw, lw⟩ := load_t ht m
  generalize htt : fofint .f32 (v : Int) = t at tv
  obtain ⟨nt, t1, t2, t0⟩ := tightOk_t tv
  obtain ⟨w1, w2, w3, w4, w5, w6⟩ := loadOk_t lw
  have P := lp_of F x
  have f1 : flt .f32 (spec_l02Length a b c g x) (fmul .f32 1073741824 c) = false := by
    rw [flt_nn P.p6.1 P.p1.1]
    exact decide_eq_false (by have := len_ge F x; omega)
  have f2 := near_ok m (lp_of (bf_swap F) x).p6 P.p6 (len_swap F x)
  have n1 := nb_self (K := 1065353216) (by decide)
  have npi := nb_self (K := 1078525952) (by decide)
  have f3 : flt .f32 (hold a b c g x) 1065353216 = false := by
    obtain ⟨h1, h2⟩ := grip_nb F x
    unfold hold
    rw [flt_nn h1.1 n1.1, n1.2]
    exact decide_eq_false (by omega)
  have f4 : flt .f32 (spec_l02Length a b c g true) (spec_l02Length a b c g false) = false := by
    rw [flt_nn (lp_of F true).p6.1 (lp_of F false).p6.1]
    exact decide_eq_false (by have := len_more F; omega)
  have f5 : flt .f32 (spec_l02Wrap a b c g true) 1078525952 = false := by
    obtain ⟨h1, h2⟩ := wrap_nb F true
    simp only [cond_true] at h2
    rw [flt_nn h1.1 npi.1, npi.2]
    exact decide_eq_false (by omega)
  have f6 : fgt .f32 (spec_l02Wrap a b c g false) 1078525952 = false := by
    obtain ⟨h1, h2⟩ := wrap_nb F false
    simp only [cond_false] at h2
    rw [fgt_nn h1.1 npi.1, npi.2]
    exact decide_eq_false (by omega)
  obtain ⟨np, lp⟩ := pull_nb F x (nb_mono nt (by omega))
  obtain ⟨nq, lq⟩ := pull_more F x nt t0
  have f7 : flt .f32 (pullV a b c g x t) 0 = false := by
    rw [flt_nn np.1 nn_0.1, nn_0.2]
    exact decide_eq_false (by omega)
  have f8 : fgt .f32 (pullV a b c g x t) t = false := by
    rw [fgt_nn np.1 nt.1]
    exact decide_eq_false (by omega)
  have f9 : flt .f32 (pullV a b c g x (fmul .f32 1073741824 t)) (pullV a b c g x t) = false := by
    rw [flt_nn nq np.1]
    exact decide_eq_false (by omega)
  obtain ⟨ns, ls, ks, zs⟩ := slip_nb F x nt w3
  have sI := slip_i F x m t1 w1 w2
  have sS := slip_s F x m t1 w1
  have f10 : fge .f32 (slipV a (pullV a b c g x t) (spec_l01Size w)) 0 = true := by
    rw [fge_nn ns nn_0.1, nn_0.2]
    exact decide_eq_true (by omega)
  have f11 : fgt .f32 (slipV a (pullV a b c g x t) (spec_l01Size w)) 1015021568 = false ∨ fne .f32 (slipV a (pullV a b c g x t) (spec_l01Size w)) 1065353216 = false := by
    have n64 := nb_self (K := 1015021568) (by decide)
    rcases ks with h | h
    · refine .inl ?_
      rw [fgt_nn ns n64.1, n64.2]
      exact decide_eq_false (by omega)
    · refine .inr ?_
      rw [h]
      kernel_rfl
  have f12 : feq .f32 w 0 = false ∨ fne .f32 (slipV a (pullV a b c g x t) (spec_l01Size w)) 0 = false := by
    rw [w4]
    by_cases h : rg (spec_l01Size w) = 0
    · refine .inr ?_
      rw [zs h]
      kernel_rfl
    · exact .inl (decide_eq_false h)
  have hpart := part_of ns ls
  obtain ⟨f13, f14⟩ := speed_ok F x ns ls
  have nT : Nb 1200000000 (fmul .f32 (pullV a b c g x t) a) := nb_mul (J := 1128792064) ⟨np.1, by have := nt.2; omega⟩ F.na (by omega) (by omega) (by kernel_rfl) (by omega)
  have f15 := need_ok nT w3 w5 w6
  have nI := need_i F x m t1 w1 w2
  have nS := need_s F x m t1 w1
  have f16 := long_ok F x nt
  have oI := out_i F x m hpart
  have oI0 := out_i F x m part_0
  have oS := out_s F x m hpart
  have lI := long_i F x m t1
  simp only [laws_FnBelts.t, T.get, b1, show spec_A2Belt.ok n m xs = true from T.ok_of_get (hb), show spec_A2Belt n m xs = _ from T.val_of_get (hb), show impl_BeltText.ok a b c g x m = true from T.ok_of_get (txt), show impl_BeltText a b c g x m = _ from T.val_of_get (txt), show impl_ReadBelt.ok (text4 a b c g ++ wordB x) m = true from T.ok_of_get (back), show impl_ReadBelt (text4 a b c g ++ wordB x) m = _ from T.val_of_get (back), len_i F x m, len_s F x m, turn_i F x m, len_i (bf_swap F) x m, wrap_i F x m, wrap_s F x m, show impl_GripOf.ok a b c g x m = true from T.ok_of_get (grip_i F x m), show impl_GripOf a b c g x m = _ from T.val_of_get (grip_i F x m), show spec_GripOf.ok a b c g x m = true from T.ok_of_get (grip_s F x m), show spec_GripOf a b c g x m = _ from T.val_of_get (grip_s F x m), show spec_SameBelt.ok a b c g x a b c g x m = true from T.ok_of_get (beltS_t a b c g x m), show spec_SameBelt a b c g x a b c g x m = _ from T.val_of_get (beltS_t a b c g x m), show impl_SameBelt.ok a b c g x a b c g x m = true from T.ok_of_get (beltI_t a b c g x m), show impl_SameBelt a b c g x a b c g x m = _ from T.val_of_get (beltI_t a b c g x m), vw_i F x m, fne_self, ia, ib, show spec_SameNumber.ok (spec_l02Length a b c g x) (spec_l02Length a b c g x) m = true from T.ok_of_get (num_t _ m), show spec_SameNumber (spec_l02Length a b c g x) (spec_l02Length a b c g x) m = _ from T.val_of_get (num_t _ m), f1, T.val_of_get f2, show spec_A2Near (spec_l02Length b a c g x) (spec_l02Length a b c g x) 897988541 0 m = true from T.val_of_get f2, show spec_SameNumber.ok (spec_l02Wrap a b c g x) (spec_l02Wrap a b c g x) m = true from T.ok_of_get (num_t _ m), show spec_SameNumber (spec_l02Wrap a b c g x) (spec_l02Wrap a b c g x) m = _ from T.val_of_get (num_t _ m), show spec_SameNumber.ok (hold a b c g x) (hold a b c g x) m = true from T.ok_of_get (num_t _ m), show spec_SameNumber (hold a b c g x) (hold a b c g x) m = _ from T.val_of_get (num_t _ m), f3, len_i F true m, len_i F false m, wrap_i F true m, wrap_i F false m, f4, f5, f6, show laws_a2At.ok k 0 200 m ys = true from T.ok_of_get (hv), show laws_a2At k 0 200 m ys = _ from T.val_of_get (hv), htt, show impl_PullOf.ok a b c g x t m = true from T.ok_of_get (pulls_i F x m t1), show impl_PullOf a b c g x t m = _ from T.val_of_get (pulls_i F x m t1), show spec_PullOf.ok a b c g x t m = true from T.ok_of_get (pulls_s F x m t1), show spec_PullOf a b c g x t m = _ from T.val_of_get (pulls_s F x m t1), show impl_PullOf.ok a b c g x (fmul .f32 1073741824 t) m = true from T.ok_of_get (pulls_i F x m t2), show impl_PullOf a b c g x (fmul .f32 1073741824 t) m = _ from T.val_of_get (pulls_i F x m t2), show impl_TorqueOf.ok a b c g x t m = true from T.ok_of_get (torques_i F x m t1), show impl_TorqueOf a b c g x t m = _ from T.val_of_get (torques_i F x m t1), show spec_SameNumber.ok (pullV a b c g x t) (pullV a b c g x t) m = true from T.ok_of_get (num_t _ m), show spec_SameNumber (pullV a b c g x t) (pullV a b c g x t) m = _ from T.val_of_get (num_t _ m), f7, f8, f9, show spec_SameNumber.ok (fmul .f32 (pullV a b c g x t) a) (fmul .f32 (pullV a b c g x t) a) m = true from T.ok_of_get (num_t _ m), show spec_SameNumber (fmul .f32 (pullV a b c g x t) a) (fmul .f32 (pullV a b c g x t) a) m = _ from T.val_of_get (num_t _ m), show spec_A2Number.ok k m ys = true from T.ok_of_get (hw), show spec_A2Number k m ys = _ from T.val_of_get (hw), show impl_SlipFor.ok a b c g x t w m = true from T.ok_of_get (sI), show impl_SlipFor a b c g x t w m = _ from T.val_of_get (sI), show spec_SlipFor.ok a b c g x t w m = true from T.ok_of_get (sS), show spec_SlipFor a b c g x t w m = _ from T.val_of_get (sS), show spec_SameNumber.ok (slipV a (pullV a b c g x t) (spec_l01Size w)) (slipV a (pullV a b c g x t) (spec_l01Size w)) m = true from T.ok_of_get (num_t _ m), show spec_SameNumber (slipV a (pullV a b c g x t) (spec_l01Size w)) (slipV a (pullV a b c g x t) (spec_l01Size w)) m = _ from T.val_of_get (num_t _ m), f10, oI, oI0, oS, show spec_SameNumber.ok (spec_l02Out 1090519040 (slipV a (pullV a b c g x t) (spec_l01Size w)) a b c g x) (spec_l02Out 1090519040 (slipV a (pullV a b c g x t) (spec_l01Size w)) a b c g x) m = true from T.ok_of_get (num_t _ m), show spec_SameNumber (spec_l02Out 1090519040 (slipV a (pullV a b c g x t) (spec_l01Size w)) a b c g x) (spec_l02Out 1090519040 (slipV a (pullV a b c g x t) (spec_l01Size w)) a b c g x) m = _ from T.val_of_get (num_t _ m), f13, f14, show impl_BeltsNeeded.ok a b c g x t w m = true from T.ok_of_get (nI), show impl_BeltsNeeded a b c g x t w m = _ from T.val_of_get (nI), show spec_BeltsNeeded.ok a b c g x t w m = true from T.ok_of_get (nS), show spec_BeltsNeeded a b c g x t w m = _ from T.val_of_get (nS), lI, f16, bne_self_eq_false, beq_self_eq_true, cond_true, cond_false, Bool.not_true, Bool.not_false, T.get_join, joinG_go, Option.isSome_some, Option.getD_some]
  clear sI sS nI nS oI oI0 oS lI txt back hb hv hw
  generalize slipV a (pullV a b c g x t) (spec_l01Size w) = S at *
  generalize fmul .f32 (pullV a b c g x t) a = T at *
  generalize fmax .f32 w (fneg .f32 w) = U at *
  have join : (bif fgt .f32 S 1015021568 then
        bif fne .f32 S 1065353216 then some (some false)
        else
          bif feq .f32 w 0 then bif fne .f32 S 0 then some (some false) else some none else some none
      else
        bif feq .f32 w 0 then bif fne .f32 S 0 then some (some false) else some none else some none) = some (none : Option Bool) := by
    rcases f11 with h | h <;> rcases f12 with h' | h' <;> rw [h, h'] <;> simp
  rw [join]
  rcases f15 with ⟨i, i1, i2, e1, e2, e3⟩ | ⟨e1, e2⟩
  · rw [e1, joinG_go]
    dsimp only
    rw [e2, decide_eq_true (by omega), decide_eq_true (by omega)]
    rcases e3 with h | h
    · subst h
      rfl
    · have hi : IntKind.wrap .i64 ((i : Int) - 1) = ((i - 1 : Nat) : Int) := wrap64_of (by omega) (by omega)
      rw [hi, h]
      simp
  · rw [e1, joinG_go]
    dsimp only
    rw [e2]
    rfl
theorem law_holds (m : Int) (xs ys : List Int) (FACTS : ∀ x ∈ xs, IntKind.min .u8 ≤ x ∧ x ≤ IntKind.max .u8) (hx : xs.length ≤ maxLen) (hy' : ∀ x ∈ ys, IntKind.min .u8 ≤ x ∧ x ≤ IntKind.max .u8) (hy : ys.length ≤ maxLen) : (laws_FnBelts.t xs.length ys.length m xs ys).get = some true := by
  by_cases h1 : xs.length ≤ 3000
  · by_cases h2 : ys.length ≤ 3000
    · exact law_small m ⟨rfl, by omega, FACTS⟩ ⟨rfl, by omega, hy'⟩ h1 h2
    · have b1 : laws_a2Long xs.length ys.length m xs ys = true := by
        simp only [laws_a2Long, laws_a2Long.t, T.val]
        rw [decide_eq_false (by omega), decide_eq_true (by omega)]
        rfl
      simp only [laws_FnBelts.t, T.get, b1, cond_true]
  · have b1 : laws_a2Long xs.length ys.length m xs ys = true := by
      simp only [laws_a2Long, laws_a2Long.t, T.val]
      rw [decide_eq_true (by omega)]
      rfl
    simp only [laws_FnBelts.t, T.get, b1, cond_true]

theorem law_plain (mx : Int) (xs0 : List Int) (xs1 : List Int) (f0 : ∀ x ∈ xs0, (IntKind.min .u8 ≤ x ∧ x ≤ IntKind.max .u8)) (y0 : List.length xs0 ≤ maxLen) (f1 : ∀ x ∈ xs1, (IntKind.min .u8 ≤ x ∧ x ≤ IntKind.max .u8)) (y1 : List.length xs1 ≤ maxLen) : (laws_FnBelts.tr (xs0.length, xs1.length, mx, xs0, xs1)).get = some true := law_holds mx xs0 xs1 f0 y0 f1 y1
theorem own : ownKnob Tryd.prog.godebug = none := by kernel_rfl
theorem laidOut : laidOutB Tryd.prog = true := by kernel_rfl
theorem ground {W : World} (h : W.ShapedOpen Tryd.prog) : Sx.Ground W := ground_of (by kernel_rfl) h
/-- What the walk gives, for every argument and every world. -/
theorem contract (H : Type) (enc : TypeId × Value → H) (W : World) (base : Nat) (args : Array Value) (ds gs : List (DataW H)) (before : List MemPlace)
    (hval0 : ∀ (j : Nat) t v, Tryd.f3.params[j]? = some t → args[j]? = some v → Value.okWide Tryd.prog W .any base t v)
    (hW : DataW.Whole enc Tryd.prog Tryd.f3.params.toList Rows.fnBeltsSpec.vars false W args.toList ds gs before) (hsh : W.ShapedOpen Tryd.prog) :
    Calls Tryd.prog 3 args W fun e W' => ∃ v, e = .returned v ∧ Rows.fnBeltsSpec.post enc Tryd.prog Tryd.f3 false true false false W args v W' := by
  have hG := ground hsh
  obtain ⟨mx, hmx⟩ := cell_of_shapedOpen_int (k := .i64) (g := 1) (t := 3) (zero := #[.int .i64 0]) hsh (Nat.le_of_ble_eq_true (by kernel_rfl)) (by kernel_rfl) rfl (by kernel_rfl) (by kernel_rfl) Tryd.underlying3
  have hval : ∀ (j : Nat) t v, Tryd.f3.params[j]? = some t → args[j]? = some v → Value.okWide Tryd.prog W .any base t v := hval0
  have hW' := hW
  obtain ⟨p, q, hA0, hV, rfl, hfz, hnd⟩ := hW
  have hA : DataW.TrodAll enc Tryd.prog W 0 (fun _ => true) true Tryd.f3.params.toList args.toList ds p := hA0
  rw [Tryd.params3] at hA hval
  obtain ⟨v0, vs0, d0, ds0, p0, q0, hargs, rfl, rfl, h0, rr0⟩ := trodAll_cons hA
  obtain ⟨v1, vs1, d1, ds1, p1, q1, rfl, rfl, rfl, h1, rr1⟩ := trodAll_cons rr0
  obtain ⟨rfl, rfl, rfl⟩ := trodAll_nil rr1
  obtain rfl : args = #[v0, v1] := by cases args; simp_all
  obtain ⟨rfl, rfl⟩ := trodVars_none hV
  have k0 := h0
  have lt0 : ∀ x ∈ p0, x.block < W.heap.size := by obtain ⟨m, hm⟩ := k0; exact DataW.trod_lt m _ _ _ hm
  obtain ⟨l0, xs0, w0, r0, f0, y0⟩ := open_its Tryd.underlying22 Tryd.underlying5 (by kernel_rfl) hG (hval 0 22 v0 rfl rfl) k0
  have k1 := h1
  have lt1 : ∀ x ∈ p1, x.block < W.heap.size := by obtain ⟨m, hm⟩ := k1; exact DataW.trod_lt m _ _ _ hm
  obtain ⟨l1, xs1, w1, r1, f1, y1⟩ := open_its Tryd.underlying22 Tryd.underlying5 (by kernel_rfl) hG (hval 1 22 v1 rfl rfl) k1
  clear hA0 hval0
  refine (laws_FnBelts.walk (xs0.length, xs1.length, mx, xs0, xs1) (law_plain mx xs0 xs1 f0 y0 f1 y1) (ρ := fun i => (lget ([(⟨1, 0, 0⟩, ⟨false, 0, 1 + 1, .vs [.it .i64 mx]⟩), (l0, ⟨false, 0, 0, .is .u8 xs0⟩), (l1, ⟨false, 0, 0, .is .u8 xs1⟩)] : List (Sx.Loc × Blk)) i).map (·.1)) (Rs_cons' (r0 _ 1 rfl) (Rs_cons' (r1 _ 2 rfl) Rs_nil')) (HpR.ofBl [(⟨1, 0, 0⟩, ⟨false, 0, 1 + 1, .vs [.it .i64 mx]⟩), (l0, ⟨false, 0, 0, .is .u8 xs0⟩), (l1, ⟨false, 0, 0, .is .u8 xs1⟩)] (List.forall_mem_cons.2 ⟨pinned_bl hmx, (List.forall_mem_cons.2 ⟨rowIn_bl w0, (List.forall_mem_cons.2 ⟨rowIn_bl w1, (List.forall_mem_nil _)⟩)⟩)⟩))).mono fun e W' ⟨he, bel⟩ => ?_
  subst he
  exact ⟨_, rfl, _, _, _, [], _, [], hW', trodAll_mk1 (shut_bool Tryd.underlying4 _), (trodAll_cons_mk (Below.trod laidOut (by kernel_rfl) (of_decide_eq_true (by kernel_rfl)) k0 bel lt0) (trodAll_cons_mk (Below.trod laidOut (by kernel_rfl) (of_decide_eq_true (by kernel_rfl)) k1 bel lt1) trodAll_mk0)), rfl, bel.frame _, fun h => by cases h⟩
/-- A world for the witness: the settled one, the two tables holding what their initialisers lay. -/
noncomputable def laidWorld (os : Os) : World :=
  let w0 := World.holding Tryd.prog os ⟨#[], #[], []⟩
  let put (h : Array Obj) (g : Nat) (cs : Array Value) : Array Obj := h.modify g fun
    | .cells _ t frozen => .cells cs t frozen
    | o => o
  let h1 := put w0.heap 2 (Lib.firstTab.map fun z => Value.int .u8 z).toArray
  let h2 := put h1 3 ((List.range 16).flatMap fun i => [Value.int .u8 (Lib.accLo i), Value.int .u8 (Lib.accHi i)]).toArray
  { w0 with heap := h2 }
theorem laid_met (os : Os) : laidMet Tryd.prog Rows.fnBeltsRow.laid ((laidWorld os).forCall (fun _ _ => 0) ⟨#[], #[.slice none 0 0, .slice none 0 0], []⟩).memory :=
  laidMet_of_run' 8 (by kernel_rfl) (by kernel_rfl)
theorem reads (os : Os) {H : Type} (enc : TypeId × Value → H) : ∃ places, DataW.whole enc Tryd.prog ((laidWorld os).forCall (fun _ _ => 0) ⟨#[], #[.slice none 0 0, .slice none 0 0], []⟩).memory Tryd.f3.params.toList Rows.fnBeltsSpec.vars false #[Value.slice none 0 0, Value.slice none 0 0].toList 8 = some ([.nil, .nil], [], places) :=
  ⟨[], by kernel_rfl⟩
set_option maxRecDepth 100000 in
theorem lifted (os : Os) (started : os.Started) (H : Type) (enc : TypeId × Value → H) (F : Stop.Interp) :
    ReturnsInHanded {} Tryd.checked os 3 .any ((OpenSpec.ofChange Rows.fnBeltsSpec).preRow enc Tryd.prog Tryd.f3 Rows.fnBeltsRow.domain false Rows.fnBeltsRow.laid) (((OpenSpec.ofChange Rows.fnBeltsSpec).at F).post enc Tryd.prog Tryd.f3 false true false false) := by
  obtain ⟨places, hx⟩ := reads os enc
  refine returnsInHanded_of_row (C := Tryd.checked) (s := OpenSpec.ofChange Rows.fnBeltsSpec) own started (by kernel_rfl) Tryd.func3
    (witness_row_at (enc := enc) (C := Tryd.checked) false (laidWorld os) #[.slice none 0 0, .slice none 0 0] rfl (by kernel_rfl) (by kernel_rfl) (by kernel_rfl)
      (OpenSpec.preRow_of_cond 8 hx (by kernel_rfl) (fun k hk => by cases hk) (by kernel_rfl) (laid_met os))) ?_
  intro W base args ds gs before hval hW _ _ _ _ hsh _
  exact contract H enc W base args ds gs before hval hW hsh
theorem said : Rows.FnBeltsSaid :=
  OpenClaim.holds_of_cond 3 Tryd.f3 rfl rfl rfl rfl rfl rfl rfl ⟨rfl, rfl, rfl, rfl, rfl⟩ rfl rfl rfl rfl rfl (by kernel_rfl) Tryd.func3 (by kernel_rfl)
    (of_decide_eq_true (by kernel_rfl)) (by unfold Func.isWrapper; first | (rw [if_pos (by decide +kernel)]; kernel_rfl) | (rw [if_neg (by decide +kernel)]; exact ⟨rfl, rfl⟩))
    (fun os started H enc _ F => by rw [OpenClaim.pre_eq_preRow]; exact lifted os started H enc F)
theorem bare (f : FuncId) (fn : Func) (hf : Tryd.pinned.checked.prog.funcNamed Rows.fnBeltsRow.func = some f) (hfn : Tryd.pinned.checked.prog.funcs[f]? = some fn) :
    false = Tryd.pinned.checked.prog.looks [] ∧ ∀ (j : Nat) t, fn.params[j]? = some t → Tryd.pinned.checked.prog.wantsStandIn t = false := by
  obtain rfl : f = 3 := Option.some.inj ((show Tryd.prog.funcNamed Rows.fnBeltsRow.func = some 3 by kernel_rfl).symm.trans hf) |>.symm
  obtain rfl : fn = Tryd.f3 := (Option.some.inj (Tryd.func3.symm.trans hfn)).symm
  refine ⟨by kernel_rfl, fun j t ht => ?_⟩
  rw [Tryd.params3] at ht
  obtain rfl : t = 22 := by simpa using Array.mem_of_getElem? ht
  exact (show Tryd.prog.wantsStandIn 22 = false by kernel_rfl)
theorem proved : Rows.FnBeltsCardSaid :=
  Claim7.holds_tied_plain_at .later [] _ _ _ _ said (fun _ h => by cases h) (by kernel_rfl) (fun _ h => by cases h) fnBelts_row_tie rfl ⟨rfl, rfl⟩ (by kernel_rfl) rfl bare (by kernel_rfl)
end Go.Proofs.YtkfpmiggolmabaaDoor
