/- For every input the call of FnWater returns true, and each argument reads afterwards as it read before; there is no condition. -/
import Derived.Test.YtccdbfmfdhhgfaaGreatDoorWFnWater
import Derived.Test.YtccdbfmfdhhgfaaGreatDoorSxS
import Derived.Test.YtccdbfmfdhhgfaaGreatDoorSxV
import Derived.Test.YtccdbfmfdhhgfaaGreatDoorSxW
import Derived.Test.YtccdbfmfdhhgfaaGreatDoorSxA1
import Derived.Test.YtccdbfmfdhhgfaaGreatDoorCards
import Derived.Test.YtccdbfmfdhhgfaaGreatDoorTie
import Derived.WalkKit
import Derived.ProofKit
import Derived.OpenShut
import Derived.ShutString
import Derived.ChangeOld
import Derived.Below
import Derived.Carry
import Derived.HandedShaped
import Derived.Deep.DeepHandedRow
import Derived.Lib.LaidTab
import Derived.Shelf.Vars
import Derived.Lib.LaidU8
import Derived.Lib.DecodeN
import Derived.Stop.LaidErr
import Derived.LaidLaws
import Derived.Test.YtccdbfmfdhhgfaaGreatDoorSxB2
namespace Go.Proofs.YtccdbfmfdhhgfaaGreatDoor
open Go Go.RowKit Sx
open Go.ChangeShapes Go.WideShapes Go.ChangeAt
set_option linter.unusedVariables false
set_option linter.unusedSimpArgs false
set_option maxRecDepth 100000

/-! Draws out of bytes: they always end, and what is drawn lies below what was asked for. -/
theorem ibits255 (a : Int) : 0 ≤ ibits .and .u64 a 255 ∧ ibits .and .u64 a 255 ≤ 255 := by
  have e : (BitVec.ofInt 64 a &&& BitVec.ofInt 64 255).toNat ≤ 255 := by
    rw [BitVec.toNat_and]
    exact Nat.le_trans Nat.and_le_right (by decide)
  have h : ibits .and .u64 a 255 = IntKind.wrap .u64 (((BitVec.ofInt 64 a &&& BitVec.ofInt 64 255).toNat : Nat) : Int) := rfl
  rw [h]
  generalize (BitVec.ofInt 64 a &&& BitVec.ofInt 64 255).toNat = q at e
  have w : IntKind.wrap .u64 (q : Int) = (q : Int) % 18446744073709551616 := rfl
  rw [w]
  omega
/-- A source of bytes that may be drawn from. -/
def srcOk (n : Nat) (xs : List Int) : Prop := xs.length = n ∧ n ≤ 4611686018427387904 ∧ ∀ x ∈ xs, 0 ≤ x ∧ x ≤ 255
theorem src_get {n : Nat} {xs : List Int} (h : srcOk n xs) (i : Nat) : 0 ≤ xs.getD i 0 ∧ xs.getD i 0 ≤ 255 := by
  by_cases hi : i < xs.length
  · have : xs.getD i 0 = xs[i] := by simp [List.getD, List.getElem?_eq_getElem hi]
    rw [this]
    exact h.2.2 _ (List.getElem_mem hi)
  · have : xs.getD i 0 = 0 := by simp [List.getD, List.getElem?_eq_none (by omega : xs.length ≤ i)]
    rw [this]
    omega
theorem next_t {n : Nat} {xs : List Int} (hs : srcOk n xs) (pos : Nat) (h : Int) (hp : pos < 4611686018427387904) : ∃ v h', (spec_l00Src_next.t n (pos : Int) h xs).get = some (v, n, ((pos + 1 : Nat) : Int), h') ∧ 0 ≤ v ∧ v ≤ 255 := by
  have hw : ∀ a, IntKind.wrap .i64 (ibits .and .u64 a 255) = ibits .and .u64 a 255 := fun a => by
    have := ibits255 a
    exact wrap64 (by omega) (by omega)
  have hg := src_get hs pos
  have hwg : IntKind.wrap .i64 (xs.getD pos 0) = xs.getD pos 0 := wrap64 (by omega) (by omega)
  simp only [spec_l00Src_next.t, T.get, bounds_nat, ble_decide, Int.toNat_natCast, Nat.mul_one, Nat.zero_add, hs.1, hw, wrap64_succ (show pos + 1 < 9223372036854775808 by omega), hwg]
  by_cases hlt : pos < n
  · rw [decide_eq_true (by omega : (pos : Int) < (n : Int)), decide_eq_true hlt, decide_eq_true (by omega : pos + 1 ≤ n), decide_eq_true (by omega : ((pos + 1 : Nat) : Int) ≤ (n : Int))]
    exact ⟨_, _, rfl, hg.1, hg.2⟩
  · rw [decide_eq_false (by omega : ¬ (pos : Int) < (n : Int))]
    cases hc : decide (((pos + 1 : Nat) : Int) ≤ (n : Int)) with
    | true => exact ⟨_, _, rfl, by omega, by omega⟩
    | false => exact ⟨_, _, rfl, (ibits255 _).1, (ibits255 _).2⟩
theorem pick_t {n : Nat} {xs : List Int} (hs : srcOk n xs) (k : Nat) (pos : Nat) (h : Int) (hp : pos < 4611686018427387000) : ∃ (v pos' : Nat) (h' : Int), (spec_l00Src_pick.t (k : Int) n (pos : Int) h xs).get = some ((v : Int), n, (pos' : Int), h') ∧ (v = 0 ∨ v < k) ∧ pos' ≤ pos + 2 := by
  simp only [spec_l00Src_pick.t, T.get]
  by_cases h1 : k ≤ 1
  · rw [decide_eq_true (by omega : (k : Int) ≤ 1)]
    exact ⟨0, pos, h, rfl, .inl rfl, by omega⟩
  · rw [decide_eq_false (by omega : ¬ (k : Int) ≤ 1)]
    obtain ⟨v, h', q1, q2, q3⟩ := next_t hs pos h (by omega)
    obtain ⟨v2, h2, r1, r2, r3⟩ := next_t hs (pos + 1) h' (by omega)
    obtain ⟨v, rfl⟩ : ∃ w : Nat, v = w := ⟨v.toNat, by omega⟩
    obtain ⟨v2, rfl⟩ : ∃ w : Nat, v2 = w := ⟨v2.toNat, by omega⟩
    have hk0 : ((k : Int) == 0) = false := by
      rw [beq_eq_false_iff_ne]
      omega
    have e0 : IntKind.wrap .i64 ((v : Int) * 256) = ((v * 256 : Nat) : Int) := wrap64_of (by omega) (by omega)
    have e1 : IntKind.wrap .i64 (((v * 256 : Nat) : Int) + (v2 : Int)) = ((v * 256 + v2 : Nat) : Int) := wrap64_of (by omega) (by omega)
    have t1 : Int.tmod ((v * 256 + v2 : Nat) : Int) (k : Int) = (((v * 256 + v2) % k : Nat) : Int) := by rw [Int.ofNat_tmod]
    have t2 : Int.tmod (v : Int) (k : Int) = ((v % k : Nat) : Int) := by rw [Int.ofNat_tmod]
    simp only [show spec_l00Src_next.ok n (pos : Int) h xs = true from T.ok_of_get (q1), show spec_l00Src_next n (pos : Int) h xs = _ from T.val_of_get (q1), show spec_l00Src_next.ok n ((pos + 1 : Nat) : Int) h' xs = true from T.ok_of_get (r1), show spec_l00Src_next n ((pos + 1 : Nat) : Int) h' xs = _ from T.val_of_get (r1), hk0, e0, e1, t1, t2]
    by_cases h2 : k > 200
    · rw [decide_eq_true (by omega : (k : Int) > 200)]
      exact ⟨_, pos + 1 + 1, _, rfl, .inr (Nat.mod_lt _ (by omega)), by omega⟩
    · rw [decide_eq_false (by omega : ¬ (k : Int) > 200)]
      exact ⟨_, pos + 1, _, rfl, .inr (Nat.mod_lt _ (by omega)), by omega⟩

/-! Numbers that are not below nought: their order is that of their rungs; bounded ones. -/
theorem fle_nn {a b : Nat} (ha : Nn a) (hb : Nn b) : fle .f32 a b = decide (rg a ≤ rg b) := by
  unfold fle
  rw [nn_order ha hb]
  rcases Nat.lt_trichotomy (rg a) (rg b) with h | h | h
  · rw [Nat.compare_eq_lt.2 h, decide_eq_true (by omega)]; rfl
  · rw [Nat.compare_eq_eq.2 h, decide_eq_true (by omega)]; rfl
  · rw [Nat.compare_eq_gt.2 h, decide_eq_false (by omega)]; rfl
theorem fgt_nn {a b : Nat} (ha : Nn a) (hb : Nn b) : fgt .f32 a b = decide (rg b < rg a) := by
  unfold fgt
  rw [nn_order ha hb]
  rcases Nat.lt_trichotomy (rg a) (rg b) with h | h | h
  · rw [Nat.compare_eq_lt.2 h, decide_eq_false (by omega)]; rfl
  · rw [Nat.compare_eq_eq.2 h, decide_eq_false (by omega)]; rfl
  · rw [Nat.compare_eq_gt.2 h, decide_eq_true (by omega)]; rfl
theorem flt_nn {a b : Nat} (ha : Nn a) (hb : Nn b) : flt .f32 a b = decide (rg a < rg b) := by rw [← fgt_flip, fgt_nn hb ha]
/-- Not below nought, and no more than a bound, by its word. -/
def Nb (K x : Nat) : Prop := Nn x ∧ rg x ≤ K
theorem nb_self {K : Nat} (h : K < 2139095040) : Nn K ∧ rg K = K := ⟨.inl h, by unfold rg; omega⟩
theorem nb_mono {J K x : Nat} (h : Nb J x) (hk : J ≤ K) : Nb K x := ⟨h.1, Nat.le_trans h.2 hk⟩
theorem nb_add {J K L a b : Nat} (ha : Nb J a) (hb : Nb K b) (hJ : J < 2139095040) (hK : K < 2139095040) (h : decide (rg (fadd .f32 J K) ≤ L) = true) (hL : L < 2139095040) : Nb L (fadd .f32 a b) := by
  have h1 : rg (fadd .f32 a b) ≤ L := Nat.le_trans (add_mono ha.1 (nb_self hJ).1 hb.1 (nb_self hK).1 (by rw [(nb_self hJ).2]; exact ha.2) (by rw [(nb_self hK).2]; exact hb.2)) (of_decide_eq_true h)
  exact ⟨nn_add ha.1 hb.1 (by omega), h1⟩
theorem nb_mul {J K L a b : Nat} (ha : Nb J a) (hb : Nb K b) (hJ : J < 2139095040) (hK : K < 2139095040) (h : decide (rg (fmul .f32 J K) ≤ L) = true) (hL : L < 2139095040) : Nb L (fmul .f32 a b) := by
  have h1 : rg (fmul .f32 a b) ≤ L := Nat.le_trans (mul_mono ha.1 (nb_self hJ).1 hb.1 (nb_self hK).1 (by rw [(nb_self hJ).2]; exact ha.2) (by rw [(nb_self hK).2]; exact hb.2)) (of_decide_eq_true h)
  exact ⟨nn_mul ha.1 hb.1 (by omega), h1⟩

/-! More of the order of floats. -/
theorem feq_nn {a b : Nat} (ha : Nn a) (hb : Nn b) : feq .f32 a b = decide (rg a = rg b) := by
  unfold feq
  rw [nn_order ha hb]
  rcases Nat.lt_trichotomy (rg a) (rg b) with h | h | h
  · rw [Nat.compare_eq_lt.2 h, decide_eq_false (by omega)]; rfl
  · rw [Nat.compare_eq_eq.2 h, decide_eq_true h]; rfl
  · rw [Nat.compare_eq_gt.2 h, decide_eq_false (by omega)]; rfl
theorem le_not_gt {a b : Nat} (ha : Nn a) (hb : Nn b) : fle .f32 a b = !fgt .f32 a b := by
  rw [fle_nn ha hb, fgt_nn ha hb]
  by_cases h : rg a ≤ rg b
  · rw [decide_eq_true h, decide_eq_false (by omega)]
    rfl
  · rw [decide_eq_false h, decide_eq_true (by omega)]
    rfl
theorem nn_0 : Nn 0 ∧ rg 0 = 0 := nb_self (K := 0) (by decide)
theorem inf_word : FloatKind.f32.format.read 2139095040 = .infinity false := by kernel_rfl
theorem inf_gt {h : Nat} (hh : Nn h) : fgt .f32 2139095040 h = true := by
  obtain ⟨s, m, e, r1, _⟩ := nn_read hh
  unfold fgt Ieee.Format.order
  rw [inf_word, r1]
  rfl
/-- A quotient is a number, or an infinity. -/
theorem div_np {a b : Nat} (ha : Nn a) (hb : Nn b) (h0 : rg b ≠ 0) : Nn (fdiv .f32 a b) ∨ fdiv .f32 a b = 2139095040 := by
  by_cases hr : rg (fdiv .f32 a b) < 2139095040
  · exact .inl (nn_div ha hb h0 hr)
  · obtain ⟨s, m, p, e, hs, hv⟩ := div_raw ha hb h0
    have hle := near_le m p
    have h1 : rg (fdiv .f32 a b) = FloatKind.f32.format.nearest false m p := by rw [e, rg_near hs]
    have hsf : s = false := by
      cases s with
      | false => rfl
      | true =>
        rw [hs rfl, near_zero] at h1
        have : FloatKind.f32.format.word false 0 = 0 := rfl
        omega
    subst hsf
    refine .inr ?_
    rw [nz_of_not (nearest_num .f32 false m p)] at e
    have e' : fdiv .f32 a b = FloatKind.f32.format.nearest false m p := e
    omega
theorem nan_word {r : Nat} (h1 : 2139095040 < r % 2147483648) : isNaN .f32 r = true := by
  have e2 : FloatKind.f32.format.signWeight = 2147483648 := by kernel_rfl
  have e3 : FloatKind.f32.format.binade = 8388608 := by kernel_rfl
  have e4 : FloatKind.f32.format.infRung = 2139095040 := by kernel_rfl
  show (FloatKind.f32.format.read r).isNaN = true
  unfold Ieee.Format.read
  dsimp only
  rw [e2, e3, e4, if_neg (by omega), if_neg (by omega), if_neg (by omega)]
  rfl
theorem order_nan {x y : Nat} (h : isNaN .f32 x = true) : FloatKind.f32.format.order x y = none := by
  have h1 : (FloatKind.f32.format.read x).isNaN = true := h
  unfold Ieee.Format.order
  cases hx : FloatKind.f32.format.read x with
  | nan s t => rfl
  | infinity s => rw [hx] at h1; cases h1
  | number s m e => rw [hx] at h1; cases h1
/-- What is above nought is so by its word. -/
theorem gt0_word {x : Nat} (h : flHas .f32 x) (hg : fgt .f32 x 0 = true) : x ≤ 2139095040 := by
  have hx : x < 4294967296 := h
  refine Nat.le_of_not_lt fun hlt => ?_
  have key : fgt .f32 x 0 = false := by
    rcases Nat.lt_or_ge x 2147483648 with h1 | h1
    · unfold fgt
      rw [order_nan (nan_word (r := x) (by omega))]
      rfl
    · obtain ⟨r, rfl⟩ : ∃ r, x = 2147483648 + r := ⟨x - 2147483648, by omega⟩
      rcases Nat.lt_trichotomy r 2139095040 with h2 | h2 | h2
      · rcases Nat.eq_zero_or_pos r with h3 | h3
        · subst h3
          kernel_rfl
        · unfold fgt
          rw [neg_order h3 h2 nn_0.1]
          rfl
      · subst h2
        kernel_rfl
      · unfold fgt
        rw [order_nan (nan_word (r := 2147483648 + r) (by omega))]
        rfl
  rw [key] at hg
  cases hg
theorem pos_nn {x : Nat} (h : flHas .f32 x) (hg : fgt .f32 x 0 = true) (h2 : fgt .f32 x 1149239296 = false) : Nn x ∧ rg x ≤ 1149239296 := by
  have h1 := gt0_word h hg
  have h3 : x ≠ 2139095040 := fun e => by
    rw [e, inf_gt (nb_self (K := 1149239296) (by decide)).1] at h2
    cases h2
  have n1 := nb_self (K := 1149239296) (by decide)
  have hn : Nn x := .inl (by omega)
  rw [fgt_nn hn n1.1, n1.2] at h2
  have := of_decide_eq_false h2
  exact ⟨hn, by omega⟩
theorem mul_one {a : Nat} (ha : Nn a) : rg (fmul .f32 a 1065353216) = rg a := by
  have n1 := nb_self (K := 1065353216) (by decide)
  have e : mag 1065353216 = 2 ^ 149 := by
    unfold mag
    rw [if_neg (by decide)]
  rw [rg_mul ha n1.1, n1.2, e]
  have h2 := nearest_shift FloatKind.f32.format false (mag (rg a)) 149 (-149)
  have e3 : (-149 : Int) - ((149 : Nat) : Int) = -298 := by omega
  rw [e3] at h2
  rw [h2, near_mag (nn_rg ha)]
theorem fneg_neg {r : Nat} (h : r < 2139095040) : fneg .f32 (2147483648 + r) = r := by
  have e : Op.negFloat .f32 (2147483648 + r) = r := by
    show (2147483648 + r) ^^^ 2 ^ 31 = r
    have h1 := Nat.two_pow_add_eq_or_of_lt (i := 31) (b := r) (by omega) 1
    have h2 : 2147483648 + r = 2 ^ 31 ^^^ r := by
      refine Nat.eq_of_testBit_eq fun i => ?_
      rw [Nat.testBit_xor]
      by_cases hi : i = 31
      · subst hi
        rw [Nat.testBit_two_pow_self, Nat.testBit_lt_two_pow (show r < 2 ^ 31 by omega)]
        have : (2147483648 + r).testBit 31 = true := by
          rw [Nat.testBit_eq_decide_div_mod_eq]
          exact decide_eq_true (by omega)
        rw [this]
        rfl
      · rw [Nat.testBit_two_pow_of_ne (by omega), Bool.false_xor]
        have e2 : 2147483648 + r = 2 ^ 31 * 1 + r := by omega
        rw [e2, Nat.testBit_two_pow_mul_add 1 (show r < 2 ^ 31 by omega)]
        by_cases h3 : i < 31
        · rw [if_pos h3]
        · rw [if_neg h3, Nat.testBit_lt_two_pow (show r < 2 ^ i from Nat.lt_of_lt_of_le (show r < 2 ^ 31 by omega) (Nat.pow_le_pow_right (by omega) (by omega)))]
          have : i - 31 ≠ 0 := by omega
          obtain ⟨k, hk⟩ : ∃ k, i - 31 = k + 1 := ⟨i - 32, by omega⟩
          rw [hk]
          simp [Nat.testBit_succ]
    rw [h2, Nat.xor_comm (2 ^ 31), Nat.xor_assoc, Nat.xor_self, Nat.xor_zero]
  unfold fneg
  rw [e]
  exact nz_of_not (by
    obtain ⟨s, m, e, r1, _⟩ := nn_read (b := r) (.inl h)
    show (FloatKind.f32.format.read r).isNaN = false
    rw [r1]
    rfl)
/-- How far apart two numbers are, by the rung. -/
noncomputable def dist (x y : Nat) : Nat := if rg y ≤ rg x then rg (fsub .f32 x y) else rg (fsub .f32 y x)
theorem fmax_pos {a b : Nat} (ha : Nn a) (hb : Nn b) : Nn (fmax .f32 a b) ∧ rg (fmax .f32 a b) = max (rg a) (rg b) := by
  unfold fmax
  rw [nn_order ha hb]
  rcases Nat.lt_trichotomy (rg a) (rg b) with h | h | h
  · rw [Nat.compare_eq_lt.2 h]
    exact ⟨hb, by dsimp only; omega⟩
  · rw [Nat.compare_eq_eq.2 h]
    dsimp only
    cases (FloatKind.f32.decode a).neg
    · exact ⟨ha, by dsimp only [cond_false]; omega⟩
    · exact ⟨hb, by dsimp only [cond_true]; omega⟩
  · rw [Nat.compare_eq_gt.2 h]
    exact ⟨ha, by dsimp only; omega⟩
theorem order_neg {r b : Nat} (h0 : 0 < r) (h : r < 2139095040) (hb : Nn b) : FloatKind.f32.format.order b (2147483648 + r) = some .gt := by
  have h1 : fgt .f32 b (2147483648 + r) = true := by
    rw [fgt_flip]
    unfold flt
    rw [neg_order h0 h hb]
    rfl
  unfold fgt at h1
  exact eq_of_beq h1
theorem max_sub {x y : Nat} (hx : Nn x) (hy : Nn y) : Nn (fmax .f32 (fsub .f32 x y) (fsub .f32 y x)) ∧ rg (fmax .f32 (fsub .f32 x y) (fsub .f32 y x)) = dist x y := by
  unfold dist
  rcases Nat.lt_trichotomy (rg x) (rg y) with h | h | h
  · obtain ⟨h1, h2, h3, h4⟩ := sub_lt hx hy h
    obtain ⟨q1, _⟩ := sub_ge hy hx (Nat.le_of_lt h)
    rw [if_neg (by omega), h1]
    unfold fmax
    rw [neg_order (by omega) h4 q1]
    exact ⟨q1, rfl⟩
  · obtain ⟨q1, q2⟩ := sub_ge hx hy (by omega)
    obtain ⟨q3, q4⟩ := sub_ge hy hx (by omega)
    obtain ⟨m1, m2⟩ := fmax_pos q1 q3
    rw [if_pos (by omega)]
    refine ⟨m1, ?_⟩
    rw [m2, q2, q4, h, Nat.max_self]
  · obtain ⟨h1, h2, h3, h4⟩ := sub_lt hy hx h
    obtain ⟨q1, _⟩ := sub_ge hx hy (Nat.le_of_lt h)
    rw [if_pos (by omega), h1]
    unfold fmax
    rw [order_neg (by omega) h4 q1]
    exact ⟨q1, rfl⟩

/-! Sums and products in either order; sizes; a doubled pull. -/
theorem add_comm' {a b : Nat} (ha : Nn a) (hb : Nn b) : rg (fadd .f32 a b) = rg (fadd .f32 b a) := by rw [rg_add ha hb, rg_add hb ha, Nat.add_comm]
theorem mul_comm' {a b : Nat} (ha : Nn a) (hb : Nn b) : rg (fmul .f32 a b) = rg (fmul .f32 b a) := by rw [rg_mul ha hb, rg_mul hb ha, Nat.mul_comm]
theorem fneg_pos {r : Nat} (h : r < 2139095040) : fneg .f32 r = 2147483648 + r := by
  have e : Op.negFloat .f32 r = 2147483648 + r := by
    have h1 := fneg_neg h
    have h2 : Op.negFloat .f32 (2147483648 + r) = r := by
      show (2147483648 + r) ^^^ 2 ^ 31 = r
      refine Nat.eq_of_testBit_eq fun i => ?_
      rw [Nat.testBit_xor]
      have e2 : 2147483648 + r = 2 ^ 31 * 1 + r := by omega
      by_cases hi : i = 31
      · subst hi
        rw [Nat.testBit_two_pow_self, Nat.testBit_lt_two_pow (show r < 2 ^ 31 by omega)]
        have : (2147483648 + r).testBit 31 = true := by
          rw [Nat.testBit_eq_decide_div_mod_eq]
          exact decide_eq_true (by omega)
        rw [this]
        rfl
      · rw [Nat.testBit_two_pow_of_ne (by omega), Bool.xor_false, e2, Nat.testBit_two_pow_mul_add 1 (show r < 2 ^ 31 by omega)]
        by_cases h3 : i < 31
        · rw [if_pos h3]
        · rw [if_neg h3, Nat.testBit_lt_two_pow (show r < 2 ^ i from Nat.lt_of_lt_of_le (show r < 2 ^ 31 by omega) (Nat.pow_le_pow_right (by omega) (by omega)))]
          obtain ⟨k, hk⟩ : ∃ k, i - 31 = k + 1 := ⟨i - 32, by omega⟩
          rw [hk]
          simp [Nat.testBit_succ]
    have h3 : (2147483648 + r) ^^^ 2 ^ 31 = r := h2
    show r ^^^ 2 ^ 31 = 2147483648 + r
    conv => lhs; rw [← h3]
    rw [Nat.xor_assoc, Nat.xor_self, Nat.xor_zero]
  unfold fneg
  rw [e]
  exact nz_of_not (by
    obtain ⟨m, e, r1, _⟩ := neg_read h
    show (FloatKind.f32.format.read (2147483648 + r)).isNaN = false
    rw [r1]
    rfl)
theorem fneg_zero : fneg .f32 2147483648 = 0 := by kernel_rfl
/-- The size of a number and of its opposite. -/
theorem abs_max {o : Nat} (h : Nn o) : (Nn (fmax .f32 o (fneg .f32 o)) ∧ rg (fmax .f32 o (fneg .f32 o)) = rg o) ∧ (Nn (fmax .f32 (fneg .f32 o) (fneg .f32 (fneg .f32 o))) ∧ rg (fmax .f32 (fneg .f32 o) (fneg .f32 (fneg .f32 o))) = rg o) := by
  have z : Nn 2147483648 ∧ rg 2147483648 = 0 := ⟨.inr rfl, by decide⟩
  rcases h with h | h
  · have hr := (nb_self h).2
    rcases Nat.eq_zero_or_pos o with h0 | h0
    · subst h0
      rw [fneg_pos h]
      have e : fneg .f32 (2147483648 + 0) = 0 := fneg_zero
      rw [e]
      obtain ⟨a1, a2⟩ := fmax_pos nn_0.1 z.1
      obtain ⟨a3, a4⟩ := fmax_pos z.1 nn_0.1
      rw [nn_0.2, z.2] at a2
      rw [nn_0.2, z.2] at a4
      exact ⟨⟨a1, by rw [nn_0.2]; exact a2⟩, ⟨a3, by rw [nn_0.2]; exact a4⟩⟩
    · rw [fneg_pos h, fneg_neg h]
      have hn : Nn o := .inl h
      constructor
      · unfold fmax
        rw [order_neg h0 h hn]
        exact ⟨hn, rfl⟩
      · unfold fmax
        rw [neg_order h0 h hn]
        exact ⟨hn, rfl⟩
  · subst h
    rw [fneg_zero]
    have e : fneg .f32 0 = 2147483648 := fneg_pos (by decide)
    rw [e]
    obtain ⟨a1, a2⟩ := fmax_pos z.1 nn_0.1
    obtain ⟨a3, a4⟩ := fmax_pos nn_0.1 z.1
    rw [nn_0.2, z.2] at a2
    rw [nn_0.2, z.2] at a4
    exact ⟨⟨a1, by rw [z.2]; exact a2⟩, ⟨a3, by rw [z.2]; exact a4⟩⟩
theorem fneg_nn {o : Nat} (h : Nn o) (h0 : rg o = 0) : Nn (fneg .f32 o) := by
  rcases h with h | h
  · have : o = 0 := by have := (nb_self h).2; omega
    subst this
    rw [fneg_pos (by decide)]
    exact .inr rfl
  · subst h
    rw [fneg_zero]
    exact nn_0.1
theorem log2_ge {m L : Nat} (h : 2 ^ L ≤ m) : L ≤ m.log2 := by
  have hm : m ≠ 0 := by have := Nat.two_pow_pos L; omega
  exact (Nat.le_log2 hm).2 h
/-- Twice a number over the same is twice as much. -/
theorem div_dbl {t t2 g : Nat} (ht : Nn t) (ht2 : Nn t2) (hg : Nn g) (h2 : mag (rg t2) = 2 * mag (rg t)) (h1 : 1065353216 ≤ rg t) (hg1 : 1065353216 ≤ rg g) (hg2 : rg g ≤ 1166016512) : rg (fdiv .f32 t2 g) = min (rg (fdiv .f32 t g) + 8388608) 2139095040 ∧ 8388608 ≤ rg (fdiv .f32 t g) := by
  obtain ⟨L, hL⟩ : ∃ L, L = 1000 := ⟨_, rfl⟩
  have hM : 2 ^ 149 ≤ mag (rg t) := by
    have := mag_le_iff.2 h1
    have e : mag 1065353216 = 2 ^ 149 := by
      unfold mag
      rw [if_neg (by decide)]
    rwa [e] at this
  have hN : mag (rg g) ≤ 2 ^ 161 := by
    have := mag_le_iff.2 hg2
    have e : mag 1166016512 = 2 ^ 161 := by
      unfold mag
      rw [if_neg (by decide)]
    rwa [e] at this
  have hN0 : 0 < mag (rg g) := mag_pos (by omega)
  rw [rg_div ht2 hg (by omega) L (by omega), rg_div ht hg (by omega) (L + 1) (by omega), h2]
  have eq : qs (2 * mag (rg t)) (mag (rg g)) L = qs (mag (rg t)) (mag (rg g)) (L + 1) := by
    unfold qs
    have : 2 * mag (rg t) * 2 ^ L = mag (rg t) * 2 ^ (L + 1) := by
      rw [Nat.pow_succ, Nat.mul_comm 2, Nat.mul_assoc, Nat.mul_comm 2]
    rw [this]
  rw [eq]
  have hq : 2 ^ (L - 11) ≤ qs (mag (rg t)) (mag (rg g)) (L + 1) := by
    have h3 : 2 ^ (L - 11) ≤ mag (rg t) * 2 ^ (L + 1) / mag (rg g) := by
      refine (Nat.le_div_iff_mul_le hN0).2 ?_
      have h4 : 2 ^ (L - 11) * mag (rg g) ≤ 2 ^ (L - 11) * 2 ^ 161 := Nat.mul_le_mul_left _ hN
      have h5 : 2 ^ 149 * 2 ^ (L + 1) ≤ mag (rg t) * 2 ^ (L + 1) := Nat.mul_le_mul_right _ hM
      rw [← Nat.pow_add] at h4 h5
      have h6 : L - 11 + 161 = 149 + (L + 1) := by omega
      rw [h6] at h4
      exact Nat.le_trans h4 h5
    unfold qs
    omega
  have hlog := log2_ge hq
  have hne : qs (mag (rg t)) (mag (rg g)) (L + 1) ≠ 0 := by
    have := Nat.two_pow_pos (L - 11)
    omega
  have hs := near_scale (p := -((L + 1 : Nat) : Int) - 1) hne (by omega)
  have e2 : -((L + 1 : Nat) : Int) - 1 + 1 = -(L : Int) - 1 := by omega
  rw [e2] at hs
  refine ⟨hs, ?_⟩
  have e1 : FloatKind.f32.format.leastPlace = -149 := by kernel_rfl
  have e3 : FloatKind.f32.format.fractionBits = 23 := rfl
  have e4 : FloatKind.f32.format.binade = 8388608 := by kernel_rfl
  have e5 : FloatKind.f32.format.infRung = 2139095040 := by kernel_rfl
  have h7 := nearest_ge FloatKind.f32.format (qs (mag (rg t)) (mag (rg g)) (L + 1)) (-((L + 1 : Nat) : Int) - 1) hne (by rw [e1, e3]; omega)
  rw [e1, e3, e4, e5] at h7
  refine Nat.le_trans ?_ h7
  refine Nat.le_min.2 ⟨?_, by decide⟩
  exact Nat.le_mul_of_pos_left _ (Nat.succ_pos _)
theorem pull_mono {t t2 g : Nat} (ht : Nn t) (ht2 : Nn t2) (hg : Nn g) (h2 : mag (rg t2) = 2 * mag (rg t)) (h1 : rg t = 0 ∨ 1065353216 ≤ rg t) (h3 : rg t2 ≤ 1200000000) (hg1 : 1065353216 ≤ rg g) (hg2 : rg g ≤ 1166016512) :
    rg (fsub .f32 t (fdiv .f32 t g)) ≤ rg (fsub .f32 t2 (fdiv .f32 t2 g)) := by
  have hlt : rg t ≤ rg t2 := by
    refine mag_le_iff.1 ?_
    omega
  have d1 := div_le ht hg hg1
  have d2 := div_le ht2 hg hg1
  have n1 := nn_div ht hg (by omega) (by omega)
  have n2 := nn_div ht2 hg (by omega) (by omega)
  rw [(sub_ge ht n1 d1).2, (sub_ge ht2 n2 d2).2]
  rcases h1 with h1 | h1
  · have e : mag (rg t) = 0 := by rw [h1]; decide
    rw [e, Nat.zero_sub, near_zero]
    exact Nat.zero_le _
  · obtain ⟨e1, e2⟩ := div_dbl ht ht2 hg h2 h1 hg1 hg2
    have e3 : rg (fdiv .f32 t2 g) = dbl (rg (fdiv .f32 t g)) := by
      rw [e1]
      unfold dbl
      rw [if_neg (by omega)]
      omega
    rw [e3, mag_dbl, h2]
    refine nearest_mono _ _ ?_
    omega

/-! More bounds by rungs. -/
theorem fge_nn {a b : Nat} (ha : Nn a) (hb : Nn b) : fge .f32 a b = decide (rg b ≤ rg a) := by rw [fge_flip, fle_nn hb ha]
theorem fne_nn {a b : Nat} (ha : Nn a) (hb : Nn b) : fne .f32 a b = decide (rg a ≠ rg b) := by
  unfold fne
  rw [nn_order ha hb]
  by_cases h : rg a = rg b
  · rw [h, decide_eq_false (by omega)]
    simp
  · rw [decide_eq_true (by omega)]
    rcases Nat.lt_or_gt_of_ne h with h1 | h1
    · rw [Nat.compare_eq_lt.2 h1]
      rfl
    · rw [Nat.compare_eq_gt.2 h1]
      rfl
theorem le_add_l {a b : Nat} (ha : Nn a) (hb : Nn b) : rg a ≤ rg (fadd .f32 a b) := by
  have h0 := rg_add ha nn_0.1
  rw [nn_0.2, show mag 0 = 0 by decide, Nat.add_zero, near_mag (nn_rg ha)] at h0
  have := add_mono ha ha nn_0.1 hb (Nat.le_refl _) (by rw [nn_0.2]; omega)
  omega
theorem le_add_r {a b : Nat} (ha : Nn a) (hb : Nn b) : rg b ≤ rg (fadd .f32 a b) := by
  rw [add_comm' ha hb]
  exact le_add_l hb ha
theorem rung_add {a b c d : Nat} (ha : Nn a) (hb : Nn b) (hc : Nn c) (hd : Nn d) (h1 : rg a = rg c) (h2 : rg b = rg d) : rg (fadd .f32 a b) = rg (fadd .f32 c d) := by rw [rg_add ha hb, rg_add hc hd, h1, h2]
theorem rung_mul {a b c d : Nat} (ha : Nn a) (hb : Nn b) (hc : Nn c) (hd : Nn d) (h1 : rg a = rg c) (h2 : rg b = rg d) : rg (fmul .f32 a b) = rg (fmul .f32 c d) := by rw [rg_mul ha hb, rg_mul hc hd, h1, h2]
theorem rung_div {a b c d : Nat} (ha : Nn a) (hb : Nn b) (hc : Nn c) (hd : Nn d) (h0 : rg b ≠ 0) (h1 : rg a = rg c) (h2 : rg b = rg d) : rg (fdiv .f32 a b) = rg (fdiv .f32 c d) := by
  obtain ⟨L, hL⟩ : ∃ L, L = 1000 := ⟨_, rfl⟩
  rw [rg_div ha hb h0 L (by omega), rg_div hc hd (by omega) L (by omega), h1, h2]
theorem div_up {J K a b : Nat} (ha : Nb J a) (hb : Nn b) (hk : K ≤ rg b) (hJ : J < 2139095040) (hK : K < 2139095040) (h0 : K ≠ 0) : rg (fdiv .f32 a b) ≤ rg (fdiv .f32 J K) := by
  have nJ := nb_self hJ
  have nK := nb_self hK
  refine div_mono ha.1 hb nJ.1 nK.1 (by omega) (by rw [nK.2]; exact h0) ?_
  rw [nJ.2, nK.2]
  exact Nat.mul_le_mul (mag_le_iff.2 ha.2) (mag_le_iff.2 hk)
theorem nb_div {J K L a b : Nat} (ha : Nb J a) (hb : Nn b) (hk : K ≤ rg b) (hJ : J < 2139095040) (hK : K < 2139095040) (h : decide (K ≠ 0 ∧ rg (fdiv .f32 J K) ≤ L) = true) (hL : L < 2139095040) : Nb L (fdiv .f32 a b) := by
  have h' := of_decide_eq_true h
  have h1 := div_up ha hb hk hJ hK h'.1
  exact ⟨nn_div ha.1 hb (by omega) (by omega), by omega⟩
theorem div_dn {J K a b : Nat} (ha : Nn a) (hk : K ≤ rg a) (hb : Nb J b) (h0 : rg b ≠ 0) (hJ : J < 2139095040) (hK : K < 2139095040) : rg (fdiv .f32 K J) ≤ rg (fdiv .f32 a b) := by
  have nJ := nb_self hJ
  have nK := nb_self hK
  have hj := hb.2
  refine div_mono nK.1 nJ.1 ha hb.1 (by rw [nJ.2]; omega) h0 ?_
  rw [nJ.2, nK.2]
  exact Nat.mul_le_mul (mag_le_iff.2 hk) (mag_le_iff.2 hb.2)
theorem mul_dn {J K a b : Nat} (ha : Nn a) (hb : Nn b) (hj : J ≤ rg a) (hk : K ≤ rg b) (hJ : J < 2139095040) (hK : K < 2139095040) : rg (fmul .f32 J K) ≤ rg (fmul .f32 a b) := by
  have nJ := nb_self hJ
  have nK := nb_self hK
  exact mul_mono nJ.1 ha nK.1 hb (by rw [nJ.2]; exact hj) (by rw [nK.2]; exact hk)
theorem two_mul {a : Nat} (ha : Nn a) (h : rg a ≤ 2130706431) : rg (fmul .f32 1073741824 a) = dbl (rg a) := by
  have n1 := nb_self (K := 1073741824) (by decide)
  have e : mag 1073741824 = 2 ^ 150 := by
    unfold mag
    rw [if_neg (by decide)]
  rw [rg_mul n1.1 ha, n1.2, e]
  have h2 := nearest_shift FloatKind.f32.format false (2 * mag (rg a)) 149 (-149)
  have e3 : (-149 : Int) - ((149 : Nat) : Int) = -298 := by omega
  rw [e3] at h2
  have e4 : 2 ^ 150 * mag (rg a) = 2 * mag (rg a) * 2 ^ 149 := by
    rw [show (2 : Nat) ^ 150 = 2 * 2 ^ 149 from Nat.pow_succ' , Nat.mul_assoc, Nat.mul_assoc, Nat.mul_comm (2 ^ 149)]
  rw [e4, h2, near_dbl h]
theorem one_mag : mag 1065353216 = 2 ^ 149 := by
  unfold mag
  rw [if_neg (by decide)]
theorem nn_is {a : Nat} (ha : Nn a) (h : rg a ≠ 0) : a = rg a ∧ a < 2139095040 := by
  rcases ha with h1 | h1
  · exact ⟨(nb_self h1).2.symm, h1⟩
  · rw [h1] at h
    exact absurd (by decide) h

def laws_toMill (x0 : Int) (x1 x2 : Nat) := (x0, x1, x2)
theorem amount_eq (x : Nat) : impl_isAmount x = spec_l03Amount x := by
  simp only [impl_isAmount, impl_isAmount.t, impl_between, impl_between.t, spec_l03Amount, spec_l03Amount.t, T.val, fge_flip]

theorem within_eq (x y z : Int) : impl_within x y z = spec_l00In x y z := by
  simp only [impl_within, impl_within.t, spec_l00In, spec_l00In.t, T.val, ge_iff_le]

-- lies in the core (SxQ)

theorem length_eq (x : Nat) : impl_IsLength x = spec_l03Length x := by
  simp only [impl_IsLength, impl_IsLength.t, impl_between, impl_between.t, spec_l03Length, spec_l03Length.t, T.val, fge_flip]

theorem vmill_eq (x0 : Int) (x1 x2 : Nat) : impl_ValidMill x0 x1 x2 = spec_l03Mill x0 x1 x2 := by
  simp only [impl_ValidMill, impl_ValidMill.t, spec_l03Mill, spec_l03Mill.t, T.val, within_eq, length_eq]
theorem length_pos {x : Nat} (h : spec_l03Length x = true) : isNaN .f32 x = false ∧ ∀ s e, FloatKind.f32.format.read x ≠ .number s 0 e := by
  simp only [spec_l03Length, spec_l03Length.t, T.val, fge_flip] at h
  cases h1 : fle .f32 1031798784 x with
  | false => rw [h1] at h; cases h
  | true => exact pos_of_le (show FloatKind.f32.format.read 1031798784 = .number false 8388608 (-27) by kernel_rfl) (by omega) h1
theorem mill_pos {x0 : Int} {x1 x2 : Nat} (h : spec_l03Mill x0 x1 x2 = true) : isNaN .f32 x1 = false ∧ ∀ s e, FloatKind.f32.format.read x1 ≠ .number s 0 e := by
  refine length_pos ?_
  simp only [spec_l03Mill, spec_l03Mill.t, T.val] at h
  generalize spec_l00In (IntKind.wrap .i64 x0) 4 48 = p at h
  generalize spec_l03Length x1 = q at h ⊢
  cases p <;> cases q <;> first | rfl | cases h

theorem mill_eq (x0 : Int) (x1 x2 : Nat) : laws_toMill x0 x1 x2 = (x0, x1, x2) := rfl
theorem fill_eq (x0 : Int) (x1 x2 x3 x4 : Nat) (hx : flHas .f32 x1) (h : spec_l03Mill x0 x1 x2 = true) : impl_Mill_fill x3 x4 x0 x1 x2 = spec_l03Fill x0 x1 x2 x3 x4 := by
  obtain ⟨h1, h2⟩ := mill_pos h
  simp only [impl_Mill_fill, impl_Mill_fill.t, spec_l03Fill, spec_l03Fill.t, T.val, fmin_gen (fdiv_has .f32 _ _) (fun h => canon_nan h) hx h1 h2]

theorem speed_eq (x : Nat) : impl_isSpeed x = spec_l03Speed x := by
  simp only [impl_isSpeed, impl_isSpeed.t, impl_between, impl_between.t, spec_l03Speed, spec_l03Speed.t, T.val, fge_flip]
theorem code_eq (x0 : Int) (x1 x2 x3 x4 : Nat) : impl_millCode x0 x1 x2 x3 x4 = spec_l03Asked x0 x1 x2 x3 x4 := by
  simp only [impl_millCode, impl_millCode.t, spec_l03Asked, spec_l03Asked.t, T.val, vmill_eq, amount_eq, speed_eq]
theorem asked_ok {x0 : Int} {x1 x2 x3 x4 : Nat} (h : (spec_l03Asked x0 x1 x2 x3 x4 != 0) = false) : spec_l03Mill x0 x1 x2 = true := by
  simp only [spec_l03Asked, spec_l03Asked.t, T.val] at h
  cases hm : spec_l03Mill x0 x1 x2 with
  | true => rfl
  | false => rw [hm] at h; cases h

theorem torque_eq (x0 : Int) (x1 x2 x3 x4 : Nat) (hx : flHas .f32 x1) (h : spec_l03Mill x0 x1 x2 = true) : impl_Mill_torque x3 x4 x0 x1 x2 = spec_l03Torque x0 x1 x2 x3 x4 := by
  simp only [impl_Mill_torque, impl_Mill_torque.t, spec_l03Torque, spec_l03Torque.t, T.val, fill_eq x0 x1 x2 x3 x4 hx h]

theorem orZero_eq (x : Nat) (c : Int) : impl_orZero x c = (bif c != 0 then (0, c) else (x, 0)) := by
  simp only [impl_orZero, impl_orZero.t, T.val]

-- lies in the core (SxQ)

theorem sqrt_eq (x : Nat) : math_Sqrt x = fsqrt x := rfl
theorem root_ok (x : Nat) : spec_l03Root.ok x = true := by
  simp only [spec_l03Root.ok, spec_l03Root.t, T.ok, sqrt_eq, open_wide, open_sqrt, cond_false]
theorem fast_ok (x : Nat) : spec_l03Fast.ok x = true := by
  simp only [spec_l03Fast.ok, spec_l03Fast.t, T.ok, root_ok, cond_true]
theorem speedw_ok (x : Nat) : impl_waterSpeed.ok x = true := by
  simp only [impl_waterSpeed.ok, impl_waterSpeed.t, T.ok, sqrt_eq, open_wide, open_sqrt, cond_false]
theorem speedw_eq (x : Nat) : impl_waterSpeed x = spec_l03Fast x := by
  simp only [impl_waterSpeed, impl_waterSpeed.t, spec_l03Fast, spec_l03Fast.t, spec_l03Root, spec_l03Root.t, T.val, sqrt_eq, open_wide, open_sqrt, root_ok, cond_false, cond_true]

theorem flow_ok (x0 x1 : Nat) (x2 : Int) : spec_l03Flow.ok x0 x1 x2 = true := by
  simp only [spec_l03Flow.ok, spec_l03Flow.t, T.ok, fast_ok, cond_true]
theorem through_ok (x0 x1 : Nat) (x2 : Int) : impl_flowThrough.ok x0 x1 x2 = true := by
  simp only [impl_flowThrough.ok, impl_flowThrough.t, T.ok, speedw_ok, cond_true]
theorem through_eq (x0 x1 : Nat) (x2 : Int) : impl_flowThrough x0 x1 x2 = spec_l03Flow x0 x1 x2 := by
  simp only [impl_flowThrough, impl_flowThrough.t, spec_l03Flow, spec_l03Flow.t, T.val, speedw_ok, speedw_eq, fast_ok, cond_true]

theorem part_eq (x : Nat) : impl_IsPart x = spec_l01Part x := by
  simp only [impl_IsPart, impl_IsPart.t, impl_between, impl_between.t, spec_l01Part, spec_l01Part.t, T.val, fge_flip]

/-! A text cut at a byte. -/
def pre (a : List UInt8) : List (List UInt8) → List (List UInt8)
  | [] => [a]
  | h :: t => (a ++ h) :: t
def pcs (c : UInt8) : List UInt8 → List (List UInt8)
  | [] => [[]]
  | b :: r => if b = c then [] :: pcs c r else pre [b] (pcs c r)
theorem pcs_ne (c : UInt8) : ∀ l, pcs c l ≠ []
  | [] => by simp [pcs]
  | b :: r => by
    unfold pcs
    split
    · simp
    · cases h : pcs c r with
      | nil => exact absurd h (pcs_ne c r)
      | cons x t => simp [pre]
theorem pre_pre (a b : List UInt8) (l : List (List UInt8)) (h : l ≠ []) : pre a (pre b l) = pre (a ++ b) l := by
  cases l with
  | nil => exact absurd rfl h
  | cons x t => simp [pre]
/-- The pieces with the byte between are the text. -/
theorem pcs_join (c : UInt8) : ∀ l, List.intercalate [c] (pcs c l) = l
  | [] => by simp [pcs, List.intercalate, List.intersperse]
  | b :: r => by
    have ih := pcs_join c r
    unfold pcs
    split
    · rename_i h
      subst h
      cases hp : pcs b r with
      | nil => exact absurd hp (pcs_ne b r)
      | cons x t =>
        rw [hp] at ih
        simp [List.intercalate, List.intersperse] at ih ⊢
        exact ih
    · cases hp : pcs c r with
      | nil => exact absurd hp (pcs_ne c r)
      | cons x t =>
        rw [hp] at ih
        cases t with
        | nil =>
          simp [pre, List.intercalate, List.intersperse] at ih ⊢
          exact ih
        | cons y t =>
          simp [pre, List.intercalate, List.intersperse] at ih ⊢
          exact ih
theorem splitK_pcs (c : UInt8) : ∀ l : List UInt8, Go.Lib.splitK [c] 0 (l.count c) l = pcs c l
  | [] => rfl
  | b :: r => by
    have ih := splitK_pcs c r
    by_cases h : b = c
    · subst h
      have e : Go.Lib.index (b :: r) [b] = 0 := by
        unfold Go.Lib.index
        rw [if_pos (by simp [List.isPrefixOf])]
      rw [List.count_cons_self]
      unfold Go.Lib.splitK pcs
      rw [e, if_neg (by decide), if_pos rfl]
      simp [ih]
    · have e : Go.Lib.index (b :: r) [c] = if Go.Lib.index r [c] == -1 then -1 else Go.Lib.index r [c] + 1 := by
        conv => lhs; unfold Go.Lib.index
        rw [if_neg (by simp [List.isPrefixOf]; exact fun hh => absurd hh.symm h)]
      rw [List.count_cons_of_ne (by simpa using h)]
      unfold pcs
      rw [if_neg h, ← ih]
      cases hk : r.count c with
      | zero => rfl
      | succ k =>
        unfold Go.Lib.splitK
        rw [e]
        by_cases hi : (Go.Lib.index r [c] == -1) = true
        · rw [if_pos hi, if_pos (by rfl), if_pos hi]
          rfl
        · have hge := Go.Lib.index_ge r [c]
          have hne : Go.Lib.index r [c] ≠ -1 := fun q => hi (by rw [q]; rfl)
          obtain ⟨i, hi2⟩ : ∃ i : Nat, Go.Lib.index r [c] = i := ⟨(Go.Lib.index r [c]).toNat, by omega⟩
          rw [if_neg hi, hi2, if_neg (by simp; omega), if_neg (by simp)]
          have e2 : ((i : Int) + 1).toNat = i + 1 := by omega
          simp [pre, e2]
theorem split_pieces (x : ByteArray) (c : UInt8) : (splitL x (ByteArray.mk #[c])).map (·.data.toList) = pcs c x.data.toList := by
  unfold splitL
  rw [Go.Lib.splitB_data]
  have e : Go.Lib.countB x (ByteArray.mk #[c]) = x.data.toList.count c := by
    show Go.Lib.count x.data.toList [c] = _
    exact Go.Lib.count_one c _
  rw [e]
  exact splitK_pcs c _
theorem bytes_ext {xs ys : List ByteArray} (h : xs.map (·.data.toList) = ys.map (·.data.toList)) : xs = ys := by
  induction xs generalizing ys with
  | nil =>
    cases ys with
    | nil => rfl
    | cons y r => cases h
  | cons x r ih =>
    cases ys with
    | nil => cases h
    | cons y s =>
      simp only [List.map_cons, List.cons.injEq] at h
      rw [ih h.2, ByteArray.ext (Array.ext' h.1)]
theorem pcs_ncut {c : UInt8} : ∀ {l : List UInt8}, (∀ x ∈ l, x ≠ c) → pcs c l = [l]
  | [], _ => rfl
  | b :: r, h => by
    unfold pcs
    rw [if_neg (h b (List.mem_cons_self ..)), pcs_ncut (fun x hx => h x (List.mem_cons_of_mem _ hx))]
    rfl
theorem pcs_cut {c : UInt8} : ∀ {l : List UInt8} (r : List UInt8), (∀ x ∈ l, x ≠ c) → pcs c (l ++ c :: r) = l :: pcs c r
  | [], r, _ => by
    rw [List.nil_append, pcs, if_pos rfl]
  | b :: l, r, h => by
    rw [List.cons_append, pcs, if_neg (h b (List.mem_cons_self ..)), pcs_cut r (fun x hx => h x (List.mem_cons_of_mem _ hx))]
    rfl

/-- A hexadecimal digit. -/
def dg (n : Nat) : Int := byteAt (ByteArray.mk #[48, 49, 50, 51, 52, 53, 54, 55, 56, 57, 97, 98, 99, 100, 101, 102]) (n : Int)
def hexL (x : Nat) : List Int := [dg (x / 268435456 % 16), dg (x / 16777216 % 16), dg (x / 1048576 % 16), dg (x / 65536 % 16), dg (x / 4096 % 16), dg (x / 256 % 16), dg (x / 16 % 16), dg (x % 16)]
/-- The text of a number's word. -/
def hexT (x : Nat) : ByteArray := Sx.strOf (hexL x)
theorem strOf_size : ∀ (xs : List Int) (b : ByteArray), (xs.foldl (fun r n => r.push (UInt8.ofNat n.toNat)) b).size = b.size + xs.length
  | [], b => rfl
  | x :: r, b => by
    rw [List.foldl_cons, strOf_size r, ByteArray.size_push, List.length_cons]
    omega
theorem hexT_size (x : Nat) : (hexT x).size = 8 := by
  unfold hexT Sx.strOf
  rw [strOf_size]
  rfl
theorem wrapu32 {n : Nat} (h : n < 4294967296) : IntKind.wrap .u32 (n : Int) = n := by
  have : IntKind.wrap .u32 (n : Int) = (n : Int) % 4294967296 := rfl
  rw [this]
  omega
theorem ibits15 (n : Nat) (h : n < 4294967296) : ibits .and .u32 (n : Int) 15 = ((n % 16 : Nat) : Int) := by
  have e : (BitVec.ofInt 32 (n : Int) &&& BitVec.ofInt 32 15).toNat = n % 16 := by
    rw [BitVec.toNat_and]
    have e1 : (BitVec.ofInt 32 (n : Int)).toNat = n := by simp; omega
    have e2 : (BitVec.ofInt 32 15).toNat = 2 ^ 4 - 1 := by decide
    rw [e1, e2, Nat.and_two_pow_sub_one_eq_mod]
  show IntKind.wrap .u32 (((BitVec.ofInt 32 (n : Int) &&& BitVec.ofInt 32 15).toNat : Nat) : Int) = _
  rw [e]
  exact wrapu32 (by omega)
theorem bound16 (n : Nat) (h : n < 16) : bounds (n : Int) (ByteArray.size (ByteArray.mk #[48, 49, 50, 51, 52, 53, 54, 55, 56, 57, 97, 98, 99, 100, 101, 102])) = true := by
  have e : ByteArray.size (ByteArray.mk #[48, 49, 50, 51, 52, 53, 54, 55, 56, 57, 97, 98, 99, 100, 101, 102]) = 16 := rfl
  rw [e, bounds_nat, decide_eq_true h]

def implH (x : Nat) : Nat → List Int
  | 0 => []
  | j + 1 => implH x j ++ [dg (x / 2 ^ (28 - 4 * j) % 16)]
theorem implH_len (x : Nat) : ∀ j, (implH x j).length = j
  | 0 => rfl
  | j + 1 => by
    show (implH x j ++ _).length = _
    rw [List.length_append, implH_len x j]
    rfl
theorem implH_8 (x : Nat) : implH x 8 = hexL x := by
  have e : implH x 8 = [dg (x / 2 ^ 28 % 16), dg (x / 2 ^ 24 % 16), dg (x / 2 ^ 20 % 16), dg (x / 2 ^ 16 % 16), dg (x / 2 ^ 12 % 16), dg (x / 2 ^ 8 % 16), dg (x / 2 ^ 4 % 16), dg (x / 2 ^ 0 % 16)] := rfl
  rw [e]
  unfold hexL
  rw [show (2 : Nat) ^ 28 = 268435456 by decide, show (2 : Nat) ^ 24 = 16777216 by decide, show (2 : Nat) ^ 20 = 1048576 by decide, show (2 : Nat) ^ 16 = 65536 by decide, show (2 : Nat) ^ 12 = 4096 by decide, show (2 : Nat) ^ 8 = 256 by decide, show (2 : Nat) ^ 4 = 16 by decide, show (2 : Nat) ^ 0 = 1 by decide, Nat.div_one]
theorem impl_r (x : Nat) (h : x < 4294967296) : impl_NumberText.l5v1.r (x : Int) (0, (28 : Int), []) = some (8, hexL x) := by
  have hf := iter_run (step := impl_NumberText.l5v1.st (x : Int)) (f := fun j => (j, (28 : Int) - 4 * (j : Int), implH x j)) (e := (8, implH x 8)) (n := 8) (N := manyRounds) (k := 0) (many_lt (by omega)) (fun j hj => ?_) ?_
  · rw [implH_8] at hf
    exact hf
  · simp only [Nat.zero_add]
    have e0 : (28 : Int) - 4 * (j : Int) = ((28 - 4 * j : Nat) : Int) := by omega
    have e1 : min (28 - 4 * j) 32 = 28 - 4 * j := by omega
    have e2 : Int.fdiv (x : Int) (2 ^ (28 - 4 * j)) = ((x / 2 ^ (28 - 4 * j) : Nat) : Int) := by
      rw [Int.fdiv_eq_ediv_of_nonneg _ (Int.pow_nonneg (by decide)), Int.natCast_ediv, Int.natCast_pow]
      rfl
    have e4 : IntKind.wrap .i64 (((28 - 4 * j : Nat) : Int) - 4) = (28 : Int) - 4 * ((j + 1 : Nat) : Int) := by rw [wrap64 (by omega) (by omega)]; omega
    have hc : ∀ y : Int, (Nat.ble 1 (List.length [y]) && (Nat.beq (List.length (implH x j)) (j * 1) && Nat.ble ((j + 1) * 1) 35184372088832 && Nat.ble (j + 1) 35184372088832)) = true := fun y => by
      rw [implH_len, Nat.mul_one, Nat.mul_one, Nat.beq_refl, ble_decide, ble_decide, decide_eq_true (by simp : 1 ≤ List.length [y]), decide_eq_true (by omega : j + 1 ≤ 35184372088832)]
      rfl
    simp only [impl_NumberText.l5v1.st, impl_NumberText.l5v1.s, T.get, e0, e4, Int.toNat_natCast, e1, e2, ibits15 _ (Nat.lt_of_le_of_lt (Nat.div_le_self _ _) h), bound16 _ (Nat.mod_lt _ (by omega : 0 < 16)), hc]
    rw [decide_eq_true (by omega : ((28 - 4 * j : Nat) : Int) ≥ 0), decide_eq_false (by omega : ¬ ((28 - 4 * j : Nat) : Int) < 0)]
    rfl
  · simp only [Nat.zero_add]
    rfl
theorem impl_hex (x : Nat) (h : x < 4294967296) (hn : isNaN .f32 x = false) : (impl_NumberText.t x).get = some (hexT x) := by
  have hlen : (hexL x).length = 8 := rfl
  simp only [impl_NumberText.t, T.get, fne_self, hn, impl_r x h, Option.isSome_some, Option.getD_some, hlen]
  rfl

/-! A number read from its text. -/
def D16 : List UInt8 := [48, 49, 50, 51, 52, 53, 54, 55, 56, 57, 97, 98, 99, 100, 101, 102]
def isDg (b : UInt8) : Bool := (decide (48 ≤ b.toNat) && decide (b.toNat ≤ 57)) || (decide (97 ≤ b.toNat) && decide (b.toNat ≤ 102))
/-- A digit's value; of what is none, nought. -/
def dv (b : UInt8) : Nat := if b.toNat ≤ 57 then (if 48 ≤ b.toNat then b.toNat - 48 else 0) else if 97 ≤ b.toNat then (if b.toNat ≤ 102 then b.toNat - 87 else 0) else 0
def dgB (n : Nat) : UInt8 := UInt8.ofNat (dg n).toNat
theorem byteAll {p : UInt8 → Bool} (h : (List.range 256).all (fun n => p (UInt8.ofNat n)) = true) (b : UInt8) : p b = true := by
  rw [List.all_eq_true] at h
  have := h b.toNat (by have := b.toNat_lt; simpa using this)
  simpa using this
theorem dv_lt (b : UInt8) : dv b < 16 := by
  have := byteAll (p := fun b => decide (dv b < 16)) (by decide +kernel) b
  simpa using this
theorem dv_index (b : UInt8) : (if (0 : Int) > Go.Lib.indexByte D16 b then (0 : Int) else Go.Lib.indexByte D16 b) = (dv b : Int) := by
  have := byteAll (p := fun b => decide ((if (0 : Int) > Go.Lib.indexByte D16 b then (0 : Int) else Go.Lib.indexByte D16 b) = (dv b : Int))) (by decide +kernel) b
  simpa using this
theorem dgB_dv (b : UInt8) (h : isDg b = true) : dgB (dv b) = b := by
  have := byteAll (p := fun b => !isDg b || decide (dgB (dv b) = b)) (by decide +kernel) b
  simpa [h] using this
theorem dg_is (n : Nat) (h : n < 16) : isDg (dgB n) = true ∧ dv (dgB n) = n := by
  have := (List.all_eq_true.1 (show (List.range 16).all (fun n => isDg (dgB n) && decide (dv (dgB n) = n)) = true by decide +kernel)) n (by simpa using h)
  simpa using this
/-- The value of the first digits. -/
def acc (bs : List UInt8) : Nat → Nat
  | 0 => 0
  | i + 1 => acc bs i * 16 + dv (bs.getD i 0)
theorem acc_lt (bs : List UInt8) : ∀ i, acc bs i < 16 ^ i
  | 0 => Nat.one_pos
  | i + 1 => by
    have h1 := acc_lt bs i
    have h2 := dv_lt (bs.getD i 0)
    show acc bs i * 16 + dv _ < 16 ^ (i + 1)
    rw [Nat.pow_succ]
    omega
theorem acc32 (bs : List UInt8) {i : Nat} (h : i ≤ 8) : acc bs i < 4294967296 := by
  have h1 := acc_lt bs i
  have h2 : 16 ^ i ≤ 16 ^ 8 := Nat.pow_le_pow_right (by decide) h
  have : (16 : Nat) ^ 8 = 4294967296 := by decide
  omega
theorem acc28 (bs : List UInt8) {i : Nat} (h : i ≤ 7) : acc bs i < 268435456 := by
  have h1 := acc_lt bs i
  have h2 : 16 ^ i ≤ 16 ^ 7 := Nat.pow_le_pow_right (by decide) h
  have : (16 : Nat) ^ 7 = 268435456 := by decide
  omega
theorem ior16 (a d : Nat) (ha : a < 268435456) (hd : d < 16) : ibits .or .u32 (IntKind.wrap .u32 ((a : Int) * (2 ^ min (Int.toNat (4 : Int)) 32))) (IntKind.wrap .u32 (d : Int)) = ((a * 16 + d : Nat) : Int) := by
  have e0 : (2 : Int) ^ min (Int.toNat (4 : Int)) 32 = 16 := by decide
  have e1 : (a : Int) * 16 = ((a * 16 : Nat) : Int) := by omega
  rw [e0, e1, wrapu32 (by omega), wrapu32 (by omega)]
  have e : (BitVec.ofInt 32 ((a * 16 : Nat) : Int) ||| BitVec.ofInt 32 (d : Int)).toNat = a * 16 + d := by
    rw [BitVec.toNat_or]
    have e1 : (BitVec.ofInt 32 ((a * 16 : Nat) : Int)).toNat = a * 16 := by simp; omega
    have e2 : (BitVec.ofInt 32 (d : Int)).toNat = d := by simp; omega
    rw [e1, e2]
    have := Nat.shiftLeft_add_eq_or_of_lt (a := a) (b := d) (i := 4) (by omega)
    rw [Nat.shiftLeft_eq] at this
    exact this.symm
  show IntKind.wrap .u32 (((BitVec.ofInt 32 ((a * 16 : Nat) : Int) ||| BitVec.ofInt 32 (d : Int)).toNat : Nat) : Int) = _
  rw [e]
  exact wrapu32 (by omega)
theorem byte_of (w : ByteArray) (i : Nat) : byteAt w (i : Int) = ((w.data.toList.getD i 0).toNat : Int) := by
  unfold byteAt
  rw [Int.toNat_natCast]
theorem impl_n (w : ByteArray) : impl_ReadNumber.l3.r (w, (if (8 : Int) < ((w.size : Nat) : Int) then (8 : Int) else ((w.size : Nat) : Int))) (0, 0) = some ((acc w.data.toList (min 8 w.size) : Nat) : Int) := by
  have e : (if (8 : Int) < ((w.size : Nat) : Int) then (8 : Int) else ((w.size : Nat) : Int)) = ((min 8 w.size : Nat) : Int) := by
    split <;> omega
  rw [e]
  have hf := iter_run (step := impl_ReadNumber.l3.st (w, ((min 8 w.size : Nat) : Int))) (f := fun i => (((acc w.data.toList i : Nat) : Int), (i : Int))) (e := ((acc w.data.toList (min 8 w.size) : Nat) : Int)) (n := min 8 w.size) (N := manyRounds) (k := 0) (many_lt (by omega)) (fun i hi => ?_) ?_
  · exact hf
  · simp only [Nat.zero_add]
    have hi8 : i < 8 := by omega
    have eb : Nat.toUInt8 (Int.toNat (byteAt w (i : Int))) = w.data.toList.getD i 0 := by
      rw [byte_of, Int.toNat_natCast]
      simp
    have ed := dv_index (w.data.toList.getD i 0)
    unfold D16 at ed
    simp only [impl_ReadNumber.l3.st, impl_ReadNumber.l3.s, T.get, bounds_nat, eb, ed, ior16 _ _ (acc28 w.data.toList (show i ≤ 7 by omega)) (dv_lt _)]
    rw [decide_eq_true (by omega : (i : Int) < ((min 8 w.size : Nat) : Int)), decide_eq_true (by omega : i < w.size), wrap64_succ (by omega)]
    rfl
  · simp only [Nat.zero_add, impl_ReadNumber.l3.st, impl_ReadNumber.l3.s, T.get]
    rw [decide_eq_false (by omega)]
    rfl
/-- Whether all eight are digits. -/
def allDg (w : ByteArray) : Bool := !(firstAt (fun i => !isDg (w.data.toList.getD i 0)) 8 0).isSome
/-! A word's text, and what is read of it. -/
theorem strOf_data : ∀ (xs : List Int) (b : ByteArray), (xs.foldl (fun r n => r.push (UInt8.ofNat n.toNat)) b).data.toList = b.data.toList ++ xs.map (fun n => UInt8.ofNat n.toNat)
  | [], b => by simp
  | x :: r, b => by
    rw [List.foldl_cons, strOf_data r]
    simp [ByteArray.push]
theorem hexT_data (n : Nat) : (hexT n).data.toList = [dgB (n / 268435456 % 16), dgB (n / 16777216 % 16), dgB (n / 1048576 % 16), dgB (n / 65536 % 16), dgB (n / 4096 % 16), dgB (n / 256 % 16), dgB (n / 16 % 16), dgB (n % 16)] := by
  unfold hexT Sx.strOf
  rw [strOf_data]
  rfl
theorem hexT_acc (n : Nat) (h : n < 4294967296) : acc (hexT n).data.toList 8 = n := by
  rw [hexT_data]
  have e : ∀ a b c d e f g i : UInt8, acc [a, b, c, d, e, f, g, i] 8 = ((((((((0 * 16 + dv a) * 16 + dv b) * 16 + dv c) * 16 + dv d) * 16 + dv e) * 16 + dv f) * 16 + dv g) * 16 + dv i) := fun _ _ _ _ _ _ _ _ => rfl
  rw [e]
  have q : ∀ k, dv (dgB (k % 16)) = k % 16 := fun k => (dg_is _ (Nat.mod_lt _ (by omega))).2
  rw [q, q, q, q, q, q, q, q]
  omega
theorem hexT_digits (n : Nat) : allDg (hexT n) = true := by
  unfold allDg
  have q : ∀ k, isDg (dgB (k % 16)) = true := fun k => (dg_is _ (Nat.mod_lt _ (by omega))).1
  have : firstAt (fun i => !isDg ((hexT n).data.toList.getD i 0)) 8 0 = none := by
    refine firstAt_none.2 fun i _ hi => ?_
    rw [hexT_data]
    match i, hi with
    | 0, _ | 1, _ | 2, _ | 3, _ | 4, _ | 5, _ | 6, _ | 7, _ => simp [q]
  rw [this]
  rfl
/-- Eight digits are the text of their value. -/
theorem text_of (w : ByteArray) (hw : w.size = 8) (h : allDg w = true) : hexT (acc w.data.toList 8) = w := by
  have hl : w.data.toList.length = 8 := hw
  have hd : ∀ i, i < 8 → isDg (w.data.toList.getD i 0) = true := by
    intro i hi
    unfold allDg at h
    cases hf : firstAt (fun i => !isDg (w.data.toList.getD i 0)) 8 0 with
    | none => simpa using firstAt_none.1 hf i (by omega) (by omega)
    | some j => rw [hf] at h; cases h
  refine ByteArray.ext (Array.ext' ?_)
  rw [hexT_data]
  generalize w.data.toList = l at hl hd ⊢
  match l, hl with
  | [a, b, c, d, e, f, g, i], _ =>
    have d0 := hd 0 (by omega); have d1 := hd 1 (by omega); have d2 := hd 2 (by omega); have d3 := hd 3 (by omega)
    have d4 := hd 4 (by omega); have d5 := hd 5 (by omega); have d6 := hd 6 (by omega); have d7 := hd 7 (by omega)
    simp only [List.getD_cons_zero, List.getD_cons_succ] at d0 d1 d2 d3 d4 d5 d6 d7
    have e0 : acc [a, b, c, d, e, f, g, i] 8 = ((((((((0 * 16 + dv a) * 16 + dv b) * 16 + dv c) * 16 + dv d) * 16 + dv e) * 16 + dv f) * 16 + dv g) * 16 + dv i) := rfl
    rw [e0]
    have ka := dv_lt a; have kb := dv_lt b; have kc := dv_lt c; have kd := dv_lt d
    have ke := dv_lt e; have kf := dv_lt f; have kg := dv_lt g; have ki := dv_lt i
    generalize hA : dv a = A at ka ⊢
    generalize hB : dv b = B at kb ⊢
    generalize hC : dv c = C at kc ⊢
    generalize hD : dv d = D at kd ⊢
    generalize hE : dv e = E at ke ⊢
    generalize hF : dv f = F at kf ⊢
    generalize hG : dv g = G at kg ⊢
    generalize hI : dv i = I at ki ⊢
    have m0 : ((((((((0 * 16 + A) * 16 + B) * 16 + C) * 16 + D) * 16 + E) * 16 + F) * 16 + G) * 16 + I) / 268435456 % 16 = A := by omega
    have m1 : ((((((((0 * 16 + A) * 16 + B) * 16 + C) * 16 + D) * 16 + E) * 16 + F) * 16 + G) * 16 + I) / 16777216 % 16 = B := by omega
    have m2 : ((((((((0 * 16 + A) * 16 + B) * 16 + C) * 16 + D) * 16 + E) * 16 + F) * 16 + G) * 16 + I) / 1048576 % 16 = C := by omega
    have m3 : ((((((((0 * 16 + A) * 16 + B) * 16 + C) * 16 + D) * 16 + E) * 16 + F) * 16 + G) * 16 + I) / 65536 % 16 = D := by omega
    have m4 : ((((((((0 * 16 + A) * 16 + B) * 16 + C) * 16 + D) * 16 + E) * 16 + F) * 16 + G) * 16 + I) / 4096 % 16 = E := by omega
    have m5 : ((((((((0 * 16 + A) * 16 + B) * 16 + C) * 16 + D) * 16 + E) * 16 + F) * 16 + G) * 16 + I) / 256 % 16 = F := by omega
    have m6 : ((((((((0 * 16 + A) * 16 + B) * 16 + C) * 16 + D) * 16 + E) * 16 + F) * 16 + G) * 16 + I) / 16 % 16 = G := by omega
    have m7 : ((((((((0 * 16 + A) * 16 + B) * 16 + C) * 16 + D) * 16 + E) * 16 + F) * 16 + G) * 16 + I) % 16 = I := by omega
    rw [m0, m1, m2, m3, m4, m5, m6, m7, ← hA, ← hB, ← hC, ← hD, ← hE, ← hF, ← hG, ← hI, dgB_dv a d0, dgB_dv b d1, dgB_dv c d2, dgB_dv d d3, dgB_dv e d4, dgB_dv f d5, dgB_dv g d6, dgB_dv i d7]

theorem seq_eq (x y : ByteArray) : seq? x y = decide (x = y) := by
  unfold seq?
  rw [Go.Lib.toList_data, Go.Lib.toList_data]
  by_cases h : x = y
  · subst h; simp
  · rw [decide_eq_false h, beq_eq_false_iff_ne]
    exact fun q => h (ByteArray.ext (Array.ext' q))
/-- A number's word, what is none alike. -/
def cb (n : Nat) : Nat := bif isNaN .f32 n then 2143289344 else n
theorem nan_nz (n : Nat) : isNaN .f32 (nz .f32 n) = isNaN .f32 n := by
  cases h : isNaN .f32 n with
  | true =>
    rw [nz_of_nan h]
    obtain ⟨s, t, h⟩ := decode_nanOf .f32
    exact isNaN_of_read h
  | false =>
    rw [nz_of_not h]
    exact h
theorem canon_text : hexT 2143289344 = ByteArray.mk #[55, 102, 99, 48, 48, 48, 48, 48] := by
  refine ByteArray.ext (Array.ext' ?_)
  rw [hexT_data]
  decide +kernel
theorem text_nz (n : Nat) (h : n < 4294967296) : (impl_NumberText.t (nz .f32 n)).get = some (hexT (cb n)) := by
  unfold cb
  cases hn : isNaN .f32 n with
  | true =>
    simp only [impl_NumberText.t, T.get, fne_self, nan_nz, hn, cond_true, canon_text]
  | false =>
    rw [nz_of_not hn]
    exact impl_hex n h hn
theorem cb_lt {n : Nat} (h : n < 4294967296) : cb n < 4294967296 := by
  unfold cb
  cases isNaN .f32 n with
  | true => (show 2143289344 < 4294967296; decide)
  | false => exact h
noncomputable def numv (w : ByteArray) : Nat := nz .f32 (acc w.data.toList 8)
def okN (w : ByteArray) : Bool := decide (w.size = 8) && (allDg w && decide (cb (acc w.data.toList 8) = acc w.data.toList 8))
theorem impl_num (w : ByteArray) : (impl_ReadNumber.t w).get = some (bif okN w then (numv w, 0) else (0, 5)) := by
  have hlt : acc w.data.toList (min 8 w.size) < 4294967296 := acc32 _ (by omega)
  have ht := text_nz _ hlt
  simp only [impl_ReadNumber.t, T.get, impl_n, Option.isSome_some, Option.getD_some, Int.toNat_natCast, show impl_NumberText.ok (nz .f32 (acc w.data.toList (min 8 w.size))) = true from T.ok_of_get (ht), show impl_NumberText (nz .f32 (acc w.data.toList (min 8 w.size))) = _ from T.val_of_get (ht), seq_eq]
  have key : decide (hexT (cb (acc w.data.toList (min 8 w.size))) = w) = okN w := by
    unfold okN
    by_cases hw : w.size = 8
    · have hm : min 8 w.size = 8 := by omega
      rw [hm, decide_eq_true hw, Bool.true_and]
      cases ha : allDg w with
      | false =>
        rw [decide_eq_false, Bool.false_and]
        intro q
        have := hexT_digits (cb (acc w.data.toList 8))
        rw [q, ha] at this
        cases this
      | true =>
        rw [Bool.true_and]
        have h1 := text_of w hw ha
        by_cases hc : cb (acc w.data.toList 8) = acc w.data.toList 8
        · rw [decide_eq_true hc, hc, decide_eq_true h1]
        · rw [decide_eq_false hc, decide_eq_false]
          intro q
          refine hc ?_
          have h2 := hexT_acc (cb (acc w.data.toList 8)) (cb_lt (acc32 _ (Nat.le_refl _)))
          rw [q] at h2
          exact h2.symm
    · rw [decide_eq_false hw, Bool.false_and, decide_eq_false]
      intro q
      refine hw ?_
      rw [← q]
      exact hexT_size _
  rw [key]
  cases ho : okN w with
  | false => rfl
  | true =>
    have hw : w.size = 8 := by
      unfold okN at ho
      rw [Bool.and_eq_true] at ho
      simpa using ho.1
    have hm : min 8 w.size = 8 := by omega
    rw [hm]
    rfl
noncomputable def nums (P : List ByteArray) : Nat → List Nat
  | 0 => []
  | i + 1 => nums P i ++ [numv (P.getD i ByteArray.empty)]
theorem nums_len (P : List ByteArray) : ∀ i, (nums P i).length = i
  | 0 => rfl
  | i + 1 => by
    show (nums P i ++ _).length = _
    rw [List.length_append, nums_len P i]
    rfl
theorem numv_lt (w : ByteArray) : numv w < 4294967296 := nz_has (k := .f32) (acc32 _ (Nat.le_refl _))
theorem numv_text {w : ByteArray} (h : okN w = true) (hn : isNaN .f32 (numv w) = false) : hexT (numv w) = w := by
  unfold okN at h
  rw [Bool.and_eq_true, Bool.and_eq_true] at h
  obtain ⟨h1, h2, _⟩ := h
  unfold numv at hn ⊢
  rw [nan_nz] at hn
  rw [nz_of_not hn]
  exact text_of w (by simpa using h1) h2

theorem dig_no (c : UInt8) (hc : isDg c = false) (n : Nat) : ∀ x ∈ (hexT n).data.toList, x ≠ c := by
  intro x hx q
  subst q
  have h : isDg x = true := by
    rw [hexT_data] at hx
    have q : ∀ k, isDg (dgB (k % 16)) = true := fun k => (dg_is _ (Nat.mod_lt _ (by omega))).1
    simp only [List.mem_cons, List.not_mem_nil, or_false] at hx
    rcases hx with rfl | rfl | rfl | rfl | rfl | rfl | rfl | rfl <;> exact q _
  rw [hc] at h
  cases h
theorem hex_ok {n : Nat} (h : n < 4294967296) (hn : isNaN .f32 n = false) : okN (hexT n) = true ∧ numv (hexT n) = n := by
  unfold okN numv
  rw [hexT_acc n h, hexT_digits, hexT_size, nz_of_not hn]
  unfold cb
  rw [hn]
  simp

/-! Numerals. -/
def allD (l : List UInt8) : Bool := l.all fun c => decide (48 ≤ c.toNat) && decide (c.toNat ≤ 57)
def valD (a : Nat) (l : List UInt8) : Nat := l.foldl (fun a c => a * 10 + (c.toNat - 48)) a
theorem dig_nat {k : Nat} (h : k < 10) : (UInt8.ofNat (48 + k)).toNat = 48 + k := by
  show (48 + k) % 256 = 48 + k
  omega
theorem dec_step (u : Nat) : (u < 10 ∧ Go.Lib.decDigits u = [UInt8.ofNat (48 + u)]) ∨ (10 ≤ u ∧ Go.Lib.decDigits u = Go.Lib.decDigits (u / 10) ++ [UInt8.ofNat (48 + u % 10)]) := by
  by_cases h : u < 10
  · exact .inl ⟨h, by rw [Go.Lib.decDigits, dif_pos h]⟩
  · exact .inr ⟨by omega, by rw [Go.Lib.decDigits, dif_neg h]⟩
theorem dec_all (u : Nat) : allD (Go.Lib.decDigits u) = true ∧ valD 0 (Go.Lib.decDigits u) = u := by
  induction u using Nat.strongRecOn with
  | _ u ih =>
    rcases dec_step u with ⟨h, e⟩ | ⟨h, e⟩
    · rw [e]
      have := dig_nat h
      simp only [allD, valD, List.all_cons, List.all_nil, List.foldl_cons, List.foldl_nil, this]
      refine ⟨?_, by omega⟩
      rw [decide_eq_true (by omega), decide_eq_true (by omega)]
      rfl
    · obtain ⟨h1, h2⟩ := ih (u / 10) (by omega)
      have := dig_nat (Nat.mod_lt u (by omega : 0 < 10))
      rw [e]
      unfold allD valD at *
      rw [List.all_append, List.foldl_append, h1, h2]
      simp only [List.all_cons, List.all_nil, List.foldl_cons, List.foldl_nil, this]
      refine ⟨?_, by omega⟩
      rw [decide_eq_true (by omega), decide_eq_true (by omega)]
      rfl
theorem dec_ne (u : Nat) : 1 ≤ (Go.Lib.decDigits u).length := by
  rcases dec_step u with ⟨h, e⟩ | ⟨h, e⟩ <;> rw [e] <;> simp
theorem dec_head (u : Nat) (h : 1 ≤ u) : (Go.Lib.decDigits u).getD 0 0 ≠ 48 := by
  induction u using Nat.strongRecOn with
  | _ u ih =>
    rcases dec_step u with ⟨h1, e⟩ | ⟨h1, e⟩
    · rw [e]
      show UInt8.ofNat (48 + u) ≠ 48
      intro q
      have := congrArg UInt8.toNat q
      rw [dig_nat h1] at this
      have e48 : (48 : UInt8).toNat = 48 := rfl
      omega
    · have := ih (u / 10) (by omega) (by omega)
      have hn := dec_ne (u / 10)
      rw [e]
      cases hq : Go.Lib.decDigits (u / 10) with
      | nil => rw [hq] at hn; simp at hn
      | cons c r =>
        rw [hq] at this
        exact this
theorem dec_len : ∀ (k u : Nat), u < 10 ^ (k + 1) → (Go.Lib.decDigits u).length ≤ k + 1
  | 0, u, h => by
    rcases dec_step u with ⟨h1, e⟩ | ⟨h1, e⟩
    · rw [e]; simp
    · omega
  | k + 1, u, h => by
    rcases dec_step u with ⟨h1, e⟩ | ⟨h1, e⟩
    · rw [e]; simp
    · rw [e, List.length_append]
      have : u / 10 < 10 ^ (k + 1) := by
        rw [Nat.pow_succ] at h
        omega
      have := dec_len k (u / 10) this
      simp only [List.length_cons, List.length_nil]
      omega
theorem val_ge (l : List UInt8) : ∀ a, a ≤ valD a l := by
  induction l with
  | nil => exact fun a => Nat.le_refl _
  | cons c r ih =>
    intro a
    have := ih (a * 10 + (c.toNat - 48))
    show a ≤ valD (a * 10 + (c.toNat - 48)) r
    omega
theorem val_lt {l : List UInt8} : ∀ {a k : Nat}, allD l = true → a < 10 ^ k → valD a l < 10 ^ (k + l.length) := by
  induction l with
  | nil => intro a k _ h; exact h
  | cons c r ih =>
    intro a k h ha
    unfold allD at h
    rw [List.all_cons, Bool.and_eq_true, Bool.and_eq_true] at h
    obtain ⟨⟨h1, h2⟩, h3⟩ := h
    have h1 := of_decide_eq_true h1
    have h2 := of_decide_eq_true h2
    have := ih (a := a * 10 + (c.toNat - 48)) (k := k + 1) h3 (by rw [Nat.pow_succ]; omega)
    show valD (a * 10 + (c.toNat - 48)) r < _
    rw [List.length_cons, show k + (r.length + 1) = k + 1 + r.length by omega]
    exact this
theorem val_snoc (a : Nat) (l : List UInt8) (c : UInt8) : valD a (l ++ [c]) = valD a l * 10 + (c.toNat - 48) := by
  unfold valD
  rw [List.foldl_append]
  rfl

def numOk9 (w : ByteArray) : Bool := decide (1 ≤ w.size ∧ w.size ≤ 9) && (!(decide (w.data.toList.getD 0 0 = 48) && decide (1 < w.size)) && allD w.data.toList)
def isD (c : UInt8) : Bool := decide (48 ≤ c.toNat) && decide (c.toNat ≤ 57)
theorem all_at {l : List UInt8} (h : allD l = true) (j : Nat) (hj : j < l.length) : isD (l.getD j 0) = true := by
  unfold allD at h
  rw [List.all_eq_true] at h
  have := h l[j] (List.getElem_mem hj)
  simp only [List.getD, List.getElem?_eq_getElem hj, Option.getD_some]
  exact this
theorem isD_t {c : UInt8} (h : isD c = true) : 48 ≤ c.toNat ∧ c.toNat ≤ 57 := by
  unfold isD at h
  rw [Bool.and_eq_true] at h
  exact ⟨of_decide_eq_true h.1, of_decide_eq_true h.2⟩
theorem digit_is {c : UInt8} {k : Nat} (hk : k < 10) (h : c.toNat = 48 + k) : c = UInt8.ofNat (48 + k) := UInt8.toNat_inj.1 (by rw [dig_nat hk, h])
theorem dec_count {w : ByteArray} (h : numOk9 w = true) (hv : valD 0 w.data.toList ≤ 48) : counts w = true ∧ Go.Lib.parseUintB 15 w.data.toList = .ok (valD 0 w.data.toList) := by
  unfold numOk9 at h
  rw [Bool.and_eq_true, Bool.and_eq_true] at h
  obtain ⟨h1, h2, h3⟩ := h
  have h1 := of_decide_eq_true h1
  have hl : w.data.toList.length = w.size := rfl
  unfold counts
  rw [ByteArray.toList_eq]
  rw [← hl] at h1 h2
  generalize w.data.toList = l at h1 h2 h3 hv
  have at0 := all_at h3
  match l, h1, h2, h3, hv, at0 with
  | [c], _, _, _, _, at0 =>
    obtain ⟨c1, c2⟩ := isD_t (at0 0 (by simp))
    have e : valD 0 [c] = c.toNat - 48 := by
      show 0 * 10 + (c.toNat - 48) = _
      omega
    have c1' : 48 ≤ c.toNat := c1
    have c2' : c.toNat ≤ 57 := c2
    have hp : Go.Lib.parseUintB 15 [c] = .ok (c.toNat - 48) := by
      unfold Go.Lib.parseUintB
      rw [if_neg (by simp)]
      simp only [Go.Lib.parseUintM]
      rw [if_pos ⟨c1', c2'⟩, if_neg (by omega), if_neg (by omega)]
      exact congrArg Go.Lib.NumEnd.ok (by omega)
    rw [e, hp]
    refine ⟨?_, rfl⟩
    show (Go.Lib.decDigits (c.toNat - 48) == [c]) = true
    have hd := digit_is (c := c) (k := c.toNat - 48) (by omega) (by omega)
    rw [Go.Lib.decDigits, dif_pos (by omega : c.toNat - 48 < 10), ← hd]
    simp
  | [c, d], _, h2, _, hv, at0 =>
    obtain ⟨c1, c2⟩ := isD_t (at0 0 (by simp))
    obtain ⟨d1, d2⟩ := isD_t (at0 1 (by simp))
    have c1' : 48 ≤ c.toNat := c1
    have c2' : c.toNat ≤ 57 := c2
    have d1' : 48 ≤ d.toNat := d1
    have d2' : d.toNat ≤ 57 := d2
    have hne : c.toNat ≠ 48 := by
      intro q
      have : c = 48 := UInt8.toNat_inj.1 q
      subst this
      cases h2
    have e : valD 0 [c, d] = (c.toNat - 48) * 10 + (d.toNat - 48) := by
      show (0 * 10 + (c.toNat - 48)) * 10 + (d.toNat - 48) = _
      omega
    rw [e] at hv ⊢
    have hp : Go.Lib.parseUintB 15 [c, d] = .ok ((c.toNat - 48) * 10 + (d.toNat - 48)) := by
      unfold Go.Lib.parseUintB
      rw [if_neg (by simp)]
      simp only [Go.Lib.parseUintM]
      rw [if_pos ⟨c1', c2'⟩, if_neg (by omega), if_neg (by omega), if_pos ⟨d1', d2'⟩, if_neg (by omega), if_neg (by omega)]
      exact congrArg Go.Lib.NumEnd.ok (by omega)
    rw [hp]
    refine ⟨?_, rfl⟩
    show (Go.Lib.decDigits ((c.toNat - 48) * 10 + (d.toNat - 48)) == [c, d]) = true
    rw [Go.Lib.decDigits_two (by omega) (by omega), ← digit_is (c := c) (k := ((c.toNat - 48) * 10 + (d.toNat - 48)) / 10) (by omega) (by omega), ← digit_is (c := d) (k := ((c.toNat - 48) * 10 + (d.toNat - 48)) % 10) (by omega) (by omega)]
    simp
  | c :: d :: f :: r, _, h2, h3, hv, at0 =>
    obtain ⟨c1, c2⟩ := isD_t (at0 0 (by simp))
    have c1' : 48 ≤ c.toNat := c1
    have hne : c.toNat ≠ 48 := by
      intro q
      have : c = 48 := UInt8.toNat_inj.1 q
      subst this
      cases h2
    have := val_ge r (((0 * 10 + (c.toNat - 48)) * 10 + (d.toNat - 48)) * 10 + (f.toNat - 48))
    have e : valD 0 (c :: d :: f :: r) = valD (((0 * 10 + (c.toNat - 48)) * 10 + (d.toNat - 48)) * 10 + (f.toNat - 48)) r := rfl
    rw [e] at hv
    omega

/-! Its text. -/
theorem decB_size (n : Nat) (h : n < 100) : (decB (n : Int)).size ≤ 2 := by
  show (Go.Lib.decDigits (Int.toNat (n : Int))).length ≤ 2
  rw [Int.toNat_natCast, Go.Lib.decDigits]
  split
  · simp
  · rw [Go.Lib.decDigits, dif_pos (by omega : n / 10 < 10)]
    simp
theorem ge_num {x c : Nat} (h : fge .f32 x c = true) : isNaN .f32 x = false := by
  cases hn : isNaN .f32 x with
  | false => rfl
  | true =>
    have ho : FloatKind.f32.format.order x c = none := by
      have h1 : (FloatKind.f32.format.read x).isNaN = true := hn
      unfold Ieee.Format.order
      cases hx : FloatKind.f32.format.read x with
      | nan s t => rfl
      | infinity s => rw [hx] at h1; cases h1
      | number s m e => rw [hx] at h1; cases h1
    unfold fge at h
    rw [ho] at h
    cases h
theorem length_num {x : Nat} (h : spec_l03Length x = true) : isNaN .f32 x = false := by
  simp only [spec_l03Length, spec_l03Length.t, T.val] at h
  cases h1 : fge .f32 x 1031798784 with
  | false => rw [h1] at h; cases h
  | true => exact ge_num h1
section
variable (n a b : Nat) (hn : n < 100) (ha : a < 4294967296) (hb : b < 4294967296) (na : isNaN .f32 a = false) (nb : isNaN .f32 b = false)
include ha hb na nb
theorem texts_r : impl_texts.l3.r (ByteArray.mk #[58], 2, ((2 : Nat) : Int), [a, b]) (0, (0 : Int), []) = some (2, [hexT a, hexT b]) := by
  have hf := iter_run (step := impl_texts.l3.st (ByteArray.mk #[58], 2, ((2 : Nat) : Int), [a, b])) (f := fun j => match j with | 0 => (0, (0 : Int), []) | 1 => (1, (1 : Int), [hexT a]) | _ => (2, (2 : Int), [hexT a, hexT b])) (e := (2, [hexT a, hexT b])) (n := 2) (N := manyRounds) (k := 0) (many_lt (by omega)) (fun j hj => ?_) ?_
  · exact hf
  · have g0 : List.getD [a, b] (Int.toNat 0 * 1) 0 = a := rfl
    have g1 : List.getD [a, b] (Int.toNat 1 * 1) 0 = b := rfl
    match j, hj with
    | 0, _ =>
      simp only [impl_texts.l3.st, impl_texts.l3.s, T.get, g0, show impl_NumberText.ok a = true from T.ok_of_get (impl_hex a ha na), show impl_NumberText a = _ from T.val_of_get (impl_hex a ha na)]
      rfl
    | 1, _ =>
      simp only [impl_texts.l3.st, impl_texts.l3.s, T.get, g1, show impl_NumberText.ok b = true from T.ok_of_get (impl_hex b hb nb), show impl_NumberText b = _ from T.val_of_get (impl_hex b hb nb)]
      rfl
  · rfl
theorem impl_text : (impl_texts.t (ByteArray.mk #[58]) 2 [a, b]).get = some ((hexT a ++ ByteArray.mk #[58]) ++ hexT b) := by
  have hl : ∀ x, (hexT x).data.toList.length = 8 := fun x => hexT_size x
  have hj : joinOk [hexT a, hexT b] 2 (ByteArray.mk #[58]) = true := by
    unfold joinOk
    have e : (Lib.join ([hexT a, hexT b].map (·.data.toList)) (ByteArray.mk #[58]).data.toList).length = 17 := by
      simp [Lib.join, List.intercalate, List.intersperse, hl]
    rw [e]
    rfl
  have ht : joinB [hexT a, hexT b] (ByteArray.mk #[58]) = (hexT a ++ ByteArray.mk #[58]) ++ hexT b := by
    refine ByteArray.ext (Array.ext' ?_)
    simp [joinB, Lib.join, List.intercalate, List.intersperse, ByteArray.data_append]
  simp only [impl_texts.t, T.get, texts_r a b ha hb na nb, Option.isSome_some, Option.getD_some, hj, ht]
  rfl
end
theorem max_gt : ∀ n : Nat, n ≤ 100 → decide (((n : Nat) : Int) > IntKind.max .i64) = false := fun n hn => decide_eq_false (by
  have : IntKind.max .i64 = 9223372036854775807 := rfl
  omega)
theorem mill_parts {u a b : Nat} (hu : u ≤ 32767) (h : spec_l03Mill (u : Int) a b = true) : u ≤ 48 ∧ spec_l03Length a = true ∧ spec_l03Length b = true := by
  have hw : IntKind.wrap .i64 (u : Int) = (u : Int) := wrap64_nat (by omega)
  simp only [spec_l03Mill, spec_l03Mill.t, spec_l00In, spec_l00In.t, T.val, hw] at h
  cases hlo : decide ((u : Int) ≥ 4) with
  | false => rw [hlo] at h; cases h
  | true =>
    cases hhi : decide ((u : Int) ≤ 48) with
    | false => rw [hlo, hhi] at h; cases h
    | true =>
      rw [hlo, hhi] at h
      cases hla : spec_l03Length a with
      | false => rw [hla] at h; cases h
      | true =>
        rw [hla] at h
        have := of_decide_eq_true hhi
        exact ⟨by omega, rfl, h⟩
theorem mill_text {u a b : Nat} (m : Int) (tab : List Int) (ha : a < 4294967296) (hb : b < 4294967296) (hu : u ≤ 32767) (h : spec_l03Mill (u : Int) a b = true) : (impl_MillText.t (u : Int) a b m tab).get = some ((decB (u : Int) ++ ByteArray.mk #[58]) ++ ((hexT a ++ ByteArray.mk #[58]) ++ hexT b)) := by
  have hw : IntKind.wrap .i64 (u : Int) = (u : Int) := wrap64_nat (by omega)
  obtain ⟨h48, hla, hlb⟩ := mill_parts hu h
  have na := length_num hla
  have nb := length_num hlb
  have hi : (impl_decimal.t (u : Int)).get = some (decB (u : Int)) := by
    simp only [impl_decimal.t, T.get]
    rw [decide_eq_true (by omega : 0 ≤ (u : Int)), decide_eq_true (by omega : (u : Int) < 100)]
    rfl
  have hs : ByteArray.size (ByteArray.mk #[58]) = 1 := rfl
  have hz := decB_size u (by omega)
  have ht := impl_text a b ha hb na nb
  simp only [impl_MillText.t, T.get, vmill_eq, hw, h, Bool.not_true, cond_false, show impl_decimal.ok (u : Int) = true from T.ok_of_get (hi), show impl_decimal (u : Int) = _ from T.val_of_get (hi), show impl_texts.ok (ByteArray.mk #[58]) 2 [a, b] = true from T.ok_of_get (ht), show impl_texts (ByteArray.mk #[58]) 2 [a, b] = _ from T.val_of_get (ht), ByteArray.size_append, hexT_size, hs]
  rw [max_gt _ (by omega), max_gt _ (by omega)]
  rfl
theorem mill_none {u a b : Nat} (m : Int) (tab : List Int) (h : spec_l03Mill (u : Int) a b = false) : (impl_MillText.t (u : Int) a b m tab).get = some (ByteArray.mk #[]) := by
  simp only [impl_MillText.t, T.get, vmill_eq, h, Bool.not_false, cond_true]

noncomputable def numsB (P : List ByteArray) : Nat → List Nat
  | 0 => []
  | i + 1 => numsB P i ++ [numv (P.getD (1 + i) ByteArray.empty)]
theorem numsB_len (P : List ByteArray) : ∀ i, (numsB P i).length = i
  | 0 => rfl
  | i + 1 => by
    show (numsB P i ++ [_]).length = i + 1
    rw [List.length_append, numsB_len P i]
    rfl
theorem numbersB_t (P : List ByteArray) (m : Int) (tab : List Int) (n : Nat) (hn : n + 1 = P.length) (hP : P.length ≤ 1048577) : ∃ r, (impl_numbersOf.t n m tab P).get = some r ∧ (match firstAt (fun i => !okN (P.getD (1 + i) ByteArray.empty)) n 0 with | some _ => r = .inl false | none => r = .inr (n, true, numsB P n)) := by
  have step : ∀ i, i < n → (impl_numbersOf.l3.st (n, (n : Int), m, tab, P) (i, (i : Int), numsB P i)).get = some (bif okN (P.getD (1 + i) ByteArray.empty) then .inl (i + 1, ((i + 1 : Nat) : Int), numsB P (i + 1)) else .inr (.inl (false, i, numsB P i))) := fun i hi => by
    have hn := impl_num (P.getD (1 + i) ByteArray.empty)
    have hc : ∀ y : Nat, (Nat.ble 1 (List.length [y]) && (Nat.beq (List.length (numsB P i)) (i * 1) && Nat.ble ((i + 1) * 4) 35184372088832 && Nat.ble (i + 1) 35184372088832)) = true := fun y => by
      rw [numsB_len, Nat.mul_one, Nat.beq_refl, ble_decide, ble_decide, ble_decide, decide_eq_true (by simp : 1 ≤ List.length [y]), decide_eq_true (by omega : (i + 1) * 4 ≤ 35184372088832), decide_eq_true (by omega : i + 1 ≤ 35184372088832)]
      rfl
    simp only [impl_numbersOf.l3.st, impl_numbersOf.l3.s, T.get, bounds_nat, Int.toNat_natCast, Nat.mul_one, show impl_ReadNumber.ok (P.getD (1 + i) ByteArray.empty) = true from T.ok_of_get (hn), show impl_ReadNumber (P.getD (1 + i) ByteArray.empty) = _ from T.val_of_get (hn)]
    have hc' := hc
    simp only [Nat.mul_one] at hc'
    simp only [hc']
    simp only [ble_decide]
    rw [decide_eq_true (by omega : (i : Int) < (n : Int)), decide_eq_true hi, decide_eq_true (by omega : 1 + i + 1 ≤ P.length), wrap64_succ (by omega)]
    cases okN (P.getD (1 + i) ByteArray.empty) <;> rfl
  have fin : (impl_numbersOf.l3.st (n, (n : Int), m, tab, P) (n, (n : Int), numsB P n)).get = some (.inr (.inr (n, numsB P n))) := by
    simp only [impl_numbersOf.l3.st, impl_numbersOf.l3.s, T.get]
    rw [decide_eq_false (by omega)]
    rfl
  cases hf : firstAt (fun i => !okN (P.getD (1 + i) ByteArray.empty)) n 0 with
  | none =>
    have hall := firstAt_none.1 hf
    have h := iter_run (step := impl_numbersOf.l3.st (n, (n : Int), m, tab, P)) (f := fun i => (i, (i : Int), numsB P i)) (e := Sum.inr (n, numsB P n)) (n := n) (N := manyRounds) (k := 0) (many_lt (by omega)) (fun i hi => by
      simp only [Nat.zero_add]
      rw [step i hi, show okN (P.getD (1 + i) ByteArray.empty) = true from by simpa using hall i (by omega) (by omega)]
      rfl) (by simp only [Nat.zero_add]; exact fin)
    have h' : impl_numbersOf.l3.r (n, (n : Int), m, tab, P) (0, (0 : Int), []) = some (Sum.inr (n, numsB P n)) := h
    simp only [impl_numbersOf.t, T.get, h']
    exact ⟨_, rfl, rfl⟩
  | some j =>
    obtain ⟨_, hj, hp, hbefore⟩ := firstAt_some hf
    have h := iter_run (step := impl_numbersOf.l3.st (n, (n : Int), m, tab, P)) (f := fun i => (i, (i : Int), numsB P i)) (e := Sum.inl (false, j, numsB P j)) (n := j) (N := manyRounds) (k := 0) (many_lt (by omega)) (fun i hi => by
      simp only [Nat.zero_add]
      rw [step i (by omega), show okN (P.getD (1 + i) ByteArray.empty) = true from by simpa using hbefore i (by omega) hi]
      rfl) (by
      simp only [Nat.zero_add]
      rw [step j (by omega), show okN (P.getD (1 + j) ByteArray.empty) = false from by simpa using hp]
      rfl)
    have h' : impl_numbersOf.l3.r (n, (n : Int), m, tab, P) (0, (0 : Int), []) = some (Sum.inl (false, j, numsB P j)) := h
    simp only [impl_numbersOf.t, T.get, h']
    exact ⟨_, rfl, rfl⟩

theorem wrap_i16 (n : Int) : IntKind.i16.wrap n = (n + 32768) % 65536 - 32768 := by
  unfold IntKind.wrap
  simp [IntKind.bits, IntKind.signed]
  try omega
def val (v : Int) (c : Nat) : Nat := fdiv .f32 (fofint .f32 v) c
theorem vals' {n : Nat} {P : Nat → Bool} (h : (List.range n).all P = true) (hn : 0 < n) {v : Nat} (hv : v = 0 ∨ v < n) : P v = true := by
  rw [List.all_eq_true] at h
  exact h v (List.mem_range.2 (by omega))
/-! What is drawn. -/
noncomputable def lenOk (K x : Nat) : Bool := decide (x < 2139095040) && (decide (x ≤ K) && (decide (1031798784 ≤ x) && spec_l03Length x))
noncomputable def headOk (x : Nat) : Bool := lenOk 1090519040 x && (decide (spec_l03Fast x < 2139095040) && (decide (spec_l03Fast x ≤ 1096810496) && decide (0 < spec_l03Fast x)))
noncomputable def flowOk (x : Nat) : Bool := decide (x < 2139095040) && (decide (x ≤ 1120403456) && ((decide (x = 0) || decide (1048576000 ≤ x)) && spec_l03Amount x))
noncomputable def speedOk (x : Nat) : Bool := decide (x < 2139095040) && (decide (x ≤ 1092616192) && spec_l03Speed x)
noncomputable def partOk (x : Nat) : Bool := decide (x < 2139095040) && (decide (x ≤ 1065353216) && spec_l01Part x)
theorem len64 : (List.range 64).all (fun v => lenOk 1090519040 (val ((v + 1 : Nat) : Int) 1090519040)) = true := by kernel_rfl
theorem head64 : (List.range 64).all (fun v => headOk (val ((v + 1 : Nat) : Int) 1090519040)) = true := by kernel_rfl
theorem flow400 : (List.range 400).all (fun v => flowOk (val (v : Int) 1082130432)) = true := by kernel_rfl
theorem speed80 : (List.range 80).all (fun v => speedOk (val (v : Int) 1090519040)) = true := by kernel_rfl
theorem part17 : (List.range 17).all (fun v => partOk (val (v : Int) 1098907648)) = true := by kernel_rfl
theorem lenOk_nb {K x : Nat} (h : lenOk K x = true) : Nb K x ∧ 1031798784 ≤ rg x ∧ spec_l03Length x = true ∧ x < 4294967296 := by
  simp only [lenOk, Bool.and_eq_true, decide_eq_true_eq] at h
  have := (nb_self h.1).2
  exact ⟨⟨.inl h.1, by omega⟩, by omega, h.2.2.2, by omega⟩
theorem flowOk_nb {x : Nat} (h : flowOk x = true) : Nb 1120403456 x ∧ (x = 0 ∨ 1048576000 ≤ rg x) ∧ spec_l03Amount x = true := by
  simp only [flowOk, Bool.and_eq_true, Bool.or_eq_true, decide_eq_true_eq] at h
  have := (nb_self h.1).2
  exact ⟨⟨.inl h.1, by omega⟩, by omega, h.2.2.2⟩
theorem speedOk_nb {x : Nat} (h : speedOk x = true) : Nb 1092616192 x ∧ spec_l03Speed x = true := by
  simp only [speedOk, Bool.and_eq_true, decide_eq_true_eq] at h
  have := (nb_self h.1).2
  exact ⟨⟨.inl h.1, by omega⟩, h.2.2⟩
theorem partOk_nb {x : Nat} (h : partOk x = true) : Nb 1065353216 x ∧ spec_l01Part x = true := by
  simp only [partOk, Bool.and_eq_true, decide_eq_true_eq] at h
  have := (nb_self h.1).2
  exact ⟨⟨.inl h.1, by omega⟩, h.2.2⟩
theorem headOk_nb {x : Nat} (h : headOk x = true) : lenOk 1090519040 x = true ∧ Nb 1096810496 (spec_l03Fast x) ∧ 0 < rg (spec_l03Fast x) := by
  simp only [headOk, Bool.and_eq_true, decide_eq_true_eq] at h
  have := (nb_self h.2.1).2
  exact ⟨h.1, ⟨.inl h.2.1, by omega⟩, by omega⟩
theorem one_plus {v k : Nat} (h : v = 0 ∨ v < k) (hk : k < 100000) : IntKind.wrap .i64 ((1 : Int) + (v : Int)) = ((v + 1 : Nat) : Int) := wrap64_of (by omega) (by omega)
def MillOk (n : Nat) (h r : Nat) : Prop := (4 ≤ n ∧ n ≤ 23) ∧ lenOk 1090519040 h = true ∧ lenOk 1090519040 r = true
theorem mill_t {n : Nat} {xs : List Int} (hs : srcOk n xs) (m : Int) (tab : List Int) : ∃ q h r : Nat, (spec_P6Mill.t n m tab xs).get = some ((q : Int), h, r) ∧ MillOk q h r := by
  obtain ⟨v1, p1, h1, q1, g1, l1⟩ := pick_t hs 20 0 0 (by omega)
  obtain ⟨v2, p2, h2, q2, g2, l2⟩ := pick_t hs 64 p1 h1 (by omega)
  obtain ⟨v3, p3, h3, q3, g3, l3⟩ := pick_t hs 64 p2 h2 (by omega)
  have w1 : IntKind.wrap .i16 (IntKind.wrap .i64 ((4 : Int) + (v1 : Int))) = ((v1 + 4 : Nat) : Int) := by
    rw [wrap64 (by omega) (by omega)]
    rw [wrap_i16]
    omega
  have long : ∀ {v p p' : Nat} {h h' : Int}, (spec_l00Src_pick.t (64 : Int) n (p : Int) h xs).get = some ((v : Int), n, (p' : Int), h') → v = 0 ∨ v < 64 → (spec_l03Long.t n (p : Int) h xs).get = some (val ((v + 1 : Nat) : Int) 1090519040, n, (p' : Int), h') := by
    intro v p p' h h' hq hv
    simp only [spec_l03Long.t, T.get, show spec_l00Src_pick.ok (64 : Int) n (p : Int) h xs = true from T.ok_of_get (hq), show spec_l00Src_pick (64 : Int) n (p : Int) h xs = _ from T.val_of_get (hq), one_plus hv (by omega)]
    rfl
  have k2 := long q2 g2
  have k3 := long q3 g3
  have hw : (spec_l03Wheel.t n 0 0 xs).get = some (((v1 + 4 : Nat) : Int), val ((v2 + 1 : Nat) : Int) 1090519040, val ((v3 + 1 : Nat) : Int) 1090519040, n, (p3 : Int), h3) := by
    simp only [spec_l03Wheel.t, T.get, show spec_l00Src_pick.ok (20 : Int) n 0 0 xs = true from T.ok_of_get (q1), show spec_l00Src_pick (20 : Int) n 0 0 xs = _ from T.val_of_get (q1), show spec_l03Long.ok n (p1 : Int) h1 xs = true from T.ok_of_get (k2), show spec_l03Long n (p1 : Int) h1 xs = _ from T.val_of_get (k2), show spec_l03Long.ok n (p2 : Int) h2 xs = true from T.ok_of_get (k3), show spec_l03Long n (p2 : Int) h2 xs = _ from T.val_of_get (k3), w1]
    rfl
  refine ⟨v1 + 4, val ((v2 + 1 : Nat) : Int) 1090519040, val ((v3 + 1 : Nat) : Int) 1090519040, ?_, ⟨by omega, by omega⟩, vals' len64 (by omega) g2, vals' len64 (by omega) g3⟩
  simp only [spec_P6Mill.t, T.get, spec_l00From, spec_l00From.t, T.val, show spec_l03Wheel.ok n 0 0 xs = true from T.ok_of_get (hw), show spec_l03Wheel n 0 0 xs = _ from T.val_of_get (hw)]
  rfl
theorem p6pick_t {n : Nat} {xs : List Int} (hs : srcOk n xs) (m : Int) (tab : List Int) (k : Nat) : ∃ v : Nat, (spec_P6Pick.t n (k : Int) m tab xs).get = some (v : Int) ∧ (v = 0 ∨ v < k) := by
  obtain ⟨v1, p1, h1, q1, g1, l1⟩ := pick_t hs k 0 0 (by omega)
  simp only [spec_P6Pick.t, T.get, spec_l00From, spec_l00From.t, T.val, show spec_l00Src_pick.ok (k : Int) n 0 0 xs = true from T.ok_of_get (q1), show spec_l00Src_pick (k : Int) n 0 0 xs = _ from T.val_of_get (q1)]
  exact ⟨v1, rfl, g1⟩
theorem mill_ok {n h r : Nat} (M : MillOk n h r) : spec_l03Mill (n : Int) h r = true := by
  obtain ⟨⟨g0, g0'⟩, g1, g2⟩ := M
  have hw : IntKind.wrap .i64 (n : Int) = (n : Int) := wrap64 (by omega) (by omega)
  have hi' : spec_l00In (n : Int) 4 48 = true := by
    simp only [spec_l00In, spec_l00In.t, T.val, decide_eq_true (by omega : (n : Int) ≥ 4), decide_eq_true (by omega : (n : Int) ≤ 48)]
    rfl
  simp only [spec_l03Mill, spec_l03Mill.t, T.val, hw, hi', (lenOk_nb g1).2.2.1, (lenOk_nb g2).2.2.1, cond_true]
/-! A mill's text, read. -/
theorem colon_no {u : Nat} : ∀ c ∈ Go.Lib.decDigits u, c ≠ 58 := by
  intro c hc q
  subst q
  have h := (dec_all u).1
  unfold allD at h
  rw [List.all_eq_true] at h
  have := h _ hc
  cases this
theorem dec_numok {w : ByteArray} {u : Nat} (hu : u ≤ 32767) (hd : w.data.toList = Go.Lib.decDigits u) : numOk9 w = true := by
  obtain ⟨a1, a2⟩ := dec_all u
  have hl : w.data.toList.length = w.size := rfl
  have l1 := dec_ne u
  have l2 := dec_len 4 u (by omega)
  rw [← hd, hl] at l1 l2
  unfold numOk9
  rw [decide_eq_true (show 1 ≤ w.size ∧ w.size ≤ 9 by omega)]
  have hz : (decide (w.data.toList.getD 0 0 = 48) && decide (1 < w.size)) = false := by
    by_cases h0 : u = 0
    · have h1 := dec_len 0 u (by omega)
      rw [← hd, hl] at h1
      rw [decide_eq_false (by omega : ¬ 1 < w.size), Bool.and_false]
    · have h1 := dec_head u (by omega)
      rw [← hd] at h1
      rw [decide_eq_false h1, Bool.false_and]
  rw [hz, hd, a1]
  rfl
def textM (u a b : Nat) : ByteArray := (decB (u : Int) ++ ByteArray.mk #[58]) ++ ((hexT a ++ ByteArray.mk #[58]) ++ hexT b)
set_option maxHeartbeats 2000000 in
theorem back_t {u a b : Nat} (m : Int) (ha : a < 4294967296) (hb : b < 4294967296) (hu : u ≤ 32767) (h : spec_l03Mill (u : Int) a b = true) : (impl_ReadMill.t (textM u a b) m Go.Lib.pow10Tab).get = some ((u : Int), a, b, 0) := by
  obtain ⟨h48, hla, hlb⟩ := mill_parts hu h
  have na := length_num hla
  have nb := length_num hlb
  obtain ⟨o1, v1⟩ := hex_ok ha na
  obtain ⟨o2, v2⟩ := hex_ok hb nb
  have hd : (decB (u : Int)).data.toList = Go.Lib.decDigits u := by
    unfold decB
    rw [Int.toNat_natCast]
  have e : (textM u a b).data.toList = (decB (u : Int)).data.toList ++ 58 :: ((hexT a).data.toList ++ 58 :: (hexT b).data.toList) := by
    unfold textM
    simp [ByteArray.data_append]
  have hP : splitL (textM u a b) (ByteArray.mk #[58]) = [decB (u : Int), hexT a, hexT b] := by
    refine bytes_ext ?_
    rw [split_pieces, e, pcs_cut _ (by rw [hd]; exact colon_no), pcs_cut _ (dig_no 58 (by decide) a), pcs_ncut (dig_no 58 (by decide) b)]
    rfl
  have hz := decB_size u (by omega)
  have hsz : (textM u a b).size ≤ 50 := by
    have hs : ByteArray.size (ByteArray.mk #[58]) = 1 := rfl
    unfold textM
    simp only [ByteArray.size_append, hexT_size, hs]
    omega
  have hguard : (Nat.ble (textM u a b).size 1048576 && Nat.ble 1 (ByteArray.size (ByteArray.mk #[58]))) = true := by
    rw [ble_decide, decide_eq_true (by omega)]
    rfl
  have hval : valD 0 (decB (u : Int)).data.toList = u := by rw [hd]; exact (dec_all u).2
  obtain ⟨hc, hp⟩ := dec_count (dec_numok hu hd) (by rw [hval]; exact h48)
  rw [hval] at hp
  obtain ⟨r, hr, hcase⟩ := numbersB_t [decB (u : Int), hexT a, hexT b] m Go.Lib.pow10Tab 2 rfl (by simp)
  have hfirst : firstAt (fun i => !okN (List.getD [decB (u : Int), hexT a, hexT b] (1 + i) ByteArray.empty)) 2 0 = bif !okN (hexT a) then some 0 else bif !okN (hexT b) then some 1 else none := rfl
  rw [hfirst, o1, o2] at hcase
  have hcase : r = .inr (2, true, [numv (hexT a), numv (hexT b)]) := hcase
  rw [v1, v2] at hcase
  subst hcase
  have ht := mill_text m Go.Lib.pow10Tab ha hb hu h
  have e1 : Int.toNat ((([decB (u : Int), hexT a, hexT b] : List ByteArray).length : Nat) : Int) - Int.toNat (1 : Int) = 2 := rfl
  have b0 : bounds (0 : Int) ([decB (u : Int), hexT a, hexT b] : List ByteArray).length = true := rfl
  have p0 : List.getD [decB (u : Int), hexT a, hexT b] 0 ByteArray.empty = decB (u : Int) := rfl
  have hg2 : Nat.ble (decB (u : Int)).size 1048576 = true := by rw [ble_decide, decide_eq_true (by omega)]
  have hg3 : (decide (0 ≤ (1 : Int)) && decide ((1 : Int) ≤ ((([decB (u : Int), hexT a, hexT b] : List ByteArray).length : Nat) : Int)) && decide (((([decB (u : Int), hexT a, hexT b] : List ByteArray).length : Nat) : Int) ≤ ((([decB (u : Int), hexT a, hexT b] : List ByteArray).length : Nat) : Int))) = true := rfl
  have hg4 : Nat.ble 1 ([decB (u : Int), hexT a, hexT b] : List ByteArray).length = true := rfl
  have hnum : numOf 32767 (Go.Lib.NumEnd.ok u) = u := rfl
  have q0 : List.getD [a, b] 0 0 = a := rfl
  have q1 : List.getD [a, b] 1 0 = b := rfl
  have ht' : (impl_MillText.t (u : Int) a b m Go.Lib.pow10Tab).get = some (textM u a b) := ht
  simp only [impl_ReadMill.t, T.get, hguard, hP, e1, b0, p0, hg2, hg3, hg4, decide_true, Bool.and_true, hc, hp, hnum, Bool.not_true, cond_true, cond_false, show impl_numbersOf.ok 2 m Go.Lib.pow10Tab [decB (u : Int), hexT a, hexT b] = true from T.ok_of_get (hr), show impl_numbersOf 2 m Go.Lib.pow10Tab [decB (u : Int), hexT a, hexT b] = _ from T.val_of_get (hr), Sum.isLeft, getRightD, q0, q1, show impl_MillText.ok (u : Int) a b m Go.Lib.pow10Tab = true from T.ok_of_get (ht'), show impl_MillText (u : Int) a b m Go.Lib.pow10Tab = _ from T.val_of_get (ht'), seq_eq]
  rfl
/-! What the mill answers. -/
theorem same1 (x : Nat) : (spec_l01Same.t x x).get = some true := by
  simp only [spec_l01Same.t, T.get, fne_self, Int.toNat_natCast]
  cases isNaN .f32 x
  · simp
  · rfl
theorem num_t (x : Nat) (m : Int) (tab : List Int) : (spec_SameNumber.t x x m tab).get = some true := by
  simp only [spec_SameNumber.t, T.get, show spec_l01Same.ok x x = true from T.ok_of_get (same1 x), show spec_l01Same x x = _ from T.val_of_get (same1 x)]
  rfl
theorem millS_t (n : Int) (h r : Nat) (m : Int) (tab : List Int) : (spec_SameMill.t n h r n h r m tab).get = some true := by
  simp only [spec_SameMill.t, T.get, show spec_l01Same.ok h h = true from T.ok_of_get (same1 h), show spec_l01Same h h = _ from T.val_of_get (same1 h), show spec_l01Same.ok r r = true from T.ok_of_get (same1 r), show spec_l01Same r r = _ from T.val_of_get (same1 r), cond_true, beq_self_eq_true]
theorem ints24 : (List.range 24).all (fun v => decide (fofint .f32 (v : Int) < 2139095040) && (decide (fofint .f32 (v : Int) ≤ 1102577664) && (decide (v < 2) || decide (1073741824 ≤ fofint .f32 (v : Int))))) = true := by kernel_rfl
theorem int_nb {v : Nat} (h : v < 24) : Nb 1102577664 (fofint .f32 (v : Int)) ∧ (2 ≤ v → 1073741824 ≤ rg (fofint .f32 (v : Int))) := by
  have := vals' ints24 (by omega) (.inr h)
  simp only [Bool.and_eq_true, Bool.or_eq_true, decide_eq_true_eq] at this
  have h := (nb_self this.1).2
  exact ⟨⟨.inl this.1, by omega⟩, by omega⟩
theorem fill_ok {n h r fl sp : Nat} (M : MillOk n h r) (hf : flowOk fl = true) (hs : speedOk sp = true) : (Nb 1090519040 (spec_l03Fill (n : Int) h r fl sp) ∧ rg (spec_l03Fill (n : Int) h r fl sp) ≤ rg h) ∧ (fl = 0 → spec_l03Fill (n : Int) h r fl sp = 0) ∧ (fl ≠ 0 → 970000000 ≤ rg (spec_l03Fill (n : Int) h r fl sp)) := by
  obtain ⟨⟨g0, g0'⟩, g1, g2⟩ := M
  obtain ⟨nh, lh, _, _⟩ := lenOk_nb g1
  obtain ⟨nf, zf, _⟩ := flowOk_nb hf
  obtain ⟨ns, _⟩ := speedOk_nb hs
  obtain ⟨ni, li⟩ := int_nb (v := n) (by omega)
  have li := li (by omega)
  simp only [spec_l03Fill, spec_l03Fill.t, T.val]
  rw [feq_nn nf.1 nn_0.1, feq_nn ns.1 nn_0.1, nn_0.2]
  by_cases h0 : rg fl = 0
  · have e0 : fl = 0 := by
      rcases zf with z | z
      · exact z
      · omega
    rw [decide_eq_true h0]
    exact ⟨⟨⟨nn_0.1, by rw [cond_true, nn_0.2]; omega⟩, by rw [cond_true, nn_0.2]; omega⟩, fun _ => rfl, fun q => absurd e0 q⟩
  · have hne : fl ≠ 0 := fun q => h0 (by rw [q]; exact nn_0.2)
    have lf : 1048576000 ≤ rg fl := by
      rcases zf with z | z
      · exact absurd z hne
      · exact z
    rw [decide_eq_false h0]
    by_cases h1 : rg sp = 0
    · rw [decide_eq_true h1]
      exact ⟨⟨nh, Nat.le_refl _⟩, fun q => absurd q hne, fun _ => by simp only [cond_true, cond_false]; omega⟩
    · rw [decide_eq_false h1]
      simp only [cond_false]
      have hm : Nb 1140000000 (fmul .f32 sp (fofint .f32 (n : Int))) := nb_mul ns ni (by omega) (by omega) (by kernel_rfl) (by omega)
      have n1 := nb_self (K := 1065353216) (by decide)
      have hpos : rg sp ≤ rg (fmul .f32 sp (fofint .f32 (n : Int))) := by
        have := mul_mono ns.1 ns.1 n1.1 ni.1 (Nat.le_refl _) (by rw [n1.2]; omega)
        rwa [mul_one ns.1] at this
      have hlow : 970000000 ≤ rg (fdiv .f32 fl (fmul .f32 sp (fofint .f32 (n : Int)))) := by
        have h2 := div_dn (K := 1048576000) nf.1 lf hm (by omega) (by omega) (by omega)
        have : decide (970000000 ≤ rg (fdiv .f32 1048576000 1140000000)) = true := by kernel_rfl
        have := of_decide_eq_true this
        omega
      have big : rg fl ≤ 1120403456 := nf.2
      rcases div_np nf.1 hm.1 (by omega) with hq | hq
      · rw [fgt_nn hq nh.1]
        by_cases hlt : rg h < rg (fdiv .f32 fl (fmul .f32 sp (fofint .f32 (n : Int))))
        · rw [decide_eq_true hlt]
          exact ⟨⟨nh, Nat.le_refl _⟩, fun q => absurd q hne, fun _ => by simp only [cond_true]; omega⟩
        · rw [decide_eq_false hlt]
          have := nh.2
          exact ⟨⟨⟨hq, by simp only [cond_false]; omega⟩, by simp only [cond_false]; omega⟩, fun q => absurd q hne, fun _ => hlow⟩
      · rw [hq, inf_gt nh.1]
        exact ⟨⟨nh, Nat.le_refl _⟩, fun q => absurd q hne, fun _ => by simp only [cond_true]; omega⟩
theorem down_eq {n : Nat} (h : n ≤ 23) : IntKind.wrap .i16 (Int.tdiv (n : Int) 2) = ((n / 2 : Nat) : Int) := by
  rw [show (2 : Int) = ((2 : Nat) : Int) from rfl, ← Int.ofNat_tdiv, wrap_i16]
  omega
theorem torque_ok {n h r fl sp : Nat} (M : MillOk n h r) (hf : flowOk fl = true) (hs : speedOk sp = true) : Nb 1200000000 (spec_l03Torque (n : Int) h r fl sp) ∧ ((rg (spec_l03Torque (n : Int) h r fl sp) = 0) ↔ (rg fl = 0)) := by
  obtain ⟨⟨nF, _⟩, zF, lF⟩ := fill_ok M hf hs
  obtain ⟨nf, zf, _⟩ := flowOk_nb hf
  obtain ⟨⟨g0, g0'⟩, g1, g2⟩ := M
  obtain ⟨nr, lr, _, _⟩ := lenOk_nb g2
  obtain ⟨ni, li⟩ := int_nb (v := n / 2) (by omega)
  have li := li (by omega)
  have e : spec_l03Torque (n : Int) h r fl sp = fmul .f32 (fmul .f32 (fmul .f32 (fmul .f32 (spec_l03Fill (n : Int) h r fl sp) 1092419584) (fofint .f32 ((n / 2 : Nat) : Int))) r) 1059061760 := by
    rw [← down_eq g0']
    rfl
  rw [e]
  have c1 : Nb 1092419584 1092419584 := ⟨(nb_self (by decide)).1, by decide⟩
  have c2 : Nb 1059061760 1059061760 := ⟨(nb_self (by decide)).1, by decide⟩
  have e1 : rg 1092419584 = 1092419584 := by decide
  have e2 : rg 1059061760 = 1059061760 := by decide
  generalize spec_l03Fill (n : Int) h r fl sp = F at nF zF lF ⊢
  have a1 : Nb 1120000000 (fmul .f32 F 1092419584) := nb_mul nF c1 (by omega) (by omega) (by kernel_rfl) (by omega)
  have a2 : Nb 1170000000 (fmul .f32 (fmul .f32 F 1092419584) (fofint .f32 ((n / 2 : Nat) : Int))) := nb_mul a1 ni (by omega) (by omega) (by kernel_rfl) (by omega)
  have a3 : Nb 1196000000 (fmul .f32 (fmul .f32 (fmul .f32 F 1092419584) (fofint .f32 ((n / 2 : Nat) : Int))) r) := nb_mul a2 nr (by omega) (by omega) (by kernel_rfl) (by omega)
  refine ⟨nb_mul a3 c2 (by omega) (by omega) (by kernel_rfl) (by omega), ?_, ?_⟩
  · intro hz
    by_cases h0 : fl = 0
    · rw [h0]; exact nn_0.2
    · exfalso
      have l0 := lF h0
      have b1 := mul_dn (J := 970000000) (K := 1092419584) nF.1 c1.1 l0 (by omega) (by omega) (by omega)
      have d1 : decide (980000000 ≤ rg (fmul .f32 970000000 1092419584)) = true := by kernel_rfl
      have d1 := of_decide_eq_true d1
      have b2 := mul_dn (J := 980000000) (K := 1073741824) a1.1 ni.1 (by omega) li (by omega) (by omega)
      have d2 : decide (980000000 ≤ rg (fmul .f32 980000000 1073741824)) = true := by kernel_rfl
      have d2 := of_decide_eq_true d2
      have b3 := mul_dn (J := 980000000) (K := 1031798784) a2.1 nr.1 (by omega) lr (by omega) (by omega)
      have d3 : decide (940000000 ≤ rg (fmul .f32 980000000 1031798784)) = true := by kernel_rfl
      have d3 := of_decide_eq_true d3
      have b4 := mul_dn (J := 940000000) (K := 1059061760) a3.1 c2.1 (by omega) (by omega) (by omega) (by omega)
      have d4 : decide (1 ≤ rg (fmul .f32 940000000 1059061760)) = true := by kernel_rfl
      have d4 := of_decide_eq_true d4
      omega
  · intro hz
    have h0 : fl = 0 := by
      rcases zf with z | z
      · exact z
      · omega
    have := zF h0
    subst this
    have y1 : Nb 0 (fmul .f32 0 1092419584) := nb_mul (J := 0) ⟨nn_0.1, by rw [nn_0.2]; omega⟩ c1 (by omega) (by omega) (by kernel_rfl) (by omega)
    have y2 : Nb 0 (fmul .f32 (fmul .f32 0 1092419584) (fofint .f32 ((n / 2 : Nat) : Int))) := nb_mul y1 ni (by omega) (by omega) (by kernel_rfl) (by omega)
    have y3 : Nb 0 (fmul .f32 (fmul .f32 (fmul .f32 0 1092419584) (fofint .f32 ((n / 2 : Nat) : Int))) r) := nb_mul y2 nr (by omega) (by omega) (by kernel_rfl) (by omega)
    have y4 : Nb 0 (fmul .f32 (fmul .f32 (fmul .f32 (fmul .f32 0 1092419584) (fofint .f32 ((n / 2 : Nat) : Int))) r) 1059061760) := nb_mul y3 c2 (by omega) (by omega) (by kernel_rfl) (by omega)
    have := y4.2
    omega
noncomputable def spilled (n h r fl sp : Nat) : Nat := spec_l03Least (fsub .f32 fl (fmul .f32 (spec_l03Fill (n : Int) h r fl sp) (fmul .f32 sp (fofint .f32 (n : Int)))))
theorem spilled_ok {n h r fl sp : Nat} (M : MillOk n h r) (hf : flowOk fl = true) (hs : speedOk sp = true) : (Nn (spilled n h r fl sp) ∧ rg (spilled n h r fl sp) ≤ rg fl) ∧ (rg (spec_l03Fill (n : Int) h r fl sp) = rg h → rg sp = 0 → spilled n h r fl sp = fl) := by
  obtain ⟨⟨nF, _⟩, zF, lF⟩ := fill_ok M hf hs
  obtain ⟨nf, zf, _⟩ := flowOk_nb hf
  obtain ⟨ns, _⟩ := speedOk_nb hs
  obtain ⟨⟨g0, g0'⟩, g1, g2⟩ := M
  obtain ⟨nh, lh, _, _⟩ := lenOk_nb g1
  obtain ⟨ni, li⟩ := int_nb (v := n) (by omega)
  have a1 : Nb 1140000000 (fmul .f32 sp (fofint .f32 (n : Int))) := nb_mul ns ni (by omega) (by omega) (by kernel_rfl) (by omega)
  have hl : ∀ v, spec_l03Least v = bif fgt .f32 v 0 then v else 0 := fun v => by simp only [spec_l03Least, spec_l03Least.t, T.val]
  unfold spilled
  generalize spec_l03Fill (n : Int) h r fl sp = F at nF zF lF ⊢
  have a2 : Nb 1170000000 (fmul .f32 F (fmul .f32 sp (fofint .f32 (n : Int)))) := nb_mul nF a1 (by omega) (by omega) (by kernel_rfl) (by omega)
  have zero : rg sp = 0 → rg (fmul .f32 F (fmul .f32 sp (fofint .f32 (n : Int)))) = 0 := fun hz => by
    have y1 : Nb 0 (fmul .f32 sp (fofint .f32 (n : Int))) := nb_mul (J := 0) ⟨ns.1, by omega⟩ ni (by omega) (by omega) (by kernel_rfl) (by omega)
    have y2 : Nb 0 (fmul .f32 F (fmul .f32 sp (fofint .f32 (n : Int)))) := nb_mul nF y1 (by omega) (by omega) (by kernel_rfl) (by omega)
    have := y2.2
    omega
  generalize fmul .f32 F (fmul .f32 sp (fofint .f32 (n : Int))) = t at a2 zero ⊢
  rw [hl]
  refine ⟨?_, ?_⟩
  · by_cases h1 : rg t ≤ rg fl
    · have s1 := sub_ge nf.1 a2.1 h1
      have s2 := sub_le nf.1 a2.1 h1
      rw [fgt_nn s1.1 nn_0.1, nn_0.2]
      by_cases h2 : 0 < rg (fsub .f32 fl t)
      · rw [decide_eq_true h2]
        exact ⟨s1.1, s2⟩
      · rw [decide_eq_false h2]
        exact ⟨nn_0.1, by rw [cond_false, nn_0.2]; omega⟩
    · obtain ⟨e1, e2, e3, e4⟩ := sub_lt nf.1 a2.1 (by omega)
      have hg : fgt .f32 (2147483648 + rg (fsub .f32 t fl)) 0 = false := by
        unfold fgt
        rw [neg_order (by omega) e4 nn_0.1]
        rfl
      rw [e1, hg]
      exact ⟨nn_0.1, by rw [cond_false, nn_0.2]; omega⟩
  · intro p1 p2
    have hz := zero p2
    by_cases h0 : fl = 0
    · have := zF h0
      subst this
      rw [nn_0.2] at p1
      omega
    · have lf : 1048576000 ≤ rg fl := by
        rcases zf with z | z
        · exact absurd z h0
        · exact z
      have s1 := sub_ge nf.1 a2.1 (by omega)
      have e : rg (fsub .f32 fl t) = rg fl := by
        rw [s1.2, hz, show mag 0 = 0 by decide, Nat.sub_zero, near_mag (nn_rg nf.1)]
      have w1 := nn_is s1.1 (by omega)
      have w2 := nn_is nf.1 (by omega)
      rw [fgt_nn s1.1 nn_0.1, nn_0.2, decide_eq_true (by omega), cond_true]
      omega
/-! The contracts. -/
theorem asked_0 {n h r fl sp : Nat} (M : MillOk n h r) (hf : flowOk fl = true) (hs : speedOk sp = true) : spec_l03Asked (n : Int) h r fl sp = 0 := by
  simp only [spec_l03Asked, spec_l03Asked.t, T.val, mill_ok M, (flowOk_nb hf).2.2, (speedOk_nb hs).2, Bool.not_true, cond_false]
theorem small_has {x : Nat} (h : x < 2139095040) : flHas .f32 x := by
  show x < 4294967296
  omega
set_option linter.unusedSectionVars false
section
variable {n h r fl sp : Nat} (M : MillOk n h r) (hf : flowOk fl = true) (hs : speedOk sp = true) (m : Int) (tab : List Int)
include M hf hs
theorem fl_h : flHas .f32 h := (lenOk_nb M.2.1).2.2.2
theorem fillS : spec_FillOf (n : Int) h r fl sp m tab = (spec_l03Fill (n : Int) h r fl sp, 0) := by
  simp only [spec_FillOf, spec_FillOf.t, T.val, asked_0 M hf hs, bne_self_eq_false, cond_false]
theorem fillI : impl_FillOf (n : Int) h r fl sp m tab = (spec_l03Fill (n : Int) h r fl sp, 0) := by
  simp only [impl_FillOf, impl_FillOf.t, T.val, orZero_eq, code_eq, asked_0 M hf hs, fill_eq (n : Int) h r fl sp (fl_h M hf hs) (mill_ok M), bne_self_eq_false, cond_false]
theorem spillS : spec_SpilledBy (n : Int) h r fl sp m tab = (spilled n h r fl sp, 0) := by
  simp only [spec_SpilledBy, spec_SpilledBy.t, T.val, asked_0 M hf hs, bne_self_eq_false, cond_false]
  rfl
theorem spillI : impl_SpilledBy (n : Int) h r fl sp m tab = (spilled n h r fl sp, 0) := by
  have e : ∀ v, impl_atLeast0 v = spec_l03Least v := fun v => rfl
  simp only [impl_SpilledBy, impl_SpilledBy.t, T.val, orZero_eq, code_eq, asked_0 M hf hs, fill_eq (n : Int) h r fl sp (fl_h M hf hs) (mill_ok M), bne_self_eq_false, cond_false, e]
  rfl
theorem torqS : spec_TorqueFrom (n : Int) h r fl sp m tab = (spec_l03Torque (n : Int) h r fl sp, 0) := by
  simp only [spec_TorqueFrom, spec_TorqueFrom.t, T.val, asked_0 M hf hs, bne_self_eq_false, cond_false]
theorem torqI : impl_TorqueFrom (n : Int) h r fl sp m tab = (spec_l03Torque (n : Int) h r fl sp, 0) := by
  simp only [impl_TorqueFrom, impl_TorqueFrom.t, T.val, orZero_eq, code_eq, asked_0 M hf hs, torque_eq (n : Int) h r fl sp (fl_h M hf hs) (mill_ok M), bne_self_eq_false, cond_false]
end
/-! Speed, power, and the flow through a gate. -/
section
variable {fl H p A : Nat} (m : Int) (tab : List Int)
theorem speedS (hH : headOk H = true) : (spec_WaterSpeed.t H m tab).get = some (spec_l03Fast H, 0) := by
  simp only [spec_WaterSpeed.t, T.get, (lenOk_nb (headOk_nb hH).1).2.2.1, fast_ok, Bool.not_true, cond_false, cond_true]
theorem speedI (hH : headOk H = true) : (impl_WaterSpeed.t H m tab).get = some (spec_l03Fast H, 0) := by
  simp only [impl_WaterSpeed.t, T.get, length_eq, (lenOk_nb (headOk_nb hH).1).2.2.1, speedw_ok, speedw_eq, Bool.not_true, cond_false, cond_true]
theorem powerS (hf : flowOk fl = true) (hH : headOk H = true) (hp : spec_l01Part p = true) : spec_WaterPower fl H p m tab = (fmul .f32 (fmul .f32 (fmul .f32 fl H) 1092419584) p, 0) := by
  simp only [spec_WaterPower, spec_WaterPower.t, T.val, (flowOk_nb hf).2.2, (lenOk_nb (headOk_nb hH).1).2.2.1, hp, Bool.not_true, cond_false]
theorem powerI (hf : flowOk fl = true) (hH : headOk H = true) (hp : spec_l01Part p = true) : impl_WaterPower fl H p m tab = (fmul .f32 (fmul .f32 (fmul .f32 fl H) 1092419584) p, 0) := by
  simp only [impl_WaterPower, impl_WaterPower.t, T.val, amount_eq, length_eq, part_eq, (flowOk_nb hf).2.2, (lenOk_nb (headOk_nb hH).1).2.2.1, hp, Bool.not_true, cond_false]
theorem power_le (hf : flowOk fl = true) (hH : headOk H = true) (hp : partOk p = true) : flt .f32 (fmul .f32 (fmul .f32 (fmul .f32 fl H) 1092419584) 1065353216) (fmul .f32 (fmul .f32 (fmul .f32 fl H) 1092419584) p) = false := by
  have nf := (flowOk_nb hf).1
  have nH := (lenOk_nb (headOk_nb hH).1).1
  have np := (partOk_nb hp).1
  have c1 : Nb 1092419584 1092419584 := ⟨(nb_self (by decide)).1, by decide⟩
  have u1 : Nb 1065353216 1065353216 := ⟨(nb_self (by decide)).1, by decide⟩
  have e1 : rg 1065353216 = 1065353216 := by decide
  have a1 : Nb 1150000000 (fmul .f32 fl H) := nb_mul nf nH (by omega) (by omega) (by kernel_rfl) (by omega)
  have a2 : Nb 1180000000 (fmul .f32 (fmul .f32 fl H) 1092419584) := nb_mul a1 c1 (by omega) (by omega) (by kernel_rfl) (by omega)
  have a3 : Nb 1190000000 (fmul .f32 (fmul .f32 (fmul .f32 fl H) 1092419584) 1065353216) := nb_mul a2 u1 (by omega) (by omega) (by kernel_rfl) (by omega)
  have a4 : Nb 1190000000 (fmul .f32 (fmul .f32 (fmul .f32 fl H) 1092419584) p) := nb_mul a2 np (by omega) (by omega) (by kernel_rfl) (by omega)
  have := mul_mono a2.1 a2.1 np.1 u1.1 (Nat.le_refl _) (by have := np.2; omega)
  rw [flt_nn a3.1 a4.1]
  exact decide_eq_false (by omega)
theorem flow_def (A H : Nat) (k : Int) : spec_l03Flow A H k = fmul .f32 (fdiv .f32 (fmul .f32 A (fofint .f32 k)) 1098907648) (spec_l03Fast H) := by
  simp only [spec_l03Flow, spec_l03Flow.t, T.val, fast_ok, cond_true]
theorem in16 {k : Nat} (hk : k ≤ 16) : spec_l00In (k : Int) 0 16 = true := by
  simp only [spec_l00In, spec_l00In.t, T.val, decide_eq_true (by omega : (k : Int) ≥ 0), decide_eq_true (by omega : (k : Int) ≤ 16)]
  rfl
theorem throughS (hA : lenOk 1090519040 A = true) (hH : headOk H = true) {k : Nat} (hk : k ≤ 16) : (spec_FlowThrough.t A H (k : Int) m tab).get = some (spec_l03Flow A H (k : Int), 0) := by
  simp only [spec_FlowThrough.t, T.get, (lenOk_nb hA).2.2.1, (lenOk_nb (headOk_nb hH).1).2.2.1, in16 hk, flow_ok, Bool.not_true, cond_false, cond_true]
theorem throughI (hA : lenOk 1090519040 A = true) (hH : headOk H = true) {k : Nat} (hk : k ≤ 16) : (impl_FlowThrough.t A H (k : Int) m tab).get = some (spec_l03Flow A H (k : Int), 0) := by
  have hw : impl_within (k : Int) 0 16 = true := by
    simp only [impl_within, impl_within.t, T.val, decide_eq_true (by omega : (0 : Int) ≤ (k : Int)), decide_eq_true (by omega : (k : Int) ≤ 16)]
    rfl
  simp only [impl_FlowThrough.t, T.get, length_eq, (lenOk_nb hA).2.2.1, (lenOk_nb (headOk_nb hH).1).2.2.1, hw, through_ok, through_eq, Bool.not_true, cond_false, cond_true]
end
theorem ints17m : (List.range 17).all (fun v => decide (fofint .f32 (v : Int) ≤ fofint .f32 ((v + 1 : Nat) : Int))) = true := by kernel_rfl
theorem flow_nb {A H : Nat} (hA : lenOk 1090519040 A = true) (hH : headOk H = true) {k : Nat} (hk : k ≤ 17) : Nb 1140000000 (fdiv .f32 (fmul .f32 A (fofint .f32 (k : Int))) 1098907648) ∧ Nb 1190000000 (spec_l03Flow A H (k : Int)) := by
  have nA := (lenOk_nb hA).1
  obtain ⟨_, nF, _⟩ := headOk_nb hH
  obtain ⟨ni, _⟩ := int_nb (v := k) (by omega)
  have n16 := nb_self (K := 1098907648) (by decide)
  have h2 : Nb 1140000000 (fmul .f32 A (fofint .f32 (k : Int))) := nb_mul nA ni (by omega) (by omega) (by kernel_rfl) (by omega)
  have h3 := div_le h2.1 n16.1 (by rw [n16.2]; omega)
  have h4 : Nb 1140000000 (fdiv .f32 (fmul .f32 A (fofint .f32 (k : Int))) 1098907648) := ⟨nn_div h2.1 n16.1 (by rw [n16.2]; omega) (by have := h2.2; omega), Nat.le_trans h3 h2.2⟩
  refine ⟨h4, ?_⟩
  rw [flow_def]
  exact nb_mul h4 nF (by omega) (by omega) (by kernel_rfl) (by omega)
theorem flow_mono {A H : Nat} (hA : lenOk 1090519040 A = true) (hH : headOk H = true) {k : Nat} (hk : k ≤ 16) : rg (spec_l03Flow A H (k : Int)) ≤ rg (spec_l03Flow A H ((k + 1 : Nat) : Int)) := by
  have nA := (lenOk_nb hA).1
  obtain ⟨_, nF, _⟩ := headOk_nb hH
  obtain ⟨ni, _⟩ := int_nb (v := k) (by omega)
  obtain ⟨nj, _⟩ := int_nb (v := k + 1) (by omega)
  obtain ⟨a1, _⟩ := flow_nb hA hH (k := k) (by omega)
  obtain ⟨a2, _⟩ := flow_nb hA hH (k := k + 1) (by omega)
  have n16 := nb_self (K := 1098907648) (by decide)
  have hij : rg (fofint .f32 (k : Int)) ≤ rg (fofint .f32 ((k + 1 : Nat) : Int)) := by
    have := vals' ints17m (by omega) (.inr (show k < 17 by omega))
    have := of_decide_eq_true this
    have h1 := vals' ints24 (by omega) (.inr (show k < 24 by omega))
    have h2 := vals' ints24 (by omega) (.inr (show k + 1 < 24 by omega))
    simp only [Bool.and_eq_true, decide_eq_true_eq] at h1 h2
    have := (nb_self h1.1).2
    have := (nb_self h2.1).2
    omega
  have h2 : Nb 1140000000 (fmul .f32 A (fofint .f32 (k : Int))) := nb_mul nA ni (by omega) (by omega) (by kernel_rfl) (by omega)
  have h3 : Nb 1140000000 (fmul .f32 A (fofint .f32 ((k + 1 : Nat) : Int))) := nb_mul nA nj (by omega) (by omega) (by kernel_rfl) (by omega)
  rw [flow_def, flow_def]
  refine mul_mono a1.1 a2.1 nF.1 nF.1 ?_ (Nat.le_refl _)
  refine div_mono h2.1 n16.1 h3.1 n16.1 (by rw [n16.2]; omega) (by rw [n16.2]; omega) ?_
  exact Nat.mul_le_mul_right _ (mag_le_iff.2 (mul_mono nA.1 nA.1 ni.1 nj.1 (Nat.le_refl _) hij))
theorem flow_0 {A H : Nat} (hA : lenOk 1090519040 A = true) (hH : headOk H = true) : rg (spec_l03Flow A H ((0 : Nat) : Int)) = 0 := by
  have nA := (lenOk_nb hA).1
  obtain ⟨_, nF, _⟩ := headOk_nb hH
  have n16 := nb_self (K := 1098907648) (by decide)
  have z : Nb 0 (fofint .f32 ((0 : Nat) : Int)) := by
    have e : fofint .f32 ((0 : Nat) : Int) = 0 := by kernel_rfl
    rw [e]
    exact ⟨nn_0.1, by rw [nn_0.2]; omega⟩
  have y1 : Nb 0 (fmul .f32 A (fofint .f32 ((0 : Nat) : Int))) := nb_mul nA z (by omega) (by omega) (by kernel_rfl) (by omega)
  have y2 : Nb 0 (fdiv .f32 (fmul .f32 A (fofint .f32 ((0 : Nat) : Int))) 1098907648) := nb_div y1 n16.1 (K := 1098907648) (by rw [n16.2]; omega) (by omega) (by omega) (by kernel_rfl) (by omega)
  have y3 : Nb 0 (fmul .f32 (fdiv .f32 (fmul .f32 A (fofint .f32 ((0 : Nat) : Int))) 1098907648) (spec_l03Fast H)) := nb_mul y2 nF (by omega) (by omega) (by kernel_rfl) (by omega)
  rw [flow_def]
  have := y3.2
  omega
noncomputable def bef (A H : Nat) : Nat → Nat
  | 0 => 0
  | i + 1 => spec_l03Flow A H (i : Int)
theorem bef_ok {A H : Nat} (hA : lenOk 1090519040 A = true) (hH : headOk H = true) : ∀ i : Nat, i ≤ 16 → Nn (bef A H i) ∧ rg (bef A H i) ≤ rg (spec_l03Flow A H (i : Int))
  | 0, _ => ⟨nn_0.1, Nat.le_trans (Nat.le_of_eq nn_0.2) (Nat.zero_le _)⟩
  | j + 1, h => ⟨(flow_nb hA hH (k := j) (by omega)).2.1, flow_mono hA hH (k := j) (by omega)⟩
set_option maxHeartbeats 2000000 in
theorem gates_r {A H : Nat} (hA : lenOk 1090519040 A = true) (hH : headOk H = true) (m : Int) (tab xs ys : List Int) : laws_FnWater.l29.r (A, H, m, tab, xs, ys) (0, (0 : Int)) = some (.inr ()) := by
  refine iter_run (step := laws_FnWater.l29.st (A, H, m, tab, xs, ys)) (f := fun i => (bef A H i, (i : Int))) (n := 17) (N := manyRounds) (k := 0) (many_lt (by omega)) (fun i hi => ?_) ?_
  · have hS := throughS m tab hA hH (k := i) (by omega)
    have hI := throughI m tab hA hH (k := i) (by omega)
    obtain ⟨_, n1⟩ := flow_nb hA hH (k := i) (by omega)
    obtain ⟨n2, hle⟩ := bef_ok hA hH i (by omega)
    have hlt : flt .f32 (spec_l03Flow A H (i : Int)) (bef A H i) = false := by
      rw [flt_nn n1.1 n2]
      exact decide_eq_false (by omega)
    have hz : ((i : Int) == 0) = true → fne .f32 (spec_l03Flow A H (i : Int)) 0 = false := fun h => by
      have : i = 0 := by
        have := eq_of_beq h
        omega
      subst this
      rw [fne_nn n1.1 nn_0.1, nn_0.2, flow_0 hA hH]
      rfl
    simp only [Nat.zero_add, laws_FnWater.l29.st, laws_FnWater.l29.s, T.get, show impl_FlowThrough.ok A H (i : Int) m tab = true from T.ok_of_get (hI), show impl_FlowThrough A H (i : Int) m tab = _ from T.val_of_get (hI), show spec_FlowThrough.ok A H (i : Int) m tab = true from T.ok_of_get (hS), show spec_FlowThrough A H (i : Int) m tab = _ from T.val_of_get (hS), bne_self_eq_false, cond_false, show spec_SameNumber.ok (spec_l03Flow A H (i : Int)) (spec_l03Flow A H (i : Int)) m tab = true from T.ok_of_get (num_t _ m tab), show spec_SameNumber (spec_l03Flow A H (i : Int)) (spec_l03Flow A H (i : Int)) m tab = _ from T.val_of_get (num_t _ m tab), hlt, Bool.not_true, wrap64_succ (show i + 1 < 9223372036854775808 by omega)]
    rw [decide_eq_true (by omega : (i : Int) ≤ 16)]
    cases h0 : ((i : Int) == 0) with
    | true =>
      rw [hz h0]
      rfl
    | false => rfl
  · simp only [Nat.zero_add, laws_FnWater.l29.st, laws_FnWater.l29.s, T.get]
    rfl
theorem src_of {xs : List Int} (h : ∀ x ∈ xs, IntKind.min .u8 ≤ x ∧ x ≤ IntKind.max .u8) (hl : xs.length ≤ 4096) : srcOk xs.length xs := ⟨rfl, by omega, h⟩
theorem big_eq (n : Nat) (m : Int) (tab xs : List Int) : laws_f6big n m tab xs = decide ((n : Int) > 4096) := rfl
theorem lenw_eq (x : Nat) (m : Int) (tab : List Int) : impl_IsLength_w1 x m tab = spec_l03Length x := by
  have h : impl_IsLength_w1 x m tab = impl_IsLength x := rfl
  rw [h, length_eq]
theorem millw_eq (n : Int) (h r : Nat) (m : Int) (tab : List Int) : impl_ValidMill_w1 n h r m tab = spec_l03Mill n h r := by
  have e : impl_ValidMill_w1 n h r m tab = impl_ValidMill n h r := rfl
  rw [e, vmill_eq]
set_option maxHeartbeats 4000000 in
theorem law_small (m : Int) {a b : Nat} {xs ys : List Int} (hs : srcOk a xs) (ht : srcOk b ys) (ha : a ≤ 4096) (hb : b ≤ 4096) : (laws_FnWater.t a b m Go.Lib.pow10Tab xs ys).get = some true := by
  have b1 : laws_f6big a m Go.Lib.pow10Tab xs = false := by rw [big_eq]; exact decide_eq_false (by omega)
  have b2 : laws_f6big b m Go.Lib.pow10Tab ys = false := by rw [big_eq]; exact decide_eq_false (by omega)
  obtain ⟨n, h, r, hm, M⟩ := mill_t hs m Go.Lib.pow10Tab
  obtain ⟨v1, k1, g1⟩ := p6pick_t ht m Go.Lib.pow10Tab 400
  obtain ⟨v2, k2, g2⟩ := p6pick_t hs m Go.Lib.pow10Tab 80
  obtain ⟨v3, k3, g3⟩ := p6pick_t ht m Go.Lib.pow10Tab 16
  obtain ⟨v4, k4, g4⟩ := p6pick_t hs m Go.Lib.pow10Tab 64
  obtain ⟨v5, k5, g5⟩ := p6pick_t ht m Go.Lib.pow10Tab 17
  have hf := vals' flow400 (by omega) g1
  have hsp := vals' speed80 (by omega) g2
  have hA := vals' len64 (v := v3) (by omega) (by omega)
  have hH := vals' head64 (by omega) g4
  have hp := vals' part17 (by omega) g5
  have e1 : fdiv .f32 (fofint .f32 (v1 : Int)) 1082130432 = val (v1 : Int) 1082130432 := rfl
  have e2 : fdiv .f32 (fofint .f32 (v2 : Int)) 1090519040 = val (v2 : Int) 1090519040 := rfl
  have e3 : fdiv .f32 (fofint .f32 ((v3 + 1 : Nat) : Int)) 1090519040 = val ((v3 + 1 : Nat) : Int) 1090519040 := rfl
  have e4 : fdiv .f32 (fofint .f32 ((v4 + 1 : Nat) : Int)) 1090519040 = val ((v4 + 1 : Nat) : Int) 1090519040 := rfl
  have e5 : fdiv .f32 (fofint .f32 (v5 : Int)) 1098907648 = val (v5 : Int) 1098907648 := rfl
  generalize val (v1 : Int) 1082130432 = fl at hf e1
  generalize val (v2 : Int) 1090519040 = sp at hsp e2
  generalize val ((v3 + 1 : Nat) : Int) 1090519040 = A at hA e3
  generalize val ((v4 + 1 : Nat) : Int) 1090519040 = H at hH e4
  generalize val (v5 : Int) 1098907648 = p at hp e5
  have w3 := one_plus g3 (by omega)
  have w4 := one_plus g4 (by omega)
  obtain ⟨nh, lh, _, hh⟩ := lenOk_nb M.2.1
  obtain ⟨nr, lr, _, hr⟩ := lenOk_nb M.2.2
  have txt := mill_text m Go.Lib.pow10Tab hh hr (by have := M.1.2; omega) (mill_ok M)
  have txt' : (impl_MillText.t (n : Int) h r m Go.Lib.pow10Tab).get = some (textM n h r) := txt
  have back := back_t m hh hr (by have := M.1.2; omega) (mill_ok M)
  obtain ⟨⟨nF, lF⟩, _, _⟩ := fill_ok M hf hsp
  obtain ⟨⟨nS, lS⟩, kS⟩ := spilled_ok M hf hsp
  obtain ⟨nT, iT⟩ := torque_ok M hf hsp
  obtain ⟨nf, _, _⟩ := flowOk_nb hf
  obtain ⟨ns, _⟩ := speedOk_nb hsp
  have f1 : flt .f32 (spec_l03Fill (n : Int) h r fl sp) 0 = false := by rw [flt_nn nF.1 nn_0.1, nn_0.2]; exact decide_eq_false (by omega)
  have f2 : fgt .f32 (spec_l03Fill (n : Int) h r fl sp) h = false := by rw [fgt_nn nF.1 nh.1]; exact decide_eq_false (by omega)
  have f3 : flt .f32 (spilled n h r fl sp) 0 = false := by rw [flt_nn nS nn_0.1, nn_0.2]; exact decide_eq_false (by omega)
  have f4 : fgt .f32 (spilled n h r fl sp) fl = false := by rw [fgt_nn nS nf.1]; exact decide_eq_false (by omega)
  have f5 : flt .f32 (spec_l03Torque (n : Int) h r fl sp) 0 = false := by rw [flt_nn nT.1 nn_0.1, nn_0.2]; exact decide_eq_false (by omega)
  have f6 : (feq .f32 (spec_l03Torque (n : Int) h r fl sp) 0 == feq .f32 fl 0) = true := by
    rw [feq_nn nT.1 nn_0.1, feq_nn nf.1 nn_0.1, nn_0.2]
    by_cases q : rg fl = 0
    · rw [decide_eq_true q, decide_eq_true (iT.2 q)]
      rfl
    · rw [decide_eq_false q, decide_eq_false (fun z => q (iT.1 z))]
      rfl
  have f7 : feq .f32 (spec_l03Fill (n : Int) h r fl sp) h = true → feq .f32 sp 0 = true → spilled n h r fl sp = fl := fun q1 q2 => by
    rw [feq_nn nF.1 nh.1] at q1
    rw [feq_nn ns.1 nn_0.1, nn_0.2] at q2
    exact kS (of_decide_eq_true q1) (of_decide_eq_true q2)
  have f8 : fle .f32 (spec_l03Fast H) 0 = false := by
    obtain ⟨_, n1, n2⟩ := headOk_nb hH
    rw [fle_nn n1.1 nn_0.1, nn_0.2]
    exact decide_eq_false (by omega)
  have hpp := (partOk_nb hp).2
  have hp1 : spec_l01Part 1065353216 = true := by kernel_rfl
  have f9 := power_le hf hH hp
  have hg := gates_r hA hH m Go.Lib.pow10Tab xs ys
  have lA := (lenOk_nb hA).2.2.1
  have lH := (lenOk_nb (headOk_nb hH).1).2.2.1
  simp only [laws_FnWater.t, T.get, b1, b2, show spec_P6Mill.ok a m Go.Lib.pow10Tab xs = true from T.ok_of_get (hm), show spec_P6Mill a m Go.Lib.pow10Tab xs = _ from T.val_of_get (hm), show spec_P6Pick.ok b (400 : Int) m Go.Lib.pow10Tab ys = true from T.ok_of_get (k1), show spec_P6Pick b (400 : Int) m Go.Lib.pow10Tab ys = _ from T.val_of_get (k1), show spec_P6Pick.ok a (80 : Int) m Go.Lib.pow10Tab xs = true from T.ok_of_get (k2), show spec_P6Pick a (80 : Int) m Go.Lib.pow10Tab xs = _ from T.val_of_get (k2), show spec_P6Pick.ok b (16 : Int) m Go.Lib.pow10Tab ys = true from T.ok_of_get (k3), show spec_P6Pick b (16 : Int) m Go.Lib.pow10Tab ys = _ from T.val_of_get (k3), show spec_P6Pick.ok a (64 : Int) m Go.Lib.pow10Tab xs = true from T.ok_of_get (k4), show spec_P6Pick a (64 : Int) m Go.Lib.pow10Tab xs = _ from T.val_of_get (k4), show spec_P6Pick.ok b (17 : Int) m Go.Lib.pow10Tab ys = true from T.ok_of_get (k5), show spec_P6Pick b (17 : Int) m Go.Lib.pow10Tab ys = _ from T.val_of_get (k5), w3, w4, e1, e2, e3, e4, e5, show impl_MillText.ok (n : Int) h r m Go.Lib.pow10Tab = true from T.ok_of_get (txt'), show impl_MillText (n : Int) h r m Go.Lib.pow10Tab = _ from T.val_of_get (txt'), show impl_ReadMill.ok (textM n h r) m Go.Lib.pow10Tab = true from T.ok_of_get (back), show impl_ReadMill (textM n h r) m Go.Lib.pow10Tab = _ from T.val_of_get (back), show spec_SameMill.ok (n : Int) h r (n : Int) h r m Go.Lib.pow10Tab = true from T.ok_of_get (millS_t (n : Int) h r m Go.Lib.pow10Tab), show spec_SameMill (n : Int) h r (n : Int) h r m Go.Lib.pow10Tab = _ from T.val_of_get (millS_t (n : Int) h r m Go.Lib.pow10Tab), millw_eq, mill_ok M, fillS M hf hsp, fillI M hf hsp, spillS M hf hsp, spillI M hf hsp, torqS M hf hsp, torqI M hf hsp, show spec_SameNumber.ok (spec_l03Fill (n : Int) h r fl sp) (spec_l03Fill (n : Int) h r fl sp) m Go.Lib.pow10Tab = true from T.ok_of_get (num_t _ m Go.Lib.pow10Tab), show spec_SameNumber (spec_l03Fill (n : Int) h r fl sp) (spec_l03Fill (n : Int) h r fl sp) m Go.Lib.pow10Tab = _ from T.val_of_get (num_t _ m Go.Lib.pow10Tab), show spec_SameNumber.ok (spilled n h r fl sp) (spilled n h r fl sp) m Go.Lib.pow10Tab = true from T.ok_of_get (num_t _ m Go.Lib.pow10Tab), show spec_SameNumber (spilled n h r fl sp) (spilled n h r fl sp) m Go.Lib.pow10Tab = _ from T.val_of_get (num_t _ m Go.Lib.pow10Tab), show spec_SameNumber.ok (spec_l03Torque (n : Int) h r fl sp) (spec_l03Torque (n : Int) h r fl sp) m Go.Lib.pow10Tab = true from T.ok_of_get (num_t _ m Go.Lib.pow10Tab), show spec_SameNumber (spec_l03Torque (n : Int) h r fl sp) (spec_l03Torque (n : Int) h r fl sp) m Go.Lib.pow10Tab = _ from T.val_of_get (num_t _ m Go.Lib.pow10Tab), f1, f2, f3, f4, f5, f6, show impl_WaterSpeed.ok H m Go.Lib.pow10Tab = true from T.ok_of_get (speedI m Go.Lib.pow10Tab hH), show impl_WaterSpeed H m Go.Lib.pow10Tab = _ from T.val_of_get (speedI m Go.Lib.pow10Tab hH), show spec_WaterSpeed.ok H m Go.Lib.pow10Tab = true from T.ok_of_get (speedS m Go.Lib.pow10Tab hH), show spec_WaterSpeed H m Go.Lib.pow10Tab = _ from T.val_of_get (speedS m Go.Lib.pow10Tab hH), show spec_SameNumber.ok (spec_l03Fast H) (spec_l03Fast H) m Go.Lib.pow10Tab = true from T.ok_of_get (num_t _ m Go.Lib.pow10Tab), show spec_SameNumber (spec_l03Fast H) (spec_l03Fast H) m Go.Lib.pow10Tab = _ from T.val_of_get (num_t _ m Go.Lib.pow10Tab), f8, powerI m Go.Lib.pow10Tab hf hH hpp, powerS m Go.Lib.pow10Tab hf hH hpp, powerI m Go.Lib.pow10Tab hf hH hp1, show spec_SameNumber.ok (fmul .f32 (fmul .f32 (fmul .f32 fl H) 1092419584) p) (fmul .f32 (fmul .f32 (fmul .f32 fl H) 1092419584) p) m Go.Lib.pow10Tab = true from T.ok_of_get (num_t _ m Go.Lib.pow10Tab), show spec_SameNumber (fmul .f32 (fmul .f32 (fmul .f32 fl H) 1092419584) p) (fmul .f32 (fmul .f32 (fmul .f32 fl H) 1092419584) p) m Go.Lib.pow10Tab = _ from T.val_of_get (num_t _ m Go.Lib.pow10Tab), f9, lenw_eq, lA, lH, hg, bne_self_eq_false, beq_self_eq_true, cond_true, cond_false, Bool.not_true, Bool.not_false, T.get_join, joinG_go, Option.isSome_some, Option.getD_some, Sum.isLeft]
  cases q1 : feq .f32 (spec_l03Fill (n : Int) h r fl sp) h with
  | false => rfl
  | true =>
    cases q2 : feq .f32 sp 0 with
    | false => rfl
    | true =>
      rw [f7 q1 q2]
      simp only [show spec_SameNumber.ok fl fl m Go.Lib.pow10Tab = true from T.ok_of_get (num_t _ m Go.Lib.pow10Tab), show spec_SameNumber fl fl m Go.Lib.pow10Tab = _ from T.val_of_get (num_t _ m Go.Lib.pow10Tab), Bool.not_true, cond_true, cond_false]
      rfl
theorem law_holds (m : Int) (xs ys : List Int) (FACTS : ∀ x ∈ xs, IntKind.min .u8 ≤ x ∧ x ≤ IntKind.max .u8) (hx : xs.length ≤ maxLen) (hy' : ∀ x ∈ ys, IntKind.min .u8 ≤ x ∧ x ≤ IntKind.max .u8) (hy : ys.length ≤ maxLen) : (laws_FnWater.t xs.length ys.length m Go.Lib.pow10Tab xs ys).get = some true := by
  by_cases h1 : xs.length ≤ 4096
  · by_cases h2 : ys.length ≤ 4096
    · exact law_small m (src_of FACTS h1) (src_of hy' h2) h1 h2
    · have b1 : laws_f6big xs.length m Go.Lib.pow10Tab xs = false := by rw [big_eq]; exact decide_eq_false (by omega)
      have b2 : laws_f6big ys.length m Go.Lib.pow10Tab ys = true := by rw [big_eq]; exact decide_eq_true (by omega)
      simp only [laws_FnWater.t, T.get, b1, b2, cond_true, cond_false]
  · have b1 : laws_f6big xs.length m Go.Lib.pow10Tab xs = true := by rw [big_eq]; exact decide_eq_true (by omega)
    simp only [laws_FnWater.t, T.get, b1, cond_true]

theorem law_plain (mx : Int) (xs0 : List Int) (xs1 : List Int) (f0 : ∀ x ∈ xs0, (IntKind.min .u8 ≤ x ∧ x ≤ IntKind.max .u8)) (y0 : List.length xs0 ≤ maxLen) (f1 : ∀ x ∈ xs1, (IntKind.min .u8 ≤ x ∧ x ≤ IntKind.max .u8)) (y1 : List.length xs1 ≤ maxLen) : (laws_FnWater.tr (xs0.length, xs1.length, mx, Go.Lib.pow10Tab, xs0, xs1)).get = some true := law_holds mx xs0 xs1 f0 y0 f1 y1
theorem own : ownKnob Tryz.prog.godebug = none := by kernel_rfl
theorem laidOut : laidOutB Tryz.prog = true := by kernel_rfl
theorem ground {W : World} (h : W.ShapedOpen Tryz.prog) : Sx.Ground W := ground_of (by kernel_rfl) h
theorem gSyn : Tryz.prog.globalNamed "strconv.ErrSyntax" = some 2 := by kernel_rfl
theorem gRng : Tryz.prog.globalNamed "strconv.ErrRange" = some 3 := by kernel_rfl
theorem gPow : Tryz.prog.globalNamed "internal/strconv.uint64pow10" = some 4 := by kernel_rfl
theorem tSyn : (Tryz.prog.globals[2]?).map (·.type) = some 71 := by kernel_rfl
theorem tRng : (Tryz.prog.globals[3]?).map (·.type) = some 71 := by kernel_rfl
theorem tPow : (Tryz.prog.globals[4]?).map (·.type) = some 118 := by kernel_rfl
theorem cells_te : Tryz.prog.cellsOf 133 = 1 := by kernel_rfl
theorem cells_ts : Tryz.prog.cellsOf 9 = 1 := by kernel_rfl
theorem cells_pt : Tryz.prog.cellsOf 118 = 20 := by kernel_rfl
theorem cells_pe : Tryz.prog.cellsOf 65 = 1 := by kernel_rfl
theorem star : "*" ++ "errors.errorString" = "*errors.errorString" := by decide
theorem row_tp (u : TypeId) (h : Tryz.prog.typeName? 3 u = some "*errors.errorString") : u = 131 :=
  typeName_ptr_named (nm := "errors.errorString") (by rw [star]; kernel_rfl) (by kernel_rfl) (by decide) u (by rw [star]; exact h)
theorem pow_lit : Go.Lib.pow10Tab = [1, 10, 100, 1000, 10000, 100000, 1000000, 10000000, 100000000, 1000000000, 10000000000, 100000000000, 1000000000000, 10000000000000, 100000000000000, 1000000000000000, 10000000000000000, 100000000000000000, 1000000000000000000, 10000000000000000000] := by kernel_rfl
theorem pow_is {W : World} (h : laidMet Tryz.prog Rows.fnWaterRow.laid W) : Go.Lib.TabIs Tryz.prog W "internal/strconv.uint64pow10" .u64 Go.Lib.pow10Tab := by
  rw [pow_lit]
  exact Go.Lib.tabIs_of_head (rest := _) gPow tPow Tryz.underlying118 Tryz.underlying65 cells_pe cells_pt h.tail.tail
theorem rng_is {W : World} (h : laidMet Tryz.prog Rows.fnWaterRow.laid W) : ∃ v, W.cell? ⟨3, 0, none⟩ = some v ∧ ∃ t p, v = .iface t p := by
  obtain ⟨a, s, hv, _⟩ := laid_sentinel h.tail.tail.tail.tail gRng tRng Tryz.underlying71 row_tp Tryz.underlying131 Tryz.underlying133 rfl rfl Tryz.underlying9 cells_te cells_ts
  exact ⟨_, by simpa using World.var?_cell gRng hv 0, _, _, rfl⟩
theorem syn_is {W : World} (h : laidMet Tryz.prog Rows.fnWaterRow.laid W) : ∃ v, W.cell? ⟨2, 0, none⟩ = some v ∧ ∃ t p, v = .iface t p := by
  obtain ⟨a, s, hv, _⟩ := laid_sentinel h.tail.tail.tail.tail.tail gSyn tSyn Tryz.underlying71 row_tp Tryz.underlying131 Tryz.underlying133 rfl rfl Tryz.underlying9 cells_te cells_ts
  exact ⟨_, by simpa using World.var?_cell gSyn hv 0, _, _, rfl⟩
/-- What the walk gives, for every argument and every world. -/
theorem contract (H : Type) (enc : TypeId × Value → H) (W : World) (base : Nat) (args : Array Value) (ds gs : List (DataW H)) (before : List MemPlace)
    (hval0 : ∀ (j : Nat) t v, Tryz.f3.params[j]? = some t → args[j]? = some v → Value.okWide Tryz.prog W .any base t v)
    (hW : DataW.Whole enc Tryz.prog Tryz.f3.params.toList Rows.fnWaterSpec.vars false W args.toList ds gs before) (hsh : W.ShapedOpen Tryz.prog) (hL : laidMet Tryz.prog Rows.fnWaterRow.laid W) :
    Calls Tryz.prog 3 args W fun e W' => ∃ v, e = .returned v ∧ Rows.fnWaterSpec.post enc Tryz.prog Tryz.f3 false true false false W args v W' := by
  have hG := ground hsh
  obtain ⟨mx, hmx⟩ := cell_of_shapedOpen_int (k := .i64) (g := 1) (t := 3) (zero := #[.int .i64 0]) hsh (Nat.le_of_ble_eq_true (by kernel_rfl)) (by kernel_rfl) rfl (by kernel_rfl) (by kernel_rfl) Tryz.underlying3
  obtain ⟨e3, he3, hf3⟩ := syn_is hL
  obtain ⟨e4, he4, hf4⟩ := rng_is hL
  have hpow := pow_is hL
  have hval : ∀ (j : Nat) t v, Tryz.f3.params[j]? = some t → args[j]? = some v → Value.okWide Tryz.prog W .any base t v := hval0
  have hW' := hW
  obtain ⟨p, q, hA0, hV, rfl, hfz, hnd⟩ := hW
  have hA : DataW.TrodAll enc Tryz.prog W 0 (fun _ => true) true Tryz.f3.params.toList args.toList ds p := hA0
  rw [Tryz.params3] at hA hval
  obtain ⟨v0, vs0, d0, ds0, p0, q0, hargs, rfl, rfl, h0, rr0⟩ := trodAll_cons hA
  obtain ⟨v1, vs1, d1, ds1, p1, q1, rfl, rfl, rfl, h1, rr1⟩ := trodAll_cons rr0
  obtain ⟨rfl, rfl, rfl⟩ := trodAll_nil rr1
  obtain rfl : args = #[v0, v1] := by cases args; simp_all
  obtain ⟨rfl, rfl⟩ := trodVars_none hV
  have k0 := h0
  have lt0 : ∀ x ∈ p0, x.block < W.heap.size := by obtain ⟨m, hm⟩ := k0; exact DataW.trod_lt m _ _ _ hm
  obtain ⟨l0, xs0, w0, r0, f0, y0⟩ := open_its Tryz.underlying22 Tryz.underlying5 (by kernel_rfl) hG (hval 0 22 v0 rfl rfl) k0
  have k1 := h1
  have lt1 : ∀ x ∈ p1, x.block < W.heap.size := by obtain ⟨m, hm⟩ := k1; exact DataW.trod_lt m _ _ _ hm
  obtain ⟨l1, xs1, w1, r1, f1, y1⟩ := open_its Tryz.underlying22 Tryz.underlying5 (by kernel_rfl) hG (hval 1 22 v1 rfl rfl) k1
  clear hA0 hval0
  refine (laws_FnWater.walk (xs0.length, xs1.length, mx, Go.Lib.pow10Tab, xs0, xs1) (law_plain mx xs0 xs1 f0 y0 f1 y1) (ρ := fun i => (lget ([(⟨1, 0, 0⟩, ⟨false, 0, 1 + 1, .vs [.it .i64 mx]⟩), (⟨2, 0, 0⟩, ⟨false, 0, 2 + 1, .vs [.er]⟩), (⟨3, 0, 0⟩, ⟨false, 0, 3 + 1, .vs [.er]⟩), (⟨4, 0, 0⟩, ⟨false, 20 + 1, 4 + 1, .is .u64 Go.Lib.pow10Tab⟩), (l0, ⟨false, 0, 0, .is .u8 xs0⟩), (l1, ⟨false, 0, 0, .is .u8 xs1⟩)] : List (Sx.Loc × Blk)) i).map (·.1)) (Rs_cons' (r0 _ 4 rfl) (Rs_cons' (r1 _ 5 rfl) Rs_nil')) (HpR.ofBl [(⟨1, 0, 0⟩, ⟨false, 0, 1 + 1, .vs [.it .i64 mx]⟩), (⟨2, 0, 0⟩, ⟨false, 0, 2 + 1, .vs [.er]⟩), (⟨3, 0, 0⟩, ⟨false, 0, 3 + 1, .vs [.er]⟩), (⟨4, 0, 0⟩, ⟨false, 20 + 1, 4 + 1, .is .u64 Go.Lib.pow10Tab⟩), (l0, ⟨false, 0, 0, .is .u8 xs0⟩), (l1, ⟨false, 0, 0, .is .u8 xs1⟩)] (List.forall_mem_cons.2 ⟨pinned_bl hmx, (List.forall_mem_cons.2 ⟨pinned_er he3 hf3, List.forall_mem_cons.2 ⟨pinned_er he4 hf4, List.forall_mem_cons.2 ⟨pinned_tab gPow hpow Go.Lib.pow10Tab_length, (List.forall_mem_cons.2 ⟨rowIn_bl w0, (List.forall_mem_cons.2 ⟨rowIn_bl w1, (List.forall_mem_nil _)⟩)⟩)⟩⟩⟩)⟩))).mono fun e W' ⟨he, bel⟩ => ?_
  subst he
  exact ⟨_, rfl, _, _, _, [], _, [], hW', trodAll_mk1 (shut_bool Tryz.underlying4 _), (trodAll_cons_mk (Below.trod laidOut (by kernel_rfl) (of_decide_eq_true (by kernel_rfl)) k0 bel lt0) (trodAll_cons_mk (Below.trod laidOut (by kernel_rfl) (of_decide_eq_true (by kernel_rfl)) k1 bel lt1) trodAll_mk0)), rfl, bel.frame _, fun h => by cases h⟩
/-- So many blocks has the settled world. -/
noncomputable def low : Nat := (World.holding Tryz.prog default ⟨#[], #[], []⟩).heap.size
/-- A world for the witness: the settled one, the two tables holding what their initialisers lay. -/
noncomputable def laidWorld (os : Os) : World :=
  let w0 := World.holding Tryz.prog os ⟨#[.cells #[.string { data := #[118, 97, 108, 117, 101, 32, 111, 117, 116, 32, 111, 102, 32, 114, 97, 110, 103, 101] }] 133, .cells #[.string { data := #[105, 110, 118, 97, 108, 105, 100, 32, 115, 121, 110, 116, 97, 120] }] 133], #[], []⟩
  let put (h : Array Obj) (g : Nat) (cs : Array Value) : Array Obj := h.modify g fun
    | .cells _ t frozen => .cells cs t frozen
    | o => o
  let h1 := put w0.heap 7 (dataCells 4 (Rows.laid_math_bits_deBruijn32tab (H := Unit))).toArray
  let h2 := put h1 8 (dataCells 4 (Rows.laid_math_bits_deBruijn64tab (H := Unit))).toArray
  let h3 := put h2 4 (dataCells 4 (Rows.laid_internal_strconv_uint64pow10 (H := Unit))).toArray
  let h4 := put h3 5 (Lib.firstTab.map fun z => Value.int .u8 z).toArray
  let h5 := put h4 6 ((List.range 16).flatMap fun i => [Value.int .u8 (Lib.accLo i), Value.int .u8 (Lib.accHi i)]).toArray
  let h6 := put h5 3 [Value.iface 131 (.pointer (some ⟨low, 0, none⟩))].toArray
  let h7 := put h6 2 [Value.iface 131 (.pointer (some ⟨low + 1, 0, none⟩))].toArray
  { w0 with heap := h7 }
theorem laid_met (os : Os) : laidMet Tryz.prog Rows.fnWaterRow.laid ((laidWorld os).forCall (fun _ _ => 0) ⟨#[], #[.slice none 0 0, .slice none 0 0], []⟩).memory :=
  laidMet_of_run' 8 (by kernel_rfl) (by kernel_rfl)
theorem reads (os : Os) {H : Type} (enc : TypeId × Value → H) : ∃ places, DataW.whole enc Tryz.prog ((laidWorld os).forCall (fun _ _ => 0) ⟨#[], #[.slice none 0 0, .slice none 0 0], []⟩).memory Tryz.f3.params.toList Rows.fnWaterSpec.vars false #[Value.slice none 0 0, Value.slice none 0 0].toList 8 = some ([.nil, .nil], [], places) :=
  ⟨[], by kernel_rfl⟩
set_option maxRecDepth 100000 in
theorem lifted (os : Os) (started : os.Started) (H : Type) (enc : TypeId × Value → H) (F : Stop.Interp) :
    ReturnsInHanded {} Tryz.checked os 3 .any ((OpenSpec.ofChange Rows.fnWaterSpec).preRow enc Tryz.prog Tryz.f3 Rows.fnWaterRow.domain false Rows.fnWaterRow.laid) (((OpenSpec.ofChange Rows.fnWaterSpec).at F).post enc Tryz.prog Tryz.f3 false true false false) := by
  obtain ⟨places, hx⟩ := reads os enc
  refine returnsInHanded_of_row (C := Tryz.checked) (s := OpenSpec.ofChange Rows.fnWaterSpec) own started (by kernel_rfl) Tryz.func3
    (witness_row_at (enc := enc) (C := Tryz.checked) false (laidWorld os) #[.slice none 0 0, .slice none 0 0] rfl (by kernel_rfl) (by kernel_rfl) (by kernel_rfl)
      (OpenSpec.preRow_of_cond 8 hx (by kernel_rfl) (fun k hk => by cases hk) (by kernel_rfl) (laid_met os))) ?_
  intro W base args ds gs before hval hW _ _ _ hL hsh _
  exact contract H enc W base args ds gs before hval hW hsh hL
theorem said : Rows.FnWaterSaid :=
  OpenClaim.holds_of_cond 3 Tryz.f3 rfl rfl rfl rfl rfl rfl rfl ⟨rfl, rfl, rfl, rfl, rfl⟩ rfl rfl rfl rfl rfl (by kernel_rfl) Tryz.func3 (by kernel_rfl)
    (of_decide_eq_true (by kernel_rfl)) (by unfold Func.isWrapper; first | (rw [if_pos (by decide +kernel)]; kernel_rfl) | (rw [if_neg (by decide +kernel)]; exact ⟨rfl, rfl⟩))
    (fun os started H enc _ F => by rw [OpenClaim.pre_eq_preRow]; exact lifted os started H enc F)
theorem bare (f : FuncId) (fn : Func) (hf : Tryz.pinned.checked.prog.funcNamed Rows.fnWaterRow.func = some f) (hfn : Tryz.pinned.checked.prog.funcs[f]? = some fn) :
    true = Tryz.pinned.checked.prog.looks [] ∧ ∀ (j : Nat) t, fn.params[j]? = some t → Tryz.pinned.checked.prog.wantsStandIn t = false := by
  obtain rfl : f = 3 := Option.some.inj ((show Tryz.prog.funcNamed Rows.fnWaterRow.func = some 3 by kernel_rfl).symm.trans hf) |>.symm
  obtain rfl : fn = Tryz.f3 := (Option.some.inj (Tryz.func3.symm.trans hfn)).symm
  refine ⟨by kernel_rfl, fun j t ht => ?_⟩
  rw [Tryz.params3] at ht
  obtain rfl : t = 22 := by simpa using Array.mem_of_getElem? ht
  exact (show Tryz.prog.wantsStandIn 22 = false by kernel_rfl)
theorem proved : Rows.FnWaterCardSaid :=
  Claim7.holds_tied_plain_at .later [] _ _ _ _ said (fun _ h => by cases h) (by kernel_rfl) (fun _ h => by cases h) fnWater_row_tie rfl ⟨rfl, rfl⟩ (by kernel_rfl) rfl bare (by kernel_rfl)
end Go.Proofs.YtccdbfmfdhhgfaaGreatDoor
