/- For every input the call of FnExactMillText returns true, and each argument reads afterwards as it read before; there is no condition. -/
import Derived.Test.YtccdbfmfdhhgfaaDoorWFnExactMillText
import Derived.Test.YtccdbfmfdhhgfaaDoorSxS
import Derived.Test.YtccdbfmfdhhgfaaDoorSxV
import Derived.Test.YtccdbfmfdhhgfaaDoorSxW
import Derived.Test.YtccdbfmfdhhgfaaDoorCards
import Derived.Test.YtccdbfmfdhhgfaaDoorTie
import Derived.WalkKit
import Derived.ProofKit
import Derived.OpenShut
import Derived.ShutString
import Derived.ChangeOld
import Derived.Below
import Derived.Carry
import Derived.HandedShaped
import Derived.Deep.DeepHandedRow
import Derived.Lib.LaidTab
import Derived.Shelf.Vars
import Derived.Lib.LaidU8
import Derived.Lib.DecodeN
namespace Go.Proofs.YtccdbfmfdhhgfaaDoor
open Go Go.RowKit Sx
open Go.ChangeShapes Go.WideShapes Go.ChangeAt
set_option linter.unusedVariables false
set_option linter.unusedSimpArgs false
set_option maxRecDepth 100000

theorem within_eq (x y z : Int) : impl_within x y z = spec_l00In x y z := by
  simp only [impl_within, impl_within.t, spec_l00In, spec_l00In.t, T.val, ge_iff_le]

-- lies in the core (SxQ)

theorem length_eq (x : Nat) : impl_IsLength x = spec_l03Length x := by
  simp only [impl_IsLength, impl_IsLength.t, impl_between, impl_between.t, spec_l03Length, spec_l03Length.t, T.val, fge_flip]

theorem vmill_eq (x0 : Int) (x1 x2 : Nat) : impl_ValidMill x0 x1 x2 = spec_l03Mill x0 x1 x2 := by
  simp only [impl_ValidMill, impl_ValidMill.t, spec_l03Mill, spec_l03Mill.t, T.val, within_eq, length_eq]
theorem length_pos {x : Nat} (h : spec_l03Length x = true) : isNaN .f32 x = false ∧ ∀ s e, FloatKind.f32.format.read x ≠ .number s 0 e := by
  simp only [spec_l03Length, spec_l03Length.t, T.val, fge_flip] at h
  cases h1 : fle .f32 1031798784 x with
  | false => rw [h1] at h; cases h
  | true => exact pos_of_le (show FloatKind.f32.format.read 1031798784 = .number false 8388608 (-27) by kernel_rfl) (by omega) h1
theorem mill_pos {x0 : Int} {x1 x2 : Nat} (h : spec_l03Mill x0 x1 x2 = true) : isNaN .f32 x1 = false ∧ ∀ s e, FloatKind.f32.format.read x1 ≠ .number s 0 e := by
  refine length_pos ?_
  simp only [spec_l03Mill, spec_l03Mill.t, T.val] at h
  generalize spec_l00In (IntKind.wrap .i64 x0) 4 48 = p at h
  generalize spec_l03Length x1 = q at h ⊢
  cases p <;> cases q <;> first | rfl | cases h

/-- A hexadecimal digit. -/
def dg (n : Nat) : Int := byteAt (ByteArray.mk #[48, 49, 50, 51, 52, 53, 54, 55, 56, 57, 97, 98, 99, 100, 101, 102]) (n : Int)
def hexL (x : Nat) : List Int := [dg (x / 268435456 % 16), dg (x / 16777216 % 16), dg (x / 1048576 % 16), dg (x / 65536 % 16), dg (x / 4096 % 16), dg (x / 256 % 16), dg (x / 16 % 16), dg (x % 16)]
/-- The text of a number's word. -/
def hexT (x : Nat) : ByteArray := Sx.strOf (hexL x)
theorem strOf_size : ∀ (xs : List Int) (b : ByteArray), (xs.foldl (fun r n => r.push (UInt8.ofNat n.toNat)) b).size = b.size + xs.length
  | [], b => rfl
  | x :: r, b => by
    rw [List.foldl_cons, strOf_size r, ByteArray.size_push, List.length_cons]
    omega
theorem hexT_size (x : Nat) : (hexT x).size = 8 := by
  unfold hexT Sx.strOf
  rw [strOf_size]
  rfl
theorem wrapu32 {n : Nat} (h : n < 4294967296) : IntKind.wrap .u32 (n : Int) = n := by
  have : IntKind.wrap .u32 (n : Int) = (n : Int) % 4294967296 := rfl
  rw [this]
  omega
theorem ibits15 (n : Nat) (h : n < 4294967296) : ibits .and .u32 (n : Int) 15 = ((n % 16 : Nat) : Int) := by
  have e : (BitVec.ofInt 32 (n : Int) &&& BitVec.ofInt 32 15).toNat = n % 16 := by
    rw [BitVec.toNat_and]
    have e1 : (BitVec.ofInt 32 (n : Int)).toNat = n := by simp; omega
    have e2 : (BitVec.ofInt 32 15).toNat = 2 ^ 4 - 1 := by decide
    rw [e1, e2, Nat.and_two_pow_sub_one_eq_mod]
  show IntKind.wrap .u32 (((BitVec.ofInt 32 (n : Int) &&& BitVec.ofInt 32 15).toNat : Nat) : Int) = _
  rw [e]
  exact wrapu32 (by omega)
theorem bound16 (n : Nat) (h : n < 16) : bounds (n : Int) (ByteArray.size (ByteArray.mk #[48, 49, 50, 51, 52, 53, 54, 55, 56, 57, 97, 98, 99, 100, 101, 102])) = true := by
  have e : ByteArray.size (ByteArray.mk #[48, 49, 50, 51, 52, 53, 54, 55, 56, 57, 97, 98, 99, 100, 101, 102]) = 16 := rfl
  rw [e, bounds_nat, decide_eq_true h]

/-- What is left of a number behind j digits. -/
def rest16 (x : Nat) : Nat → Nat
  | 0 => x
  | j + 1 => rest16 x j / 16
def specG (x : Nat) : Nat → List Int
  | 0 => List.replicate 8 0
  | j + 1 => (specG x j).set (7 - j) (dg (rest16 x j % 16))
theorem specG_len (x : Nat) : ∀ j, (specG x j).length = 8
  | 0 => rfl
  | j + 1 => by
    show ((specG x j).set _ _).length = 8
    rw [List.length_set, specG_len x j]
theorem rest16_lt {x : Nat} (h : x < 4294967296) : ∀ j, rest16 x j < 4294967296
  | 0 => h
  | j + 1 => Nat.lt_of_le_of_lt (Nat.div_le_self _ _) (rest16_lt h j)
theorem wrap_pred {i : Nat} (h : i < 100) : IntKind.wrap .i64 ((i : Int) - 1) = (i : Int) - 1 := wrap64 (by omega) (by omega)
theorem specG_8 (x : Nat) : specG x 8 = hexL x := by
  have d : ∀ a, a / 16 / 16 = a / 256 ∧ a / 256 / 16 = a / 4096 ∧ a / 4096 / 16 = a / 65536 ∧ a / 65536 / 16 = a / 1048576 ∧ a / 1048576 / 16 = a / 16777216 ∧ a / 16777216 / 16 = a / 268435456 := fun a => by
    simp only [Nat.div_div_eq_div_mul, and_self]
  obtain ⟨d1, d2, d3, d4, d5, d6⟩ := d x
  simp only [specG, rest16, hexL, d1, d2, d3, d4, d5, d6]
  rfl
theorem spec_r (x : Nat) (h : x < 4294967296) : spec_l01Hex.l4.r 8 ((x : Int), (7 : Int), List.replicate ((Int.toNat (8 : Int)) * 1) 0) = some (hexL x) := by
  have hf := iter_run (step := spec_l01Hex.l4.st 8) (f := fun j => ((rest16 x j : Nat), (7 : Int) - (j : Int), specG x j)) (e := specG x 8) (n := 8) (N := manyRounds) (k := 0) (many_lt (by omega)) (fun j hj => ?_) ?_
  · rw [specG_8] at hf
    exact hf
  · simp only [Nat.zero_add]
    have hr := rest16_lt h j
    have e1 : Int.tmod ((rest16 x j : Nat) : Int) 16 = ((rest16 x j % 16 : Nat) : Int) := by rw [show (16 : Int) = ((16 : Nat) : Int) from rfl, Int.ofNat_tmod]
    have e2 : Int.tdiv ((rest16 x j : Nat) : Int) 16 = ((rest16 x j / 16 : Nat) : Int) := by rw [show (16 : Int) = ((16 : Nat) : Int) from rfl, Int.ofNat_tdiv]
    have e3 : (7 : Int) - (j : Int) = ((7 - j : Nat) : Int) := by omega
    have e4 : IntKind.wrap .i64 (((7 - j : Nat) : Int) - 1) = (7 : Int) - ((j + 1 : Nat) : Int) := by rw [wrap_pred (by omega)]; omega
    simp only [spec_l01Hex.l4.st, spec_l01Hex.l4.s, T.get, e1, e2, e3, e4, bound16 _ (Nat.mod_lt _ (by omega : 0 < 16)), wrapu32 (Nat.lt_of_le_of_lt (Nat.div_le_self _ 16) hr), bounds_nat, ble_decide, Int.toNat_natCast, Nat.mul_one, specG_len]
    rw [decide_eq_true (by omega : ((7 - j : Nat) : Int) ≥ 0), decide_eq_true (by omega : 7 - j < 8), decide_eq_true (by omega : 7 - j + 1 ≤ 8)]
    rfl
  · simp only [Nat.zero_add]
    rfl
theorem spec_hex (x : Nat) (h : x < 4294967296) (hn : isNaN .f32 x = false) : (spec_l01Hex.t x).get = some (hexT x) := by
  have hb : (spec_l01Bits.t x).get = some (x : Int) := by
    simp only [spec_l01Bits.t, T.get, fne_self, hn]
    rfl
  simp only [spec_l01Hex.t, T.get, show spec_l01Bits.ok x = true from T.ok_of_get (hb), show spec_l01Bits x = _ from T.val_of_get (hb), spec_r x h]
  rfl

def implH (x : Nat) : Nat → List Int
  | 0 => []
  | j + 1 => implH x j ++ [dg (x / 2 ^ (28 - 4 * j) % 16)]
theorem implH_len (x : Nat) : ∀ j, (implH x j).length = j
  | 0 => rfl
  | j + 1 => by
    show (implH x j ++ _).length = _
    rw [List.length_append, implH_len x j]
    rfl
theorem implH_8 (x : Nat) : implH x 8 = hexL x := by
  have e : implH x 8 = [dg (x / 2 ^ 28 % 16), dg (x / 2 ^ 24 % 16), dg (x / 2 ^ 20 % 16), dg (x / 2 ^ 16 % 16), dg (x / 2 ^ 12 % 16), dg (x / 2 ^ 8 % 16), dg (x / 2 ^ 4 % 16), dg (x / 2 ^ 0 % 16)] := rfl
  rw [e]
  unfold hexL
  rw [show (2 : Nat) ^ 28 = 268435456 by decide, show (2 : Nat) ^ 24 = 16777216 by decide, show (2 : Nat) ^ 20 = 1048576 by decide, show (2 : Nat) ^ 16 = 65536 by decide, show (2 : Nat) ^ 12 = 4096 by decide, show (2 : Nat) ^ 8 = 256 by decide, show (2 : Nat) ^ 4 = 16 by decide, show (2 : Nat) ^ 0 = 1 by decide, Nat.div_one]
theorem impl_r (x : Nat) (h : x < 4294967296) : impl_NumberText.l5v1.r (x : Int) (0, (28 : Int), []) = some (8, hexL x) := by
  have hf := iter_run (step := impl_NumberText.l5v1.st (x : Int)) (f := fun j => (j, (28 : Int) - 4 * (j : Int), implH x j)) (e := (8, implH x 8)) (n := 8) (N := manyRounds) (k := 0) (many_lt (by omega)) (fun j hj => ?_) ?_
  · rw [implH_8] at hf
    exact hf
  · simp only [Nat.zero_add]
    have e0 : (28 : Int) - 4 * (j : Int) = ((28 - 4 * j : Nat) : Int) := by omega
    have e1 : min (28 - 4 * j) 32 = 28 - 4 * j := by omega
    have e2 : Int.fdiv (x : Int) (2 ^ (28 - 4 * j)) = ((x / 2 ^ (28 - 4 * j) : Nat) : Int) := by
      rw [Int.fdiv_eq_ediv_of_nonneg _ (Int.pow_nonneg (by decide)), Int.natCast_ediv, Int.natCast_pow]
      rfl
    have e4 : IntKind.wrap .i64 (((28 - 4 * j : Nat) : Int) - 4) = (28 : Int) - 4 * ((j + 1 : Nat) : Int) := by rw [wrap64 (by omega) (by omega)]; omega
    have hc : ∀ y : Int, (Nat.ble 1 (List.length [y]) && (Nat.beq (List.length (implH x j)) (j * 1) && Nat.ble ((j + 1) * 1) 35184372088832 && Nat.ble (j + 1) 35184372088832)) = true := fun y => by
      rw [implH_len, Nat.mul_one, Nat.mul_one, Nat.beq_refl, ble_decide, ble_decide, decide_eq_true (by simp : 1 ≤ List.length [y]), decide_eq_true (by omega : j + 1 ≤ 35184372088832)]
      rfl
    simp only [impl_NumberText.l5v1.st, impl_NumberText.l5v1.s, T.get, e0, e4, Int.toNat_natCast, e1, e2, ibits15 _ (Nat.lt_of_le_of_lt (Nat.div_le_self _ _) h), bound16 _ (Nat.mod_lt _ (by omega : 0 < 16)), hc]
    rw [decide_eq_true (by omega : ((28 - 4 * j : Nat) : Int) ≥ 0), decide_eq_false (by omega : ¬ ((28 - 4 * j : Nat) : Int) < 0)]
    rfl
  · simp only [Nat.zero_add]
    rfl
theorem impl_hex (x : Nat) (h : x < 4294967296) (hn : isNaN .f32 x = false) : (impl_NumberText.t x).get = some (hexT x) := by
  have hlen : (hexL x).length = 8 := rfl
  simp only [impl_NumberText.t, T.get, fne_self, hn, impl_r x h, Option.isSome_some, Option.getD_some, hlen]
  rfl

theorem strOf_data : ∀ (xs : List Int) (b : ByteArray), (xs.foldl (fun r n => r.push (UInt8.ofNat n.toNat)) b).data.toList = b.data.toList ++ xs.map (fun n => UInt8.ofNat n.toNat)
  | [], b => by simp
  | x :: r, b => by
    rw [List.foldl_cons, strOf_data r]
    simp [ByteArray.push]
theorem wrapu8 {n : Nat} (h : n < 256) : IntKind.wrap .u8 (n : Int) = n := by
  have : IntKind.wrap .u8 (n : Int) = (n : Int) % 256 := rfl
  rw [this]
  omega
/-- The text of one digit. -/
def b1 (k : Nat) : ByteArray := Sx.strOf [((48 + k : Nat) : Int)]
theorem b1_data (k : Nat) : (b1 k).data.toList = [UInt8.ofNat (48 + k)] := by
  unfold b1 Sx.strOf
  rw [strOf_data]
  show [UInt8.ofNat (Int.toNat ((48 + k : Nat) : Int))] = _
  rw [Int.toNat_natCast]
theorem b1_size (k : Nat) : (b1 k).size = 1 := by
  have h : (b1 k).data.toList.length = 1 := by rw [b1_data]; rfl
  exact h
theorem dig_wrap {k : Nat} (h : k < 10) : IntKind.wrap .u8 (IntKind.wrap .i64 ((48 : Int) + (k : Int))) = ((48 + k : Nat) : Int) := by
  have e : (48 : Int) + (k : Int) = ((48 + k : Nat) : Int) := by omega
  rw [e, wrap64_nat (by omega), wrapu8 (by omega)]
theorem dec1_t (k : Nat) (h : k < 10) : (spec_Decimal_w1.t (k : Int)).get = some (b1 k) := by
  simp only [spec_Decimal_w1.t, T.get, dig_wrap h]
  rw [decide_eq_false (by omega : ¬ (k : Int) ≥ 10)]
  rfl
theorem dec_t (n : Nat) (h : n < 100) : (spec_Decimal.t (n : Int)).get = some (decB n) := by
  by_cases h10 : n < 10
  · have e : decB (n : Int) = b1 n := by
      refine ByteArray.ext (Array.ext' ?_)
      rw [b1_data]
      unfold decB
      rw [Int.toNat_natCast, Go.Lib.decDigits, dif_pos h10]
    simp only [spec_Decimal.t, T.get, dig_wrap h10]
    rw [decide_eq_false (by omega : ¬ (n : Int) ≥ 10), e]
    rfl
  · have e1 : Int.tdiv (n : Int) 10 = ((n / 10 : Nat) : Int) := by rw [show (10 : Int) = ((10 : Nat) : Int) from rfl, Int.ofNat_tdiv]
    have e2 : Int.tmod (n : Int) 10 = ((n % 10 : Nat) : Int) := by rw [show (10 : Int) = ((10 : Nat) : Int) from rfl, Int.ofNat_tmod]
    have hd := dec1_t (n / 10) (by omega)
    have e : decB (n : Int) = b1 (n / 10) ++ b1 (n % 10) := by
      refine ByteArray.ext (Array.ext' ?_)
      rw [ByteArray.data_append, Array.toList_append, b1_data, b1_data]
      unfold decB
      rw [Int.toNat_natCast, Go.Lib.decDigits, dif_neg h10, Go.Lib.decDigits, dif_pos (by omega : n / 10 < 10)]
    have hb : ∀ k : Nat, Sx.strOf (List.take 1 [((48 + k : Nat) : Int)]) = b1 k := fun k => rfl
    simp only [spec_Decimal.t, T.get, e1, e2, wrap64_nat (show n / 10 < 9223372036854775808 by omega), dig_wrap (Nat.mod_lt n (by omega : 0 < 10)), show spec_Decimal_w1.ok ((n / 10 : Nat) : Int) = true from T.ok_of_get (hd), show spec_Decimal_w1 ((n / 10 : Nat) : Int) = _ from T.val_of_get (hd), hb, b1_size]
    rw [decide_eq_true (by omega : (n : Int) ≥ 10), e]
    rfl
theorem decB_size (n : Nat) (h : n < 100) : (decB (n : Int)).size ≤ 2 := by
  show (Go.Lib.decDigits (Int.toNat (n : Int))).length ≤ 2
  rw [Int.toNat_natCast, Go.Lib.decDigits]
  split
  · simp
  · rw [Go.Lib.decDigits, dif_pos (by omega : n / 10 < 10)]
    simp
theorem seq_refl (x : ByteArray) : seq? x x = true := by
  unfold seq?
  exact beq_self_eq_true _
theorem ge_num {x c : Nat} (h : fge .f32 x c = true) : isNaN .f32 x = false := by
  cases hn : isNaN .f32 x with
  | false => rfl
  | true =>
    have ho : FloatKind.f32.format.order x c = none := by
      have h1 : (FloatKind.f32.format.read x).isNaN = true := hn
      unfold Ieee.Format.order
      cases hx : FloatKind.f32.format.read x with
      | nan s t => rfl
      | infinity s => rw [hx] at h1; cases h1
      | number s m e => rw [hx] at h1; cases h1
    unfold fge at h
    rw [ho] at h
    cases h
theorem length_num {x : Nat} (h : spec_l03Length x = true) : isNaN .f32 x = false := by
  simp only [spec_l03Length, spec_l03Length.t, T.val] at h
  cases h1 : fge .f32 x 1031798784 with
  | false => rw [h1] at h; cases h
  | true => exact ge_num h1
section
variable (n a b : Nat) (hn : n < 100) (ha : a < 4294967296) (hb : b < 4294967296) (na : isNaN .f32 a = false) (nb : isNaN .f32 b = false)
include ha hb na nb
theorem texts_r : impl_texts.l3.r (ByteArray.mk #[58], 2, ((2 : Nat) : Int), [a, b]) (0, (0 : Int), []) = some (2, [hexT a, hexT b]) := by
  have hf := iter_run (step := impl_texts.l3.st (ByteArray.mk #[58], 2, ((2 : Nat) : Int), [a, b])) (f := fun j => match j with | 0 => (0, (0 : Int), []) | 1 => (1, (1 : Int), [hexT a]) | _ => (2, (2 : Int), [hexT a, hexT b])) (e := (2, [hexT a, hexT b])) (n := 2) (N := manyRounds) (k := 0) (many_lt (by omega)) (fun j hj => ?_) ?_
  · exact hf
  · have g0 : List.getD [a, b] (Int.toNat 0 * 1) 0 = a := rfl
    have g1 : List.getD [a, b] (Int.toNat 1 * 1) 0 = b := rfl
    match j, hj with
    | 0, _ =>
      simp only [impl_texts.l3.st, impl_texts.l3.s, T.get, g0, show impl_NumberText.ok a = true from T.ok_of_get (impl_hex a ha na), show impl_NumberText a = _ from T.val_of_get (impl_hex a ha na)]
      rfl
    | 1, _ =>
      simp only [impl_texts.l3.st, impl_texts.l3.s, T.get, g1, show impl_NumberText.ok b = true from T.ok_of_get (impl_hex b hb nb), show impl_NumberText b = _ from T.val_of_get (impl_hex b hb nb)]
      rfl
  · rfl
theorem impl_text : (impl_texts.t (ByteArray.mk #[58]) 2 [a, b]).get = some ((hexT a ++ ByteArray.mk #[58]) ++ hexT b) := by
  have hl : ∀ x, (hexT x).data.toList.length = 8 := fun x => hexT_size x
  have hj : joinOk [hexT a, hexT b] 2 (ByteArray.mk #[58]) = true := by
    unfold joinOk
    have e : (Lib.join ([hexT a, hexT b].map (·.data.toList)) (ByteArray.mk #[58]).data.toList).length = 17 := by
      simp [Lib.join, List.intercalate, List.intersperse, hl]
    rw [e]
    rfl
  have ht : joinB [hexT a, hexT b] (ByteArray.mk #[58]) = (hexT a ++ ByteArray.mk #[58]) ++ hexT b := by
    refine ByteArray.ext (Array.ext' ?_)
    simp [joinB, Lib.join, List.intercalate, List.intersperse, ByteArray.data_append]
  simp only [impl_texts.t, T.get, texts_r a b ha hb na nb, Option.isSome_some, Option.getD_some, hj, ht]
  rfl
end
theorem max_gt : ∀ n : Nat, n ≤ 100 → decide (((n : Nat) : Int) > IntKind.max .i64) = false := fun n hn => decide_eq_false (by
  have : IntKind.max .i64 = 9223372036854775807 := rfl
  omega)
theorem key_t (n : Int) (a b : Nat) (ha : a < 4294967296) (hb : b < 4294967296) (h0 : -32768 ≤ n) (h1 : n ≤ 32767) : ∃ r, (spec_MillText.t n a b).get = some r ∧ (impl_MillText.t n a b).get = some r := by
  have hw : IntKind.wrap .i64 n = n := wrap64 (by omega) (by omega)
  simp only [spec_MillText.t, impl_MillText.t, T.get, vmill_eq, hw]
  cases hok : spec_l03Mill n a b with
  | false => exact ⟨_, rfl, rfl⟩
  | true =>
    have hk := hok
    simp only [spec_l03Mill, spec_l03Mill.t, spec_l00In, spec_l00In.t, T.val, hw] at hk
    cases hlo : decide (n ≥ 4) with
    | false => rw [hlo] at hk; cases hk
    | true =>
      cases hhi : decide (n ≤ 48) with
      | false => rw [hlo, hhi] at hk; cases hk
      | true =>
        rw [hlo, hhi] at hk
        cases hla : spec_l03Length a with
        | false => rw [hla] at hk; cases hk
        | true =>
          rw [hla] at hk
          have hlb : spec_l03Length b = true := hk
          have na := length_num hla
          have nb := length_num hlb
          simp only [decide_eq_true_eq] at hlo hhi
          obtain ⟨k, rfl⟩ : ∃ k : Nat, n = k := ⟨n.toNat, by omega⟩
          have hk100 : k < 100 := by omega
          have hd := dec_t k hk100
          have hi : (impl_decimal.t (k : Int)).get = some (decB (k : Int)) := by
            simp only [impl_decimal.t, T.get]
            rw [decide_eq_true (by omega : 0 ≤ (k : Int)), decide_eq_true (by omega : (k : Int) < 100)]
            rfl
          have hs : ByteArray.size (ByteArray.mk #[58]) = 1 := rfl
          have hz := decB_size k hk100
          have ht := impl_text a b ha hb na nb
          have htx : (spec_l03Text.t (k : Int) a b).get = some ((((decB (k : Int) ++ ByteArray.mk #[58]) ++ hexT a) ++ ByteArray.mk #[58]) ++ hexT b) := by
            simp only [spec_l03Text.t, T.get, hw, show spec_Decimal.ok (k : Int) = true from T.ok_of_get (hd), show spec_Decimal (k : Int) = _ from T.val_of_get (hd), show spec_l01Hex.ok a = true from T.ok_of_get (spec_hex a ha na), show spec_l01Hex a = _ from T.val_of_get (spec_hex a ha na), show spec_l01Hex.ok b = true from T.ok_of_get (spec_hex b hb nb), show spec_l01Hex b = _ from T.val_of_get (spec_hex b hb nb), ByteArray.size_append, hexT_size, hs]
            rw [max_gt _ (by omega), max_gt _ (by omega), max_gt _ (by omega), max_gt _ (by omega)]
            rfl
          simp only [show spec_l03Text.ok (k : Int) a b = true from T.ok_of_get (htx), show spec_l03Text (k : Int) a b = _ from T.val_of_get (htx), show impl_decimal.ok (k : Int) = true from T.ok_of_get (hi), show impl_decimal (k : Int) = _ from T.val_of_get (hi), show impl_texts.ok (ByteArray.mk #[58]) 2 [a, b] = true from T.ok_of_get (ht), show impl_texts (ByteArray.mk #[58]) 2 [a, b] = _ from T.val_of_get (ht), ByteArray.size_append, hexT_size, hs]
          rw [max_gt _ (by omega), max_gt _ (by omega)]
          have e : (decB (k : Int) ++ ByteArray.mk #[58]) ++ ((hexT a ++ ByteArray.mk #[58]) ++ hexT b) = (((decB (k : Int) ++ ByteArray.mk #[58]) ++ hexT a) ++ ByteArray.mk #[58]) ++ hexT b := by
            refine ByteArray.ext (Array.ext' ?_)
            simp [ByteArray.data_append]
          rw [e]
          exact ⟨_, rfl, rfl⟩
theorem mill_same (n : Int) (a b : Nat) : laws_toMill n a b = (n, a, b) := rfl
theorem law_holds (n : Int) (a b : Nat) (FACTS : IntKind.min .i16 ≤ n ∧ n ≤ IntKind.max .i16) (ha : flHas .f32 a) (hb : flHas .f32 b) : (laws_FnExactMillText.t n a b).get = some true := by
  have hn := FACTS
  have m1 : IntKind.min .i16 = -32768 := rfl
  have m2 : IntKind.max .i16 = 32767 := rfl
  obtain ⟨r, h1, h2⟩ := key_t n a b ha hb (by omega) (by omega)
  simp only [laws_FnExactMillText.t, T.get, mill_same, show spec_MillText.ok n a b = true from T.ok_of_get (h1), show spec_MillText n a b = _ from T.val_of_get (h1), show impl_MillText.ok n a b = true from T.ok_of_get (h2), show impl_MillText n a b = _ from T.val_of_get (h2), seq_refl]
  rfl

theorem law_plain (x0_0 : Int) (x0_1 : Nat) (x0_2 : Nat) (f0_0 : (IntKind.min .i16 ≤ x0_0 ∧ x0_0 ≤ IntKind.max .i16)) (f0_1 : flHas .f32 x0_1) (f0_2 : flHas .f32 x0_2) : (laws_FnExactMillText.tr (x0_0, x0_1, x0_2)).get = some true := law_holds x0_0 x0_1 x0_2 f0_0 f0_1 f0_2
theorem own : ownKnob Tryd.prog.godebug = none := by kernel_rfl
theorem laidOut : laidOutB Tryd.prog = true := by kernel_rfl
/-- What the walk gives, for every argument and every world. -/
theorem contract (H : Type) (enc : TypeId × Value → H) (W : World) (base : Nat) (args : Array Value) (ds gs : List (DataW H)) (before : List MemPlace)
    (hval0 : ∀ (j : Nat) t v, Tryd.f3.params[j]? = some t → args[j]? = some v → Value.okWide Tryd.prog W .any base t v)
    (hW : DataW.Whole enc Tryd.prog Tryd.f3.params.toList Rows.fnExactMillTextSpec.vars false W args.toList ds gs before) (hsh : W.ShapedOpen Tryd.prog) :
    Calls Tryd.prog 3 args W fun e W' => ∃ v, e = .returned v ∧ Rows.fnExactMillTextSpec.post enc Tryd.prog Tryd.f3 false true false false W args v W' := by
  have hval : ∀ (j : Nat) t v, Tryd.f3.params[j]? = some t → args[j]? = some v → Value.okWide Tryd.prog W .any base t v := hval0
  have hW' := hW
  obtain ⟨p, q, hA0, hV, rfl, hfz, hnd⟩ := hW
  have hA : DataW.TrodAll enc Tryd.prog W 0 (fun _ => true) true Tryd.f3.params.toList args.toList ds p := hA0
  rw [Tryd.params3] at hA hval
  obtain ⟨v0, vs0, d0, ds0, p0, q0, hargs, rfl, rfl, h0, rr0⟩ := trodAll_cons hA
  obtain ⟨rfl, rfl, rfl⟩ := trodAll_nil rr0
  obtain rfl : args = #[v0] := by cases args; simp_all
  obtain ⟨rfl, rfl⟩ := trodVars_none hV
  have k0 := h0
  have lt0 : ∀ x ∈ p0, x.block < W.heap.size := by obtain ⟨m, hm⟩ := k0; exact DataW.trod_lt m _ _ _ hm
  obtain ⟨cs0, rfl, hc0⟩ := open_row (ts := [22, 23, 23]) Tryd.underlying25 rfl (by kernel_rfl) (by kernel_rfl) (hval 0 25 v0 rfl rfl)
  obtain ⟨u0_0, m0_0, e0, g0_0, hc0⟩ := hc0
  obtain ⟨x0_0, r0_0, f0_0⟩ := sc_it Tryd.underlying22 g0_0
  obtain ⟨u0_1, m0_1, rfl, g0_1, hc0⟩ := hc0
  obtain ⟨x0_1, r0_1, f0_1⟩ := sc_fl Tryd.underlying23 g0_1
  obtain ⟨u0_2, m0_2, rfl, g0_2, hc0⟩ := hc0
  obtain ⟨x0_2, r0_2, f0_2⟩ := sc_fl Tryd.underlying23 g0_2
  obtain rfl := hc0
  clear hA0 hval0
  refine (laws_FnExactMillText.walk (x0_0, x0_1, x0_2) (law_plain x0_0 x0_1 x0_2 f0_0 f0_1 f0_2) (ρ := fun i => (lget ([] : List (Sx.Loc × Blk)) i).map (·.1)) (Rs_cons' (agg_R (by rw [e0]; exact (Rs_cons' (r0_0 _) (Rs_cons' (r0_1 _) (Rs_cons' (r0_2 _) Rs_nil'))))) Rs_nil') (HpR.ofBl [] (List.forall_mem_nil _))).mono fun e W' ⟨he, bel⟩ => ?_
  subst he
  exact ⟨_, rfl, _, _, _, [], _, [], hW', trodAll_mk1 (shut_bool Tryd.underlying4 _), (trodAll_cons_mk (Below.trod laidOut (by kernel_rfl) (of_decide_eq_true (by kernel_rfl)) k0 bel lt0) trodAll_mk0), rfl, bel.frame _, fun h => by cases h⟩
/-- A world for the witness: the settled one, the two tables holding what their initialisers lay. -/
noncomputable def laidWorld (os : Os) : World :=
  let w0 := World.holding Tryd.prog os ⟨#[], #[], []⟩
  let put (h : Array Obj) (g : Nat) (cs : Array Value) : Array Obj := h.modify g fun
    | .cells _ t frozen => .cells cs t frozen
    | o => o
  let h1 := put w0.heap 7 (dataCells 4 (Rows.laid_math_bits_deBruijn32tab (H := Unit))).toArray
  let h2 := put h1 8 (dataCells 4 (Rows.laid_math_bits_deBruijn64tab (H := Unit))).toArray
  let h3 := put h2 1 (dataCells 4 (Rows.laid_internal_strconv_uint64pow10 (H := Unit))).toArray
  { w0 with heap := h3 }
theorem laid_met (os : Os) : laidMet Tryd.prog Rows.fnExactMillTextRow.laid ((laidWorld os).forCall (fun _ _ => 0) ⟨#[], #[.agg #[.int .i16 0, .float .f32 0, .float .f32 0]], []⟩).memory :=
  laidMet_of_run' 8 (by kernel_rfl) (by kernel_rfl)
theorem reads (os : Os) {H : Type} (enc : TypeId × Value → H) : ∃ places, DataW.whole enc Tryd.prog ((laidWorld os).forCall (fun _ _ => 0) ⟨#[], #[.agg #[.int .i16 0, .float .f32 0, .float .f32 0]], []⟩).memory Tryd.f3.params.toList Rows.fnExactMillTextSpec.vars false #[Value.agg #[.int .i16 0, .float .f32 0, .float .f32 0]].toList 8 = some ([.agg [.lit (.int .i16 0), .lit (.float .f32 0), .lit (.float .f32 0)]], [], places) :=
  ⟨[], by kernel_rfl⟩
set_option maxRecDepth 100000 in
theorem lifted (os : Os) (started : os.Started) (H : Type) (enc : TypeId × Value → H) (F : Stop.Interp) :
    ReturnsInHanded {} Tryd.checked os 3 .any ((OpenSpec.ofChange Rows.fnExactMillTextSpec).preRow enc Tryd.prog Tryd.f3 Rows.fnExactMillTextRow.domain false Rows.fnExactMillTextRow.laid) (((OpenSpec.ofChange Rows.fnExactMillTextSpec).at F).post enc Tryd.prog Tryd.f3 false true false false) := by
  obtain ⟨places, hx⟩ := reads os enc
  refine returnsInHanded_of_row (C := Tryd.checked) (s := OpenSpec.ofChange Rows.fnExactMillTextSpec) own started (by kernel_rfl) Tryd.func3
    (witness_row_at (enc := enc) (C := Tryd.checked) false (laidWorld os) #[.agg #[.int .i16 0, .float .f32 0, .float .f32 0]] rfl (by kernel_rfl) (by kernel_rfl) (by kernel_rfl)
      (OpenSpec.preRow_of_cond 8 hx (by kernel_rfl) (fun k hk => by cases hk) (by kernel_rfl) (laid_met os))) ?_
  intro W base args ds gs before hval hW _ _ _ _ hsh _
  exact contract H enc W base args ds gs before hval hW hsh
theorem said : Rows.FnExactMillTextSaid :=
  OpenClaim.holds_of_cond 3 Tryd.f3 rfl rfl rfl rfl rfl rfl rfl ⟨rfl, rfl, rfl, rfl, rfl⟩ rfl rfl rfl rfl rfl (by kernel_rfl) Tryd.func3 (by kernel_rfl)
    (of_decide_eq_true (by kernel_rfl)) (by unfold Func.isWrapper; first | (rw [if_pos (by decide +kernel)]; kernel_rfl) | (rw [if_neg (by decide +kernel)]; exact ⟨rfl, rfl⟩))
    (fun os started H enc _ F => by rw [OpenClaim.pre_eq_preRow]; exact lifted os started H enc F)
theorem bare (f : FuncId) (fn : Func) (hf : Tryd.pinned.checked.prog.funcNamed Rows.fnExactMillTextRow.func = some f) (hfn : Tryd.pinned.checked.prog.funcs[f]? = some fn) :
    true = Tryd.pinned.checked.prog.looks [] ∧ ∀ (j : Nat) t, fn.params[j]? = some t → Tryd.pinned.checked.prog.wantsStandIn t = false := by
  obtain rfl : f = 3 := Option.some.inj ((show Tryd.prog.funcNamed Rows.fnExactMillTextRow.func = some 3 by kernel_rfl).symm.trans hf) |>.symm
  obtain rfl : fn = Tryd.f3 := (Option.some.inj (Tryd.func3.symm.trans hfn)).symm
  refine ⟨by kernel_rfl, fun j t ht => ?_⟩
  rw [Tryd.params3] at ht
  obtain rfl : t = 25 := by simpa using Array.mem_of_getElem? ht
  exact (show Tryd.prog.wantsStandIn 25 = false by kernel_rfl)
theorem proved : Rows.FnExactMillTextCardSaid :=
  Claim7.holds_tied_plain_at .later [] _ _ _ _ said (fun _ h => by cases h) (by kernel_rfl) (fun _ h => by cases h) fnExactMillText_row_tie rfl ⟨rfl, rfl⟩ (by kernel_rfl) rfl bare (by kernel_rfl)
end Go.Proofs.YtccdbfmfdhhgfaaDoor
