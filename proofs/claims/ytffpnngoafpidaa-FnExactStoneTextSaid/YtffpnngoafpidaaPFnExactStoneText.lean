/- For every input the call of FnExactStoneText returns true, and each argument reads afterwards as it read before; there is no condition. -/
import Derived.Test.YtffpnngoafpidaaWFnExactStoneText
import Derived.Test.YtffpnngoafpidaaSxS
import Derived.Test.YtffpnngoafpidaaRows
import Derived.WalkKit
import Derived.ProofKit
import Derived.OpenShut
import Derived.ShutString
import Derived.ChangeOld
import Derived.Below
import Derived.Carry
import Derived.HandedShaped
namespace Go.Proofs.Ytffpnngoafpidaa
open Go Go.RowKit Sx
open Go.ChangeShapes Go.WideShapes Go.ChangeAt
set_option linter.unusedVariables false
set_option linter.unusedSimpArgs false
set_option maxRecDepth 100000

theorem rate_eq (x : Nat) : impl_IsRate x = spec_l04Rate x := by
  simp only [impl_IsRate, impl_IsRate.t, impl_between, impl_between.t, spec_l04Rate, spec_l04Rate.t, T.val, fge_flip]

theorem part_eq (x : Nat) : impl_IsPart x = spec_l01Part x := by
  simp only [impl_IsPart, impl_IsPart.t, impl_between, impl_between.t, spec_l01Part, spec_l01Part.t, T.val, fge_flip]

theorem stone_eq (x0 x1 x2 x3 : Nat) : laws_toStone x0 x1 x2 x3 = (x0, x1, x2, x3) := rfl
theorem valid_eq (x0 x1 x2 x3 : Nat) : impl_ValidStone x0 x1 x2 x3 = spec_l04Ok x0 x1 x2 x3 := by
  simp only [impl_ValidStone, impl_ValidStone.t, spec_l04Ok, spec_l04Ok.t, T.val, rate_eq, part_eq]

/-- A hexadecimal digit. -/
def dg (n : Nat) : Int := byteAt (ByteArray.mk #[48, 49, 50, 51, 52, 53, 54, 55, 56, 57, 97, 98, 99, 100, 101, 102]) (n : Int)
def hexL (x : Nat) : List Int := [dg (x / 268435456 % 16), dg (x / 16777216 % 16), dg (x / 1048576 % 16), dg (x / 65536 % 16), dg (x / 4096 % 16), dg (x / 256 % 16), dg (x / 16 % 16), dg (x % 16)]
/-- The text of a number's word. -/
def hexT (x : Nat) : ByteArray := Sx.strOf (hexL x)
theorem strOf_size : ∀ (xs : List Int) (b : ByteArray), (xs.foldl (fun r n => r.push (UInt8.ofNat n.toNat)) b).size = b.size + xs.length
  | [], b => rfl
  | x :: r, b => by
    rw [List.foldl_cons, strOf_size r, ByteArray.size_push, List.length_cons]
    omega
theorem hexT_size (x : Nat) : (hexT x).size = 8 := by
  unfold hexT Sx.strOf
  rw [strOf_size]
  rfl
theorem wrapu32 {n : Nat} (h : n < 4294967296) : IntKind.wrap .u32 (n : Int) = n := by
  have : IntKind.wrap .u32 (n : Int) = (n : Int) % 4294967296 := rfl
  rw [this]
  omega
theorem ibits15 (n : Nat) (h : n < 4294967296) : ibits .and .u32 (n : Int) 15 = ((n % 16 : Nat) : Int) := by
  have e : (BitVec.ofInt 32 (n : Int) &&& BitVec.ofInt 32 15).toNat = n % 16 := by
    rw [BitVec.toNat_and]
    have e1 : (BitVec.ofInt 32 (n : Int)).toNat = n := by simp; omega
    have e2 : (BitVec.ofInt 32 15).toNat = 2 ^ 4 - 1 := by decide
    rw [e1, e2, Nat.and_two_pow_sub_one_eq_mod]
  show IntKind.wrap .u32 (((BitVec.ofInt 32 (n : Int) &&& BitVec.ofInt 32 15).toNat : Nat) : Int) = _
  rw [e]
  exact wrapu32 (by omega)
/-- What is left of a number behind j digits. -/
def rest16 (x : Nat) : Nat → Nat
  | 0 => x
  | j + 1 => rest16 x j / 16
def specG (x : Nat) : Nat → List Int
  | 0 => List.replicate 8 0
  | j + 1 => (specG x j).set (7 - j) (dg (rest16 x j % 16))
theorem specG_len (x : Nat) : ∀ j, (specG x j).length = 8
  | 0 => rfl
  | j + 1 => by
    show ((specG x j).set _ _).length = 8
    rw [List.length_set, specG_len x j]
theorem rest16_lt {x : Nat} (h : x < 4294967296) : ∀ j, rest16 x j < 4294967296
  | 0 => h
  | j + 1 => Nat.lt_of_le_of_lt (Nat.div_le_self _ _) (rest16_lt h j)
theorem bound16 (n : Nat) (h : n < 16) : bounds (n : Int) (ByteArray.size (ByteArray.mk #[48, 49, 50, 51, 52, 53, 54, 55, 56, 57, 97, 98, 99, 100, 101, 102])) = true := by
  have e : ByteArray.size (ByteArray.mk #[48, 49, 50, 51, 52, 53, 54, 55, 56, 57, 97, 98, 99, 100, 101, 102]) = 16 := rfl
  rw [e, bounds_nat, decide_eq_true h]
theorem wrap_pred {i : Nat} (h : i < 100) : IntKind.wrap .i64 ((i : Int) - 1) = (i : Int) - 1 := wrap64 (by omega) (by omega)
theorem specG_8 (x : Nat) : specG x 8 = hexL x := by
  have d : ∀ a, a / 16 / 16 = a / 256 ∧ a / 256 / 16 = a / 4096 ∧ a / 4096 / 16 = a / 65536 ∧ a / 65536 / 16 = a / 1048576 ∧ a / 1048576 / 16 = a / 16777216 ∧ a / 16777216 / 16 = a / 268435456 := fun a => by
    simp only [Nat.div_div_eq_div_mul, and_self]
  obtain ⟨d1, d2, d3, d4, d5, d6⟩ := d x
  simp only [specG, rest16, hexL, d1, d2, d3, d4, d5, d6]
  rfl
theorem spec_r (x : Nat) (h : x < 4294967296) : spec_l01Hex.l4.r 8 ((x : Int), (7 : Int), List.replicate ((Int.toNat (8 : Int)) * 1) 0) = some (hexL x) := by
  have hf := iter_run (step := spec_l01Hex.l4.st 8) (f := fun j => ((rest16 x j : Nat), (7 : Int) - (j : Int), specG x j)) (e := specG x 8) (n := 8) (N := manyRounds) (k := 0) (many_lt (by omega)) (fun j hj => ?_) ?_
  · rw [specG_8] at hf
    exact hf
  · simp only [Nat.zero_add]
    have hr := rest16_lt h j
    have e1 : Int.tmod ((rest16 x j : Nat) : Int) 16 = ((rest16 x j % 16 : Nat) : Int) := by rw [show (16 : Int) = ((16 : Nat) : Int) from rfl, Int.ofNat_tmod]
    have e2 : Int.tdiv ((rest16 x j : Nat) : Int) 16 = ((rest16 x j / 16 : Nat) : Int) := by rw [show (16 : Int) = ((16 : Nat) : Int) from rfl, Int.ofNat_tdiv]
    have e3 : (7 : Int) - (j : Int) = ((7 - j : Nat) : Int) := by omega
    have e4 : IntKind.wrap .i64 (((7 - j : Nat) : Int) - 1) = (7 : Int) - ((j + 1 : Nat) : Int) := by rw [wrap_pred (by omega)]; omega
    simp only [spec_l01Hex.l4.st, spec_l01Hex.l4.s, T.get, e1, e2, e3, e4, bound16 _ (Nat.mod_lt _ (by omega : 0 < 16)), wrapu32 (Nat.lt_of_le_of_lt (Nat.div_le_self _ 16) hr), bounds_nat, ble_decide, Int.toNat_natCast, Nat.mul_one, specG_len]
    rw [decide_eq_true (by omega : ((7 - j : Nat) : Int) ≥ 0), decide_eq_true (by omega : 7 - j < 8), decide_eq_true (by omega : 7 - j + 1 ≤ 8)]
    rfl
  · simp only [Nat.zero_add]
    rfl
theorem spec_hex (x : Nat) (h : x < 4294967296) (hn : isNaN .f32 x = false) : (spec_l01Hex.t x).get = some (hexT x) := by
  have hb : (spec_l01Bits.t x).get = some (x : Int) := by
    simp only [spec_l01Bits.t, T.get, fne_self, hn]
    rfl
  simp only [spec_l01Hex.t, T.get, show spec_l01Bits.ok x = true from T.ok_of_get (hb), show spec_l01Bits x = _ from T.val_of_get (hb), spec_r x h]
  rfl
def implH (x : Nat) : Nat → List Int
  | 0 => []
  | j + 1 => implH x j ++ [dg (x / 2 ^ (28 - 4 * j) % 16)]
theorem implH_len (x : Nat) : ∀ j, (implH x j).length = j
  | 0 => rfl
  | j + 1 => by
    show (implH x j ++ _).length = _
    rw [List.length_append, implH_len x j]
    rfl
theorem implH_8 (x : Nat) : implH x 8 = hexL x := by
  have e : implH x 8 = [dg (x / 2 ^ 28 % 16), dg (x / 2 ^ 24 % 16), dg (x / 2 ^ 20 % 16), dg (x / 2 ^ 16 % 16), dg (x / 2 ^ 12 % 16), dg (x / 2 ^ 8 % 16), dg (x / 2 ^ 4 % 16), dg (x / 2 ^ 0 % 16)] := rfl
  rw [e]
  unfold hexL
  rw [show (2 : Nat) ^ 28 = 268435456 by decide, show (2 : Nat) ^ 24 = 16777216 by decide, show (2 : Nat) ^ 20 = 1048576 by decide, show (2 : Nat) ^ 16 = 65536 by decide, show (2 : Nat) ^ 12 = 4096 by decide, show (2 : Nat) ^ 8 = 256 by decide, show (2 : Nat) ^ 4 = 16 by decide, show (2 : Nat) ^ 0 = 1 by decide, Nat.div_one]
theorem impl_r (x : Nat) (h : x < 4294967296) : impl_NumberText.l5v1.r (x : Int) (0, (28 : Int), []) = some (8, hexL x) := by
  have hf := iter_run (step := impl_NumberText.l5v1.st (x : Int)) (f := fun j => (j, (28 : Int) - 4 * (j : Int), implH x j)) (e := (8, implH x 8)) (n := 8) (N := manyRounds) (k := 0) (many_lt (by omega)) (fun j hj => ?_) ?_
  · rw [implH_8] at hf
    exact hf
  · simp only [Nat.zero_add]
    have e0 : (28 : Int) - 4 * (j : Int) = ((28 - 4 * j : Nat) : Int) := by omega
    have e1 : min (28 - 4 * j) 32 = 28 - 4 * j := by omega
    have e2 : Int.fdiv (x : Int) (2 ^ (28 - 4 * j)) = ((x / 2 ^ (28 - 4 * j) : Nat) : Int) := by
      rw [Int.fdiv_eq_ediv_of_nonneg _ (Int.pow_nonneg (by decide)), Int.natCast_ediv, Int.natCast_pow]
      rfl
    have e4 : IntKind.wrap .i64 (((28 - 4 * j : Nat) : Int) - 4) = (28 : Int) - 4 * ((j + 1 : Nat) : Int) := by rw [wrap64 (by omega) (by omega)]; omega
    have hc : ∀ y : Int, (Nat.ble 1 (List.length [y]) && (Nat.beq (List.length (implH x j)) (j * 1) && Nat.ble ((j + 1) * 1) 35184372088832 && Nat.ble (j + 1) 35184372088832)) = true := fun y => by
      rw [implH_len, Nat.mul_one, Nat.mul_one, Nat.beq_refl, ble_decide, ble_decide, decide_eq_true (by simp : 1 ≤ List.length [y]), decide_eq_true (by omega : j + 1 ≤ 35184372088832)]
      rfl
    simp only [impl_NumberText.l5v1.st, impl_NumberText.l5v1.s, T.get, e0, e4, Int.toNat_natCast, e1, e2, ibits15 _ (Nat.lt_of_le_of_lt (Nat.div_le_self _ _) h), bound16 _ (Nat.mod_lt _ (by omega : 0 < 16)), hc]
    rw [decide_eq_true (by omega : ((28 - 4 * j : Nat) : Int) ≥ 0), decide_eq_false (by omega : ¬ ((28 - 4 * j : Nat) : Int) < 0)]
    rfl
  · simp only [Nat.zero_add]
    rfl
theorem impl_hex (x : Nat) (h : x < 4294967296) (hn : isNaN .f32 x = false) : (impl_NumberText.t x).get = some (hexT x) := by
  have hlen : (hexL x).length = 8 := rfl
  simp only [impl_NumberText.t, T.get, fne_self, hn, impl_r x h, Option.isSome_some, Option.getD_some, hlen]
  rfl

/-- Four texts, one behind the other. -/
noncomputable def text4 (a b c d : Nat) : ByteArray := ((((((hexT a) ++ (ByteArray.mk #[47])) ++ (hexT b)) ++ (ByteArray.mk #[47])) ++ (hexT c)) ++ (ByteArray.mk #[47])) ++ (hexT d)
theorem seq_refl (x : ByteArray) : seq? x x = true := by
  unfold seq?
  exact beq_self_eq_true _
theorem rate_num {x : Nat} (h : spec_l04Rate x = true) : isNaN .f32 x = false := by
  simp only [spec_l04Rate, spec_l04Rate.t, T.val] at h
  cases hn : isNaN .f32 x with
  | false => rfl
  | true =>
    have : fge .f32 x 0 = false := by
      have ho : FloatKind.f32.format.order x 0 = none := by
        have h1 : (FloatKind.f32.format.read x).isNaN = true := hn
        unfold Ieee.Format.order
        cases hx : FloatKind.f32.format.read x with
        | nan s t => rfl
        | infinity s => rw [hx] at h1; cases h1
        | number s m e => rw [hx] at h1; cases h1
      unfold fge
      rw [ho]
      rfl
    rw [this] at h
    cases h
theorem part_num {x : Nat} (h : spec_l01Part x = true) : isNaN .f32 x = false := by
  simp only [spec_l01Part, spec_l01Part.t, T.val] at h
  cases hn : isNaN .f32 x with
  | false => rfl
  | true =>
    have : fge .f32 x 0 = false := by
      have ho : FloatKind.f32.format.order x 0 = none := by
        have h1 : (FloatKind.f32.format.read x).isNaN = true := hn
        unfold Ieee.Format.order
        cases hx : FloatKind.f32.format.read x with
        | nan s t => rfl
        | infinity s => rw [hx] at h1; cases h1
        | number s m e => rw [hx] at h1; cases h1
      unfold fge
      rw [ho]
      rfl
    rw [this] at h
    cases h
theorem ok_nums {a b c d : Nat} (h : spec_l04Ok a b c d = true) : isNaN .f32 a = false ∧ isNaN .f32 b = false ∧ isNaN .f32 c = false ∧ isNaN .f32 d = false := by
  simp only [spec_l04Ok, spec_l04Ok.t, T.val] at h
  cases h1 : spec_l04Rate a with
  | false => rw [h1] at h; cases h
  | true =>
    cases h2 : spec_l04Rate b with
    | false => rw [h1, h2] at h; cases h
    | true =>
      cases h3 : spec_l04Rate c with
      | false => rw [h1, h2, h3] at h; cases h
      | true =>
        rw [h1, h2, h3] at h
        exact ⟨rate_num h1, rate_num h2, rate_num h3, part_num h⟩
section
variable (a b c d : Nat) (ha : a < 4294967296) (hb : b < 4294967296) (hc : c < 4294967296) (hd : d < 4294967296) (na : isNaN .f32 a = false) (nb : isNaN .f32 b = false) (nc : isNaN .f32 c = false) (nd : isNaN .f32 d = false)
include ha hb hc hd na nb nc nd
theorem spec_text : (spec_l04Text.t a b c d).get = some (text4 a b c d) := by
  have hs : ByteArray.size (ByteArray.mk #[47]) = 1 := rfl
  have hm : ∀ n : Nat, n ≤ 100 → decide (((n : Nat) : Int) > IntKind.max .i64) = false := fun n hn => decide_eq_false (by
    have : IntKind.max .i64 = 9223372036854775807 := rfl
    omega)
  simp only [spec_l04Text.t, T.get, show spec_l01Hex.ok a = true from T.ok_of_get (spec_hex a ha na), show spec_l01Hex a = _ from T.val_of_get (spec_hex a ha na), show spec_l01Hex.ok b = true from T.ok_of_get (spec_hex b hb nb), show spec_l01Hex b = _ from T.val_of_get (spec_hex b hb nb), show spec_l01Hex.ok c = true from T.ok_of_get (spec_hex c hc nc), show spec_l01Hex c = _ from T.val_of_get (spec_hex c hc nc), show spec_l01Hex.ok d = true from T.ok_of_get (spec_hex d hd nd), show spec_l01Hex d = _ from T.val_of_get (spec_hex d hd nd), ByteArray.size_append, hexT_size, hs]
  rw [hm (8 + 1) (by omega), hm (8 + 1 + 8) (by omega), hm (8 + 1 + 8 + 1) (by omega), hm (8 + 1 + 8 + 1 + 8) (by omega), hm (8 + 1 + 8 + 1 + 8 + 1) (by omega), hm (8 + 1 + 8 + 1 + 8 + 1 + 8) (by omega)]
  rfl
theorem texts_r : impl_texts.l3.r (ByteArray.mk #[47], 4, ((4 : Nat) : Int), [a, b, c, d]) (0, (0 : Int), []) = some (4, [hexT a, hexT b, hexT c, hexT d]) := by
  have hf := iter_run (step := impl_texts.l3.st (ByteArray.mk #[47], 4, ((4 : Nat) : Int), [a, b, c, d])) (f := fun j => match j with | 0 => (0, (0 : Int), []) | 1 => (1, (1 : Int), [hexT a]) | 2 => (2, (2 : Int), [hexT a, hexT b]) | 3 => (3, (3 : Int), [hexT a, hexT b, hexT c]) | _ => (4, (4 : Int), [hexT a, hexT b, hexT c, hexT d])) (e := (4, [hexT a, hexT b, hexT c, hexT d])) (n := 4) (N := manyRounds) (k := 0) (many_lt (by omega)) (fun j hj => ?_) ?_
  · exact hf
  · have g0 : List.getD [a, b, c, d] (Int.toNat 0 * 1) 0 = a := rfl
    have g1 : List.getD [a, b, c, d] (Int.toNat 1 * 1) 0 = b := rfl
    have g2 : List.getD [a, b, c, d] (Int.toNat 2 * 1) 0 = c := rfl
    have g3 : List.getD [a, b, c, d] (Int.toNat 3 * 1) 0 = d := rfl
    match j, hj with
    | 0, _ =>
      simp only [impl_texts.l3.st, impl_texts.l3.s, T.get, g0, show impl_NumberText.ok a = true from T.ok_of_get (impl_hex a ha na), show impl_NumberText a = _ from T.val_of_get (impl_hex a ha na)]
      rfl
    | 1, _ =>
      simp only [impl_texts.l3.st, impl_texts.l3.s, T.get, g1, show impl_NumberText.ok b = true from T.ok_of_get (impl_hex b hb nb), show impl_NumberText b = _ from T.val_of_get (impl_hex b hb nb)]
      rfl
    | 2, _ =>
      simp only [impl_texts.l3.st, impl_texts.l3.s, T.get, g2, show impl_NumberText.ok c = true from T.ok_of_get (impl_hex c hc nc), show impl_NumberText c = _ from T.val_of_get (impl_hex c hc nc)]
      rfl
    | 3, _ =>
      simp only [impl_texts.l3.st, impl_texts.l3.s, T.get, g3, show impl_NumberText.ok d = true from T.ok_of_get (impl_hex d hd nd), show impl_NumberText d = _ from T.val_of_get (impl_hex d hd nd)]
      rfl
  · rfl
theorem impl_text : (impl_texts.t (ByteArray.mk #[47]) 4 [a, b, c, d]).get = some (text4 a b c d) := by
  have hl : ∀ x, (hexT x).data.toList.length = 8 := fun x => by
    have := hexT_size x
    exact this
  have hj : joinOk [hexT a, hexT b, hexT c, hexT d] 4 (ByteArray.mk #[47]) = true := by
    unfold joinOk
    have e : (Lib.join ([hexT a, hexT b, hexT c, hexT d].map (·.data.toList)) (ByteArray.mk #[47]).data.toList).length = 35 := by
      simp [Lib.join, List.intercalate, List.intersperse, hl]
    rw [e]
    rfl
  have ht : joinB [hexT a, hexT b, hexT c, hexT d] (ByteArray.mk #[47]) = text4 a b c d := by
    refine ByteArray.ext (Array.ext' ?_)
    simp [joinB, text4, Lib.join, List.intercalate, List.intersperse, ByteArray.data_append]
  simp only [impl_texts.t, T.get, texts_r a b c d ha hb hc hd na nb nc nd, Option.isSome_some, Option.getD_some, hj, ht]
  rfl
end
theorem law_holds (a b c d : Nat) (FACTS : flHas .f32 a) (hb : flHas .f32 b) (hc : flHas .f32 c) (hd : flHas .f32 d) : (laws_FnExactStoneText.t a b c d).get = some true := by
  have ha := FACTS
  have key : ∃ r, (spec_StoneText.t a b c d).get = some r ∧ (impl_StoneText.t a b c d).get = some r := by
    simp only [spec_StoneText.t, impl_StoneText.t, T.get, valid_eq]
    cases hok : spec_l04Ok a b c d with
    | false => exact ⟨_, rfl, rfl⟩
    | true =>
      obtain ⟨na, nb, nc, nd⟩ := ok_nums hok
      have h1 := spec_text a b c d ha hb hc hd na nb nc nd
      have h2 := impl_text a b c d ha hb hc hd na nb nc nd
      simp only [show spec_l04Text.ok a b c d = true from T.ok_of_get (h1), show spec_l04Text a b c d = _ from T.val_of_get (h1), show impl_texts.ok (ByteArray.mk #[47]) 4 [a, b, c, d] = true from T.ok_of_get (h2), show impl_texts (ByteArray.mk #[47]) 4 [a, b, c, d] = _ from T.val_of_get (h2)]
      exact ⟨_, rfl, rfl⟩
  obtain ⟨r, h1, h2⟩ := key
  simp only [laws_FnExactStoneText.t, T.get, stone_eq, show spec_StoneText.ok a b c d = true from T.ok_of_get (h1), show spec_StoneText a b c d = _ from T.val_of_get (h1), show impl_StoneText.ok a b c d = true from T.ok_of_get (h2), show impl_StoneText a b c d = _ from T.val_of_get (h2), seq_refl]
  rfl

theorem law_plain (x0_0 : Nat) (x0_1 : Nat) (x0_2 : Nat) (x0_3 : Nat) (f0_0 : flHas .f32 x0_0) (f0_1 : flHas .f32 x0_1) (f0_2 : flHas .f32 x0_2) (f0_3 : flHas .f32 x0_3) : (laws_FnExactStoneText.tr (x0_0, x0_1, x0_2, x0_3)).get = some true := law_holds x0_0 x0_1 x0_2 x0_3 f0_0 f0_1 f0_2 f0_3
theorem own : ownKnob Try.prog.godebug = none := by kernel_rfl
theorem laidOut : laidOutB Try.prog = true := by kernel_rfl
theorem lifted (os : Os) (started : os.Started) (H : Type) (enc : TypeId × Value → H) :
    ReturnsInHanded {} Try.checked os 7 .any (Rows.fnExactStoneTextSpec.pre6 enc Try.prog Try.f7 Rows.fnExactStoneTextRow.domain false) (Rows.fnExactStoneTextSpec.post enc Try.prog Try.f7 false true false false) := by
  refine returnsInHanded_of_change (C := Try.checked) own started (by kernel_rfl) Try.func7
    (ChangeSpec.witness6 (enc := enc) (C := Try.checked) false ⟨#[], #[.agg #[.float .f32 0, .float .f32 0, .float .f32 0, .float .f32 0]], []⟩ 8 (by kernel_rfl) (by kernel_rfl) (by kernel_rfl) (by kernel_rfl)) ?_
  intro W base args ds gs before hval0 hW hcnd _
  have hval : ∀ (j : Nat) t v, Try.f7.params[j]? = some t → args[j]? = some v → Value.okWide Try.prog W .any base t v := hval0
  have hW' := hW
  obtain ⟨p, q, hA0, hV, rfl, hfz, hnd⟩ := hW
  have hA : DataW.TrodAll enc Try.prog W 0 (fun _ => true) true Try.f7.params.toList args.toList ds p := hA0
  rw [Try.params7] at hA hval
  obtain ⟨v0, vs0, d0, ds0, p0, q0, hargs, rfl, rfl, h0, rr0⟩ := trodAll_cons hA
  obtain ⟨rfl, rfl, rfl⟩ := trodAll_nil rr0
  obtain rfl : args = #[v0] := by cases args; simp_all
  obtain ⟨rfl, rfl⟩ := trodVars_none hV
  have k0 := h0
  have lt0 : ∀ x ∈ p0, x.block < W.heap.size := by obtain ⟨m, hm⟩ := k0; exact DataW.trod_lt m _ _ _ hm
  obtain ⟨cs0, rfl, hc0⟩ := open_row (ts := [22, 22, 22, 22]) Try.underlying24 rfl (by kernel_rfl) (by kernel_rfl) (hval 0 24 v0 rfl rfl)
  obtain ⟨u0_0, m0_0, e0, g0_0, hc0⟩ := hc0
  obtain ⟨x0_0, r0_0, f0_0⟩ := sc_fl Try.underlying22 g0_0
  obtain ⟨u0_1, m0_1, rfl, g0_1, hc0⟩ := hc0
  obtain ⟨x0_1, r0_1, f0_1⟩ := sc_fl Try.underlying22 g0_1
  obtain ⟨u0_2, m0_2, rfl, g0_2, hc0⟩ := hc0
  obtain ⟨x0_2, r0_2, f0_2⟩ := sc_fl Try.underlying22 g0_2
  obtain ⟨u0_3, m0_3, rfl, g0_3, hc0⟩ := hc0
  obtain ⟨x0_3, r0_3, f0_3⟩ := sc_fl Try.underlying22 g0_3
  obtain rfl := hc0
  clear hA0 hval0
  refine (laws_FnExactStoneText.walk (x0_0, x0_1, x0_2, x0_3) (law_plain x0_0 x0_1 x0_2 x0_3 f0_0 f0_1 f0_2 f0_3) (ρ := fun i => (lget ([] : List (Sx.Loc × Cells)) i).map (·.1)) (Rs_cons' (agg_R (by rw [e0]; exact (Rs_cons' (r0_0 _) (Rs_cons' (r0_1 _) (Rs_cons' (r0_2 _) (Rs_cons' (r0_3 _) Rs_nil')))))) Rs_nil') (HpR.ofRo [] (List.forall_mem_nil _))).mono fun e W' ⟨he, bel⟩ => ?_
  subst he
  exact ⟨_, rfl, _, _, _, [], _, [], hW', trodAll_mk1 (shut_bool Try.underlying4 _), (trodAll_cons_mk (Below.trod laidOut (by kernel_rfl) (of_decide_eq_true (by kernel_rfl)) k0 bel lt0) trodAll_mk0), rfl, bel.frame _, fun h => by cases h⟩
theorem over : Rows.fnExactStoneTextRow.holds Try.pinned (OpenSpec.ofChange Rows.fnExactStoneTextSpec) :=
  OpenClaim.holds_of_wide 7 Try.f7 rfl rfl rfl rfl rfl rfl rfl ⟨rfl, rfl, rfl, rfl, rfl⟩ rfl rfl rfl rfl rfl (by kernel_rfl) Try.func7 (by kernel_rfl)
    (of_decide_eq_true (by kernel_rfl)) (by unfold Func.isWrapper; first | (rw [if_pos (by decide +kernel)]; kernel_rfl) | (rw [if_neg (by decide +kernel)]; exact ⟨rfl, rfl⟩))
    (fun os started H enc _ => lifted os started H enc)
theorem proved : Rows.FnExactStoneTextSaid := over
end Go.Proofs.Ytffpnngoafpidaa
