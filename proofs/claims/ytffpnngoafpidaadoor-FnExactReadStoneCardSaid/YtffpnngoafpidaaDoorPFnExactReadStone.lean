/- For every input the call of FnExactReadStone returns true, and each argument reads afterwards as it read before; there is no condition. -/
import Derived.Test.YtffpnngoafpidaaDoorWFnExactReadStone
import Derived.Test.YtffpnngoafpidaaDoorSxS
import Derived.Test.YtffpnngoafpidaaDoorSxV
import Derived.Test.YtffpnngoafpidaaDoorCards
import Derived.Test.YtffpnngoafpidaaDoorTie
import Derived.WalkKit
import Derived.ProofKit
import Derived.OpenShut
import Derived.ShutString
import Derived.ChangeOld
import Derived.Below
import Derived.Carry
import Derived.HandedShaped
import Derived.Deep.DeepHandedRow
import Derived.Lib.LaidTab
import Derived.Shelf.Vars
import Derived.Lib.LaidU8
import Derived.Lib.DecodeN
namespace Go.Proofs.YtffpnngoafpidaaDoor
open Go Go.RowKit Sx
open Go.ChangeShapes Go.WideShapes Go.ChangeAt
set_option linter.unusedVariables false
set_option linter.unusedSimpArgs false
set_option maxRecDepth 100000

theorem rate_eq (x : Nat) : impl_IsRate x = spec_l04Rate x := by
  simp only [impl_IsRate, impl_IsRate.t, impl_between, impl_between.t, spec_l04Rate, spec_l04Rate.t, T.val, fge_flip]

theorem part_eq (x : Nat) : impl_IsPart x = spec_l01Part x := by
  simp only [impl_IsPart, impl_IsPart.t, impl_between, impl_between.t, spec_l01Part, spec_l01Part.t, T.val, fge_flip]

theorem valid_eq (x0 x1 x2 x3 : Nat) : impl_ValidStone x0 x1 x2 x3 = spec_l04Ok x0 x1 x2 x3 := by
  simp only [impl_ValidStone, impl_ValidStone.t, spec_l04Ok, spec_l04Ok.t, T.val, rate_eq, part_eq]

/-- A hexadecimal digit. -/
def dg (n : Nat) : Int := byteAt (ByteArray.mk #[48, 49, 50, 51, 52, 53, 54, 55, 56, 57, 97, 98, 99, 100, 101, 102]) (n : Int)
def hexL (x : Nat) : List Int := [dg (x / 268435456 % 16), dg (x / 16777216 % 16), dg (x / 1048576 % 16), dg (x / 65536 % 16), dg (x / 4096 % 16), dg (x / 256 % 16), dg (x / 16 % 16), dg (x % 16)]
/-- The text of a number's word. -/
def hexT (x : Nat) : ByteArray := Sx.strOf (hexL x)
theorem strOf_size : ∀ (xs : List Int) (b : ByteArray), (xs.foldl (fun r n => r.push (UInt8.ofNat n.toNat)) b).size = b.size + xs.length
  | [], b => rfl
  | x :: r, b => by
    rw [List.foldl_cons, strOf_size r, ByteArray.size_push, List.length_cons]
    omega
theorem hexT_size (x : Nat) : (hexT x).size = 8 := by
  unfold hexT Sx.strOf
  rw [strOf_size]
  rfl
theorem wrapu32 {n : Nat} (h : n < 4294967296) : IntKind.wrap .u32 (n : Int) = n := by
  have : IntKind.wrap .u32 (n : Int) = (n : Int) % 4294967296 := rfl
  rw [this]
  omega
theorem ibits15 (n : Nat) (h : n < 4294967296) : ibits .and .u32 (n : Int) 15 = ((n % 16 : Nat) : Int) := by
  have e : (BitVec.ofInt 32 (n : Int) &&& BitVec.ofInt 32 15).toNat = n % 16 := by
    rw [BitVec.toNat_and]
    have e1 : (BitVec.ofInt 32 (n : Int)).toNat = n := by simp; omega
    have e2 : (BitVec.ofInt 32 15).toNat = 2 ^ 4 - 1 := by decide
    rw [e1, e2, Nat.and_two_pow_sub_one_eq_mod]
  show IntKind.wrap .u32 (((BitVec.ofInt 32 (n : Int) &&& BitVec.ofInt 32 15).toNat : Nat) : Int) = _
  rw [e]
  exact wrapu32 (by omega)
theorem bound16 (n : Nat) (h : n < 16) : bounds (n : Int) (ByteArray.size (ByteArray.mk #[48, 49, 50, 51, 52, 53, 54, 55, 56, 57, 97, 98, 99, 100, 101, 102])) = true := by
  have e : ByteArray.size (ByteArray.mk #[48, 49, 50, 51, 52, 53, 54, 55, 56, 57, 97, 98, 99, 100, 101, 102]) = 16 := rfl
  rw [e, bounds_nat, decide_eq_true h]

def implH (x : Nat) : Nat → List Int
  | 0 => []
  | j + 1 => implH x j ++ [dg (x / 2 ^ (28 - 4 * j) % 16)]
theorem implH_len (x : Nat) : ∀ j, (implH x j).length = j
  | 0 => rfl
  | j + 1 => by
    show (implH x j ++ _).length = _
    rw [List.length_append, implH_len x j]
    rfl
theorem implH_8 (x : Nat) : implH x 8 = hexL x := by
  have e : implH x 8 = [dg (x / 2 ^ 28 % 16), dg (x / 2 ^ 24 % 16), dg (x / 2 ^ 20 % 16), dg (x / 2 ^ 16 % 16), dg (x / 2 ^ 12 % 16), dg (x / 2 ^ 8 % 16), dg (x / 2 ^ 4 % 16), dg (x / 2 ^ 0 % 16)] := rfl
  rw [e]
  unfold hexL
  rw [show (2 : Nat) ^ 28 = 268435456 by decide, show (2 : Nat) ^ 24 = 16777216 by decide, show (2 : Nat) ^ 20 = 1048576 by decide, show (2 : Nat) ^ 16 = 65536 by decide, show (2 : Nat) ^ 12 = 4096 by decide, show (2 : Nat) ^ 8 = 256 by decide, show (2 : Nat) ^ 4 = 16 by decide, show (2 : Nat) ^ 0 = 1 by decide, Nat.div_one]
theorem impl_r (x : Nat) (h : x < 4294967296) : impl_NumberText.l5v1.r (x : Int) (0, (28 : Int), []) = some (8, hexL x) := by
  have hf := iter_run (step := impl_NumberText.l5v1.st (x : Int)) (f := fun j => (j, (28 : Int) - 4 * (j : Int), implH x j)) (e := (8, implH x 8)) (n := 8) (N := manyRounds) (k := 0) (many_lt (by omega)) (fun j hj => ?_) ?_
  · rw [implH_8] at hf
    exact hf
  · simp only [Nat.zero_add]
    have e0 : (28 : Int) - 4 * (j : Int) = ((28 - 4 * j : Nat) : Int) := by omega
    have e1 : min (28 - 4 * j) 32 = 28 - 4 * j := by omega
    have e2 : Int.fdiv (x : Int) (2 ^ (28 - 4 * j)) = ((x / 2 ^ (28 - 4 * j) : Nat) : Int) := by
      rw [Int.fdiv_eq_ediv_of_nonneg _ (Int.pow_nonneg (by decide)), Int.natCast_ediv, Int.natCast_pow]
      rfl
    have e4 : IntKind.wrap .i64 (((28 - 4 * j : Nat) : Int) - 4) = (28 : Int) - 4 * ((j + 1 : Nat) : Int) := by rw [wrap64 (by omega) (by omega)]; omega
    have hc : ∀ y : Int, (Nat.ble 1 (List.length [y]) && (Nat.beq (List.length (implH x j)) (j * 1) && Nat.ble ((j + 1) * 1) 35184372088832 && Nat.ble (j + 1) 35184372088832)) = true := fun y => by
      rw [implH_len, Nat.mul_one, Nat.mul_one, Nat.beq_refl, ble_decide, ble_decide, decide_eq_true (by simp : 1 ≤ List.length [y]), decide_eq_true (by omega : j + 1 ≤ 35184372088832)]
      rfl
    simp only [impl_NumberText.l5v1.st, impl_NumberText.l5v1.s, T.get, e0, e4, Int.toNat_natCast, e1, e2, ibits15 _ (Nat.lt_of_le_of_lt (Nat.div_le_self _ _) h), bound16 _ (Nat.mod_lt _ (by omega : 0 < 16)), hc]
    rw [decide_eq_true (by omega : ((28 - 4 * j : Nat) : Int) ≥ 0), decide_eq_false (by omega : ¬ ((28 - 4 * j : Nat) : Int) < 0)]
    rfl
  · simp only [Nat.zero_add]
    rfl
theorem impl_hex (x : Nat) (h : x < 4294967296) (hn : isNaN .f32 x = false) : (impl_NumberText.t x).get = some (hexT x) := by
  have hlen : (hexL x).length = 8 := rfl
  simp only [impl_NumberText.t, T.get, fne_self, hn, impl_r x h, Option.isSome_some, Option.getD_some, hlen]
  rfl

/-- Four texts, one behind the other. -/
noncomputable def text4 (a b c d : Nat) : ByteArray := ((((((hexT a) ++ (ByteArray.mk #[47])) ++ (hexT b)) ++ (ByteArray.mk #[47])) ++ (hexT c)) ++ (ByteArray.mk #[47])) ++ (hexT d)
theorem seq_refl (x : ByteArray) : seq? x x = true := by
  unfold seq?
  exact beq_self_eq_true _
theorem rate_num {x : Nat} (h : spec_l04Rate x = true) : isNaN .f32 x = false := by
  simp only [spec_l04Rate, spec_l04Rate.t, T.val] at h
  cases hn : isNaN .f32 x with
  | false => rfl
  | true =>
    have : fge .f32 x 0 = false := by
      have ho : FloatKind.f32.format.order x 0 = none := by
        have h1 : (FloatKind.f32.format.read x).isNaN = true := hn
        unfold Ieee.Format.order
        cases hx : FloatKind.f32.format.read x with
        | nan s t => rfl
        | infinity s => rw [hx] at h1; cases h1
        | number s m e => rw [hx] at h1; cases h1
      unfold fge
      rw [ho]
      rfl
    rw [this] at h
    cases h
theorem part_num {x : Nat} (h : spec_l01Part x = true) : isNaN .f32 x = false := by
  simp only [spec_l01Part, spec_l01Part.t, T.val] at h
  cases hn : isNaN .f32 x with
  | false => rfl
  | true =>
    have : fge .f32 x 0 = false := by
      have ho : FloatKind.f32.format.order x 0 = none := by
        have h1 : (FloatKind.f32.format.read x).isNaN = true := hn
        unfold Ieee.Format.order
        cases hx : FloatKind.f32.format.read x with
        | nan s t => rfl
        | infinity s => rw [hx] at h1; cases h1
        | number s m e => rw [hx] at h1; cases h1
      unfold fge
      rw [ho]
      rfl
    rw [this] at h
    cases h
theorem ok_nums {a b c d : Nat} (h : spec_l04Ok a b c d = true) : isNaN .f32 a = false ∧ isNaN .f32 b = false ∧ isNaN .f32 c = false ∧ isNaN .f32 d = false := by
  simp only [spec_l04Ok, spec_l04Ok.t, T.val] at h
  cases h1 : spec_l04Rate a with
  | false => rw [h1] at h; cases h
  | true =>
    cases h2 : spec_l04Rate b with
    | false => rw [h1, h2] at h; cases h
    | true =>
      cases h3 : spec_l04Rate c with
      | false => rw [h1, h2, h3] at h; cases h
      | true =>
        rw [h1, h2, h3] at h
        exact ⟨rate_num h1, rate_num h2, rate_num h3, part_num h⟩
section
variable (a b c d : Nat) (ha : a < 4294967296) (hb : b < 4294967296) (hc : c < 4294967296) (hd : d < 4294967296) (na : isNaN .f32 a = false) (nb : isNaN .f32 b = false) (nc : isNaN .f32 c = false) (nd : isNaN .f32 d = false)
include ha hb hc hd na nb nc nd
theorem texts_r : impl_texts.l3.r (ByteArray.mk #[47], 4, ((4 : Nat) : Int), [a, b, c, d]) (0, (0 : Int), []) = some (4, [hexT a, hexT b, hexT c, hexT d]) := by
  have hf := iter_run (step := impl_texts.l3.st (ByteArray.mk #[47], 4, ((4 : Nat) : Int), [a, b, c, d])) (f := fun j => match j with | 0 => (0, (0 : Int), []) | 1 => (1, (1 : Int), [hexT a]) | 2 => (2, (2 : Int), [hexT a, hexT b]) | 3 => (3, (3 : Int), [hexT a, hexT b, hexT c]) | _ => (4, (4 : Int), [hexT a, hexT b, hexT c, hexT d])) (e := (4, [hexT a, hexT b, hexT c, hexT d])) (n := 4) (N := manyRounds) (k := 0) (many_lt (by omega)) (fun j hj => ?_) ?_
  · exact hf
  · have g0 : List.getD [a, b, c, d] (Int.toNat 0 * 1) 0 = a := rfl
    have g1 : List.getD [a, b, c, d] (Int.toNat 1 * 1) 0 = b := rfl
    have g2 : List.getD [a, b, c, d] (Int.toNat 2 * 1) 0 = c := rfl
    have g3 : List.getD [a, b, c, d] (Int.toNat 3 * 1) 0 = d := rfl
    match j, hj with
    | 0, _ =>
      simp only [impl_texts.l3.st, impl_texts.l3.s, T.get, g0, show impl_NumberText.ok a = true from T.ok_of_get (impl_hex a ha na), show impl_NumberText a = _ from T.val_of_get (impl_hex a ha na)]
      rfl
    | 1, _ =>
      simp only [impl_texts.l3.st, impl_texts.l3.s, T.get, g1, show impl_NumberText.ok b = true from T.ok_of_get (impl_hex b hb nb), show impl_NumberText b = _ from T.val_of_get (impl_hex b hb nb)]
      rfl
    | 2, _ =>
      simp only [impl_texts.l3.st, impl_texts.l3.s, T.get, g2, show impl_NumberText.ok c = true from T.ok_of_get (impl_hex c hc nc), show impl_NumberText c = _ from T.val_of_get (impl_hex c hc nc)]
      rfl
    | 3, _ =>
      simp only [impl_texts.l3.st, impl_texts.l3.s, T.get, g3, show impl_NumberText.ok d = true from T.ok_of_get (impl_hex d hd nd), show impl_NumberText d = _ from T.val_of_get (impl_hex d hd nd)]
      rfl
  · rfl
theorem impl_text : (impl_texts.t (ByteArray.mk #[47]) 4 [a, b, c, d]).get = some (text4 a b c d) := by
  have hl : ∀ x, (hexT x).data.toList.length = 8 := fun x => by
    have := hexT_size x
    exact this
  have hj : joinOk [hexT a, hexT b, hexT c, hexT d] 4 (ByteArray.mk #[47]) = true := by
    unfold joinOk
    have e : (Lib.join ([hexT a, hexT b, hexT c, hexT d].map (·.data.toList)) (ByteArray.mk #[47]).data.toList).length = 35 := by
      simp [Lib.join, List.intercalate, List.intersperse, hl]
    rw [e]
    rfl
  have ht : joinB [hexT a, hexT b, hexT c, hexT d] (ByteArray.mk #[47]) = text4 a b c d := by
    refine ByteArray.ext (Array.ext' ?_)
    simp [joinB, text4, Lib.join, List.intercalate, List.intersperse, ByteArray.data_append]
  simp only [impl_texts.t, T.get, texts_r a b c d ha hb hc hd na nb nc nd, Option.isSome_some, Option.getD_some, hj, ht]
  rfl
end

/-! A text cut at a byte. -/
def pre (a : List UInt8) : List (List UInt8) → List (List UInt8)
  | [] => [a]
  | h :: t => (a ++ h) :: t
def pcs (c : UInt8) : List UInt8 → List (List UInt8)
  | [] => [[]]
  | b :: r => if b = c then [] :: pcs c r else pre [b] (pcs c r)
theorem pcs_ne (c : UInt8) : ∀ l, pcs c l ≠ []
  | [] => by simp [pcs]
  | b :: r => by
    unfold pcs
    split
    · simp
    · cases h : pcs c r with
      | nil => exact absurd h (pcs_ne c r)
      | cons x t => simp [pre]
theorem pre_pre (a b : List UInt8) (l : List (List UInt8)) (h : l ≠ []) : pre a (pre b l) = pre (a ++ b) l := by
  cases l with
  | nil => exact absurd rfl h
  | cons x t => simp [pre]
/-- The pieces with the byte between are the text. -/
theorem pcs_join (c : UInt8) : ∀ l, List.intercalate [c] (pcs c l) = l
  | [] => by simp [pcs, List.intercalate, List.intersperse]
  | b :: r => by
    have ih := pcs_join c r
    unfold pcs
    split
    · rename_i h
      subst h
      cases hp : pcs b r with
      | nil => exact absurd hp (pcs_ne b r)
      | cons x t =>
        rw [hp] at ih
        simp [List.intercalate, List.intersperse] at ih ⊢
        exact ih
    · cases hp : pcs c r with
      | nil => exact absurd hp (pcs_ne c r)
      | cons x t =>
        rw [hp] at ih
        cases t with
        | nil =>
          simp [pre, List.intercalate, List.intersperse] at ih ⊢
          exact ih
        | cons y t =>
          simp [pre, List.intercalate, List.intersperse] at ih ⊢
          exact ih
theorem splitK_pcs (c : UInt8) : ∀ l : List UInt8, Go.Lib.splitK [c] 0 (l.count c) l = pcs c l
  | [] => rfl
  | b :: r => by
    have ih := splitK_pcs c r
    by_cases h : b = c
    · subst h
      have e : Go.Lib.index (b :: r) [b] = 0 := by
        unfold Go.Lib.index
        rw [if_pos (by simp [List.isPrefixOf])]
      rw [List.count_cons_self]
      unfold Go.Lib.splitK pcs
      rw [e, if_neg (by decide), if_pos rfl]
      simp [ih]
    · have e : Go.Lib.index (b :: r) [c] = if Go.Lib.index r [c] == -1 then -1 else Go.Lib.index r [c] + 1 := by
        conv => lhs; unfold Go.Lib.index
        rw [if_neg (by simp [List.isPrefixOf]; exact fun hh => absurd hh.symm h)]
      rw [List.count_cons_of_ne (by simpa using h)]
      unfold pcs
      rw [if_neg h, ← ih]
      cases hk : r.count c with
      | zero => rfl
      | succ k =>
        unfold Go.Lib.splitK
        rw [e]
        by_cases hi : (Go.Lib.index r [c] == -1) = true
        · rw [if_pos hi, if_pos (by rfl), if_pos hi]
          rfl
        · have hge := Go.Lib.index_ge r [c]
          have hne : Go.Lib.index r [c] ≠ -1 := fun q => hi (by rw [q]; rfl)
          obtain ⟨i, hi2⟩ : ∃ i : Nat, Go.Lib.index r [c] = i := ⟨(Go.Lib.index r [c]).toNat, by omega⟩
          rw [if_neg hi, hi2, if_neg (by simp; omega), if_neg (by simp)]
          have e2 : ((i : Int) + 1).toNat = i + 1 := by omega
          simp [pre, e2]
theorem split_pieces (x : ByteArray) (c : UInt8) : (splitL x (ByteArray.mk #[c])).map (·.data.toList) = pcs c x.data.toList := by
  unfold splitL
  rw [Go.Lib.splitB_data]
  have e : Go.Lib.countB x (ByteArray.mk #[c]) = x.data.toList.count c := by
    show Go.Lib.count x.data.toList [c] = _
    exact Go.Lib.count_one c _
  rw [e]
  exact splitK_pcs c _
theorem bytes_ext {xs ys : List ByteArray} (h : xs.map (·.data.toList) = ys.map (·.data.toList)) : xs = ys := by
  induction xs generalizing ys with
  | nil =>
    cases ys with
    | nil => rfl
    | cons y r => cases h
  | cons x r ih =>
    cases ys with
    | nil => cases h
    | cons y s =>
      simp only [List.map_cons, List.cons.injEq] at h
      rw [ih h.2, ByteArray.ext (Array.ext' h.1)]
/-- The reference cuts alike. -/
noncomputable def cutF (x : ByteArray) (i : Nat) (s : Nat × List ByteArray) : Nat × List ByteArray := bif (byteAt x (i : Int) == 47) then (i + 1, s.2 ++ [x.extract s.1 i]) else s
theorem byte_get (x : ByteArray) (i : Nat) (h : i < x.size) : x.data.toList.drop i = x.data.toList.getD i 0 :: x.data.toList.drop (i + 1) := by
  have h' : i < x.data.toList.length := by simpa using h
  rw [List.drop_eq_getElem_cons h']
  congr 1
  simp [List.getD, List.getElem?_eq_getElem h']
theorem byte_is (b : UInt8) : (((b.toNat : Int)) == 47) = decide (b = 47) := by
  by_cases h : b = 47
  · subst h; rfl
  · rw [decide_eq_false h, beq_eq_false_iff_ne]
    intro q
    refine h (UInt8.toNat_inj.1 ?_)
    show b.toNat = 47
    omega
theorem cut_t (x : ByteArray) (m : Int) (hx : x.size ≤ 1048576) : (spec_l01Split.t x 47).get = some ((splitL x (ByteArray.mk #[47])).length, splitL x (ByteArray.mk #[47])) := by
  let l := x.data.toList
  have hl : l.length = x.size := rfl
  obtain ⟨h1, h2⟩ := loopI_fold (step := spec_l01Split.l4.st (x, 47)) (fun k => IntKind.wrap .i64 (k + 1)) (fun i (s : Nat × List ByteArray) => (s.2.length, (s.1 : Int), i, s.2)) (cutF x) (fun s => (s.2.length, (s.1 : Int), s.2))
    (fun i s => s.1 ≤ i ∧ s.2.length ≤ i ∧ s.2.map (·.data.toList) ++ pre ((l.take i).drop s.1) (pcs 47 (l.drop i)) = pcs 47 l) x.size (by omega) (fun i hi => wrap64_succ (by omega)) (0, [])
    ⟨Nat.le_refl _, Nat.zero_le _, by
      cases hp : pcs 47 l with
      | nil => exact absurd hp (pcs_ne 47 l)
      | cons y t => simp [pre, hp]⟩ (fun i s hi hs => by
      obtain ⟨q1, q2, q3⟩ := hs
      have hb : byteAt x (i : Int) = ((l.getD i 0).toNat : Int) := by
        unfold byteAt
        rw [Int.toNat_natCast]
      have hc : ∀ y : ByteArray, (Nat.ble 1 (List.length [y]) && (Nat.beq (List.length s.2) (s.2.length * 1) && Nat.ble ((s.2.length + 1) * 16) 35184372088832 && Nat.ble (s.2.length + 1) 35184372088832)) = true := fun y => by
        rw [Nat.mul_one, Nat.beq_refl, ble_decide, ble_decide, ble_decide, decide_eq_true (by simp : 1 ≤ List.length [y]), decide_eq_true (by omega : (s.2.length + 1) * 16 ≤ 35184372088832), decide_eq_true (by omega : s.2.length + 1 ≤ 35184372088832)]
        rfl
      have hd : l.drop i = l.getD i 0 :: l.drop (i + 1) := byte_get x i hi
      refine ⟨?_, ?_⟩
      · simp only [spec_l01Split.l4.st, spec_l01Split.l4.s, T.get, bounds_nat, Int.toNat_natCast, hc]
        rw [decide_eq_true (by omega : (i : Int) < (x.size : Int)), decide_eq_true hi, decide_eq_true (by omega : 0 ≤ (s.1 : Int)), decide_eq_true (by omega : (s.1 : Int) ≤ (i : Int)), decide_eq_true (by omega : (i : Int) ≤ (x.size : Int)), wrap64_succ (by omega)]
        simp only [cond_true, cutF]
        cases (byteAt x (i : Int) == 47) with
        | true => simp
        | false => rfl
      · unfold cutF
        rw [hb, byte_is]
        rw [hd] at q3
        by_cases h47 : l.getD i 0 = 47
        · rw [decide_eq_true h47]
          rw [h47] at q3
          have e1 : pcs 47 (47 :: l.drop (i + 1)) = [] :: pcs 47 (l.drop (i + 1)) := by
            conv => lhs; unfold pcs
            rw [if_pos rfl]
          rw [e1] at q3
          refine ⟨Nat.le_refl _, by simp; omega, ?_⟩
          have e2 : (x.extract s.1 i).data.toList = (l.take i).drop s.1 := by
            rw [Go.Lib.extract_data, List.drop_take]
          cases hp : pcs 47 (l.drop (i + 1)) with
          | nil => exact absurd hp (pcs_ne _ _)
          | cons y t =>
            rw [hp] at q3
            simp only [cond_true, List.map_append, List.map_cons, List.map_nil, e2, pre] at q3 ⊢
            rw [← q3]
            simp
        · rw [decide_eq_false h47]
          have e1 : pcs 47 (l.getD i 0 :: l.drop (i + 1)) = pre [l.getD i 0] (pcs 47 (l.drop (i + 1))) := by
            conv => lhs; unfold pcs
            rw [if_neg h47]
          rw [e1, pre_pre _ _ _ (pcs_ne _ _)] at q3
          refine ⟨Nat.le_succ_of_le q1, Nat.le_succ_of_le q2, ?_⟩
          have e2 : (l.take i).drop s.1 ++ [l.getD i 0] = (l.take (i + 1)).drop s.1 := by
            have hi' : i < l.length := by rw [hl]; exact hi
            rw [List.take_succ_eq_append_getElem hi', List.drop_append_of_le_length (by rw [List.length_take]; omega)]
            congr 1
            simp [List.getD, List.getElem?_eq_getElem hi']
          rw [e2] at q3
          exact q3) (fun s hs => by
      simp only [spec_l01Split.l4.st, spec_l01Split.l4.s, T.get]
      rw [decide_eq_false (by omega)]
      rfl)
  generalize foldF (cutF x) x.size 0 (0, []) = s at h1 h2
  obtain ⟨q1, q2, q3⟩ := h2
  have e0 : l.drop x.size = [] := by rw [← hl]; exact List.drop_length
  have e3 : pcs 47 ([] : List UInt8) = [[]] := rfl
  rw [e0, e3] at q3
  have e2 : (x.extract s.1 x.size).data.toList = (l.take x.size).drop s.1 := by
    show _ = List.drop s.1 (List.take x.size x.data.toList)
    rw [Go.Lib.extract_data, List.drop_take]
  have hfin : s.2 ++ [x.extract s.1 x.size] = splitL x (ByteArray.mk #[47]) := by
    refine bytes_ext ?_
    rw [split_pieces, ← q3, List.map_append, List.map_cons, List.map_nil, e2]
    simp [pre]
  have h1' : spec_l01Split.l4.r (x, 47) (0, (0 : Int), (0 : Int), []) = some (s.2.length, (s.1 : Int), s.2) := h1
  have hc : ∀ y : ByteArray, (Nat.ble 1 (List.length [y]) && (Nat.beq (List.length s.2) (s.2.length * 1) && Nat.ble ((s.2.length + 1) * 16) 35184372088832 && Nat.ble (s.2.length + 1) 35184372088832)) = true := fun y => by
    rw [Nat.mul_one, Nat.beq_refl, ble_decide, ble_decide, ble_decide, decide_eq_true (by simp : 1 ≤ List.length [y]), decide_eq_true (by omega : (s.2.length + 1) * 16 ≤ 35184372088832), decide_eq_true (by omega : s.2.length + 1 ≤ 35184372088832)]
    rfl
  simp only [spec_l01Split.t, T.get, h1', Option.isSome_some, Option.getD_some, Int.toNat_natCast, hc]
  rw [decide_eq_true (by omega : 0 ≤ (s.1 : Int)), decide_eq_true (by omega : (s.1 : Int) ≤ (x.size : Int)), decide_eq_true (Int.le_refl _)]
  rw [← hfin]
  simp

/-! A number read from its text. -/
def D16 : List UInt8 := [48, 49, 50, 51, 52, 53, 54, 55, 56, 57, 97, 98, 99, 100, 101, 102]
def isDg (b : UInt8) : Bool := (decide (48 ≤ b.toNat) && decide (b.toNat ≤ 57)) || (decide (97 ≤ b.toNat) && decide (b.toNat ≤ 102))
/-- A digit's value; of what is none, nought. -/
def dv (b : UInt8) : Nat := if b.toNat ≤ 57 then (if 48 ≤ b.toNat then b.toNat - 48 else 0) else if 97 ≤ b.toNat then (if b.toNat ≤ 102 then b.toNat - 87 else 0) else 0
def dgB (n : Nat) : UInt8 := UInt8.ofNat (dg n).toNat
theorem byteAll {p : UInt8 → Bool} (h : (List.range 256).all (fun n => p (UInt8.ofNat n)) = true) (b : UInt8) : p b = true := by
  rw [List.all_eq_true] at h
  have := h b.toNat (by have := b.toNat_lt; simpa using this)
  simpa using this
theorem dv_lt (b : UInt8) : dv b < 16 := by
  have := byteAll (p := fun b => decide (dv b < 16)) (by decide +kernel) b
  simpa using this
theorem dv_index (b : UInt8) : (if (0 : Int) > Go.Lib.indexByte D16 b then (0 : Int) else Go.Lib.indexByte D16 b) = (dv b : Int) := by
  have := byteAll (p := fun b => decide ((if (0 : Int) > Go.Lib.indexByte D16 b then (0 : Int) else Go.Lib.indexByte D16 b) = (dv b : Int))) (by decide +kernel) b
  simpa using this
theorem dgB_dv (b : UInt8) (h : isDg b = true) : dgB (dv b) = b := by
  have := byteAll (p := fun b => !isDg b || decide (dgB (dv b) = b)) (by decide +kernel) b
  simpa [h] using this
theorem dg_is (n : Nat) (h : n < 16) : isDg (dgB n) = true ∧ dv (dgB n) = n := by
  have := (List.all_eq_true.1 (show (List.range 16).all (fun n => isDg (dgB n) && decide (dv (dgB n) = n)) = true by decide +kernel)) n (by simpa using h)
  simpa using this
/-- The value of the first digits. -/
def acc (bs : List UInt8) : Nat → Nat
  | 0 => 0
  | i + 1 => acc bs i * 16 + dv (bs.getD i 0)
theorem acc_lt (bs : List UInt8) : ∀ i, acc bs i < 16 ^ i
  | 0 => Nat.one_pos
  | i + 1 => by
    have h1 := acc_lt bs i
    have h2 := dv_lt (bs.getD i 0)
    show acc bs i * 16 + dv _ < 16 ^ (i + 1)
    rw [Nat.pow_succ]
    omega
theorem acc32 (bs : List UInt8) {i : Nat} (h : i ≤ 8) : acc bs i < 4294967296 := by
  have h1 := acc_lt bs i
  have h2 : 16 ^ i ≤ 16 ^ 8 := Nat.pow_le_pow_right (by decide) h
  have : (16 : Nat) ^ 8 = 4294967296 := by decide
  omega
theorem acc28 (bs : List UInt8) {i : Nat} (h : i ≤ 7) : acc bs i < 268435456 := by
  have h1 := acc_lt bs i
  have h2 : 16 ^ i ≤ 16 ^ 7 := Nat.pow_le_pow_right (by decide) h
  have : (16 : Nat) ^ 7 = 268435456 := by decide
  omega
theorem ior16 (a d : Nat) (ha : a < 268435456) (hd : d < 16) : ibits .or .u32 (IntKind.wrap .u32 ((a : Int) * (2 ^ min (Int.toNat (4 : Int)) 32))) (IntKind.wrap .u32 (d : Int)) = ((a * 16 + d : Nat) : Int) := by
  have e0 : (2 : Int) ^ min (Int.toNat (4 : Int)) 32 = 16 := by decide
  have e1 : (a : Int) * 16 = ((a * 16 : Nat) : Int) := by omega
  rw [e0, e1, wrapu32 (by omega), wrapu32 (by omega)]
  have e : (BitVec.ofInt 32 ((a * 16 : Nat) : Int) ||| BitVec.ofInt 32 (d : Int)).toNat = a * 16 + d := by
    rw [BitVec.toNat_or]
    have e1 : (BitVec.ofInt 32 ((a * 16 : Nat) : Int)).toNat = a * 16 := by simp; omega
    have e2 : (BitVec.ofInt 32 (d : Int)).toNat = d := by simp; omega
    rw [e1, e2]
    have := Nat.shiftLeft_add_eq_or_of_lt (a := a) (b := d) (i := 4) (by omega)
    rw [Nat.shiftLeft_eq] at this
    exact this.symm
  show IntKind.wrap .u32 (((BitVec.ofInt 32 ((a * 16 : Nat) : Int) ||| BitVec.ofInt 32 (d : Int)).toNat : Nat) : Int) = _
  rw [e]
  exact wrapu32 (by omega)
theorem byte_of (w : ByteArray) (i : Nat) : byteAt w (i : Int) = ((w.data.toList.getD i 0).toNat : Int) := by
  unfold byteAt
  rw [Int.toNat_natCast]
theorem impl_n (w : ByteArray) : impl_ReadNumber.l3.r (w, (if (8 : Int) < ((w.size : Nat) : Int) then (8 : Int) else ((w.size : Nat) : Int))) (0, 0) = some ((acc w.data.toList (min 8 w.size) : Nat) : Int) := by
  have e : (if (8 : Int) < ((w.size : Nat) : Int) then (8 : Int) else ((w.size : Nat) : Int)) = ((min 8 w.size : Nat) : Int) := by
    split <;> omega
  rw [e]
  have hf := iter_run (step := impl_ReadNumber.l3.st (w, ((min 8 w.size : Nat) : Int))) (f := fun i => (((acc w.data.toList i : Nat) : Int), (i : Int))) (e := ((acc w.data.toList (min 8 w.size) : Nat) : Int)) (n := min 8 w.size) (N := manyRounds) (k := 0) (many_lt (by omega)) (fun i hi => ?_) ?_
  · exact hf
  · simp only [Nat.zero_add]
    have hi8 : i < 8 := by omega
    have eb : Nat.toUInt8 (Int.toNat (byteAt w (i : Int))) = w.data.toList.getD i 0 := by
      rw [byte_of, Int.toNat_natCast]
      simp
    have ed := dv_index (w.data.toList.getD i 0)
    unfold D16 at ed
    simp only [impl_ReadNumber.l3.st, impl_ReadNumber.l3.s, T.get, bounds_nat, eb, ed, ior16 _ _ (acc28 w.data.toList (show i ≤ 7 by omega)) (dv_lt _)]
    rw [decide_eq_true (by omega : (i : Int) < ((min 8 w.size : Nat) : Int)), decide_eq_true (by omega : i < w.size), wrap64_succ (by omega)]
    rfl
  · simp only [Nat.zero_add, impl_ReadNumber.l3.st, impl_ReadNumber.l3.s, T.get]
    rw [decide_eq_false (by omega)]
    rfl
/-! The reference's reading. -/
theorem wrapu8 {n : Nat} (h : n < 256) : IntKind.wrap .u8 (n : Int) = n := by
  have : IntKind.wrap .u8 (n : Int) = (n : Int) % 256 := rfl
  rw [this]
  omega
theorem spec_step (w : ByteArray) (a i : Nat) (hi : i < 8) (hw : w.size = 8) (ha : a < 268435456) : (spec_l01Read.l5.s w (a : Int) (i : Int)).get = some (bif isDg (w.data.toList.getD i 0) then .inl (((a * 16 + dv (w.data.toList.getD i 0) : Nat) : Int), ((i + 1 : Nat) : Int)) else .inr (.inl (0, false, (a : Int)))) := by
  generalize hb : w.data.toList.getD i 0 = b
  have hb' : byteAt w (i : Int) = ((b.toNat : Nat) : Int) := by rw [byte_of, hb]
  have hlt : b.toNat < 256 := b.toNat_lt
  simp only [spec_l01Read.l5.s, T.get, bounds_nat, hb', hw]
  rw [decide_eq_true (by omega : (i : Int) < 8), decide_eq_true hi, wrap64_succ (by omega)]
  have e1 : (a : Int) * 16 = ((a * 16 : Nat) : Int) := by omega
  by_cases h1 : 48 ≤ b.toNat
  · rw [decide_eq_true (by omega : ((b.toNat : Nat) : Int) ≥ 48)]
    by_cases h2 : b.toNat ≤ 57
    · rw [decide_eq_true (by omega : ((b.toNat : Nat) : Int) ≤ 57)]
      have hd : isDg b = true := by
        unfold isDg
        rw [decide_eq_true h1, decide_eq_true h2]
        rfl
      have hv : dv b = b.toNat - 48 := by
        unfold dv
        rw [if_pos h2, if_pos h1]
      have e2 : ((b.toNat : Nat) : Int) - 48 = ((b.toNat - 48 : Nat) : Int) := by omega
      rw [hd, hv, e1, e2, wrapu8 (by omega), wrapu32 (by omega), wrapu32 (by omega)]
      have e3 : ((a * 16 : Nat) : Int) + ((b.toNat - 48 : Nat) : Int) = ((a * 16 + (b.toNat - 48) : Nat) : Int) := by omega
      rw [e3, wrapu32 (by omega)]
      rfl
    · rw [decide_eq_false (by omega : ¬ ((b.toNat : Nat) : Int) ≤ 57)]
      by_cases h3 : 97 ≤ b.toNat
      · rw [decide_eq_true (by omega : ((b.toNat : Nat) : Int) ≥ 97)]
        by_cases h4 : b.toNat ≤ 102
        · rw [decide_eq_true (by omega : ((b.toNat : Nat) : Int) ≤ 102)]
          have hd : isDg b = true := by
            unfold isDg
            rw [decide_eq_true h3, decide_eq_true h4]
            simp
          have hv : dv b = b.toNat - 87 := by
            unfold dv
            rw [if_neg h2, if_pos h3, if_pos h4]
          have e2 : ((b.toNat : Nat) : Int) - 97 = ((b.toNat - 97 : Nat) : Int) := by omega
          rw [hd, hv, e1, e2, wrapu8 (by omega), wrapu32 (by omega), wrapu32 (by omega)]
          have e3 : ((a * 16 : Nat) : Int) + ((b.toNat - 97 : Nat) : Int) = ((a * 16 + (b.toNat - 97) : Nat) : Int) := by omega
          rw [e3, wrapu32 (by omega)]
          have e4 : ((a * 16 + (b.toNat - 97) : Nat) : Int) + 10 = ((a * 16 + (b.toNat - 87) : Nat) : Int) := by omega
          rw [e4, wrapu32 (by omega)]
          rfl
        · rw [decide_eq_false (by omega : ¬ ((b.toNat : Nat) : Int) ≤ 102)]
          have hd : isDg b = false := by
            unfold isDg
            rw [decide_eq_false h2, decide_eq_false h4]
            simp
          rw [hd]
          rfl
      · rw [decide_eq_false (by omega : ¬ ((b.toNat : Nat) : Int) ≥ 97)]
        have hd : isDg b = false := by
          unfold isDg
          rw [decide_eq_false h2, decide_eq_false h3]
          simp
        rw [hd]
        rfl
  · rw [decide_eq_false (by omega : ¬ ((b.toNat : Nat) : Int) ≥ 48), decide_eq_false (by omega : ¬ ((b.toNat : Nat) : Int) ≥ 97)]
    have hd : isDg b = false := by
      unfold isDg
      rw [decide_eq_false h1, decide_eq_false (by omega : ¬ 97 ≤ b.toNat)]
      simp
    rw [hd]
    rfl
/-- Whether all eight are digits. -/
def allDg (w : ByteArray) : Bool := !(firstAt (fun i => !isDg (w.data.toList.getD i 0)) 8 0).isSome
theorem spec_run (w : ByteArray) (hw : w.size = 8) : ∃ y : Int, spec_l01Read.l5.r w (0, 0) = some (bif allDg w then .inr ((acc w.data.toList 8 : Nat) : Int) else .inl (0, false, y)) := by
  have step : ∀ i, i < 8 → isDg (w.data.toList.getD i 0) = true → (spec_l01Read.l5.st w (((acc w.data.toList i : Nat) : Int), (i : Int))).get = some (.inl (((acc w.data.toList (i + 1) : Nat) : Int), ((i + 1 : Nat) : Int))) := fun i hi hd => by
    have := spec_step w (acc w.data.toList i) i hi hw (acc28 _ (by omega))
    rw [hd] at this
    exact this
  unfold allDg
  cases hf : firstAt (fun i => !isDg (w.data.toList.getD i 0)) 8 0 with
  | none =>
    have hall := firstAt_none.1 hf
    have h := iter_run (step := spec_l01Read.l5.st w) (f := fun i => (((acc w.data.toList i : Nat) : Int), (i : Int))) (e := Sum.inr ((acc w.data.toList 8 : Nat) : Int)) (n := 8) (N := manyRounds) (k := 0) (many_lt (by omega)) (fun i hi => by
      simp only [Nat.zero_add]
      exact step i hi (by simpa using hall i (by omega) (by omega))) rfl
    exact ⟨0, h⟩
  | some j =>
    obtain ⟨_, hj, hp, hbefore⟩ := firstAt_some hf
    have h := iter_run (step := spec_l01Read.l5.st w) (f := fun i => (((acc w.data.toList i : Nat) : Int), (i : Int))) (e := Sum.inl (0, false, ((acc w.data.toList j : Nat) : Int))) (n := j) (N := manyRounds) (k := 0) (many_lt (by omega)) (fun i hi => by
      simp only [Nat.zero_add]
      exact step i (by omega) (by simpa using hbefore i (by omega) hi)) (by
      simp only [Nat.zero_add]
      have := spec_step w (acc w.data.toList j) j (by omega) hw (acc28 _ (by omega))
      have hd : isDg (w.data.toList.getD j 0) = false := by simpa using hp
      rw [hd] at this
      exact this)
    exact ⟨_, h⟩
/-! A word's text, and what is read of it. -/
theorem strOf_data : ∀ (xs : List Int) (b : ByteArray), (xs.foldl (fun r n => r.push (UInt8.ofNat n.toNat)) b).data.toList = b.data.toList ++ xs.map (fun n => UInt8.ofNat n.toNat)
  | [], b => by simp
  | x :: r, b => by
    rw [List.foldl_cons, strOf_data r]
    simp [ByteArray.push]
theorem hexT_data (n : Nat) : (hexT n).data.toList = [dgB (n / 268435456 % 16), dgB (n / 16777216 % 16), dgB (n / 1048576 % 16), dgB (n / 65536 % 16), dgB (n / 4096 % 16), dgB (n / 256 % 16), dgB (n / 16 % 16), dgB (n % 16)] := by
  unfold hexT Sx.strOf
  rw [strOf_data]
  rfl
theorem hexT_acc (n : Nat) (h : n < 4294967296) : acc (hexT n).data.toList 8 = n := by
  rw [hexT_data]
  have e : ∀ a b c d e f g i : UInt8, acc [a, b, c, d, e, f, g, i] 8 = ((((((((0 * 16 + dv a) * 16 + dv b) * 16 + dv c) * 16 + dv d) * 16 + dv e) * 16 + dv f) * 16 + dv g) * 16 + dv i) := fun _ _ _ _ _ _ _ _ => rfl
  rw [e]
  have q : ∀ k, dv (dgB (k % 16)) = k % 16 := fun k => (dg_is _ (Nat.mod_lt _ (by omega))).2
  rw [q, q, q, q, q, q, q, q]
  omega
theorem hexT_digits (n : Nat) : allDg (hexT n) = true := by
  unfold allDg
  have q : ∀ k, isDg (dgB (k % 16)) = true := fun k => (dg_is _ (Nat.mod_lt _ (by omega))).1
  have : firstAt (fun i => !isDg ((hexT n).data.toList.getD i 0)) 8 0 = none := by
    refine firstAt_none.2 fun i _ hi => ?_
    rw [hexT_data]
    match i, hi with
    | 0, _ | 1, _ | 2, _ | 3, _ | 4, _ | 5, _ | 6, _ | 7, _ => simp [q]
  rw [this]
  rfl
/-- Eight digits are the text of their value. -/
theorem text_of (w : ByteArray) (hw : w.size = 8) (h : allDg w = true) : hexT (acc w.data.toList 8) = w := by
  have hl : w.data.toList.length = 8 := hw
  have hd : ∀ i, i < 8 → isDg (w.data.toList.getD i 0) = true := by
    intro i hi
    unfold allDg at h
    cases hf : firstAt (fun i => !isDg (w.data.toList.getD i 0)) 8 0 with
    | none => simpa using firstAt_none.1 hf i (by omega) (by omega)
    | some j => rw [hf] at h; cases h
  refine ByteArray.ext (Array.ext' ?_)
  rw [hexT_data]
  generalize w.data.toList = l at hl hd ⊢
  match l, hl with
  | [a, b, c, d, e, f, g, i], _ =>
    have d0 := hd 0 (by omega); have d1 := hd 1 (by omega); have d2 := hd 2 (by omega); have d3 := hd 3 (by omega)
    have d4 := hd 4 (by omega); have d5 := hd 5 (by omega); have d6 := hd 6 (by omega); have d7 := hd 7 (by omega)
    simp only [List.getD_cons_zero, List.getD_cons_succ] at d0 d1 d2 d3 d4 d5 d6 d7
    have e0 : acc [a, b, c, d, e, f, g, i] 8 = ((((((((0 * 16 + dv a) * 16 + dv b) * 16 + dv c) * 16 + dv d) * 16 + dv e) * 16 + dv f) * 16 + dv g) * 16 + dv i) := rfl
    rw [e0]
    have ka := dv_lt a; have kb := dv_lt b; have kc := dv_lt c; have kd := dv_lt d
    have ke := dv_lt e; have kf := dv_lt f; have kg := dv_lt g; have ki := dv_lt i
    generalize hA : dv a = A at ka ⊢
    generalize hB : dv b = B at kb ⊢
    generalize hC : dv c = C at kc ⊢
    generalize hD : dv d = D at kd ⊢
    generalize hE : dv e = E at ke ⊢
    generalize hF : dv f = F at kf ⊢
    generalize hG : dv g = G at kg ⊢
    generalize hI : dv i = I at ki ⊢
    have m0 : ((((((((0 * 16 + A) * 16 + B) * 16 + C) * 16 + D) * 16 + E) * 16 + F) * 16 + G) * 16 + I) / 268435456 % 16 = A := by omega
    have m1 : ((((((((0 * 16 + A) * 16 + B) * 16 + C) * 16 + D) * 16 + E) * 16 + F) * 16 + G) * 16 + I) / 16777216 % 16 = B := by omega
    have m2 : ((((((((0 * 16 + A) * 16 + B) * 16 + C) * 16 + D) * 16 + E) * 16 + F) * 16 + G) * 16 + I) / 1048576 % 16 = C := by omega
    have m3 : ((((((((0 * 16 + A) * 16 + B) * 16 + C) * 16 + D) * 16 + E) * 16 + F) * 16 + G) * 16 + I) / 65536 % 16 = D := by omega
    have m4 : ((((((((0 * 16 + A) * 16 + B) * 16 + C) * 16 + D) * 16 + E) * 16 + F) * 16 + G) * 16 + I) / 4096 % 16 = E := by omega
    have m5 : ((((((((0 * 16 + A) * 16 + B) * 16 + C) * 16 + D) * 16 + E) * 16 + F) * 16 + G) * 16 + I) / 256 % 16 = F := by omega
    have m6 : ((((((((0 * 16 + A) * 16 + B) * 16 + C) * 16 + D) * 16 + E) * 16 + F) * 16 + G) * 16 + I) / 16 % 16 = G := by omega
    have m7 : ((((((((0 * 16 + A) * 16 + B) * 16 + C) * 16 + D) * 16 + E) * 16 + F) * 16 + G) * 16 + I) % 16 = I := by omega
    rw [m0, m1, m2, m3, m4, m5, m6, m7, ← hA, ← hB, ← hC, ← hD, ← hE, ← hF, ← hG, ← hI, dgB_dv a d0, dgB_dv b d1, dgB_dv c d2, dgB_dv d d3, dgB_dv e d4, dgB_dv f d5, dgB_dv g d6, dgB_dv i d7]

theorem same_refl (x : Nat) : laws_sameFloat x x = true := same_self (s := laws_sameFloat.t) (fun _ _ => rfl) x

theorem seq_eq (x y : ByteArray) : seq? x y = decide (x = y) := by
  unfold seq?
  rw [Go.Lib.toList_data, Go.Lib.toList_data]
  by_cases h : x = y
  · subst h; simp
  · rw [decide_eq_false h, beq_eq_false_iff_ne]
    exact fun q => h (ByteArray.ext (Array.ext' q))
/-- A number's word, what is none alike. -/
def cb (n : Nat) : Nat := bif isNaN .f32 n then 2143289344 else n
theorem nan_nz (n : Nat) : isNaN .f32 (nz .f32 n) = isNaN .f32 n := by
  cases h : isNaN .f32 n with
  | true =>
    rw [nz_of_nan h]
    obtain ⟨s, t, h⟩ := decode_nanOf .f32
    exact isNaN_of_read h
  | false =>
    rw [nz_of_not h]
    exact h
theorem canon_text : hexT 2143289344 = ByteArray.mk #[55, 102, 99, 48, 48, 48, 48, 48] := by
  refine ByteArray.ext (Array.ext' ?_)
  rw [hexT_data]
  decide +kernel
theorem text_nz (n : Nat) (h : n < 4294967296) : (impl_NumberText.t (nz .f32 n)).get = some (hexT (cb n)) := by
  unfold cb
  cases hn : isNaN .f32 n with
  | true =>
    simp only [impl_NumberText.t, T.get, fne_self, nan_nz, hn, cond_true, canon_text]
  | false =>
    rw [nz_of_not hn]
    exact impl_hex n h hn
theorem bits_nz (n : Nat) : (spec_l01Bits.t (nz .f32 n)).get = some ((cb n : Nat) : Int) := by
  unfold cb
  cases hn : isNaN .f32 n with
  | true =>
    simp only [spec_l01Bits.t, T.get, fne_self, nan_nz, hn, cond_true]
    rfl
  | false =>
    simp only [spec_l01Bits.t, T.get, fne_self, nan_nz, hn, cond_false, nz_of_not hn]
theorem cb_lt {n : Nat} (h : n < 4294967296) : cb n < 4294967296 := by
  unfold cb
  cases isNaN .f32 n with
  | true => (show 2143289344 < 4294967296; decide)
  | false => exact h
noncomputable def numv (w : ByteArray) : Nat := nz .f32 (acc w.data.toList 8)
def okN (w : ByteArray) : Bool := decide (w.size = 8) && (allDg w && decide (cb (acc w.data.toList 8) = acc w.data.toList 8))
theorem spec_num (w : ByteArray) : ∃ a, (spec_l01Read.t w).get = some (a, okN w) ∧ (okN w = true → a = numv w) := by
  unfold okN
  by_cases hw : w.size = 8
  · obtain ⟨y, hr⟩ := spec_run w hw
    rw [decide_eq_true hw]
    have h8 : (((w.size : Nat) : Int) != 8) = false := by rw [hw]; rfl
    simp only [spec_l01Read.t, T.get, hr, h8]
    cases allDg w with
    | false => exact ⟨_, rfl, fun h => by cases h⟩
    | true =>
      have hb := bits_nz (acc w.data.toList 8)
      have e : ∀ n k : Nat, (((n : Nat) : Int) == ((k : Nat) : Int)) = decide (n = k) := fun n k => by
        by_cases q : n = k
        · subst q; simp
        · rw [decide_eq_false q, beq_eq_false_iff_ne]
          omega
      simp only [cond_true, cond_false, Option.isSome_some, Option.getD_some, Sum.isLeft, getRightD, Int.toNat_natCast, show spec_l01Bits.ok (nz .f32 (acc w.data.toList 8)) = true from T.ok_of_get (hb), show spec_l01Bits (nz .f32 (acc w.data.toList 8)) = _ from T.val_of_get (hb), e, Bool.true_and]
      exact ⟨_, rfl, fun _ => rfl⟩
  · rw [decide_eq_false hw]
    have h8 : (((w.size : Nat) : Int) != 8) = true := by
      rw [bne_iff_ne]
      omega
    simp only [spec_l01Read.t, T.get, h8]
    exact ⟨_, rfl, fun h => by cases h⟩
theorem impl_num (w : ByteArray) : (impl_ReadNumber.t w).get = some (bif okN w then (numv w, 0) else (0, 5)) := by
  have hlt : acc w.data.toList (min 8 w.size) < 4294967296 := acc32 _ (by omega)
  have ht := text_nz _ hlt
  simp only [impl_ReadNumber.t, T.get, impl_n, Option.isSome_some, Option.getD_some, Int.toNat_natCast, show impl_NumberText.ok (nz .f32 (acc w.data.toList (min 8 w.size))) = true from T.ok_of_get (ht), show impl_NumberText (nz .f32 (acc w.data.toList (min 8 w.size))) = _ from T.val_of_get (ht), seq_eq]
  have key : decide (hexT (cb (acc w.data.toList (min 8 w.size))) = w) = okN w := by
    unfold okN
    by_cases hw : w.size = 8
    · have hm : min 8 w.size = 8 := by omega
      rw [hm, decide_eq_true hw, Bool.true_and]
      cases ha : allDg w with
      | false =>
        rw [decide_eq_false, Bool.false_and]
        intro q
        have := hexT_digits (cb (acc w.data.toList 8))
        rw [q, ha] at this
        cases this
      | true =>
        rw [Bool.true_and]
        have h1 := text_of w hw ha
        by_cases hc : cb (acc w.data.toList 8) = acc w.data.toList 8
        · rw [decide_eq_true hc, hc, decide_eq_true h1]
        · rw [decide_eq_false hc, decide_eq_false]
          intro q
          refine hc ?_
          have h2 := hexT_acc (cb (acc w.data.toList 8)) (cb_lt (acc32 _ (Nat.le_refl _)))
          rw [q] at h2
          exact h2.symm
    · rw [decide_eq_false hw, Bool.false_and, decide_eq_false]
      intro q
      refine hw ?_
      rw [← q]
      exact hexT_size _
  rw [key]
  cases ho : okN w with
  | false => rfl
  | true =>
    have hw : w.size = 8 := by
      unfold okN at ho
      rw [Bool.and_eq_true] at ho
      simpa using ho.1
    have hm : min 8 w.size = 8 := by omega
    rw [hm]
    rfl
noncomputable def nums (P : List ByteArray) : Nat → List Nat
  | 0 => []
  | i + 1 => nums P i ++ [numv (P.getD i ByteArray.empty)]
theorem nums_len (P : List ByteArray) : ∀ i, (nums P i).length = i
  | 0 => rfl
  | i + 1 => by
    show (nums P i ++ _).length = _
    rw [List.length_append, nums_len P i]
    rfl
theorem numbers_t (P : List ByteArray) (m : Int) (hP : P.length ≤ 1048577) : ∃ r, (impl_numbersOf.t P.length m P).get = some r ∧ (match firstAt (fun i => !okN (P.getD i ByteArray.empty)) P.length 0 with | some _ => r = .inl false | none => r = .inr (P.length, true, nums P P.length)) := by
  have step : ∀ i, i < P.length → (impl_numbersOf.l3.st (P.length, (P.length : Int), m, P) (i, (i : Int), nums P i)).get = some (bif okN (P.getD i ByteArray.empty) then .inl (i + 1, ((i + 1 : Nat) : Int), nums P (i + 1)) else .inr (.inl (false, i, nums P i))) := fun i hi => by
    have hn := impl_num (P.getD i ByteArray.empty)
    have hc : ∀ y : Nat, (Nat.ble 1 (List.length [y]) && (Nat.beq (List.length (nums P i)) (i * 1) && Nat.ble ((i + 1) * 4) 35184372088832 && Nat.ble (i + 1) 35184372088832)) = true := fun y => by
      rw [nums_len, Nat.mul_one, Nat.beq_refl, ble_decide, ble_decide, ble_decide, decide_eq_true (by simp : 1 ≤ List.length [y]), decide_eq_true (by omega : (i + 1) * 4 ≤ 35184372088832), decide_eq_true (by omega : i + 1 ≤ 35184372088832)]
      rfl
    simp only [impl_numbersOf.l3.st, impl_numbersOf.l3.s, T.get, bounds_nat, Int.toNat_natCast, Nat.mul_one, show impl_ReadNumber.ok (P.getD i ByteArray.empty) = true from T.ok_of_get (hn), show impl_ReadNumber (P.getD i ByteArray.empty) = _ from T.val_of_get (hn)]
    have hc' := hc
    simp only [Nat.mul_one] at hc'
    simp only [hc']
    simp only [ble_decide]
    rw [decide_eq_true (by omega : (i : Int) < (P.length : Int)), decide_eq_true hi, decide_eq_true (by omega : i + 1 ≤ P.length), wrap64_succ (by omega)]
    cases okN (P.getD i ByteArray.empty) <;> rfl
  have fin : (impl_numbersOf.l3.st (P.length, (P.length : Int), m, P) (P.length, (P.length : Int), nums P P.length)).get = some (.inr (.inr (P.length, nums P P.length))) := by
    simp only [impl_numbersOf.l3.st, impl_numbersOf.l3.s, T.get]
    rw [decide_eq_false (by omega)]
    rfl
  cases hf : firstAt (fun i => !okN (P.getD i ByteArray.empty)) P.length 0 with
  | none =>
    have hall := firstAt_none.1 hf
    have h := iter_run (step := impl_numbersOf.l3.st (P.length, (P.length : Int), m, P)) (f := fun i => (i, (i : Int), nums P i)) (e := Sum.inr (P.length, nums P P.length)) (n := P.length) (N := manyRounds) (k := 0) (many_lt (by omega)) (fun i hi => by
      simp only [Nat.zero_add]
      rw [step i hi, show okN (P.getD i ByteArray.empty) = true from by simpa using hall i (by omega) (by omega)]
      rfl) (by simp only [Nat.zero_add]; exact fin)
    have h' : impl_numbersOf.l3.r (P.length, (P.length : Int), m, P) (0, (0 : Int), []) = some (Sum.inr (P.length, nums P P.length)) := h
    simp only [impl_numbersOf.t, T.get, h']
    exact ⟨_, rfl, rfl⟩
  | some j =>
    obtain ⟨_, hj, hp, hbefore⟩ := firstAt_some hf
    have h := iter_run (step := impl_numbersOf.l3.st (P.length, (P.length : Int), m, P)) (f := fun i => (i, (i : Int), nums P i)) (e := Sum.inl (false, j, nums P j)) (n := j) (N := manyRounds) (k := 0) (many_lt (by omega)) (fun i hi => by
      simp only [Nat.zero_add]
      rw [step i (by omega), show okN (P.getD i ByteArray.empty) = true from by simpa using hbefore i (by omega) hi]
      rfl) (by
      simp only [Nat.zero_add]
      rw [step j (by omega), show okN (P.getD j ByteArray.empty) = false from by simpa using hp]
      rfl)
    have h' : impl_numbersOf.l3.r (P.length, (P.length : Int), m, P) (0, (0 : Int), []) = some (Sum.inl (false, j, nums P j)) := h
    simp only [impl_numbersOf.t, T.get, h']
    exact ⟨_, rfl, rfl⟩
noncomputable def setN (P : List ByteArray) : Nat → List Nat
  | 0 => [0, 0, 0, 0]
  | i + 1 => (setN P i).set i (numv (P.getD i ByteArray.empty))
theorem setN_len (P : List ByteArray) : ∀ i, (setN P i).length = 4
  | 0 => rfl
  | i + 1 => by
    show ((setN P i).set _ _).length = 4
    rw [List.length_set, setN_len P i]
theorem four_t (P : List ByteArray) (m : Int) (hP : P.length = 4) : ∃ r, spec_ReadStone.l6.r (4, m, 0, 0, 0, 0, P) ((0 : Int), [0, 0, 0, 0]) = some r ∧ (match firstAt (fun i => !okN (P.getD i ByteArray.empty)) 4 0 with | some _ => ∃ q, r = .inl (5, 0, 0, 0, 0, q) | none => r = .inr (setN P 4)) := by
  have step : ∀ i : Nat, i < 4 → (spec_ReadStone.l6.st (4, m, 0, 0, 0, 0, P) ((i : Int), setN P i)).get = some (bif okN (P.getD i ByteArray.empty) then .inl (((i + 1 : Nat) : Int), setN P (i + 1)) else .inr (.inl (5, 0, 0, 0, 0, setN P i))) := fun i hi => by
    obtain ⟨a, hn, ha⟩ := spec_num (P.getD i ByteArray.empty)
    have hb4 : bounds (i : Int) 4 = true := by rw [bounds_nat, decide_eq_true hi]
    simp only [spec_ReadStone.l6.st, spec_ReadStone.l6.s, T.get, hb4, ble_decide, Int.toNat_natCast, Nat.mul_one, Nat.zero_add, setN_len, hP, show spec_l01Read.ok (P.getD i ByteArray.empty) = true from T.ok_of_get (hn), show spec_l01Read (P.getD i ByteArray.empty) = _ from T.val_of_get (hn)]
    rw [decide_eq_true (by omega : (i : Int) < 4), decide_eq_true (by omega : i + 1 ≤ 4), wrap64_succ (by omega)]
    cases ho : okN (P.getD i ByteArray.empty) with
    | false => rfl
    | true =>
      rw [ha ho]
      rfl
  have fin : (spec_ReadStone.l6.st (4, m, 0, 0, 0, 0, P) ((4 : Nat), setN P 4)).get = some (.inr (.inr (setN P 4))) := rfl
  cases hf : firstAt (fun i => !okN (P.getD i ByteArray.empty)) 4 0 with
  | none =>
    have hall := firstAt_none.1 hf
    have h := iter_run (step := spec_ReadStone.l6.st (4, m, 0, 0, 0, 0, P)) (f := fun i => ((i : Int), setN P i)) (e := Sum.inr (setN P 4)) (n := 4) (N := manyRounds) (k := 0) (many_lt (by omega)) (fun i hi => by
      simp only [Nat.zero_add]
      rw [step i hi, show okN (P.getD i ByteArray.empty) = true from by simpa using hall i (by omega) (by omega)]
      rfl) (by simp only [Nat.zero_add]; exact fin)
    exact ⟨_, h, rfl⟩
  | some j =>
    obtain ⟨_, hj, hp, hbefore⟩ := firstAt_some hf
    have h := iter_run (step := spec_ReadStone.l6.st (4, m, 0, 0, 0, 0, P)) (f := fun i => ((i : Int), setN P i)) (e := Sum.inl (5, 0, 0, 0, 0, setN P j)) (n := j) (N := manyRounds) (k := 0) (many_lt (by omega)) (fun i hi => by
      simp only [Nat.zero_add]
      rw [step i (by omega), show okN (P.getD i ByteArray.empty) = true from by simpa using hbefore i (by omega) hi]
      rfl) (by
      simp only [Nat.zero_add]
      rw [step j (by omega), show okN (P.getD j ByteArray.empty) = false from by simpa using hp]
      rfl)
    exact ⟨_, h, ⟨_, rfl⟩⟩
theorem eqStone_t (a b c d : Nat) (m : Int) : (laws_eqStone.t a b c d a b c d m).get = some true := by
  simp only [laws_eqStone.t, T.get, open_wide, same_refl]
  simp
theorem stone_text (a b c d : Nat) (m : Int) (ha : a < 4294967296) (hb : b < 4294967296) (hc : c < 4294967296) (hd : d < 4294967296) : (impl_StoneText.t a b c d m).get = some (bif spec_l04Ok a b c d then text4 a b c d else ByteArray.mk #[]) := by
  simp only [impl_StoneText.t, T.get, valid_eq]
  cases hok : spec_l04Ok a b c d with
  | false => rfl
  | true =>
    obtain ⟨na, nb, nc, nd⟩ := ok_nums hok
    have h2 := impl_text a b c d ha hb hc hd na nb nc nd
    simp only [show impl_texts.ok (ByteArray.mk #[47]) 4 [a, b, c, d] = true from T.ok_of_get (h2), show impl_texts (ByteArray.mk #[47]) 4 [a, b, c, d] = _ from T.val_of_get (h2)]
    rfl
theorem numv_lt (w : ByteArray) : numv w < 4294967296 := nz_has (k := .f32) (acc32 _ (Nat.le_refl _))
theorem numv_text {w : ByteArray} (h : okN w = true) (hn : isNaN .f32 (numv w) = false) : hexT (numv w) = w := by
  unfold okN at h
  rw [Bool.and_eq_true, Bool.and_eq_true] at h
  obtain ⟨h1, h2, _⟩ := h
  unfold numv at hn ⊢
  rw [nan_nz] at hn
  rw [nz_of_not hn]
  exact text_of w (by simpa using h1) h2
theorem read_t (x : ByteArray) (m : Int) (hx : x.size ≤ 1048576) : ∃ r, (spec_ReadStone.t x m).get = some r ∧ (impl_ReadStone.t x m).get = some r := by
  have hcut := cut_t x m hx
  have hsp := split_pieces x 47
  have hlen : (splitL x (ByteArray.mk #[47])).length ≤ 1048577 := by
    have h1 : (splitL x (ByteArray.mk #[47])).length = Go.Lib.countB x (ByteArray.mk #[47]) + 1 := Go.Lib.splitB_all _ (by decide) 0 _ x rfl
    have h2 := countB_small x (ByteArray.mk #[47]) (by decide)
    omega
  have hguard : (Nat.ble x.size 1048576 && Nat.ble 1 (ByteArray.size (ByteArray.mk #[47]))) = true := by
    rw [ble_decide, decide_eq_true hx]
    rfl
  simp only [spec_ReadStone.t, impl_ReadStone.t, T.get, hguard, show spec_l01Split.ok x 47 = true from T.ok_of_get (hcut), show spec_l01Split x 47 = _ from T.val_of_get (hcut)]
  clear hcut hguard
  generalize splitL x (ByteArray.mk #[47]) = P at hsp hlen ⊢
  obtain ⟨r, hr, hcase⟩ := numbers_t P m hlen
  simp only [show impl_numbersOf.ok P.length m P = true from T.ok_of_get (hr), show impl_numbersOf P.length m P = _ from T.val_of_get (hr)]
  clear hr
  by_cases h4 : P.length = 4
  · obtain ⟨q, hq, hcase2⟩ := four_t P m h4
    have hq' : spec_ReadStone.l6.r (P.length, m, 0, 0, 0, 0, P) ((0 : Int), List.set (List.set (List.set (List.set [0, 0, 0, 0] 0 0) 1 0) 2 0) 3 0) = some q := by
      rw [h4]
      exact hq
    have hne : (((P.length : Nat) : Int) != 4) = false := by rw [h4]; rfl
    rw [h4] at hcase
    simp only [hq', hne]
    clear hq hq'
    cases hf : firstAt (fun i => !okN (P.getD i ByteArray.empty)) 4 0 with
    | some j =>
      rw [hf] at hcase hcase2
      obtain ⟨z, rfl⟩ := hcase2
      dsimp only at hcase
      subst hcase
      exact ⟨_, rfl, rfl⟩
    | none =>
      have hall := firstAt_none.1 hf
      rw [hf] at hcase hcase2
      dsimp only at hcase hcase2
      subst hcase
      subst hcase2
      obtain ⟨w0, w1, w2, w3, rfl⟩ : ∃ w0 w1 w2 w3, P = [w0, w1, w2, w3] := by
        match P, h4 with
        | [a, b, c, d], _ => exact ⟨a, b, c, d, rfl⟩
      have o0 : okN w0 = true := by simpa using hall 0 (by omega) (by omega)
      have o1 : okN w1 = true := by simpa using hall 1 (by omega) (by omega)
      have o2 : okN w2 = true := by simpa using hall 2 (by omega) (by omega)
      have o3 : okN w3 = true := by simpa using hall 3 (by omega) (by omega)
      have hst := stone_text (numv w0) (numv w1) (numv w2) (numv w3) m (numv_lt _) (numv_lt _) (numv_lt _) (numv_lt _)
      have en : nums [w0, w1, w2, w3] 4 = [numv w0, numv w1, numv w2, numv w3] := rfl
      have es : setN [w0, w1, w2, w3] 4 = [numv w0, numv w1, numv w2, numv w3] := rfl
      have g0 : List.getD [numv w0, numv w1, numv w2, numv w3] 0 0 = numv w0 := rfl
      have g1 : List.getD [numv w0, numv w1, numv w2, numv w3] 1 0 = numv w1 := rfl
      have g2 : List.getD [numv w0, numv w1, numv w2, numv w3] 2 0 = numv w2 := rfl
      have g3 : List.getD [numv w0, numv w1, numv w2, numv w3] 3 0 = numv w3 := rfl
      simp only [en, es, Option.isSome_some, Option.getD_some, Sum.isLeft, getRightD, g0, g1, g2, g3, show impl_StoneText.ok (numv w0) (numv w1) (numv w2) (numv w3) m = true from T.ok_of_get (hst), show impl_StoneText (numv w0) (numv w1) (numv w2) (numv w3) m = _ from T.val_of_get (hst), seq_eq]
      have hj := pcs_join 47 x.data.toList
      rw [← hsp] at hj
      cases hok : spec_l04Ok (numv w0) (numv w1) (numv w2) (numv w3) with
      | true =>
        obtain ⟨n0, n1, n2, n3⟩ := ok_nums hok
        have ht : text4 (numv w0) (numv w1) (numv w2) (numv w3) = x := by
          unfold text4
          rw [numv_text o0 n0, numv_text o1 n1, numv_text o2 n2, numv_text o3 n3]
          refine ByteArray.ext (Array.ext' ?_)
          rw [← hj]
          simp [List.intercalate, List.intersperse, ByteArray.data_append]
        simp only [cond_true, cond_false, ht, decide_true, Bool.not_true]
        exact ⟨_, rfl, rfl⟩
      | false =>
        have ht : ¬ ByteArray.mk #[] = x := by
          intro q
          subst q
          have : ([w0, w1, w2, w3].map (·.data.toList)).length = (pcs 47 []).length := by rw [hsp]
          simp [pcs] at this
        simp only [cond_true, cond_false, ht, decide_false, Bool.not_false]
        exact ⟨_, rfl, rfl⟩
  · have hne : (((P.length : Nat) : Int) != 4) = true := by
      rw [bne_iff_ne]
      omega
    simp only [hne]
    cases hf : firstAt (fun i => !okN (P.getD i ByteArray.empty)) P.length 0 with
    | some j =>
      rw [hf] at hcase
      dsimp only at hcase
      subst hcase
      exact ⟨_, rfl, rfl⟩
    | none =>
      rw [hf] at hcase
      dsimp only at hcase
      subst hcase
      simp only [Sum.isLeft, getRightD, hne]
      exact ⟨_, rfl, rfl⟩
theorem law_holds (x : ByteArray) (m : Int) : (laws_FnExactReadStone.t x m).get = some true := by
  simp only [laws_FnExactReadStone.t, T.get]
  by_cases hb : ((x.size : Nat) : Int) > 1048576
  · rw [decide_eq_true hb]
    rfl
  · rw [decide_eq_false hb]
    obtain ⟨⟨a, b, c, d, e⟩, h1, h2⟩ := read_t x m (by omega)
    have h3 := eqStone_t a b c d m
    simp only [show spec_ReadStone.ok x m = true from T.ok_of_get (h1), show spec_ReadStone x m = _ from T.val_of_get (h1), show impl_ReadStone.ok x m = true from T.ok_of_get (h2), show impl_ReadStone x m = _ from T.val_of_get (h2), show laws_eqStone.ok a b c d a b c d m = true from T.ok_of_get (h3), show laws_eqStone a b c d a b c d m = _ from T.val_of_get (h3)]
    simp

theorem law_plain (x0 : ByteArray) (mx : Int) (f0 : ((ByteArray.size x0 : Nat) : Int) ≤ IntKind.i64.max) : (laws_FnExactReadStone.tr (x0, mx)).get = some true := law_holds x0 mx
theorem own : ownKnob Tryd.prog.godebug = none := by kernel_rfl
theorem laidOut : laidOutB Tryd.prog = true := by kernel_rfl
/-- What the walk gives, for every argument and every world. -/
theorem contract (H : Type) (enc : TypeId × Value → H) (W : World) (base : Nat) (args : Array Value) (ds gs : List (DataW H)) (before : List MemPlace)
    (hval0 : ∀ (j : Nat) t v, Tryd.f3.params[j]? = some t → args[j]? = some v → Value.okWide Tryd.prog W .any base t v)
    (hW : DataW.Whole enc Tryd.prog Tryd.f3.params.toList Rows.fnExactReadStoneSpec.vars false W args.toList ds gs before) (hsh : W.ShapedOpen Tryd.prog) :
    Calls Tryd.prog 3 args W fun e W' => ∃ v, e = .returned v ∧ Rows.fnExactReadStoneSpec.post enc Tryd.prog Tryd.f3 false true false false W args v W' := by
  obtain ⟨mx, hmx⟩ := cell_of_shapedOpen_int (k := .i64) (g := 1) (t := 3) (zero := #[.int .i64 0]) hsh (Nat.le_of_ble_eq_true (by kernel_rfl)) (by kernel_rfl) rfl (by kernel_rfl) (by kernel_rfl) Tryd.underlying3
  have hval : ∀ (j : Nat) t v, Tryd.f3.params[j]? = some t → args[j]? = some v → Value.okWide Tryd.prog W .any base t v := hval0
  have hW' := hW
  obtain ⟨p, q, hA0, hV, rfl, hfz, hnd⟩ := hW
  have hA : DataW.TrodAll enc Tryd.prog W 0 (fun _ => true) true Tryd.f3.params.toList args.toList ds p := hA0
  rw [Tryd.params3] at hA hval
  obtain ⟨v0, vs0, d0, ds0, p0, q0, hargs, rfl, rfl, h0, rr0⟩ := trodAll_cons hA
  obtain ⟨rfl, rfl, rfl⟩ := trodAll_nil rr0
  obtain rfl : args = #[v0] := by cases args; simp_all
  obtain ⟨rfl, rfl⟩ := trodVars_none hV
  have k0 := h0
  have lt0 : ∀ x ∈ p0, x.block < W.heap.size := by obtain ⟨m, hm⟩ := k0; exact DataW.trod_lt m _ _ _ hm
  obtain ⟨x0, r0, f0⟩ := sc_st Tryd.underlying9 (cell_of Tryd.underlying9 rfl (hval 0 9 v0 rfl rfl))
  clear hA0 hval0
  refine (laws_FnExactReadStone.walk (x0, mx) (law_plain x0 mx f0) (ρ := fun i => (lget ([(⟨1, 0, 0⟩, ⟨false, 0, 1 + 1, .vs [.it .i64 mx]⟩)] : List (Sx.Loc × Blk)) i).map (·.1)) (Rs_cons' (r0 _) Rs_nil') (HpR.ofBl [(⟨1, 0, 0⟩, ⟨false, 0, 1 + 1, .vs [.it .i64 mx]⟩)] (List.forall_mem_cons.2 ⟨pinned_bl hmx, List.forall_mem_nil _⟩))).mono fun e W' ⟨he, bel⟩ => ?_
  subst he
  exact ⟨_, rfl, _, _, _, [], _, [], hW', trodAll_mk1 (shut_bool Tryd.underlying4 _), (trodAll_cons_mk (Below.trod laidOut (by kernel_rfl) (of_decide_eq_true (by kernel_rfl)) k0 bel lt0) trodAll_mk0), rfl, bel.frame _, fun h => by cases h⟩
/-- A world for the witness: the settled one, the two tables holding what their initialisers lay. -/
noncomputable def laidWorld (os : Os) : World :=
  let w0 := World.holding Tryd.prog os ⟨#[], #[], []⟩
  let put (h : Array Obj) (g : Nat) (cs : Array Value) : Array Obj := h.modify g fun
    | .cells _ t frozen => .cells cs t frozen
    | o => o
  let h1 := put w0.heap 2 (Lib.firstTab.map fun z => Value.int .u8 z).toArray
  let h2 := put h1 3 ((List.range 16).flatMap fun i => [Value.int .u8 (Lib.accLo i), Value.int .u8 (Lib.accHi i)]).toArray
  { w0 with heap := h2 }
theorem laid_met (os : Os) : laidMet Tryd.prog Rows.fnExactReadStoneRow.laid ((laidWorld os).forCall (fun _ _ => 0) ⟨#[], #[.string ByteArray.empty], []⟩).memory :=
  laidMet_of_run' 8 (by kernel_rfl) (by kernel_rfl)
theorem reads (os : Os) {H : Type} (enc : TypeId × Value → H) : ∃ places, DataW.whole enc Tryd.prog ((laidWorld os).forCall (fun _ _ => 0) ⟨#[], #[.string ByteArray.empty], []⟩).memory Tryd.f3.params.toList Rows.fnExactReadStoneSpec.vars false #[Value.string ByteArray.empty].toList 8 = some ([.lit (.string [])], [], places) :=
  ⟨[], by kernel_rfl⟩
set_option maxRecDepth 100000 in
theorem lifted (os : Os) (started : os.Started) (H : Type) (enc : TypeId × Value → H) (F : Stop.Interp) :
    ReturnsInHanded {} Tryd.checked os 3 .any ((OpenSpec.ofChange Rows.fnExactReadStoneSpec).preRow enc Tryd.prog Tryd.f3 Rows.fnExactReadStoneRow.domain false Rows.fnExactReadStoneRow.laid) (((OpenSpec.ofChange Rows.fnExactReadStoneSpec).at F).post enc Tryd.prog Tryd.f3 false true false false) := by
  obtain ⟨places, hx⟩ := reads os enc
  refine returnsInHanded_of_row (C := Tryd.checked) (s := OpenSpec.ofChange Rows.fnExactReadStoneSpec) own started (by kernel_rfl) Tryd.func3
    (witness_row_at (enc := enc) (C := Tryd.checked) false (laidWorld os) #[.string ByteArray.empty] rfl (by kernel_rfl) (by kernel_rfl) (by kernel_rfl)
      (OpenSpec.preRow_of_cond 8 hx (by kernel_rfl) (fun k hk => by cases hk) (by kernel_rfl) (laid_met os))) ?_
  intro W base args ds gs before hval hW _ _ _ _ hsh _
  exact contract H enc W base args ds gs before hval hW hsh
theorem said : Rows.FnExactReadStoneSaid :=
  OpenClaim.holds_of_cond 3 Tryd.f3 rfl rfl rfl rfl rfl rfl rfl ⟨rfl, rfl, rfl, rfl, rfl⟩ rfl rfl rfl rfl rfl (by kernel_rfl) Tryd.func3 (by kernel_rfl)
    (of_decide_eq_true (by kernel_rfl)) (by unfold Func.isWrapper; first | (rw [if_pos (by decide +kernel)]; kernel_rfl) | (rw [if_neg (by decide +kernel)]; exact ⟨rfl, rfl⟩))
    (fun os started H enc _ F => by rw [OpenClaim.pre_eq_preRow]; exact lifted os started H enc F)
theorem bare (f : FuncId) (fn : Func) (hf : Tryd.pinned.checked.prog.funcNamed Rows.fnExactReadStoneRow.func = some f) (hfn : Tryd.pinned.checked.prog.funcs[f]? = some fn) :
    false = Tryd.pinned.checked.prog.looks [] ∧ ∀ (j : Nat) t, fn.params[j]? = some t → Tryd.pinned.checked.prog.wantsStandIn t = false := by
  obtain rfl : f = 3 := Option.some.inj ((show Tryd.prog.funcNamed Rows.fnExactReadStoneRow.func = some 3 by kernel_rfl).symm.trans hf) |>.symm
  obtain rfl : fn = Tryd.f3 := (Option.some.inj (Tryd.func3.symm.trans hfn)).symm
  refine ⟨by kernel_rfl, fun j t ht => ?_⟩
  rw [Tryd.params3] at ht
  obtain rfl : t = 9 := by simpa using Array.mem_of_getElem? ht
  exact (show Tryd.prog.wantsStandIn 9 = false by kernel_rfl)
theorem proved : Rows.FnExactReadStoneCardSaid :=
  Claim7.holds_tied_plain_at .later [] _ _ _ _ said (fun _ h => by cases h) (by kernel_rfl) (fun _ h => by cases h) fnExactReadStone_row_tie rfl ⟨rfl, rfl⟩ (by kernel_rfl) rfl bare (by kernel_rfl)
end Go.Proofs.YtffpnngoafpidaaDoor
