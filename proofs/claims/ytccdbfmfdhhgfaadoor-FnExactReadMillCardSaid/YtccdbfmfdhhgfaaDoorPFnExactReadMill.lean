/- For every input the call of FnExactReadMill returns true, and each argument reads afterwards as it read before; there is no condition. -/
import Derived.Test.YtccdbfmfdhhgfaaDoorWFnExactReadMill
import Derived.Test.YtccdbfmfdhhgfaaDoorSxS
import Derived.Test.YtccdbfmfdhhgfaaDoorSxV
import Derived.Test.YtccdbfmfdhhgfaaDoorSxW
import Derived.Test.YtccdbfmfdhhgfaaDoorCards
import Derived.Test.YtccdbfmfdhhgfaaDoorTie
import Derived.WalkKit
import Derived.ProofKit
import Derived.OpenShut
import Derived.ShutString
import Derived.ChangeOld
import Derived.Below
import Derived.Carry
import Derived.HandedShaped
import Derived.Deep.DeepHandedRow
import Derived.Lib.LaidTab
import Derived.Shelf.Vars
import Derived.Lib.LaidU8
import Derived.Lib.DecodeN
import Derived.Stop.LaidErr
import Derived.LaidLaws
import Derived.Test.YtccdbfmfdhhgfaaDoorSxB2
namespace Go.Proofs.YtccdbfmfdhhgfaaDoor
open Go Go.RowKit Sx
open Go.ChangeShapes Go.WideShapes Go.ChangeAt
set_option linter.unusedVariables false
set_option linter.unusedSimpArgs false
set_option maxRecDepth 100000

theorem within_eq (x y z : Int) : impl_within x y z = spec_l00In x y z := by
  simp only [impl_within, impl_within.t, spec_l00In, spec_l00In.t, T.val, ge_iff_le]

-- lies in the core (SxQ)

theorem length_eq (x : Nat) : impl_IsLength x = spec_l03Length x := by
  simp only [impl_IsLength, impl_IsLength.t, impl_between, impl_between.t, spec_l03Length, spec_l03Length.t, T.val, fge_flip]

theorem vmill_eq (x0 : Int) (x1 x2 : Nat) : impl_ValidMill x0 x1 x2 = spec_l03Mill x0 x1 x2 := by
  simp only [impl_ValidMill, impl_ValidMill.t, spec_l03Mill, spec_l03Mill.t, T.val, within_eq, length_eq]
theorem length_pos {x : Nat} (h : spec_l03Length x = true) : isNaN .f32 x = false ∧ ∀ s e, FloatKind.f32.format.read x ≠ .number s 0 e := by
  simp only [spec_l03Length, spec_l03Length.t, T.val, fge_flip] at h
  cases h1 : fle .f32 1031798784 x with
  | false => rw [h1] at h; cases h
  | true => exact pos_of_le (show FloatKind.f32.format.read 1031798784 = .number false 8388608 (-27) by kernel_rfl) (by omega) h1
theorem mill_pos {x0 : Int} {x1 x2 : Nat} (h : spec_l03Mill x0 x1 x2 = true) : isNaN .f32 x1 = false ∧ ∀ s e, FloatKind.f32.format.read x1 ≠ .number s 0 e := by
  refine length_pos ?_
  simp only [spec_l03Mill, spec_l03Mill.t, T.val] at h
  generalize spec_l00In (IntKind.wrap .i64 x0) 4 48 = p at h
  generalize spec_l03Length x1 = q at h ⊢
  cases p <;> cases q <;> first | rfl | cases h

/-- A hexadecimal digit. -/
def dg (n : Nat) : Int := byteAt (ByteArray.mk #[48, 49, 50, 51, 52, 53, 54, 55, 56, 57, 97, 98, 99, 100, 101, 102]) (n : Int)
def hexL (x : Nat) : List Int := [dg (x / 268435456 % 16), dg (x / 16777216 % 16), dg (x / 1048576 % 16), dg (x / 65536 % 16), dg (x / 4096 % 16), dg (x / 256 % 16), dg (x / 16 % 16), dg (x % 16)]
/-- The text of a number's word. -/
def hexT (x : Nat) : ByteArray := Sx.strOf (hexL x)
theorem strOf_size : ∀ (xs : List Int) (b : ByteArray), (xs.foldl (fun r n => r.push (UInt8.ofNat n.toNat)) b).size = b.size + xs.length
  | [], b => rfl
  | x :: r, b => by
    rw [List.foldl_cons, strOf_size r, ByteArray.size_push, List.length_cons]
    omega
theorem hexT_size (x : Nat) : (hexT x).size = 8 := by
  unfold hexT Sx.strOf
  rw [strOf_size]
  rfl
theorem wrapu32 {n : Nat} (h : n < 4294967296) : IntKind.wrap .u32 (n : Int) = n := by
  have : IntKind.wrap .u32 (n : Int) = (n : Int) % 4294967296 := rfl
  rw [this]
  omega
theorem ibits15 (n : Nat) (h : n < 4294967296) : ibits .and .u32 (n : Int) 15 = ((n % 16 : Nat) : Int) := by
  have e : (BitVec.ofInt 32 (n : Int) &&& BitVec.ofInt 32 15).toNat = n % 16 := by
    rw [BitVec.toNat_and]
    have e1 : (BitVec.ofInt 32 (n : Int)).toNat = n := by simp; omega
    have e2 : (BitVec.ofInt 32 15).toNat = 2 ^ 4 - 1 := by decide
    rw [e1, e2, Nat.and_two_pow_sub_one_eq_mod]
  show IntKind.wrap .u32 (((BitVec.ofInt 32 (n : Int) &&& BitVec.ofInt 32 15).toNat : Nat) : Int) = _
  rw [e]
  exact wrapu32 (by omega)
theorem bound16 (n : Nat) (h : n < 16) : bounds (n : Int) (ByteArray.size (ByteArray.mk #[48, 49, 50, 51, 52, 53, 54, 55, 56, 57, 97, 98, 99, 100, 101, 102])) = true := by
  have e : ByteArray.size (ByteArray.mk #[48, 49, 50, 51, 52, 53, 54, 55, 56, 57, 97, 98, 99, 100, 101, 102]) = 16 := rfl
  rw [e, bounds_nat, decide_eq_true h]

def implH (x : Nat) : Nat → List Int
  | 0 => []
  | j + 1 => implH x j ++ [dg (x / 2 ^ (28 - 4 * j) % 16)]
theorem implH_len (x : Nat) : ∀ j, (implH x j).length = j
  | 0 => rfl
  | j + 1 => by
    show (implH x j ++ _).length = _
    rw [List.length_append, implH_len x j]
    rfl
theorem implH_8 (x : Nat) : implH x 8 = hexL x := by
  have e : implH x 8 = [dg (x / 2 ^ 28 % 16), dg (x / 2 ^ 24 % 16), dg (x / 2 ^ 20 % 16), dg (x / 2 ^ 16 % 16), dg (x / 2 ^ 12 % 16), dg (x / 2 ^ 8 % 16), dg (x / 2 ^ 4 % 16), dg (x / 2 ^ 0 % 16)] := rfl
  rw [e]
  unfold hexL
  rw [show (2 : Nat) ^ 28 = 268435456 by decide, show (2 : Nat) ^ 24 = 16777216 by decide, show (2 : Nat) ^ 20 = 1048576 by decide, show (2 : Nat) ^ 16 = 65536 by decide, show (2 : Nat) ^ 12 = 4096 by decide, show (2 : Nat) ^ 8 = 256 by decide, show (2 : Nat) ^ 4 = 16 by decide, show (2 : Nat) ^ 0 = 1 by decide, Nat.div_one]
theorem impl_r (x : Nat) (h : x < 4294967296) : impl_NumberText.l5v1.r (x : Int) (0, (28 : Int), []) = some (8, hexL x) := by
  have hf := iter_run (step := impl_NumberText.l5v1.st (x : Int)) (f := fun j => (j, (28 : Int) - 4 * (j : Int), implH x j)) (e := (8, implH x 8)) (n := 8) (N := manyRounds) (k := 0) (many_lt (by omega)) (fun j hj => ?_) ?_
  · rw [implH_8] at hf
    exact hf
  · simp only [Nat.zero_add]
    have e0 : (28 : Int) - 4 * (j : Int) = ((28 - 4 * j : Nat) : Int) := by omega
    have e1 : min (28 - 4 * j) 32 = 28 - 4 * j := by omega
    have e2 : Int.fdiv (x : Int) (2 ^ (28 - 4 * j)) = ((x / 2 ^ (28 - 4 * j) : Nat) : Int) := by
      rw [Int.fdiv_eq_ediv_of_nonneg _ (Int.pow_nonneg (by decide)), Int.natCast_ediv, Int.natCast_pow]
      rfl
    have e4 : IntKind.wrap .i64 (((28 - 4 * j : Nat) : Int) - 4) = (28 : Int) - 4 * ((j + 1 : Nat) : Int) := by rw [wrap64 (by omega) (by omega)]; omega
    have hc : ∀ y : Int, (Nat.ble 1 (List.length [y]) && (Nat.beq (List.length (implH x j)) (j * 1) && Nat.ble ((j + 1) * 1) 35184372088832 && Nat.ble (j + 1) 35184372088832)) = true := fun y => by
      rw [implH_len, Nat.mul_one, Nat.mul_one, Nat.beq_refl, ble_decide, ble_decide, decide_eq_true (by simp : 1 ≤ List.length [y]), decide_eq_true (by omega : j + 1 ≤ 35184372088832)]
      rfl
    simp only [impl_NumberText.l5v1.st, impl_NumberText.l5v1.s, T.get, e0, e4, Int.toNat_natCast, e1, e2, ibits15 _ (Nat.lt_of_le_of_lt (Nat.div_le_self _ _) h), bound16 _ (Nat.mod_lt _ (by omega : 0 < 16)), hc]
    rw [decide_eq_true (by omega : ((28 - 4 * j : Nat) : Int) ≥ 0), decide_eq_false (by omega : ¬ ((28 - 4 * j : Nat) : Int) < 0)]
    rfl
  · simp only [Nat.zero_add]
    rfl
theorem impl_hex (x : Nat) (h : x < 4294967296) (hn : isNaN .f32 x = false) : (impl_NumberText.t x).get = some (hexT x) := by
  have hlen : (hexL x).length = 8 := rfl
  simp only [impl_NumberText.t, T.get, fne_self, hn, impl_r x h, Option.isSome_some, Option.getD_some, hlen]
  rfl

/-! A text cut at a byte. -/
def pre (a : List UInt8) : List (List UInt8) → List (List UInt8)
  | [] => [a]
  | h :: t => (a ++ h) :: t
def pcs (c : UInt8) : List UInt8 → List (List UInt8)
  | [] => [[]]
  | b :: r => if b = c then [] :: pcs c r else pre [b] (pcs c r)
theorem pcs_ne (c : UInt8) : ∀ l, pcs c l ≠ []
  | [] => by simp [pcs]
  | b :: r => by
    unfold pcs
    split
    · simp
    · cases h : pcs c r with
      | nil => exact absurd h (pcs_ne c r)
      | cons x t => simp [pre]
theorem pre_pre (a b : List UInt8) (l : List (List UInt8)) (h : l ≠ []) : pre a (pre b l) = pre (a ++ b) l := by
  cases l with
  | nil => exact absurd rfl h
  | cons x t => simp [pre]
/-- The pieces with the byte between are the text. -/
theorem pcs_join (c : UInt8) : ∀ l, List.intercalate [c] (pcs c l) = l
  | [] => by simp [pcs, List.intercalate, List.intersperse]
  | b :: r => by
    have ih := pcs_join c r
    unfold pcs
    split
    · rename_i h
      subst h
      cases hp : pcs b r with
      | nil => exact absurd hp (pcs_ne b r)
      | cons x t =>
        rw [hp] at ih
        simp [List.intercalate, List.intersperse] at ih ⊢
        exact ih
    · cases hp : pcs c r with
      | nil => exact absurd hp (pcs_ne c r)
      | cons x t =>
        rw [hp] at ih
        cases t with
        | nil =>
          simp [pre, List.intercalate, List.intersperse] at ih ⊢
          exact ih
        | cons y t =>
          simp [pre, List.intercalate, List.intersperse] at ih ⊢
          exact ih
theorem splitK_pcs (c : UInt8) : ∀ l : List UInt8, Go.Lib.splitK [c] 0 (l.count c) l = pcs c l
  | [] => rfl
  | b :: r => by
    have ih := splitK_pcs c r
    by_cases h : b = c
    · subst h
      have e : Go.Lib.index (b :: r) [b] = 0 := by
        unfold Go.Lib.index
        rw [if_pos (by simp [List.isPrefixOf])]
      rw [List.count_cons_self]
      unfold Go.Lib.splitK pcs
      rw [e, if_neg (by decide), if_pos rfl]
      simp [ih]
    · have e : Go.Lib.index (b :: r) [c] = if Go.Lib.index r [c] == -1 then -1 else Go.Lib.index r [c] + 1 := by
        conv => lhs; unfold Go.Lib.index
        rw [if_neg (by simp [List.isPrefixOf]; exact fun hh => absurd hh.symm h)]
      rw [List.count_cons_of_ne (by simpa using h)]
      unfold pcs
      rw [if_neg h, ← ih]
      cases hk : r.count c with
      | zero => rfl
      | succ k =>
        unfold Go.Lib.splitK
        rw [e]
        by_cases hi : (Go.Lib.index r [c] == -1) = true
        · rw [if_pos hi, if_pos (by rfl), if_pos hi]
          rfl
        · have hge := Go.Lib.index_ge r [c]
          have hne : Go.Lib.index r [c] ≠ -1 := fun q => hi (by rw [q]; rfl)
          obtain ⟨i, hi2⟩ : ∃ i : Nat, Go.Lib.index r [c] = i := ⟨(Go.Lib.index r [c]).toNat, by omega⟩
          rw [if_neg hi, hi2, if_neg (by simp; omega), if_neg (by simp)]
          have e2 : ((i : Int) + 1).toNat = i + 1 := by omega
          simp [pre, e2]
theorem split_pieces (x : ByteArray) (c : UInt8) : (splitL x (ByteArray.mk #[c])).map (·.data.toList) = pcs c x.data.toList := by
  unfold splitL
  rw [Go.Lib.splitB_data]
  have e : Go.Lib.countB x (ByteArray.mk #[c]) = x.data.toList.count c := by
    show Go.Lib.count x.data.toList [c] = _
    exact Go.Lib.count_one c _
  rw [e]
  exact splitK_pcs c _
theorem bytes_ext {xs ys : List ByteArray} (h : xs.map (·.data.toList) = ys.map (·.data.toList)) : xs = ys := by
  induction xs generalizing ys with
  | nil =>
    cases ys with
    | nil => rfl
    | cons y r => cases h
  | cons x r ih =>
    cases ys with
    | nil => cases h
    | cons y s =>
      simp only [List.map_cons, List.cons.injEq] at h
      rw [ih h.2, ByteArray.ext (Array.ext' h.1)]
theorem pcs_ncut {c : UInt8} : ∀ {l : List UInt8}, (∀ x ∈ l, x ≠ c) → pcs c l = [l]
  | [], _ => rfl
  | b :: r, h => by
    unfold pcs
    rw [if_neg (h b (List.mem_cons_self ..)), pcs_ncut (fun x hx => h x (List.mem_cons_of_mem _ hx))]
    rfl
theorem pcs_cut {c : UInt8} : ∀ {l : List UInt8} (r : List UInt8), (∀ x ∈ l, x ≠ c) → pcs c (l ++ c :: r) = l :: pcs c r
  | [], r, _ => by
    rw [List.nil_append, pcs, if_pos rfl]
  | b :: l, r, h => by
    rw [List.cons_append, pcs, if_neg (h b (List.mem_cons_self ..)), pcs_cut r (fun x hx => h x (List.mem_cons_of_mem _ hx))]
    rfl

/-- The reference cuts alike. -/
noncomputable def cutF (x : ByteArray) (i : Nat) (s : Nat × List ByteArray) : Nat × List ByteArray := bif (byteAt x (i : Int) == 58) then (i + 1, s.2 ++ [x.extract s.1 i]) else s
theorem byte_get (x : ByteArray) (i : Nat) (h : i < x.size) : x.data.toList.drop i = x.data.toList.getD i 0 :: x.data.toList.drop (i + 1) := by
  have h' : i < x.data.toList.length := by simpa using h
  rw [List.drop_eq_getElem_cons h']
  congr 1
  simp [List.getD, List.getElem?_eq_getElem h']
theorem byte_is (b : UInt8) : (((b.toNat : Int)) == 58) = decide (b = 58) := by
  by_cases h : b = 58
  · subst h; rfl
  · rw [decide_eq_false h, beq_eq_false_iff_ne]
    intro q
    refine h (UInt8.toNat_inj.1 ?_)
    show b.toNat = 58
    omega
theorem cut_t (x : ByteArray) (m : Int) (hx : x.size ≤ 1048576) : (spec_l01Split.t x 58).get = some ((splitL x (ByteArray.mk #[58])).length, splitL x (ByteArray.mk #[58])) := by
  let l := x.data.toList
  have hl : l.length = x.size := rfl
  obtain ⟨h1, h2⟩ := loopI_fold (step := spec_l01Split.l4.st (x, 58)) (fun k => IntKind.wrap .i64 (k + 1)) (fun i (s : Nat × List ByteArray) => (s.2.length, (s.1 : Int), i, s.2)) (cutF x) (fun s => (s.2.length, (s.1 : Int), s.2))
    (fun i s => s.1 ≤ i ∧ s.2.length ≤ i ∧ s.2.map (·.data.toList) ++ pre ((l.take i).drop s.1) (pcs 58 (l.drop i)) = pcs 58 l) x.size (by omega) (fun i hi => wrap64_succ (by omega)) (0, [])
    ⟨Nat.le_refl _, Nat.zero_le _, by
      cases hp : pcs 58 l with
      | nil => exact absurd hp (pcs_ne 58 l)
      | cons y t => simp [pre, hp]⟩ (fun i s hi hs => by
      obtain ⟨q1, q2, q3⟩ := hs
      have hb : byteAt x (i : Int) = ((l.getD i 0).toNat : Int) := by
        unfold byteAt
        rw [Int.toNat_natCast]
      have hc : ∀ y : ByteArray, (Nat.ble 1 (List.length [y]) && (Nat.beq (List.length s.2) (s.2.length * 1) && Nat.ble ((s.2.length + 1) * 16) 35184372088832 && Nat.ble (s.2.length + 1) 35184372088832)) = true := fun y => by
        rw [Nat.mul_one, Nat.beq_refl, ble_decide, ble_decide, ble_decide, decide_eq_true (by simp : 1 ≤ List.length [y]), decide_eq_true (by omega : (s.2.length + 1) * 16 ≤ 35184372088832), decide_eq_true (by omega : s.2.length + 1 ≤ 35184372088832)]
        rfl
      have hd : l.drop i = l.getD i 0 :: l.drop (i + 1) := byte_get x i hi
      refine ⟨?_, ?_⟩
      · simp only [spec_l01Split.l4.st, spec_l01Split.l4.s, T.get, bounds_nat, Int.toNat_natCast, hc]
        rw [decide_eq_true (by omega : (i : Int) < (x.size : Int)), decide_eq_true hi, decide_eq_true (by omega : 0 ≤ (s.1 : Int)), decide_eq_true (by omega : (s.1 : Int) ≤ (i : Int)), decide_eq_true (by omega : (i : Int) ≤ (x.size : Int)), wrap64_succ (by omega)]
        simp only [cond_true, cutF]
        cases (byteAt x (i : Int) == 58) with
        | true => simp
        | false => rfl
      · unfold cutF
        rw [hb, byte_is]
        rw [hd] at q3
        by_cases h47 : l.getD i 0 = 58
        · rw [decide_eq_true h47]
          rw [h47] at q3
          have e1 : pcs 58 (58 :: l.drop (i + 1)) = [] :: pcs 58 (l.drop (i + 1)) := by
            conv => lhs; unfold pcs
            rw [if_pos rfl]
          rw [e1] at q3
          refine ⟨Nat.le_refl _, by simp; omega, ?_⟩
          have e2 : (x.extract s.1 i).data.toList = (l.take i).drop s.1 := by
            rw [Go.Lib.extract_data, List.drop_take]
          cases hp : pcs 58 (l.drop (i + 1)) with
          | nil => exact absurd hp (pcs_ne _ _)
          | cons y t =>
            rw [hp] at q3
            simp only [cond_true, List.map_append, List.map_cons, List.map_nil, e2, pre] at q3 ⊢
            rw [← q3]
            simp
        · rw [decide_eq_false h47]
          have e1 : pcs 58 (l.getD i 0 :: l.drop (i + 1)) = pre [l.getD i 0] (pcs 58 (l.drop (i + 1))) := by
            conv => lhs; unfold pcs
            rw [if_neg h47]
          rw [e1, pre_pre _ _ _ (pcs_ne _ _)] at q3
          refine ⟨Nat.le_succ_of_le q1, Nat.le_succ_of_le q2, ?_⟩
          have e2 : (l.take i).drop s.1 ++ [l.getD i 0] = (l.take (i + 1)).drop s.1 := by
            have hi' : i < l.length := by rw [hl]; exact hi
            rw [List.take_succ_eq_append_getElem hi', List.drop_append_of_le_length (by rw [List.length_take]; omega)]
            congr 1
            simp [List.getD, List.getElem?_eq_getElem hi']
          rw [e2] at q3
          exact q3) (fun s hs => by
      simp only [spec_l01Split.l4.st, spec_l01Split.l4.s, T.get]
      rw [decide_eq_false (by omega)]
      rfl)
  generalize foldF (cutF x) x.size 0 (0, []) = s at h1 h2
  obtain ⟨q1, q2, q3⟩ := h2
  have e0 : l.drop x.size = [] := by rw [← hl]; exact List.drop_length
  have e3 : pcs 58 ([] : List UInt8) = [[]] := rfl
  rw [e0, e3] at q3
  have e2 : (x.extract s.1 x.size).data.toList = (l.take x.size).drop s.1 := by
    show _ = List.drop s.1 (List.take x.size x.data.toList)
    rw [Go.Lib.extract_data, List.drop_take]
  have hfin : s.2 ++ [x.extract s.1 x.size] = splitL x (ByteArray.mk #[58]) := by
    refine bytes_ext ?_
    rw [split_pieces, ← q3, List.map_append, List.map_cons, List.map_nil, e2]
    simp [pre]
  have h1' : spec_l01Split.l4.r (x, 58) (0, (0 : Int), (0 : Int), []) = some (s.2.length, (s.1 : Int), s.2) := h1
  have hc : ∀ y : ByteArray, (Nat.ble 1 (List.length [y]) && (Nat.beq (List.length s.2) (s.2.length * 1) && Nat.ble ((s.2.length + 1) * 16) 35184372088832 && Nat.ble (s.2.length + 1) 35184372088832)) = true := fun y => by
    rw [Nat.mul_one, Nat.beq_refl, ble_decide, ble_decide, ble_decide, decide_eq_true (by simp : 1 ≤ List.length [y]), decide_eq_true (by omega : (s.2.length + 1) * 16 ≤ 35184372088832), decide_eq_true (by omega : s.2.length + 1 ≤ 35184372088832)]
    rfl
  simp only [spec_l01Split.t, T.get, h1', Option.isSome_some, Option.getD_some, Int.toNat_natCast, hc]
  rw [decide_eq_true (by omega : 0 ≤ (s.1 : Int)), decide_eq_true (by omega : (s.1 : Int) ≤ (x.size : Int)), decide_eq_true (Int.le_refl _)]
  rw [← hfin]
  simp

/-! A number read from its text. -/
def D16 : List UInt8 := [48, 49, 50, 51, 52, 53, 54, 55, 56, 57, 97, 98, 99, 100, 101, 102]
def isDg (b : UInt8) : Bool := (decide (48 ≤ b.toNat) && decide (b.toNat ≤ 57)) || (decide (97 ≤ b.toNat) && decide (b.toNat ≤ 102))
/-- A digit's value; of what is none, nought. -/
def dv (b : UInt8) : Nat := if b.toNat ≤ 57 then (if 48 ≤ b.toNat then b.toNat - 48 else 0) else if 97 ≤ b.toNat then (if b.toNat ≤ 102 then b.toNat - 87 else 0) else 0
def dgB (n : Nat) : UInt8 := UInt8.ofNat (dg n).toNat
theorem byteAll {p : UInt8 → Bool} (h : (List.range 256).all (fun n => p (UInt8.ofNat n)) = true) (b : UInt8) : p b = true := by
  rw [List.all_eq_true] at h
  have := h b.toNat (by have := b.toNat_lt; simpa using this)
  simpa using this
theorem dv_lt (b : UInt8) : dv b < 16 := by
  have := byteAll (p := fun b => decide (dv b < 16)) (by decide +kernel) b
  simpa using this
theorem dv_index (b : UInt8) : (if (0 : Int) > Go.Lib.indexByte D16 b then (0 : Int) else Go.Lib.indexByte D16 b) = (dv b : Int) := by
  have := byteAll (p := fun b => decide ((if (0 : Int) > Go.Lib.indexByte D16 b then (0 : Int) else Go.Lib.indexByte D16 b) = (dv b : Int))) (by decide +kernel) b
  simpa using this
theorem dgB_dv (b : UInt8) (h : isDg b = true) : dgB (dv b) = b := by
  have := byteAll (p := fun b => !isDg b || decide (dgB (dv b) = b)) (by decide +kernel) b
  simpa [h] using this
theorem dg_is (n : Nat) (h : n < 16) : isDg (dgB n) = true ∧ dv (dgB n) = n := by
  have := (List.all_eq_true.1 (show (List.range 16).all (fun n => isDg (dgB n) && decide (dv (dgB n) = n)) = true by decide +kernel)) n (by simpa using h)
  simpa using this
/-- The value of the first digits. -/
def acc (bs : List UInt8) : Nat → Nat
  | 0 => 0
  | i + 1 => acc bs i * 16 + dv (bs.getD i 0)
theorem acc_lt (bs : List UInt8) : ∀ i, acc bs i < 16 ^ i
  | 0 => Nat.one_pos
  | i + 1 => by
    have h1 := acc_lt bs i
    have h2 := dv_lt (bs.getD i 0)
    show acc bs i * 16 + dv _ < 16 ^ (i + 1)
    rw [Nat.pow_succ]
    omega
theorem acc32 (bs : List UInt8) {i : Nat} (h : i ≤ 8) : acc bs i < 4294967296 := by
  have h1 := acc_lt bs i
  have h2 : 16 ^ i ≤ 16 ^ 8 := Nat.pow_le_pow_right (by decide) h
  have : (16 : Nat) ^ 8 = 4294967296 := by decide
  omega
theorem acc28 (bs : List UInt8) {i : Nat} (h : i ≤ 7) : acc bs i < 268435456 := by
  have h1 := acc_lt bs i
  have h2 : 16 ^ i ≤ 16 ^ 7 := Nat.pow_le_pow_right (by decide) h
  have : (16 : Nat) ^ 7 = 268435456 := by decide
  omega
theorem ior16 (a d : Nat) (ha : a < 268435456) (hd : d < 16) : ibits .or .u32 (IntKind.wrap .u32 ((a : Int) * (2 ^ min (Int.toNat (4 : Int)) 32))) (IntKind.wrap .u32 (d : Int)) = ((a * 16 + d : Nat) : Int) := by
  have e0 : (2 : Int) ^ min (Int.toNat (4 : Int)) 32 = 16 := by decide
  have e1 : (a : Int) * 16 = ((a * 16 : Nat) : Int) := by omega
  rw [e0, e1, wrapu32 (by omega), wrapu32 (by omega)]
  have e : (BitVec.ofInt 32 ((a * 16 : Nat) : Int) ||| BitVec.ofInt 32 (d : Int)).toNat = a * 16 + d := by
    rw [BitVec.toNat_or]
    have e1 : (BitVec.ofInt 32 ((a * 16 : Nat) : Int)).toNat = a * 16 := by simp; omega
    have e2 : (BitVec.ofInt 32 (d : Int)).toNat = d := by simp; omega
    rw [e1, e2]
    have := Nat.shiftLeft_add_eq_or_of_lt (a := a) (b := d) (i := 4) (by omega)
    rw [Nat.shiftLeft_eq] at this
    exact this.symm
  show IntKind.wrap .u32 (((BitVec.ofInt 32 ((a * 16 : Nat) : Int) ||| BitVec.ofInt 32 (d : Int)).toNat : Nat) : Int) = _
  rw [e]
  exact wrapu32 (by omega)
theorem byte_of (w : ByteArray) (i : Nat) : byteAt w (i : Int) = ((w.data.toList.getD i 0).toNat : Int) := by
  unfold byteAt
  rw [Int.toNat_natCast]
theorem impl_n (w : ByteArray) : impl_ReadNumber.l3.r (w, (if (8 : Int) < ((w.size : Nat) : Int) then (8 : Int) else ((w.size : Nat) : Int))) (0, 0) = some ((acc w.data.toList (min 8 w.size) : Nat) : Int) := by
  have e : (if (8 : Int) < ((w.size : Nat) : Int) then (8 : Int) else ((w.size : Nat) : Int)) = ((min 8 w.size : Nat) : Int) := by
    split <;> omega
  rw [e]
  have hf := iter_run (step := impl_ReadNumber.l3.st (w, ((min 8 w.size : Nat) : Int))) (f := fun i => (((acc w.data.toList i : Nat) : Int), (i : Int))) (e := ((acc w.data.toList (min 8 w.size) : Nat) : Int)) (n := min 8 w.size) (N := manyRounds) (k := 0) (many_lt (by omega)) (fun i hi => ?_) ?_
  · exact hf
  · simp only [Nat.zero_add]
    have hi8 : i < 8 := by omega
    have eb : Nat.toUInt8 (Int.toNat (byteAt w (i : Int))) = w.data.toList.getD i 0 := by
      rw [byte_of, Int.toNat_natCast]
      simp
    have ed := dv_index (w.data.toList.getD i 0)
    unfold D16 at ed
    simp only [impl_ReadNumber.l3.st, impl_ReadNumber.l3.s, T.get, bounds_nat, eb, ed, ior16 _ _ (acc28 w.data.toList (show i ≤ 7 by omega)) (dv_lt _)]
    rw [decide_eq_true (by omega : (i : Int) < ((min 8 w.size : Nat) : Int)), decide_eq_true (by omega : i < w.size), wrap64_succ (by omega)]
    rfl
  · simp only [Nat.zero_add, impl_ReadNumber.l3.st, impl_ReadNumber.l3.s, T.get]
    rw [decide_eq_false (by omega)]
    rfl
/-- Whether all eight are digits. -/
def allDg (w : ByteArray) : Bool := !(firstAt (fun i => !isDg (w.data.toList.getD i 0)) 8 0).isSome
/-! A word's text, and what is read of it. -/
theorem strOf_data : ∀ (xs : List Int) (b : ByteArray), (xs.foldl (fun r n => r.push (UInt8.ofNat n.toNat)) b).data.toList = b.data.toList ++ xs.map (fun n => UInt8.ofNat n.toNat)
  | [], b => by simp
  | x :: r, b => by
    rw [List.foldl_cons, strOf_data r]
    simp [ByteArray.push]
theorem hexT_data (n : Nat) : (hexT n).data.toList = [dgB (n / 268435456 % 16), dgB (n / 16777216 % 16), dgB (n / 1048576 % 16), dgB (n / 65536 % 16), dgB (n / 4096 % 16), dgB (n / 256 % 16), dgB (n / 16 % 16), dgB (n % 16)] := by
  unfold hexT Sx.strOf
  rw [strOf_data]
  rfl
theorem hexT_acc (n : Nat) (h : n < 4294967296) : acc (hexT n).data.toList 8 = n := by
  rw [hexT_data]
  have e : ∀ a b c d e f g i : UInt8, acc [a, b, c, d, e, f, g, i] 8 = ((((((((0 * 16 + dv a) * 16 + dv b) * 16 + dv c) * 16 + dv d) * 16 + dv e) * 16 + dv f) * 16 + dv g) * 16 + dv i) := fun _ _ _ _ _ _ _ _ => rfl
  rw [e]
  have q : ∀ k, dv (dgB (k % 16)) = k % 16 := fun k => (dg_is _ (Nat.mod_lt _ (by omega))).2
  rw [q, q, q, q, q, q, q, q]
  omega
theorem hexT_digits (n : Nat) : allDg (hexT n) = true := by
  unfold allDg
  have q : ∀ k, isDg (dgB (k % 16)) = true := fun k => (dg_is _ (Nat.mod_lt _ (by omega))).1
  have : firstAt (fun i => !isDg ((hexT n).data.toList.getD i 0)) 8 0 = none := by
    refine firstAt_none.2 fun i _ hi => ?_
    rw [hexT_data]
    match i, hi with
    | 0, _ | 1, _ | 2, _ | 3, _ | 4, _ | 5, _ | 6, _ | 7, _ => simp [q]
  rw [this]
  rfl
/-- Eight digits are the text of their value. -/
theorem text_of (w : ByteArray) (hw : w.size = 8) (h : allDg w = true) : hexT (acc w.data.toList 8) = w := by
  have hl : w.data.toList.length = 8 := hw
  have hd : ∀ i, i < 8 → isDg (w.data.toList.getD i 0) = true := by
    intro i hi
    unfold allDg at h
    cases hf : firstAt (fun i => !isDg (w.data.toList.getD i 0)) 8 0 with
    | none => simpa using firstAt_none.1 hf i (by omega) (by omega)
    | some j => rw [hf] at h; cases h
  refine ByteArray.ext (Array.ext' ?_)
  rw [hexT_data]
  generalize w.data.toList = l at hl hd ⊢
  match l, hl with
  | [a, b, c, d, e, f, g, i], _ =>
    have d0 := hd 0 (by omega); have d1 := hd 1 (by omega); have d2 := hd 2 (by omega); have d3 := hd 3 (by omega)
    have d4 := hd 4 (by omega); have d5 := hd 5 (by omega); have d6 := hd 6 (by omega); have d7 := hd 7 (by omega)
    simp only [List.getD_cons_zero, List.getD_cons_succ] at d0 d1 d2 d3 d4 d5 d6 d7
    have e0 : acc [a, b, c, d, e, f, g, i] 8 = ((((((((0 * 16 + dv a) * 16 + dv b) * 16 + dv c) * 16 + dv d) * 16 + dv e) * 16 + dv f) * 16 + dv g) * 16 + dv i) := rfl
    rw [e0]
    have ka := dv_lt a; have kb := dv_lt b; have kc := dv_lt c; have kd := dv_lt d
    have ke := dv_lt e; have kf := dv_lt f; have kg := dv_lt g; have ki := dv_lt i
    generalize hA : dv a = A at ka ⊢
    generalize hB : dv b = B at kb ⊢
    generalize hC : dv c = C at kc ⊢
    generalize hD : dv d = D at kd ⊢
    generalize hE : dv e = E at ke ⊢
    generalize hF : dv f = F at kf ⊢
    generalize hG : dv g = G at kg ⊢
    generalize hI : dv i = I at ki ⊢
    have m0 : ((((((((0 * 16 + A) * 16 + B) * 16 + C) * 16 + D) * 16 + E) * 16 + F) * 16 + G) * 16 + I) / 268435456 % 16 = A := by omega
    have m1 : ((((((((0 * 16 + A) * 16 + B) * 16 + C) * 16 + D) * 16 + E) * 16 + F) * 16 + G) * 16 + I) / 16777216 % 16 = B := by omega
    have m2 : ((((((((0 * 16 + A) * 16 + B) * 16 + C) * 16 + D) * 16 + E) * 16 + F) * 16 + G) * 16 + I) / 1048576 % 16 = C := by omega
    have m3 : ((((((((0 * 16 + A) * 16 + B) * 16 + C) * 16 + D) * 16 + E) * 16 + F) * 16 + G) * 16 + I) / 65536 % 16 = D := by omega
    have m4 : ((((((((0 * 16 + A) * 16 + B) * 16 + C) * 16 + D) * 16 + E) * 16 + F) * 16 + G) * 16 + I) / 4096 % 16 = E := by omega
    have m5 : ((((((((0 * 16 + A) * 16 + B) * 16 + C) * 16 + D) * 16 + E) * 16 + F) * 16 + G) * 16 + I) / 256 % 16 = F := by omega
    have m6 : ((((((((0 * 16 + A) * 16 + B) * 16 + C) * 16 + D) * 16 + E) * 16 + F) * 16 + G) * 16 + I) / 16 % 16 = G := by omega
    have m7 : ((((((((0 * 16 + A) * 16 + B) * 16 + C) * 16 + D) * 16 + E) * 16 + F) * 16 + G) * 16 + I) % 16 = I := by omega
    rw [m0, m1, m2, m3, m4, m5, m6, m7, ← hA, ← hB, ← hC, ← hD, ← hE, ← hF, ← hG, ← hI, dgB_dv a d0, dgB_dv b d1, dgB_dv c d2, dgB_dv d d3, dgB_dv e d4, dgB_dv f d5, dgB_dv g d6, dgB_dv i d7]

/-! The reference's reading. -/
theorem wrapu8 {n : Nat} (h : n < 256) : IntKind.wrap .u8 (n : Int) = n := by
  have : IntKind.wrap .u8 (n : Int) = (n : Int) % 256 := rfl
  rw [this]
  omega
theorem spec_step (w : ByteArray) (a i : Nat) (hi : i < 8) (hw : w.size = 8) (ha : a < 268435456) : (spec_l01Read.l5.s w (a : Int) (i : Int)).get = some (bif isDg (w.data.toList.getD i 0) then .inl (((a * 16 + dv (w.data.toList.getD i 0) : Nat) : Int), ((i + 1 : Nat) : Int)) else .inr (.inl (0, false, (a : Int)))) := by
  generalize hb : w.data.toList.getD i 0 = b
  have hb' : byteAt w (i : Int) = ((b.toNat : Nat) : Int) := by rw [byte_of, hb]
  have hlt : b.toNat < 256 := b.toNat_lt
  simp only [spec_l01Read.l5.s, T.get, bounds_nat, hb', hw]
  rw [decide_eq_true (by omega : (i : Int) < 8), decide_eq_true hi, wrap64_succ (by omega)]
  have e1 : (a : Int) * 16 = ((a * 16 : Nat) : Int) := by omega
  by_cases h1 : 48 ≤ b.toNat
  · rw [decide_eq_true (by omega : ((b.toNat : Nat) : Int) ≥ 48)]
    by_cases h2 : b.toNat ≤ 57
    · rw [decide_eq_true (by omega : ((b.toNat : Nat) : Int) ≤ 57)]
      have hd : isDg b = true := by
        unfold isDg
        rw [decide_eq_true h1, decide_eq_true h2]
        rfl
      have hv : dv b = b.toNat - 48 := by
        unfold dv
        rw [if_pos h2, if_pos h1]
      have e2 : ((b.toNat : Nat) : Int) - 48 = ((b.toNat - 48 : Nat) : Int) := by omega
      rw [hd, hv, e1, e2, wrapu8 (by omega), wrapu32 (by omega), wrapu32 (by omega)]
      have e3 : ((a * 16 : Nat) : Int) + ((b.toNat - 48 : Nat) : Int) = ((a * 16 + (b.toNat - 48) : Nat) : Int) := by omega
      rw [e3, wrapu32 (by omega)]
      rfl
    · rw [decide_eq_false (by omega : ¬ ((b.toNat : Nat) : Int) ≤ 57)]
      by_cases h3 : 97 ≤ b.toNat
      · rw [decide_eq_true (by omega : ((b.toNat : Nat) : Int) ≥ 97)]
        by_cases h4 : b.toNat ≤ 102
        · rw [decide_eq_true (by omega : ((b.toNat : Nat) : Int) ≤ 102)]
          have hd : isDg b = true := by
            unfold isDg
            rw [decide_eq_true h3, decide_eq_true h4]
            simp
          have hv : dv b = b.toNat - 87 := by
            unfold dv
            rw [if_neg h2, if_pos h3, if_pos h4]
          have e2 : ((b.toNat : Nat) : Int) - 97 = ((b.toNat - 97 : Nat) : Int) := by omega
          rw [hd, hv, e1, e2, wrapu8 (by omega), wrapu32 (by omega), wrapu32 (by omega)]
          have e3 : ((a * 16 : Nat) : Int) + ((b.toNat - 97 : Nat) : Int) = ((a * 16 + (b.toNat - 97) : Nat) : Int) := by omega
          rw [e3, wrapu32 (by omega)]
          have e4 : ((a * 16 + (b.toNat - 97) : Nat) : Int) + 10 = ((a * 16 + (b.toNat - 87) : Nat) : Int) := by omega
          rw [e4, wrapu32 (by omega)]
          rfl
        · rw [decide_eq_false (by omega : ¬ ((b.toNat : Nat) : Int) ≤ 102)]
          have hd : isDg b = false := by
            unfold isDg
            rw [decide_eq_false h2, decide_eq_false h4]
            simp
          rw [hd]
          rfl
      · rw [decide_eq_false (by omega : ¬ ((b.toNat : Nat) : Int) ≥ 97)]
        have hd : isDg b = false := by
          unfold isDg
          rw [decide_eq_false h2, decide_eq_false h3]
          simp
        rw [hd]
        rfl
  · rw [decide_eq_false (by omega : ¬ ((b.toNat : Nat) : Int) ≥ 48), decide_eq_false (by omega : ¬ ((b.toNat : Nat) : Int) ≥ 97)]
    have hd : isDg b = false := by
      unfold isDg
      rw [decide_eq_false h1, decide_eq_false (by omega : ¬ 97 ≤ b.toNat)]
      simp
    rw [hd]
    rfl
theorem spec_run (w : ByteArray) (hw : w.size = 8) : ∃ y : Int, spec_l01Read.l5.r w (0, 0) = some (bif allDg w then .inr ((acc w.data.toList 8 : Nat) : Int) else .inl (0, false, y)) := by
  have step : ∀ i, i < 8 → isDg (w.data.toList.getD i 0) = true → (spec_l01Read.l5.st w (((acc w.data.toList i : Nat) : Int), (i : Int))).get = some (.inl (((acc w.data.toList (i + 1) : Nat) : Int), ((i + 1 : Nat) : Int))) := fun i hi hd => by
    have := spec_step w (acc w.data.toList i) i hi hw (acc28 _ (by omega))
    rw [hd] at this
    exact this
  unfold allDg
  cases hf : firstAt (fun i => !isDg (w.data.toList.getD i 0)) 8 0 with
  | none =>
    have hall := firstAt_none.1 hf
    have h := iter_run (step := spec_l01Read.l5.st w) (f := fun i => (((acc w.data.toList i : Nat) : Int), (i : Int))) (e := Sum.inr ((acc w.data.toList 8 : Nat) : Int)) (n := 8) (N := manyRounds) (k := 0) (many_lt (by omega)) (fun i hi => by
      simp only [Nat.zero_add]
      exact step i hi (by simpa using hall i (by omega) (by omega))) rfl
    exact ⟨0, h⟩
  | some j =>
    obtain ⟨_, hj, hp, hbefore⟩ := firstAt_some hf
    have h := iter_run (step := spec_l01Read.l5.st w) (f := fun i => (((acc w.data.toList i : Nat) : Int), (i : Int))) (e := Sum.inl (0, false, ((acc w.data.toList j : Nat) : Int))) (n := j) (N := manyRounds) (k := 0) (many_lt (by omega)) (fun i hi => by
      simp only [Nat.zero_add]
      exact step i (by omega) (by simpa using hbefore i (by omega) hi)) (by
      simp only [Nat.zero_add]
      have := spec_step w (acc w.data.toList j) j (by omega) hw (acc28 _ (by omega))
      have hd : isDg (w.data.toList.getD j 0) = false := by simpa using hp
      rw [hd] at this
      exact this)
    exact ⟨_, h⟩

theorem seq_eq (x y : ByteArray) : seq? x y = decide (x = y) := by
  unfold seq?
  rw [Go.Lib.toList_data, Go.Lib.toList_data]
  by_cases h : x = y
  · subst h; simp
  · rw [decide_eq_false h, beq_eq_false_iff_ne]
    exact fun q => h (ByteArray.ext (Array.ext' q))
/-- A number's word, what is none alike. -/
def cb (n : Nat) : Nat := bif isNaN .f32 n then 2143289344 else n
theorem nan_nz (n : Nat) : isNaN .f32 (nz .f32 n) = isNaN .f32 n := by
  cases h : isNaN .f32 n with
  | true =>
    rw [nz_of_nan h]
    obtain ⟨s, t, h⟩ := decode_nanOf .f32
    exact isNaN_of_read h
  | false =>
    rw [nz_of_not h]
    exact h
theorem canon_text : hexT 2143289344 = ByteArray.mk #[55, 102, 99, 48, 48, 48, 48, 48] := by
  refine ByteArray.ext (Array.ext' ?_)
  rw [hexT_data]
  decide +kernel
theorem text_nz (n : Nat) (h : n < 4294967296) : (impl_NumberText.t (nz .f32 n)).get = some (hexT (cb n)) := by
  unfold cb
  cases hn : isNaN .f32 n with
  | true =>
    simp only [impl_NumberText.t, T.get, fne_self, nan_nz, hn, cond_true, canon_text]
  | false =>
    rw [nz_of_not hn]
    exact impl_hex n h hn
theorem cb_lt {n : Nat} (h : n < 4294967296) : cb n < 4294967296 := by
  unfold cb
  cases isNaN .f32 n with
  | true => (show 2143289344 < 4294967296; decide)
  | false => exact h
noncomputable def numv (w : ByteArray) : Nat := nz .f32 (acc w.data.toList 8)
def okN (w : ByteArray) : Bool := decide (w.size = 8) && (allDg w && decide (cb (acc w.data.toList 8) = acc w.data.toList 8))
theorem impl_num (w : ByteArray) : (impl_ReadNumber.t w).get = some (bif okN w then (numv w, 0) else (0, 5)) := by
  have hlt : acc w.data.toList (min 8 w.size) < 4294967296 := acc32 _ (by omega)
  have ht := text_nz _ hlt
  simp only [impl_ReadNumber.t, T.get, impl_n, Option.isSome_some, Option.getD_some, Int.toNat_natCast, show impl_NumberText.ok (nz .f32 (acc w.data.toList (min 8 w.size))) = true from T.ok_of_get (ht), show impl_NumberText (nz .f32 (acc w.data.toList (min 8 w.size))) = _ from T.val_of_get (ht), seq_eq]
  have key : decide (hexT (cb (acc w.data.toList (min 8 w.size))) = w) = okN w := by
    unfold okN
    by_cases hw : w.size = 8
    · have hm : min 8 w.size = 8 := by omega
      rw [hm, decide_eq_true hw, Bool.true_and]
      cases ha : allDg w with
      | false =>
        rw [decide_eq_false, Bool.false_and]
        intro q
        have := hexT_digits (cb (acc w.data.toList 8))
        rw [q, ha] at this
        cases this
      | true =>
        rw [Bool.true_and]
        have h1 := text_of w hw ha
        by_cases hc : cb (acc w.data.toList 8) = acc w.data.toList 8
        · rw [decide_eq_true hc, hc, decide_eq_true h1]
        · rw [decide_eq_false hc, decide_eq_false]
          intro q
          refine hc ?_
          have h2 := hexT_acc (cb (acc w.data.toList 8)) (cb_lt (acc32 _ (Nat.le_refl _)))
          rw [q] at h2
          exact h2.symm
    · rw [decide_eq_false hw, Bool.false_and, decide_eq_false]
      intro q
      refine hw ?_
      rw [← q]
      exact hexT_size _
  rw [key]
  cases ho : okN w with
  | false => rfl
  | true =>
    have hw : w.size = 8 := by
      unfold okN at ho
      rw [Bool.and_eq_true] at ho
      simpa using ho.1
    have hm : min 8 w.size = 8 := by omega
    rw [hm]
    rfl
noncomputable def nums (P : List ByteArray) : Nat → List Nat
  | 0 => []
  | i + 1 => nums P i ++ [numv (P.getD i ByteArray.empty)]
theorem nums_len (P : List ByteArray) : ∀ i, (nums P i).length = i
  | 0 => rfl
  | i + 1 => by
    show (nums P i ++ _).length = _
    rw [List.length_append, nums_len P i]
    rfl
theorem numv_lt (w : ByteArray) : numv w < 4294967296 := nz_has (k := .f32) (acc32 _ (Nat.le_refl _))
theorem numv_text {w : ByteArray} (h : okN w = true) (hn : isNaN .f32 (numv w) = false) : hexT (numv w) = w := by
  unfold okN at h
  rw [Bool.and_eq_true, Bool.and_eq_true] at h
  obtain ⟨h1, h2, _⟩ := h
  unfold numv at hn ⊢
  rw [nan_nz] at hn
  rw [nz_of_not hn]
  exact text_of w (by simpa using h1) h2

theorem bits_nz (n : Nat) : (spec_l01Bits.t (nz .f32 n)).get = some ((cb n : Nat) : Int) := by
  unfold cb
  cases hn : isNaN .f32 n with
  | true =>
    simp only [spec_l01Bits.t, T.get, fne_self, nan_nz, hn, cond_true]
    rfl
  | false =>
    simp only [spec_l01Bits.t, T.get, fne_self, nan_nz, hn, cond_false, nz_of_not hn]
theorem spec_num (w : ByteArray) : ∃ a, (spec_l01Read.t w).get = some (a, okN w) ∧ (okN w = true → a = numv w) := by
  unfold okN
  by_cases hw : w.size = 8
  · obtain ⟨y, hr⟩ := spec_run w hw
    rw [decide_eq_true hw]
    have h8 : (((w.size : Nat) : Int) != 8) = false := by rw [hw]; rfl
    simp only [spec_l01Read.t, T.get, hr, h8]
    cases allDg w with
    | false => exact ⟨_, rfl, fun h => by cases h⟩
    | true =>
      have hb := bits_nz (acc w.data.toList 8)
      have e : ∀ n k : Nat, (((n : Nat) : Int) == ((k : Nat) : Int)) = decide (n = k) := fun n k => by
        by_cases q : n = k
        · subst q; simp
        · rw [decide_eq_false q, beq_eq_false_iff_ne]
          omega
      simp only [cond_true, cond_false, Option.isSome_some, Option.getD_some, Sum.isLeft, getRightD, Int.toNat_natCast, show spec_l01Bits.ok (nz .f32 (acc w.data.toList 8)) = true from T.ok_of_get (hb), show spec_l01Bits (nz .f32 (acc w.data.toList 8)) = _ from T.val_of_get (hb), e, Bool.true_and]
      exact ⟨_, rfl, fun _ => rfl⟩
  · rw [decide_eq_false hw]
    have h8 : (((w.size : Nat) : Int) != 8) = true := by
      rw [bne_iff_ne]
      omega
    simp only [spec_l01Read.t, T.get, h8]
    exact ⟨_, rfl, fun h => by cases h⟩

theorem same_refl (x : Nat) : laws_sameFloat x x = true := same_self (s := laws_sameFloat.t) (fun _ _ => rfl) x

/-! Numerals. -/
def allD (l : List UInt8) : Bool := l.all fun c => decide (48 ≤ c.toNat) && decide (c.toNat ≤ 57)
def valD (a : Nat) (l : List UInt8) : Nat := l.foldl (fun a c => a * 10 + (c.toNat - 48)) a
theorem dig_nat {k : Nat} (h : k < 10) : (UInt8.ofNat (48 + k)).toNat = 48 + k := by
  show (48 + k) % 256 = 48 + k
  omega
theorem dec_step (u : Nat) : (u < 10 ∧ Go.Lib.decDigits u = [UInt8.ofNat (48 + u)]) ∨ (10 ≤ u ∧ Go.Lib.decDigits u = Go.Lib.decDigits (u / 10) ++ [UInt8.ofNat (48 + u % 10)]) := by
  by_cases h : u < 10
  · exact .inl ⟨h, by rw [Go.Lib.decDigits, dif_pos h]⟩
  · exact .inr ⟨by omega, by rw [Go.Lib.decDigits, dif_neg h]⟩
theorem dec_all (u : Nat) : allD (Go.Lib.decDigits u) = true ∧ valD 0 (Go.Lib.decDigits u) = u := by
  induction u using Nat.strongRecOn with
  | _ u ih =>
    rcases dec_step u with ⟨h, e⟩ | ⟨h, e⟩
    · rw [e]
      have := dig_nat h
      simp only [allD, valD, List.all_cons, List.all_nil, List.foldl_cons, List.foldl_nil, this]
      refine ⟨?_, by omega⟩
      rw [decide_eq_true (by omega), decide_eq_true (by omega)]
      rfl
    · obtain ⟨h1, h2⟩ := ih (u / 10) (by omega)
      have := dig_nat (Nat.mod_lt u (by omega : 0 < 10))
      rw [e]
      unfold allD valD at *
      rw [List.all_append, List.foldl_append, h1, h2]
      simp only [List.all_cons, List.all_nil, List.foldl_cons, List.foldl_nil, this]
      refine ⟨?_, by omega⟩
      rw [decide_eq_true (by omega), decide_eq_true (by omega)]
      rfl
theorem dec_ne (u : Nat) : 1 ≤ (Go.Lib.decDigits u).length := by
  rcases dec_step u with ⟨h, e⟩ | ⟨h, e⟩ <;> rw [e] <;> simp
theorem dec_head (u : Nat) (h : 1 ≤ u) : (Go.Lib.decDigits u).getD 0 0 ≠ 48 := by
  induction u using Nat.strongRecOn with
  | _ u ih =>
    rcases dec_step u with ⟨h1, e⟩ | ⟨h1, e⟩
    · rw [e]
      show UInt8.ofNat (48 + u) ≠ 48
      intro q
      have := congrArg UInt8.toNat q
      rw [dig_nat h1] at this
      have e48 : (48 : UInt8).toNat = 48 := rfl
      omega
    · have := ih (u / 10) (by omega) (by omega)
      have hn := dec_ne (u / 10)
      rw [e]
      cases hq : Go.Lib.decDigits (u / 10) with
      | nil => rw [hq] at hn; simp at hn
      | cons c r =>
        rw [hq] at this
        exact this
theorem dec_len : ∀ (k u : Nat), u < 10 ^ (k + 1) → (Go.Lib.decDigits u).length ≤ k + 1
  | 0, u, h => by
    rcases dec_step u with ⟨h1, e⟩ | ⟨h1, e⟩
    · rw [e]; simp
    · omega
  | k + 1, u, h => by
    rcases dec_step u with ⟨h1, e⟩ | ⟨h1, e⟩
    · rw [e]; simp
    · rw [e, List.length_append]
      have : u / 10 < 10 ^ (k + 1) := by
        rw [Nat.pow_succ] at h
        omega
      have := dec_len k (u / 10) this
      simp only [List.length_cons, List.length_nil]
      omega
theorem val_ge (l : List UInt8) : ∀ a, a ≤ valD a l := by
  induction l with
  | nil => exact fun a => Nat.le_refl _
  | cons c r ih =>
    intro a
    have := ih (a * 10 + (c.toNat - 48))
    show a ≤ valD (a * 10 + (c.toNat - 48)) r
    omega
theorem val_lt {l : List UInt8} : ∀ {a k : Nat}, allD l = true → a < 10 ^ k → valD a l < 10 ^ (k + l.length) := by
  induction l with
  | nil => intro a k _ h; exact h
  | cons c r ih =>
    intro a k h ha
    unfold allD at h
    rw [List.all_cons, Bool.and_eq_true, Bool.and_eq_true] at h
    obtain ⟨⟨h1, h2⟩, h3⟩ := h
    have h1 := of_decide_eq_true h1
    have h2 := of_decide_eq_true h2
    have := ih (a := a * 10 + (c.toNat - 48)) (k := k + 1) h3 (by rw [Nat.pow_succ]; omega)
    show valD (a * 10 + (c.toNat - 48)) r < _
    rw [List.length_cons, show k + (r.length + 1) = k + 1 + r.length by omega]
    exact this
theorem val_snoc (a : Nat) (l : List UInt8) (c : UInt8) : valD a (l ++ [c]) = valD a l * 10 + (c.toNat - 48) := by
  unfold valD
  rw [List.foldl_append]
  rfl

/-! The number of buckets. -/
def numOk9 (w : ByteArray) : Bool := decide (1 ≤ w.size ∧ w.size ≤ 9) && (!(decide (w.data.toList.getD 0 0 = 48) && decide (1 < w.size)) && allD w.data.toList)
def isD (c : UInt8) : Bool := decide (48 ≤ c.toNat) && decide (c.toNat ≤ 57)
theorem num_step (w : ByteArray) (i : Nat) (hi : i < w.size) (h9 : w.size ≤ 9) (hall : allD (w.data.toList.take i) = true) : (spec_l01Number.l5.st w (((valD 0 (w.data.toList.take i) : Nat) : Int), (i : Int))).get = some (bif isD (w.data.toList.getD i 0) then .inl (((valD 0 (w.data.toList.take (i + 1)) : Nat) : Int), ((i + 1 : Nat) : Int)) else .inr (.inl ((0 : Int), false, ((valD 0 (w.data.toList.take i) : Nat) : Int)))) := by
  have hl : w.data.toList.length = w.size := rfl
  have hv : valD 0 (w.data.toList.take i) < 10 ^ (0 + (w.data.toList.take i).length) := val_lt hall (by omega)
  rw [List.length_take, Nat.zero_add, Nat.min_eq_left (by omega)] at hv
  have hv9 : valD 0 (w.data.toList.take i) < 10 ^ 9 := Nat.lt_of_lt_of_le hv (Nat.pow_le_pow_right (by omega) (by omega))
  have htk : w.data.toList.take (i + 1) = w.data.toList.take i ++ [w.data.toList.getD i 0] := by
    rw [List.take_succ_eq_append_getElem (by omega)]
    congr 1
    simp [List.getD, List.getElem?_eq_getElem (show i < w.data.toList.length by omega)]
  rw [htk, val_snoc]
  simp only [spec_l01Number.l5.st, spec_l01Number.l5.s, T.get, bounds_nat, byte_of]
  generalize valD 0 (w.data.toList.take i) = a at hv9
  have hc := (w.data.toList.getD i 0).toNat_lt
  unfold isD
  generalize (w.data.toList.getD i 0).toNat = c at hc
  rw [decide_eq_true (by omega : (i : Int) < (w.size : Int)), decide_eq_true hi]
  by_cases h1 : 48 ≤ c
  · by_cases h2 : c ≤ 57
    · have e1 : IntKind.wrap .u8 ((c : Int) - 48) = ((c - 48 : Nat) : Int) := by
        have : IntKind.wrap .u8 ((c : Int) - 48) = ((c : Int) - 48) % 256 := rfl
        omega
      have e2 : IntKind.wrap .i64 ((c - 48 : Nat) : Int) = ((c - 48 : Nat) : Int) := wrap64_nat (by omega)
      have e3 : IntKind.wrap .i64 ((a : Int) * 10) = ((a * 10 : Nat) : Int) := wrap64_of (by omega) (by omega)
      have e4 : IntKind.wrap .i64 (((a * 10 : Nat) : Int) + ((c - 48 : Nat) : Int)) = ((a * 10 + (c - 48) : Nat) : Int) := wrap64_of (by omega) (by omega)
      rw [decide_eq_false (by omega : ¬ (c : Int) < 48), decide_eq_false (by omega : ¬ (c : Int) > 57), decide_eq_true h1, decide_eq_true h2, e1, e2, e3, e4, wrap64_succ (by omega)]
      rfl
    · rw [decide_eq_false (by omega : ¬ (c : Int) < 48), decide_eq_true (by omega : (c : Int) > 57), decide_eq_true h1, decide_eq_false h2]
      rfl
  · rw [decide_eq_true (by omega : (c : Int) < 48), decide_eq_false h1]
    rfl
theorem all_take {l : List UInt8} : ∀ i, (∀ j, j < i → isD (l.getD j 0) = true) → i ≤ l.length → allD (l.take i) = true := by
  intro i h hi
  unfold allD
  rw [List.all_eq_true]
  intro c hc
  obtain ⟨j, hj, rfl⟩ := List.getElem_of_mem hc
  rw [List.length_take] at hj
  have := h j (by omega)
  rw [List.getElem_take]
  have e : l.getD j 0 = l[j] := by simp [List.getD, List.getElem?_eq_getElem (show j < l.length by omega)]
  rw [e] at this
  exact this
theorem all_at {l : List UInt8} (h : allD l = true) (j : Nat) (hj : j < l.length) : isD (l.getD j 0) = true := by
  unfold allD at h
  rw [List.all_eq_true] at h
  have := h l[j] (List.getElem_mem hj)
  simp only [List.getD, List.getElem?_eq_getElem hj, Option.getD_some]
  exact this
theorem num_r (w : ByteArray) (h9 : w.size ≤ 9) : ∃ r, spec_l01Number.l5.r w ((0 : Int), (0 : Int)) = some r ∧ (allD w.data.toList = true → r = .inr ((valD 0 w.data.toList : Nat) : Int)) ∧ (allD w.data.toList = false → ∃ q, r = .inl (0, false, q)) := by
  have hl : w.data.toList.length = w.size := rfl
  cases hf : firstAt (fun i => !isD (w.data.toList.getD i 0)) w.size 0 with
  | none =>
    have hall := firstAt_none.1 hf
    have hal : allD w.data.toList = true := by
      have := all_take (l := w.data.toList) w.size (fun j hj => by simpa using hall j (by omega) (by omega)) (by omega)
      rwa [← hl, List.take_length] at this
    have h := iter_run (step := spec_l01Number.l5.st w) (f := fun i => (((valD 0 (w.data.toList.take i) : Nat) : Int), (i : Int))) (e := Sum.inr ((valD 0 w.data.toList : Nat) : Int)) (n := w.size) (N := manyRounds) (k := 0) (many_lt (by omega)) (fun i hi => by
      simp only [Nat.zero_add]
      rw [num_step w i hi h9 (all_take i (fun j hj => by simpa using hall j (by omega) (by omega)) (by omega)), show isD (w.data.toList.getD i 0) = true from by simpa using hall i (by omega) (by omega)]
      rfl) (by
      simp only [Nat.zero_add, spec_l01Number.l5.st, spec_l01Number.l5.s, T.get]
      rw [decide_eq_false (by omega), ← hl, List.take_length]
      rfl)
    exact ⟨_, h, fun _ => rfl, fun q => by rw [hal] at q; cases q⟩
  | some j =>
    obtain ⟨_, hj, hp, hbefore⟩ := firstAt_some hf
    have hal : allD w.data.toList = false := by
      cases q : allD w.data.toList with
      | false => rfl
      | true =>
        have := all_at q j (by omega)
        rw [this] at hp
        cases hp
    have h := iter_run (step := spec_l01Number.l5.st w) (f := fun i => (((valD 0 (w.data.toList.take i) : Nat) : Int), (i : Int))) (e := Sum.inl ((0 : Int), false, ((valD 0 (w.data.toList.take j) : Nat) : Int))) (n := j) (N := manyRounds) (k := 0) (many_lt (by omega)) (fun i hi => by
      simp only [Nat.zero_add]
      rw [num_step w i (by omega) h9 (all_take i (fun j' hj' => by simpa using hbefore j' (by omega) (by omega)) (by omega)), show isD (w.data.toList.getD i 0) = true from by simpa using hbefore i (by omega) hi]
      rfl) (by
      simp only [Nat.zero_add]
      rw [num_step w j (by omega) h9 (all_take j (fun j' hj' => by simpa using hbefore j' (by omega) (by omega)) (by omega)), show isD (w.data.toList.getD j 0) = false from by simpa using hp]
      rfl)
    exact ⟨_, h, fun q => by rw [hal] at q; (cases q), fun _ => ⟨_, rfl⟩⟩
theorem num_t (w : ByteArray) : ∃ v, (spec_l01Number.t w).get = some (v, numOk9 w) ∧ (numOk9 w = true → v = ((valD 0 w.data.toList : Nat) : Int)) := by
  unfold numOk9
  by_cases h1 : 1 ≤ w.size
  · by_cases h9 : w.size ≤ 9
    · obtain ⟨r, hr, p1, p2⟩ := num_r w h9
      have hb : byteAt w (0 : Int) = ((w.data.toList.getD 0 0).toNat : Int) := byte_of w 0
      have h48 : ((byteAt w (0 : Int)) == 48) = decide (w.data.toList.getD 0 0 = 48) := by
        rw [hb]
        by_cases q : w.data.toList.getD 0 0 = 48
        · rw [decide_eq_true q, q]
          rfl
        · rw [decide_eq_false q, beq_eq_false_iff_ne]
          intro e
          refine q (UInt8.toNat_inj.1 ?_)
          show _ = 48
          omega
      have hb0 : bounds 0 w.size = true := by
        rw [show (0 : Int) = ((0 : Nat) : Int) from rfl, bounds_nat, decide_eq_true (by omega)]
      simp only [spec_l01Number.t, T.get, hb0, h48, hr, Option.isSome_some, Option.getD_some]
      rw [decide_eq_false (by omega : ¬ ((w.size : Nat) : Int) < 1), decide_eq_false (by omega : ¬ ((w.size : Nat) : Int) > 9), decide_eq_true (show 1 ≤ w.size ∧ w.size ≤ 9 from ⟨h1, h9⟩)]
      have hgt : decide (((w.size : Nat) : Int) > 1) = decide (1 < w.size) := by
        by_cases q : 1 < w.size
        · rw [decide_eq_true q, decide_eq_true (by omega)]
        · rw [decide_eq_false q, decide_eq_false (by omega)]
      rw [hgt]
      have key : ∃ v, (bif Sum.isLeft r then some ((getLeftD r).1, (getLeftD r).2.1) else some (getRightD r, true)) = some (v, allD w.data.toList) ∧ (allD w.data.toList = true → v = ((valD 0 w.data.toList : Nat) : Int)) := by
        cases ha : allD w.data.toList with
        | true =>
          rw [p1 ha]
          exact ⟨_, rfl, fun _ => rfl⟩
        | false =>
          obtain ⟨q, e⟩ := p2 ha
          rw [e]
          exact ⟨_, rfl, fun h => by cases h⟩
      obtain ⟨v, k1, k2⟩ := key
      cases decide (w.data.toList.getD 0 0 = 48) <;> cases decide (1 < w.size)
      · exact ⟨v, k1, k2⟩
      · exact ⟨v, k1, k2⟩
      · exact ⟨v, k1, k2⟩
      · exact ⟨_, rfl, fun h => by cases h⟩
    · simp only [spec_l01Number.t, T.get]
      rw [decide_eq_false (by omega : ¬ ((w.size : Nat) : Int) < 1), decide_eq_true (by omega : ((w.size : Nat) : Int) > 9), decide_eq_false (show ¬ (1 ≤ w.size ∧ w.size ≤ 9) by omega)]
      exact ⟨_, rfl, fun h => by cases h⟩
  · simp only [spec_l01Number.t, T.get]
    rw [decide_eq_true (by omega : ((w.size : Nat) : Int) < 1), decide_eq_false (show ¬ (1 ≤ w.size ∧ w.size ≤ 9) by omega)]
    exact ⟨_, rfl, fun h => by cases h⟩
/-! What the program's own count says. -/
theorem count_dec {w : ByteArray} (h : counts w = true) : ∃ u : Nat, u ≤ 32767 ∧ Go.Lib.parseUintB 15 w.data.toList = .ok u ∧ w.data.toList = Go.Lib.decDigits u ∧ numOk9 w = true ∧ valD 0 w.data.toList = u := by
  unfold counts at h
  cases hp : Go.Lib.parseUintB 15 w.data.toList with
  | «syntax» => rw [hp] at h; cases h
  | range => rw [hp] at h; cases h
  | ok u =>
    rw [hp] at h
    have hu : u ≤ 32767 := Go.Lib.parseUintB_le hp
    have hd : w.data.toList = Go.Lib.decDigits u := by
      have := eq_of_beq h
      rw [this, ByteArray.toList_eq]
    obtain ⟨a1, a2⟩ := dec_all u
    refine ⟨u, hu, rfl, hd, ?_, by rw [hd]; exact a2⟩
    have hl : w.data.toList.length = w.size := rfl
    have l1 := dec_ne u
    have l2 := dec_len 4 u (by omega)
    rw [← hd, hl] at l1 l2
    unfold numOk9
    rw [decide_eq_true (show 1 ≤ w.size ∧ w.size ≤ 9 by omega)]
    have hz : (decide (w.data.toList.getD 0 0 = 48) && decide (1 < w.size)) = false := by
      by_cases h0 : u = 0
      · have h1 := dec_len 0 u (by omega)
        rw [← hd, hl] at h1
        rw [decide_eq_false (by omega : ¬ 1 < w.size), Bool.and_false]
      · have h1 := dec_head u (by omega)
        rw [← hd] at h1
        rw [decide_eq_false h1, Bool.false_and]
    rw [hz, hd, a1]
    rfl
theorem isD_t {c : UInt8} (h : isD c = true) : 48 ≤ c.toNat ∧ c.toNat ≤ 57 := by
  unfold isD at h
  rw [Bool.and_eq_true] at h
  exact ⟨of_decide_eq_true h.1, of_decide_eq_true h.2⟩
theorem digit_is {c : UInt8} {k : Nat} (hk : k < 10) (h : c.toNat = 48 + k) : c = UInt8.ofNat (48 + k) := UInt8.toNat_inj.1 (by rw [dig_nat hk, h])
theorem dec_count {w : ByteArray} (h : numOk9 w = true) (hv : valD 0 w.data.toList ≤ 48) : counts w = true ∧ Go.Lib.parseUintB 15 w.data.toList = .ok (valD 0 w.data.toList) := by
  unfold numOk9 at h
  rw [Bool.and_eq_true, Bool.and_eq_true] at h
  obtain ⟨h1, h2, h3⟩ := h
  have h1 := of_decide_eq_true h1
  have hl : w.data.toList.length = w.size := rfl
  unfold counts
  rw [ByteArray.toList_eq]
  rw [← hl] at h1 h2
  generalize w.data.toList = l at h1 h2 h3 hv
  have at0 := all_at h3
  match l, h1, h2, h3, hv, at0 with
  | [c], _, _, _, _, at0 =>
    obtain ⟨c1, c2⟩ := isD_t (at0 0 (by simp))
    have e : valD 0 [c] = c.toNat - 48 := by
      show 0 * 10 + (c.toNat - 48) = _
      omega
    have c1' : 48 ≤ c.toNat := c1
    have c2' : c.toNat ≤ 57 := c2
    have hp : Go.Lib.parseUintB 15 [c] = .ok (c.toNat - 48) := by
      unfold Go.Lib.parseUintB
      rw [if_neg (by simp)]
      simp only [Go.Lib.parseUintM]
      rw [if_pos ⟨c1', c2'⟩, if_neg (by omega), if_neg (by omega)]
      exact congrArg Go.Lib.NumEnd.ok (by omega)
    rw [e, hp]
    refine ⟨?_, rfl⟩
    show (Go.Lib.decDigits (c.toNat - 48) == [c]) = true
    have hd := digit_is (c := c) (k := c.toNat - 48) (by omega) (by omega)
    rw [Go.Lib.decDigits, dif_pos (by omega : c.toNat - 48 < 10), ← hd]
    simp
  | [c, d], _, h2, _, hv, at0 =>
    obtain ⟨c1, c2⟩ := isD_t (at0 0 (by simp))
    obtain ⟨d1, d2⟩ := isD_t (at0 1 (by simp))
    have c1' : 48 ≤ c.toNat := c1
    have c2' : c.toNat ≤ 57 := c2
    have d1' : 48 ≤ d.toNat := d1
    have d2' : d.toNat ≤ 57 := d2
    have hne : c.toNat ≠ 48 := by
      intro q
      have : c = 48 := UInt8.toNat_inj.1 q
      subst this
      cases h2
    have e : valD 0 [c, d] = (c.toNat - 48) * 10 + (d.toNat - 48) := by
      show (0 * 10 + (c.toNat - 48)) * 10 + (d.toNat - 48) = _
      omega
    rw [e] at hv ⊢
    have hp : Go.Lib.parseUintB 15 [c, d] = .ok ((c.toNat - 48) * 10 + (d.toNat - 48)) := by
      unfold Go.Lib.parseUintB
      rw [if_neg (by simp)]
      simp only [Go.Lib.parseUintM]
      rw [if_pos ⟨c1', c2'⟩, if_neg (by omega), if_neg (by omega), if_pos ⟨d1', d2'⟩, if_neg (by omega), if_neg (by omega)]
      exact congrArg Go.Lib.NumEnd.ok (by omega)
    rw [hp]
    refine ⟨?_, rfl⟩
    show (Go.Lib.decDigits ((c.toNat - 48) * 10 + (d.toNat - 48)) == [c, d]) = true
    rw [Go.Lib.decDigits_two (by omega) (by omega), ← digit_is (c := c) (k := ((c.toNat - 48) * 10 + (d.toNat - 48)) / 10) (by omega) (by omega), ← digit_is (c := d) (k := ((c.toNat - 48) * 10 + (d.toNat - 48)) % 10) (by omega) (by omega)]
    simp
  | c :: d :: f :: r, _, h2, h3, hv, at0 =>
    obtain ⟨c1, c2⟩ := isD_t (at0 0 (by simp))
    have c1' : 48 ≤ c.toNat := c1
    have hne : c.toNat ≠ 48 := by
      intro q
      have : c = 48 := UInt8.toNat_inj.1 q
      subst this
      cases h2
    have := val_ge r (((0 * 10 + (c.toNat - 48)) * 10 + (d.toNat - 48)) * 10 + (f.toNat - 48))
    have e : valD 0 (c :: d :: f :: r) = valD (((0 * 10 + (c.toNat - 48)) * 10 + (d.toNat - 48)) * 10 + (f.toNat - 48)) r := rfl
    rw [e] at hv
    omega
/-! Its words behind the first as numbers. -/
noncomputable def numsB (P : List ByteArray) : Nat → List Nat
  | 0 => []
  | i + 1 => numsB P i ++ [numv (P.getD (1 + i) ByteArray.empty)]
theorem numsB_len (P : List ByteArray) : ∀ i, (numsB P i).length = i
  | 0 => rfl
  | i + 1 => by
    show (numsB P i ++ [_]).length = i + 1
    rw [List.length_append, numsB_len P i]
    rfl
theorem numbersB_t (P : List ByteArray) (m : Int) (tab : List Int) (n : Nat) (hn : n + 1 = P.length) (hP : P.length ≤ 1048577) : ∃ r, (impl_numbersOf.t n m tab P).get = some r ∧ (match firstAt (fun i => !okN (P.getD (1 + i) ByteArray.empty)) n 0 with | some _ => r = .inl false | none => r = .inr (n, true, numsB P n)) := by
  have step : ∀ i, i < n → (impl_numbersOf.l3.st (n, (n : Int), m, tab, P) (i, (i : Int), numsB P i)).get = some (bif okN (P.getD (1 + i) ByteArray.empty) then .inl (i + 1, ((i + 1 : Nat) : Int), numsB P (i + 1)) else .inr (.inl (false, i, numsB P i))) := fun i hi => by
    have hn := impl_num (P.getD (1 + i) ByteArray.empty)
    have hc : ∀ y : Nat, (Nat.ble 1 (List.length [y]) && (Nat.beq (List.length (numsB P i)) (i * 1) && Nat.ble ((i + 1) * 4) 35184372088832 && Nat.ble (i + 1) 35184372088832)) = true := fun y => by
      rw [numsB_len, Nat.mul_one, Nat.beq_refl, ble_decide, ble_decide, ble_decide, decide_eq_true (by simp : 1 ≤ List.length [y]), decide_eq_true (by omega : (i + 1) * 4 ≤ 35184372088832), decide_eq_true (by omega : i + 1 ≤ 35184372088832)]
      rfl
    simp only [impl_numbersOf.l3.st, impl_numbersOf.l3.s, T.get, bounds_nat, Int.toNat_natCast, Nat.mul_one, show impl_ReadNumber.ok (P.getD (1 + i) ByteArray.empty) = true from T.ok_of_get (hn), show impl_ReadNumber (P.getD (1 + i) ByteArray.empty) = _ from T.val_of_get (hn)]
    have hc' := hc
    simp only [Nat.mul_one] at hc'
    simp only [hc']
    simp only [ble_decide]
    rw [decide_eq_true (by omega : (i : Int) < (n : Int)), decide_eq_true hi, decide_eq_true (by omega : 1 + i + 1 ≤ P.length), wrap64_succ (by omega)]
    cases okN (P.getD (1 + i) ByteArray.empty) <;> rfl
  have fin : (impl_numbersOf.l3.st (n, (n : Int), m, tab, P) (n, (n : Int), numsB P n)).get = some (.inr (.inr (n, numsB P n))) := by
    simp only [impl_numbersOf.l3.st, impl_numbersOf.l3.s, T.get]
    rw [decide_eq_false (by omega)]
    rfl
  cases hf : firstAt (fun i => !okN (P.getD (1 + i) ByteArray.empty)) n 0 with
  | none =>
    have hall := firstAt_none.1 hf
    have h := iter_run (step := impl_numbersOf.l3.st (n, (n : Int), m, tab, P)) (f := fun i => (i, (i : Int), numsB P i)) (e := Sum.inr (n, numsB P n)) (n := n) (N := manyRounds) (k := 0) (many_lt (by omega)) (fun i hi => by
      simp only [Nat.zero_add]
      rw [step i hi, show okN (P.getD (1 + i) ByteArray.empty) = true from by simpa using hall i (by omega) (by omega)]
      rfl) (by simp only [Nat.zero_add]; exact fin)
    have h' : impl_numbersOf.l3.r (n, (n : Int), m, tab, P) (0, (0 : Int), []) = some (Sum.inr (n, numsB P n)) := h
    simp only [impl_numbersOf.t, T.get, h']
    exact ⟨_, rfl, rfl⟩
  | some j =>
    obtain ⟨_, hj, hp, hbefore⟩ := firstAt_some hf
    have h := iter_run (step := impl_numbersOf.l3.st (n, (n : Int), m, tab, P)) (f := fun i => (i, (i : Int), numsB P i)) (e := Sum.inl (false, j, numsB P j)) (n := j) (N := manyRounds) (k := 0) (many_lt (by omega)) (fun i hi => by
      simp only [Nat.zero_add]
      rw [step i (by omega), show okN (P.getD (1 + i) ByteArray.empty) = true from by simpa using hbefore i (by omega) hi]
      rfl) (by
      simp only [Nat.zero_add]
      rw [step j (by omega), show okN (P.getD (1 + j) ByteArray.empty) = false from by simpa using hp]
      rfl)
    have h' : impl_numbersOf.l3.r (n, (n : Int), m, tab, P) (0, (0 : Int), []) = some (Sum.inl (false, j, numsB P j)) := h
    simp only [impl_numbersOf.t, T.get, h']
    exact ⟨_, rfl, rfl⟩
/-! Its text. -/
theorem decB_size (n : Nat) (h : n < 100) : (decB (n : Int)).size ≤ 2 := by
  show (Go.Lib.decDigits (Int.toNat (n : Int))).length ≤ 2
  rw [Int.toNat_natCast, Go.Lib.decDigits]
  split
  · simp
  · rw [Go.Lib.decDigits, dif_pos (by omega : n / 10 < 10)]
    simp
theorem ge_num {x c : Nat} (h : fge .f32 x c = true) : isNaN .f32 x = false := by
  cases hn : isNaN .f32 x with
  | false => rfl
  | true =>
    have ho : FloatKind.f32.format.order x c = none := by
      have h1 : (FloatKind.f32.format.read x).isNaN = true := hn
      unfold Ieee.Format.order
      cases hx : FloatKind.f32.format.read x with
      | nan s t => rfl
      | infinity s => rw [hx] at h1; cases h1
      | number s m e => rw [hx] at h1; cases h1
    unfold fge at h
    rw [ho] at h
    cases h
theorem length_num {x : Nat} (h : spec_l03Length x = true) : isNaN .f32 x = false := by
  simp only [spec_l03Length, spec_l03Length.t, T.val] at h
  cases h1 : fge .f32 x 1031798784 with
  | false => rw [h1] at h; cases h
  | true => exact ge_num h1
section
variable (n a b : Nat) (hn : n < 100) (ha : a < 4294967296) (hb : b < 4294967296) (na : isNaN .f32 a = false) (nb : isNaN .f32 b = false)
include ha hb na nb
theorem texts_r : impl_texts.l3.r (ByteArray.mk #[58], 2, ((2 : Nat) : Int), [a, b]) (0, (0 : Int), []) = some (2, [hexT a, hexT b]) := by
  have hf := iter_run (step := impl_texts.l3.st (ByteArray.mk #[58], 2, ((2 : Nat) : Int), [a, b])) (f := fun j => match j with | 0 => (0, (0 : Int), []) | 1 => (1, (1 : Int), [hexT a]) | _ => (2, (2 : Int), [hexT a, hexT b])) (e := (2, [hexT a, hexT b])) (n := 2) (N := manyRounds) (k := 0) (many_lt (by omega)) (fun j hj => ?_) ?_
  · exact hf
  · have g0 : List.getD [a, b] (Int.toNat 0 * 1) 0 = a := rfl
    have g1 : List.getD [a, b] (Int.toNat 1 * 1) 0 = b := rfl
    match j, hj with
    | 0, _ =>
      simp only [impl_texts.l3.st, impl_texts.l3.s, T.get, g0, show impl_NumberText.ok a = true from T.ok_of_get (impl_hex a ha na), show impl_NumberText a = _ from T.val_of_get (impl_hex a ha na)]
      rfl
    | 1, _ =>
      simp only [impl_texts.l3.st, impl_texts.l3.s, T.get, g1, show impl_NumberText.ok b = true from T.ok_of_get (impl_hex b hb nb), show impl_NumberText b = _ from T.val_of_get (impl_hex b hb nb)]
      rfl
  · rfl
theorem impl_text : (impl_texts.t (ByteArray.mk #[58]) 2 [a, b]).get = some ((hexT a ++ ByteArray.mk #[58]) ++ hexT b) := by
  have hl : ∀ x, (hexT x).data.toList.length = 8 := fun x => hexT_size x
  have hj : joinOk [hexT a, hexT b] 2 (ByteArray.mk #[58]) = true := by
    unfold joinOk
    have e : (Lib.join ([hexT a, hexT b].map (·.data.toList)) (ByteArray.mk #[58]).data.toList).length = 17 := by
      simp [Lib.join, List.intercalate, List.intersperse, hl]
    rw [e]
    rfl
  have ht : joinB [hexT a, hexT b] (ByteArray.mk #[58]) = (hexT a ++ ByteArray.mk #[58]) ++ hexT b := by
    refine ByteArray.ext (Array.ext' ?_)
    simp [joinB, Lib.join, List.intercalate, List.intersperse, ByteArray.data_append]
  simp only [impl_texts.t, T.get, texts_r a b ha hb na nb, Option.isSome_some, Option.getD_some, hj, ht]
  rfl
end
theorem max_gt : ∀ n : Nat, n ≤ 100 → decide (((n : Nat) : Int) > IntKind.max .i64) = false := fun n hn => decide_eq_false (by
  have : IntKind.max .i64 = 9223372036854775807 := rfl
  omega)
theorem mill_parts {u a b : Nat} (hu : u ≤ 32767) (h : spec_l03Mill (u : Int) a b = true) : u ≤ 48 ∧ spec_l03Length a = true ∧ spec_l03Length b = true := by
  have hw : IntKind.wrap .i64 (u : Int) = (u : Int) := wrap64_nat (by omega)
  simp only [spec_l03Mill, spec_l03Mill.t, spec_l00In, spec_l00In.t, T.val, hw] at h
  cases hlo : decide ((u : Int) ≥ 4) with
  | false => rw [hlo] at h; cases h
  | true =>
    cases hhi : decide ((u : Int) ≤ 48) with
    | false => rw [hlo, hhi] at h; cases h
    | true =>
      rw [hlo, hhi] at h
      cases hla : spec_l03Length a with
      | false => rw [hla] at h; cases h
      | true =>
        rw [hla] at h
        have := of_decide_eq_true hhi
        exact ⟨by omega, rfl, h⟩
theorem mill_text {u a b : Nat} (m : Int) (tab : List Int) (ha : a < 4294967296) (hb : b < 4294967296) (hu : u ≤ 32767) (h : spec_l03Mill (u : Int) a b = true) : (impl_MillText.t (u : Int) a b m tab).get = some ((decB (u : Int) ++ ByteArray.mk #[58]) ++ ((hexT a ++ ByteArray.mk #[58]) ++ hexT b)) := by
  have hw : IntKind.wrap .i64 (u : Int) = (u : Int) := wrap64_nat (by omega)
  obtain ⟨h48, hla, hlb⟩ := mill_parts hu h
  have na := length_num hla
  have nb := length_num hlb
  have hi : (impl_decimal.t (u : Int)).get = some (decB (u : Int)) := by
    simp only [impl_decimal.t, T.get]
    rw [decide_eq_true (by omega : 0 ≤ (u : Int)), decide_eq_true (by omega : (u : Int) < 100)]
    rfl
  have hs : ByteArray.size (ByteArray.mk #[58]) = 1 := rfl
  have hz := decB_size u (by omega)
  have ht := impl_text a b ha hb na nb
  simp only [impl_MillText.t, T.get, vmill_eq, hw, h, Bool.not_true, cond_false, show impl_decimal.ok (u : Int) = true from T.ok_of_get (hi), show impl_decimal (u : Int) = _ from T.val_of_get (hi), show impl_texts.ok (ByteArray.mk #[58]) 2 [a, b] = true from T.ok_of_get (ht), show impl_texts (ByteArray.mk #[58]) 2 [a, b] = _ from T.val_of_get (ht), ByteArray.size_append, hexT_size, hs]
  rw [max_gt _ (by omega), max_gt _ (by omega)]
  rfl
theorem mill_none {u a b : Nat} (m : Int) (tab : List Int) (h : spec_l03Mill (u : Int) a b = false) : (impl_MillText.t (u : Int) a b m tab).get = some (ByteArray.mk #[]) := by
  simp only [impl_MillText.t, T.get, vmill_eq, h, Bool.not_false, cond_true]
theorem eqMill_t (n : Int) (a b : Nat) (m : Int) (tab : List Int) : (laws_eqMill.t n a b n a b m tab).get = some true := by
  simp only [laws_eqMill.t, T.get, open_wide, same_refl]
  simp
set_option maxHeartbeats 2000000 in
theorem read_t (x : ByteArray) (m : Int) (hx : x.size ≤ 1048576) : ∃ r, (spec_ReadMill.t x m Go.Lib.pow10Tab).get = some r ∧ (impl_ReadMill.t x m Go.Lib.pow10Tab).get = some r := by
  have hcut := cut_t x m hx
  have hsp := split_pieces x 58
  have hlen : (splitL x (ByteArray.mk #[58])).length ≤ 1048577 := by
    have h1 : (splitL x (ByteArray.mk #[58])).length = Go.Lib.countB x (ByteArray.mk #[58]) + 1 := Go.Lib.splitB_all _ (by decide) 0 _ x rfl
    have h2 := countB_small x (ByteArray.mk #[58]) (by decide)
    omega
  have hguard : (Nat.ble x.size 1048576 && Nat.ble 1 (ByteArray.size (ByteArray.mk #[58]))) = true := by
    rw [ble_decide, decide_eq_true hx]
    rfl
  have hj := pcs_join 58 x.data.toList
  simp only [spec_ReadMill.t, impl_ReadMill.t, T.get, hguard, show spec_l01Split.ok x 58 = true from T.ok_of_get (hcut), show spec_l01Split x 58 = _ from T.val_of_get (hcut)]
  clear hcut hguard
  generalize splitL x (ByteArray.mk #[58]) = P at hsp hlen ⊢
  rw [← hsp] at hj
  have hP1 : 1 ≤ P.length := by
    cases P with
    | nil => exact absurd hsp.symm (pcs_ne 58 _)
    | cons w r => simp
  have hsize : (List.getD P 0 ByteArray.empty).size ≤ 1048576 := by
    cases P with
    | nil => cases hP1
    | cons w r =>
      have hl : w.data.toList.length ≤ x.data.toList.length := by
        rw [← hj]
        cases r <;> simp [List.intercalate, List.intersperse]
      have e1 : w.data.toList.length = w.size := rfl
      have e2 : x.data.toList.length = x.size := rfl
      show w.size ≤ _
      omega
  obtain ⟨r, hr, hcase⟩ := numbersB_t P m Go.Lib.pow10Tab (P.length - 1) (by omega) hlen
  have e1 : Int.toNat ((P.length : Nat) : Int) - Int.toNat (1 : Int) = P.length - 1 := rfl
  have b0 : bounds (0 : Int) P.length = true := by rw [show (0 : Int) = ((0 : Nat) : Int) from rfl, bounds_nat, decide_eq_true (by omega)]
  have hg2 : Nat.ble (List.getD P 0 ByteArray.empty).size 1048576 = true := by rw [ble_decide, decide_eq_true hsize]
  have hg3 : (decide (0 ≤ (1 : Int)) && decide ((1 : Int) ≤ ((P.length : Nat) : Int)) && decide (((P.length : Nat) : Int) ≤ ((P.length : Nat) : Int))) = true := by
    rw [decide_eq_true (by omega : (1 : Int) ≤ ((P.length : Nat) : Int)), decide_eq_true (by omega : ((P.length : Nat) : Int) ≤ ((P.length : Nat) : Int))]
    rfl
  have hg4 : Nat.ble 1 P.length = true := by rw [ble_decide, decide_eq_true hP1]
  simp only [e1, b0, hg2, hg3, hg4, decide_true, Bool.and_true, show impl_numbersOf.ok (P.length - 1) m Go.Lib.pow10Tab P = true from T.ok_of_get (hr), show impl_numbersOf (P.length - 1) m Go.Lib.pow10Tab P = _ from T.val_of_get (hr), cond_true]
  clear hr
  by_cases h3 : P.length = 3
  · obtain ⟨w0, w1, w2, rfl⟩ : ∃ w0 w1 w2, P = [w0, w1, w2] := by
      match P, h3 with
      | [a, b, c], _ => exact ⟨a, b, c, rfl⟩
    obtain ⟨v, hv, vv⟩ := num_t w0
    obtain ⟨a1, ha1, va1⟩ := spec_num w1
    obtain ⟨a2, ha2, va2⟩ := spec_num w2
    have p0 : List.getD [w0, w1, w2] 0 ByteArray.empty = w0 := rfl
    have p1 : List.getD [w0, w1, w2] 1 ByteArray.empty = w1 := rfl
    have p2 : List.getD [w0, w1, w2] 2 ByteArray.empty = w2 := rfl
    have hne : (((([w0, w1, w2] : List ByteArray).length : Nat) : Int) != 3) = false := rfl
    have hb1 : bounds 1 ([w0, w1, w2] : List ByteArray).length = true := rfl
    have hb2 : bounds 2 ([w0, w1, w2] : List ByteArray).length = true := rfl
    have hc2 : Nat.ble 2 ([w0, w1, w2] : List ByteArray).length = true := rfl
    have hc3 : Nat.ble 3 ([w0, w1, w2] : List ByteArray).length = true := rfl
    have hfirst : firstAt (fun i => !okN (List.getD [w0, w1, w2] (1 + i) ByteArray.empty)) (([w0, w1, w2] : List ByteArray).length - 1) 0 = bif !okN w1 then some 0 else bif !okN w2 then some 1 else none := rfl
    rw [hfirst] at hcase
    simp only [p0, p1, p2, hne, hb1, hb2, hc2, hc3, cond_true, cond_false, show spec_l01Number.ok w0 = true from T.ok_of_get (hv), show spec_l01Number w0 = _ from T.val_of_get (hv), show spec_l01Read.ok w1 = true from T.ok_of_get (ha1), show spec_l01Read w1 = _ from T.val_of_get (ha1), show spec_l01Read.ok w2 = true from T.ok_of_get (ha2), show spec_l01Read w2 = _ from T.val_of_get (ha2)]
    cases o1 : okN w1 with
    | false =>
      rw [o1] at hcase
      have hcase : r = .inl false := hcase
      subst hcase
      refine ⟨(0, 0, 0, 5), ?_, ?_⟩
      · cases numOk9 w0 <;> rfl
      · cases counts w0 <;> rfl
    | true =>
      cases o2 : okN w2 with
      | false =>
        rw [o1, o2] at hcase
        have hcase : r = .inl false := hcase
        subst hcase
        refine ⟨(0, 0, 0, 5), ?_, ?_⟩
        · cases numOk9 w0 <;> rfl
        · cases counts w0 <;> rfl
      | true =>
        rw [o1, o2] at hcase
        have hcase : r = .inr (2, true, [numv w1, numv w2]) := hcase
        subst hcase
        rw [va1 o1, va2 o2]
        have q0 : List.getD [numv w1, numv w2] 0 0 = numv w1 := rfl
        have q1 : List.getD [numv w1, numv w2] 1 0 = numv w2 := rfl
        cases hc : counts w0 with
        | false =>
          refine ⟨(0, 0, 0, 5), ?_, ?_⟩
          · cases hn : numOk9 w0 with
            | false => rfl
            | true =>
              by_cases h48 : valD 0 w0.data.toList ≤ 48
              · have := (dec_count hn h48).1
                rw [hc] at this
                cases this
              · rw [vv hn, decide_eq_true (by omega : ((valD 0 w0.data.toList : Nat) : Int) > 48)]
                rfl
          · rfl
        | true =>
          obtain ⟨u, hu, hp, hd, hn, hval⟩ := count_dec hc
          have hn16 : IntKind.wrap .i16 (u : Int) = (u : Int) := wrap16 rfl (by omega)
          have hnum : numOf 32767 (Go.Lib.NumEnd.ok u) = u := rfl
          rw [vv hn, hval, hn, hp]
          simp only [hnum, hn16, Bool.not_true, cond_false, Sum.isLeft, getRightD, q0, q1]
          cases hm : spec_l03Mill (u : Int) (numv w1) (numv w2) with
          | true =>
            obtain ⟨h48, hla, hlb⟩ := mill_parts hu hm
            have ht := mill_text m Go.Lib.pow10Tab (numv_lt w1) (numv_lt w2) hu hm
            have hx : (decB (u : Int) ++ ByteArray.mk #[58]) ++ ((hexT (numv w1) ++ ByteArray.mk #[58]) ++ hexT (numv w2)) = x := by
              rw [numv_text o1 (length_num hla), numv_text o2 (length_num hlb)]
              have hdw : decB (u : Int) = w0 := by
                refine ByteArray.ext (Array.ext' ?_)
                rw [hd]
                unfold decB
                rw [Int.toNat_natCast]
              rw [hdw]
              refine ByteArray.ext (Array.ext' ?_)
              rw [← hj]
              simp [List.intercalate, List.intersperse, ByteArray.data_append]
            simp only [show impl_MillText.ok (u : Int) (numv w1) (numv w2) m Go.Lib.pow10Tab = true from T.ok_of_get (ht), show impl_MillText (u : Int) (numv w1) (numv w2) m Go.Lib.pow10Tab = _ from T.val_of_get (ht), hx, seq_eq, decide_true]
            rw [decide_eq_false (by omega : ¬ (u : Int) > 48)]
            exact ⟨_, rfl, rfl⟩
          | false =>
            have ht := mill_none m Go.Lib.pow10Tab hm
            have hx : ¬ ByteArray.mk #[] = x := by
              intro q
              subst q
              have : ([w0, w1, w2].map (·.data.toList)).length = (pcs 58 []).length := by rw [hsp]
              simp [pcs] at this
            simp only [show impl_MillText.ok (u : Int) (numv w1) (numv w2) m Go.Lib.pow10Tab = true from T.ok_of_get (ht), show impl_MillText (u : Int) (numv w1) (numv w2) m Go.Lib.pow10Tab = _ from T.val_of_get (ht), seq_eq, hx, decide_false]
            refine ⟨(0, 0, 0, 5), ?_, rfl⟩
            cases decide ((u : Int) > 48) <;> rfl
  · have hne : (((P.length : Nat) : Int) != 3) = true := by
      rw [bne_iff_ne]
      omega
    simp only [hne, cond_true]
    refine ⟨(0, 0, 0, 5), rfl, ?_⟩
    cases hf : firstAt (fun i => !okN (P.getD (1 + i) ByteArray.empty)) (P.length - 1) 0 with
    | some j =>
      rw [hf] at hcase
      dsimp only at hcase
      subst hcase
      cases counts (P.getD 0 ByteArray.empty) <;> rfl
    | none =>
      rw [hf] at hcase
      dsimp only at hcase
      subst hcase
      have h2 : (((P.length - 1 : Nat) : Int) != 2) = true := by
        rw [bne_iff_ne]
        omega
      simp only [Sum.isLeft, getRightD, h2]
      cases counts (P.getD 0 ByteArray.empty) <;> rfl
theorem law_tab (x : ByteArray) (m : Int) : (laws_FnExactReadMill.t x m Go.Lib.pow10Tab).get = some true := by
  simp only [laws_FnExactReadMill.t, T.get]
  by_cases hb : ((x.size : Nat) : Int) > 1048576
  · rw [decide_eq_true hb]
    rfl
  · rw [decide_eq_false hb]
    obtain ⟨⟨a, b, c, e⟩, h1, h2⟩ := read_t x m (by omega)
    have h3 := eqMill_t a b c m Go.Lib.pow10Tab
    simp only [show spec_ReadMill.ok x m Go.Lib.pow10Tab = true from T.ok_of_get (h1), show spec_ReadMill x m Go.Lib.pow10Tab = _ from T.val_of_get (h1), show impl_ReadMill.ok x m Go.Lib.pow10Tab = true from T.ok_of_get (h2), show impl_ReadMill x m Go.Lib.pow10Tab = _ from T.val_of_get (h2), show laws_eqMill.ok a b c a b c m Go.Lib.pow10Tab = true from T.ok_of_get (h3), show laws_eqMill a b c a b c m Go.Lib.pow10Tab = _ from T.val_of_get (h3)]
    simp
theorem law_holds (x : ByteArray) (m : Int) : (laws_FnExactReadMill.t x m Go.Lib.pow10Tab).get = some true := law_tab x m

theorem law_plain (x0 : ByteArray) (mx : Int) (f0 : ((ByteArray.size x0 : Nat) : Int) ≤ IntKind.i64.max) : (laws_FnExactReadMill.tr (x0, mx, Go.Lib.pow10Tab)).get = some true := law_holds x0 mx
theorem own : ownKnob Tryd.prog.godebug = none := by kernel_rfl
theorem laidOut : laidOutB Tryd.prog = true := by kernel_rfl
theorem gSyn : Tryd.prog.globalNamed "strconv.ErrSyntax" = some 3 := by kernel_rfl
theorem gRng : Tryd.prog.globalNamed "strconv.ErrRange" = some 4 := by kernel_rfl
theorem gPow : Tryd.prog.globalNamed "internal/strconv.uint64pow10" = some 1 := by kernel_rfl
theorem tSyn : (Tryd.prog.globals[3]?).map (·.type) = some 62 := by kernel_rfl
theorem tRng : (Tryd.prog.globals[4]?).map (·.type) = some 62 := by kernel_rfl
theorem tPow : (Tryd.prog.globals[1]?).map (·.type) = some 98 := by kernel_rfl
theorem cells_te : Tryd.prog.cellsOf 118 = 1 := by kernel_rfl
theorem cells_ts : Tryd.prog.cellsOf 9 = 1 := by kernel_rfl
theorem cells_pt : Tryd.prog.cellsOf 98 = 20 := by kernel_rfl
theorem cells_pe : Tryd.prog.cellsOf 60 = 1 := by kernel_rfl
theorem star : "*" ++ "errors.errorString" = "*errors.errorString" := by decide
theorem row_tp (u : TypeId) (h : Tryd.prog.typeName? 3 u = some "*errors.errorString") : u = 116 :=
  typeName_ptr_named (nm := "errors.errorString") (by rw [star]; kernel_rfl) (by kernel_rfl) (by decide) u (by rw [star]; exact h)
theorem pow_lit : Go.Lib.pow10Tab = [1, 10, 100, 1000, 10000, 100000, 1000000, 10000000, 100000000, 1000000000, 10000000000, 100000000000, 1000000000000, 10000000000000, 100000000000000, 1000000000000000, 10000000000000000, 100000000000000000, 1000000000000000000, 10000000000000000000] := by kernel_rfl
theorem pow_is {W : World} (h : laidMet Tryd.prog Rows.fnExactReadMillRow.laid W) : Go.Lib.TabIs Tryd.prog W "internal/strconv.uint64pow10" .u64 Go.Lib.pow10Tab := by
  rw [pow_lit]
  exact Go.Lib.tabIs_of_head (rest := _) gPow tPow Tryd.underlying98 Tryd.underlying60 cells_pe cells_pt h.tail.tail
theorem rng_is {W : World} (h : laidMet Tryd.prog Rows.fnExactReadMillRow.laid W) : ∃ v, W.cell? ⟨4, 0, none⟩ = some v ∧ ∃ t p, v = .iface t p := by
  obtain ⟨a, s, hv, _⟩ := laid_sentinel h.tail.tail.tail.tail gRng tRng Tryd.underlying62 row_tp Tryd.underlying116 Tryd.underlying118 rfl rfl Tryd.underlying9 cells_te cells_ts
  exact ⟨_, by simpa using World.var?_cell gRng hv 0, _, _, rfl⟩
theorem syn_is {W : World} (h : laidMet Tryd.prog Rows.fnExactReadMillRow.laid W) : ∃ v, W.cell? ⟨3, 0, none⟩ = some v ∧ ∃ t p, v = .iface t p := by
  obtain ⟨a, s, hv, _⟩ := laid_sentinel h.tail.tail.tail.tail.tail gSyn tSyn Tryd.underlying62 row_tp Tryd.underlying116 Tryd.underlying118 rfl rfl Tryd.underlying9 cells_te cells_ts
  exact ⟨_, by simpa using World.var?_cell gSyn hv 0, _, _, rfl⟩
/-- What the walk gives, for every argument and every world. -/
theorem contract (H : Type) (enc : TypeId × Value → H) (W : World) (base : Nat) (args : Array Value) (ds gs : List (DataW H)) (before : List MemPlace)
    (hval0 : ∀ (j : Nat) t v, Tryd.f4.params[j]? = some t → args[j]? = some v → Value.okWide Tryd.prog W .any base t v)
    (hW : DataW.Whole enc Tryd.prog Tryd.f4.params.toList Rows.fnExactReadMillSpec.vars false W args.toList ds gs before) (hsh : W.ShapedOpen Tryd.prog) (hL : laidMet Tryd.prog Rows.fnExactReadMillRow.laid W) :
    Calls Tryd.prog 4 args W fun e W' => ∃ v, e = .returned v ∧ Rows.fnExactReadMillSpec.post enc Tryd.prog Tryd.f4 false true false false W args v W' := by
  obtain ⟨mx, hmx⟩ := cell_of_shapedOpen_int (k := .i64) (g := 2) (t := 3) (zero := #[.int .i64 0]) hsh (Nat.le_of_ble_eq_true (by kernel_rfl)) (by kernel_rfl) rfl (by kernel_rfl) (by kernel_rfl) Tryd.underlying3
  obtain ⟨e3, he3, hf3⟩ := syn_is hL
  obtain ⟨e4, he4, hf4⟩ := rng_is hL
  have hpow := pow_is hL
  have hval : ∀ (j : Nat) t v, Tryd.f4.params[j]? = some t → args[j]? = some v → Value.okWide Tryd.prog W .any base t v := hval0
  have hW' := hW
  obtain ⟨p, q, hA0, hV, rfl, hfz, hnd⟩ := hW
  have hA : DataW.TrodAll enc Tryd.prog W 0 (fun _ => true) true Tryd.f4.params.toList args.toList ds p := hA0
  rw [Tryd.params4] at hA hval
  obtain ⟨v0, vs0, d0, ds0, p0, q0, hargs, rfl, rfl, h0, rr0⟩ := trodAll_cons hA
  obtain ⟨rfl, rfl, rfl⟩ := trodAll_nil rr0
  obtain rfl : args = #[v0] := by cases args; simp_all
  obtain ⟨rfl, rfl⟩ := trodVars_none hV
  have k0 := h0
  have lt0 : ∀ x ∈ p0, x.block < W.heap.size := by obtain ⟨m, hm⟩ := k0; exact DataW.trod_lt m _ _ _ hm
  obtain ⟨x0, r0, f0⟩ := sc_st Tryd.underlying9 (cell_of Tryd.underlying9 rfl (hval 0 9 v0 rfl rfl))
  clear hA0 hval0
  refine (laws_FnExactReadMill.walk (x0, mx, Go.Lib.pow10Tab) (law_plain x0 mx f0) (ρ := fun i => (lget ([(⟨2, 0, 0⟩, ⟨false, 0, 2 + 1, .vs [.it .i64 mx]⟩), (⟨3, 0, 0⟩, ⟨false, 0, 3 + 1, .vs [.er]⟩), (⟨4, 0, 0⟩, ⟨false, 0, 4 + 1, .vs [.er]⟩), (⟨1, 0, 0⟩, ⟨false, 20 + 1, 1 + 1, .is .u64 Go.Lib.pow10Tab⟩)] : List (Sx.Loc × Blk)) i).map (·.1)) (Rs_cons' (r0 _) Rs_nil') (HpR.ofBl [(⟨2, 0, 0⟩, ⟨false, 0, 2 + 1, .vs [.it .i64 mx]⟩), (⟨3, 0, 0⟩, ⟨false, 0, 3 + 1, .vs [.er]⟩), (⟨4, 0, 0⟩, ⟨false, 0, 4 + 1, .vs [.er]⟩), (⟨1, 0, 0⟩, ⟨false, 20 + 1, 1 + 1, .is .u64 Go.Lib.pow10Tab⟩)] (List.forall_mem_cons.2 ⟨pinned_bl hmx, (List.forall_mem_cons.2 ⟨pinned_er he3 hf3, List.forall_mem_cons.2 ⟨pinned_er he4 hf4, List.forall_mem_cons.2 ⟨pinned_tab gPow hpow Go.Lib.pow10Tab_length, (List.forall_mem_nil _)⟩⟩⟩)⟩))).mono fun e W' ⟨he, bel⟩ => ?_
  subst he
  exact ⟨_, rfl, _, _, _, [], _, [], hW', trodAll_mk1 (shut_bool Tryd.underlying4 _), (trodAll_cons_mk (Below.trod laidOut (by kernel_rfl) (of_decide_eq_true (by kernel_rfl)) k0 bel lt0) trodAll_mk0), rfl, bel.frame _, fun h => by cases h⟩
/-- So many blocks has the settled world. -/
noncomputable def low : Nat := (World.holding Tryd.prog default ⟨#[], #[], []⟩).heap.size
/-- A world for the witness: the settled one, the two tables holding what their initialisers lay. -/
noncomputable def laidWorld (os : Os) : World :=
  let w0 := World.holding Tryd.prog os ⟨#[.cells #[.string { data := #[118, 97, 108, 117, 101, 32, 111, 117, 116, 32, 111, 102, 32, 114, 97, 110, 103, 101] }] 118, .cells #[.string { data := #[105, 110, 118, 97, 108, 105, 100, 32, 115, 121, 110, 116, 97, 120] }] 118], #[], []⟩
  let put (h : Array Obj) (g : Nat) (cs : Array Value) : Array Obj := h.modify g fun
    | .cells _ t frozen => .cells cs t frozen
    | o => o
  let h1 := put w0.heap 7 (dataCells 4 (Rows.laid_math_bits_deBruijn32tab (H := Unit))).toArray
  let h2 := put h1 8 (dataCells 4 (Rows.laid_math_bits_deBruijn64tab (H := Unit))).toArray
  let h3 := put h2 1 (dataCells 4 (Rows.laid_internal_strconv_uint64pow10 (H := Unit))).toArray
  let h4 := put h3 5 (Lib.firstTab.map fun z => Value.int .u8 z).toArray
  let h5 := put h4 6 ((List.range 16).flatMap fun i => [Value.int .u8 (Lib.accLo i), Value.int .u8 (Lib.accHi i)]).toArray
  let h6 := put h5 4 [Value.iface 116 (.pointer (some ⟨low, 0, none⟩))].toArray
  let h7 := put h6 3 [Value.iface 116 (.pointer (some ⟨low + 1, 0, none⟩))].toArray
  { w0 with heap := h7 }
theorem laid_met (os : Os) : laidMet Tryd.prog Rows.fnExactReadMillRow.laid ((laidWorld os).forCall (fun _ _ => 0) ⟨#[], #[.string ByteArray.empty], []⟩).memory :=
  laidMet_of_run' 8 (by kernel_rfl) (by kernel_rfl)
theorem reads (os : Os) {H : Type} (enc : TypeId × Value → H) : ∃ places, DataW.whole enc Tryd.prog ((laidWorld os).forCall (fun _ _ => 0) ⟨#[], #[.string ByteArray.empty], []⟩).memory Tryd.f4.params.toList Rows.fnExactReadMillSpec.vars false #[Value.string ByteArray.empty].toList 8 = some ([.lit (.string [])], [], places) :=
  ⟨[], by kernel_rfl⟩
set_option maxRecDepth 100000 in
theorem lifted (os : Os) (started : os.Started) (H : Type) (enc : TypeId × Value → H) (F : Stop.Interp) :
    ReturnsInHanded {} Tryd.checked os 4 .any ((OpenSpec.ofChange Rows.fnExactReadMillSpec).preRow enc Tryd.prog Tryd.f4 Rows.fnExactReadMillRow.domain false Rows.fnExactReadMillRow.laid) (((OpenSpec.ofChange Rows.fnExactReadMillSpec).at F).post enc Tryd.prog Tryd.f4 false true false false) := by
  obtain ⟨places, hx⟩ := reads os enc
  refine returnsInHanded_of_row (C := Tryd.checked) (s := OpenSpec.ofChange Rows.fnExactReadMillSpec) own started (by kernel_rfl) Tryd.func4
    (witness_row_at (enc := enc) (C := Tryd.checked) false (laidWorld os) #[.string ByteArray.empty] rfl (by kernel_rfl) (by kernel_rfl) (by kernel_rfl)
      (OpenSpec.preRow_of_cond 8 hx (by kernel_rfl) (fun k hk => by cases hk) (by kernel_rfl) (laid_met os))) ?_
  intro W base args ds gs before hval hW _ _ _ hL hsh _
  exact contract H enc W base args ds gs before hval hW hsh hL
theorem said : Rows.FnExactReadMillSaid :=
  OpenClaim.holds_of_cond 4 Tryd.f4 rfl rfl rfl rfl rfl rfl rfl ⟨rfl, rfl, rfl, rfl, rfl⟩ rfl rfl rfl rfl rfl (by kernel_rfl) Tryd.func4 (by kernel_rfl)
    (of_decide_eq_true (by kernel_rfl)) (by unfold Func.isWrapper; first | (rw [if_pos (by decide +kernel)]; kernel_rfl) | (rw [if_neg (by decide +kernel)]; exact ⟨rfl, rfl⟩))
    (fun os started H enc _ F => by rw [OpenClaim.pre_eq_preRow]; exact lifted os started H enc F)
theorem bare (f : FuncId) (fn : Func) (hf : Tryd.pinned.checked.prog.funcNamed Rows.fnExactReadMillRow.func = some f) (hfn : Tryd.pinned.checked.prog.funcs[f]? = some fn) :
    true = Tryd.pinned.checked.prog.looks [] ∧ ∀ (j : Nat) t, fn.params[j]? = some t → Tryd.pinned.checked.prog.wantsStandIn t = false := by
  obtain rfl : f = 4 := Option.some.inj ((show Tryd.prog.funcNamed Rows.fnExactReadMillRow.func = some 4 by kernel_rfl).symm.trans hf) |>.symm
  obtain rfl : fn = Tryd.f4 := (Option.some.inj (Tryd.func4.symm.trans hfn)).symm
  refine ⟨by kernel_rfl, fun j t ht => ?_⟩
  rw [Tryd.params4] at ht
  obtain rfl : t = 9 := by simpa using Array.mem_of_getElem? ht
  exact (show Tryd.prog.wantsStandIn 9 = false by kernel_rfl)
theorem proved : Rows.FnExactReadMillCardSaid :=
  Claim7.holds_tied_plain_at .later [] _ _ _ _ said (fun _ h => by cases h) (by kernel_rfl) (fun _ h => by cases h) fnExactReadMill_row_tie rfl ⟨rfl, rfl⟩ (by kernel_rfl) rfl bare (by kernel_rfl)
end Go.Proofs.YtccdbfmfdhhgfaaDoor
