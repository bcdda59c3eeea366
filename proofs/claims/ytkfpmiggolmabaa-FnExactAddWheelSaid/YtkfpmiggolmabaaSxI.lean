/- Plain facts on floats: comparisons, widening. -/
import Derived.Test.YtkfpmiggolmabaaSxH
namespace Go.Proofs.Ytkfpmiggolmabaa.Sx
open Go Go.RowKit
set_option linter.unusedVariables false
set_option linter.unusedSimpArgs false

section
open Ieee
theorem datum_order_swap (x y : Datum) : y.order x = (x.order y).map Ordering.swap := by
  cases x <;> cases y <;> simp only [Datum.order, Option.map_none, Option.map_some, Option.some.injEq]
  · rename_i s m i t n j
    rw [Int.min_comm j i]
    exact Std.OrientedCmp.eq_swap (cmp := compare)
  · rename_i s m i t
    cases t <;> rfl
  · rename_i s t n j
    cases s <;> rfl
  · exact Std.OrientedCmp.eq_swap (cmp := compare)
theorem order_swap (k : FloatKind) (x y : Nat) : k.format.order y x = (k.format.order x y).map Ordering.swap := datum_order_swap _ _
theorem datum_order_self (x : Datum) (h : x.isNaN = false) : x.order x = some .eq := by
  cases x with
  | number s m i => simp only [Datum.order, Option.some.injEq]; exact Std.ReflCmp.compare_self (cmp := compare)
  | infinity s => simp only [Datum.order, Option.some.injEq]; exact Std.ReflCmp.compare_self (cmp := compare)
  | nan s t => cases h
theorem datum_order_nan (x y : Datum) (h : x.isNaN = true) : x.order y = none := by
  cases x with
  | number s m i => cases h
  | infinity s => cases h
  | nan s t => cases y <;> rfl
theorem order_self (k : FloatKind) (x : Nat) : k.format.order x x = bif isNaN k x then none else some .eq := by
  cases h : isNaN k x with
  | true => exact datum_order_nan _ _ h
  | false => exact datum_order_self _ h
end
theorem feq_self (k : FloatKind) (x : Nat) : feq k x x = !isNaN k x := by
  unfold feq
  rw [order_self]
  cases isNaN k x <;> rfl
theorem fne_self (k : FloatKind) (x : Nat) : fne k x x = isNaN k x := by
  unfold fne
  rw [order_self]
  cases isNaN k x <;> rfl
theorem fge_flip (k : FloatKind) (x y : Nat) : fge k x y = fle k y x := by
  unfold fge fle
  rw [order_swap k y x]
  rcases k.format.order y x with _ | (_ | _ | _) <;> rfl
theorem fgt_flip (k : FloatKind) (x y : Nat) : fgt k x y = flt k y x := by
  unfold fgt flt
  rw [order_swap k y x]
  rcases k.format.order y x with _ | (_ | _ | _) <;> rfl
theorem feq_comm (k : FloatKind) (x y : Nat) : feq k x y = feq k y x := by
  unfold feq
  rw [order_swap k y x]
  rcases k.format.order y x with _ | (_ | _ | _) <;> rfl
theorem fne_eq (k : FloatKind) (x y : Nat) : fne k x y = !feq k x y := rfl
theorem fne_comm (k : FloatKind) (x y : Nat) : fne k x y = fne k y x := by rw [fne_eq, fne_eq, feq_comm]

/-! ### Widening -/
section
open Ieee
theorem cut_even_zero (neg : Bool) (n : Nat) : Toward.even.cut neg n 0 = n := by
  unfold Toward.cut
  simp only [Nat.zero_min, Nat.shiftLeft_zero, Nat.div_one, Nat.mod_one]
  rfl
/-- A float32's number: how great it may be. -/
theorem read_single {b : Nat} {s : Bool} {m : Nat} {e : Int} (h : FloatKind.f32.format.read b = .number s m e) : m < 2 ^ 24 ∧ -149 ≤ e ∧ e ≤ 104 := by
  have e1 : FloatKind.f32.format.signWeight = 2147483648 := by decide
  have e2 : FloatKind.f32.format.binade = 8388608 := by decide
  have e3 : FloatKind.f32.format.infRung = 2139095040 := by decide
  have e4 : FloatKind.f32.format.leastPlace = -149 := by decide
  unfold Format.read at h
  dsimp only at h
  rw [e1, e2, e3, e4] at h
  generalize b % 2147483648 = r at h
  split at h
  · cases h; omega
  · split at h
    · cases h; omega
    · split at h <;> cases h
theorem wide_rung {s : Bool} {m : Nat} {e : Int} (hm : m < 2 ^ 24) (h1 : -149 ≤ e) (h2 : e ≤ 104) : ∃ r, FloatKind.f64.format.write (.number s m e) = FloatKind.f64.format.word s r ∧ r < FloatKind.f64.format.infRung := by
  have e2 : FloatKind.f64.format.binade = 4503599627370496 := by decide
  have e3 : FloatKind.f64.format.infRung = 9218868437227405312 := by decide
  have e4 : FloatKind.f64.format.leastPlace = -1074 := by decide
  have e5 : FloatKind.f64.format.fractionBits = 52 := by decide
  unfold Format.write Format.nearest
  dsimp only
  split
  · exact ⟨0, rfl, by rw [e3]; omega⟩
  · rename_i h0
    have hl : m.log2 ≤ 23 := by
      have := (Nat.log2_lt h0).2 hm
      omega
    rw [e2, e3, e4, e5]
    generalize hlast : max (e + (m.log2 : Int) - ((52 : Nat) : Int)) (-1074) = last
    have hle : last ≤ e := by omega
    have hd : (last - e).toNat = 0 := by omega
    rw [hd, cut_even_zero]
    refine ⟨_, rfl, ?_⟩
    have hk : m <<< (e - last).toNat < 2 ^ 53 := by
      rw [Nat.shiftLeft_eq]
      have hm2 : m < 2 ^ (m.log2 + 1) := Nat.lt_log2_self
      calc m * 2 ^ (e - last).toNat < 2 ^ (m.log2 + 1) * 2 ^ (e - last).toNat := Nat.mul_lt_mul_of_pos_right hm2 (Nat.two_pow_pos _)
        _ = 2 ^ (m.log2 + 1 + (e - last).toNat) := (Nat.pow_add _ _ _).symm
        _ ≤ 2 ^ 53 := Nat.pow_le_pow_right (by omega) (by omega)
    have hp : (last - -1074).toNat ≤ 1149 := by omega
    exact Nat.lt_of_le_of_lt (Nat.min_le_left _ _) (Nat.lt_of_lt_of_le (Nat.add_lt_add_of_le_of_lt (Nat.mul_le_mul_right _ hp) hk) (by decide))
theorem read_word_fin (k : FloatKind) {s : Bool} {r : Nat} (h : r < k.format.infRung) : (k.format.read (k.format.word s r)).isInfinity = false ∧ (k.format.read (k.format.word s r)).isNaN = false := by
  have hs : k.format.infRung < k.format.signWeight := Format.infRung_lt _
  have e : k.format.word s r % k.format.signWeight = r := by
    unfold Format.word
    cases s
    · simp; exact Nat.mod_eq_of_lt (by omega)
    · simp; exact Nat.mod_eq_of_lt (by omega)
  unfold Format.read
  dsimp only
  rw [e]
  split
  · exact ⟨rfl, rfl⟩
  · exact ⟨rfl, rfl⟩
end
theorem wide_fin {s : Bool} {m : Nat} {e : Int} (hm : m < 2 ^ 24) (h1 : -149 ≤ e) (h2 : e ≤ 104) : (FloatKind.f64.format.read (FloatKind.f64.format.write (.number s m e))).isInfinity = false := by
  obtain ⟨r, hr, hlt⟩ := wide_rung (s := s) hm h1 h2
  rw [hr]
  exact (read_word_fin .f64 hlt).1
theorem match_number (d : Ieee.Datum) (f : Bool → Nat → Int → Bool) : (∀ s m e, d = .number s m e → f s m e = false) → (match d with | .number n m e => f n m e | _ => false) = false := by
  intro h
  cases d with
  | number s m e => exact h s m e rfl
  | infinity s => rfl
  | nan s t => rfl
theorem open_wide (x : Nat) : fcvOpen .f32 .f64 x = false :=
  match_number (FloatKind.f32.format.read x) (fun n m e => (FloatKind.f64.format.read (FloatKind.f64.format.write (.number n m e))).isInfinity) fun s m e hd => by
    obtain ⟨h1, h2, h3⟩ := read_single hd
    exact wide_fin h1 h2 h3

/-! ### Trees -/
theorem T.val_br {α : Type} [Inhabited α] (c : Bool) (t e : T α) : (T.br c t e).val = bif c then t.val else e.val := rfl
theorem T.val_leaf {α : Type} [Inhabited α] (a : α) : (T.leaf a).val = a := rfl
theorem T.ok_br {α : Type} (c : Bool) (t e : T α) : (T.br c t e).ok = bif c then t.ok else e.ok := rfl
theorem T.ok_leaf {α : Type} (a : α) : (T.leaf a).ok = true := rfl
theorem T.ok_bad {α : Type} : (T.bad : T α).ok = false := rfl
theorem same_self {s : Nat → Nat → T Bool} (h : ∀ x y, s x y = .br (fne .f64 x x) (.br (fne .f64 x x) (.leaf (fne .f64 y y)) (.leaf false)) (.br (fne .f64 y y) (.br (fne .f64 x x) (.leaf (fne .f64 y y)) (.leaf false))
    (.br (feq .f64 x 0) (.br (feq .f64 y 0) (.leaf ((fgt .f64 (fdiv .f64 4607182418800017408 x) 0) == (fgt .f64 (fdiv .f64 4607182418800017408 y) 0))) (.leaf (feq .f64 x y))) (.leaf (feq .f64 x y))))) (x : Nat) : (s x x).val = true := by
  rw [h]
  simp only [T.val, fne_self, feq_self]
  cases isNaN .f64 x <;> simp
end Go.Proofs.Ytkfpmiggolmabaa.Sx
