/- Plain facts: loops that mark a list, and loops that look whether it is still so marked. -/
import Derived.Test.YtkfpmiggolmabaaSxQ
namespace Go.Proofs.Ytkfpmiggolmabaa.Sx
open Go Go.RowKit
set_option linter.unusedVariables false
set_option linter.unusedSimpArgs false
set_option maxRecDepth 100000

theorem inf_not_nan (k : FloatKind) (s : Bool) : (k.format.read (k.format.word s k.format.infRung)).isNaN = false := by
  cases k <;> cases s <;> kernel_rfl
theorem nearest_word (f : Ieee.Format) (s : Bool) (m : Nat) (p : Int) : ∃ r, f.nearest s m p = f.word s r ∧ r ≤ f.infRung := by
  unfold Ieee.Format.nearest
  split
  · exact ⟨0, rfl, Nat.zero_le _⟩
  · exact ⟨_, rfl, Nat.min_le_right _ _⟩
theorem nearest_num (k : FloatKind) (s : Bool) (m : Nat) (p : Int) : isNaN k (k.format.nearest s m p) = false := by
  obtain ⟨r, h1, h2⟩ := nearest_word k.format s m p
  show (k.format.read (k.format.nearest s m p)).isNaN = false
  rw [h1]
  rcases Nat.lt_or_ge r k.format.infRung with h | h
  · exact (read_word_fin k h).2
  · have : r = k.format.infRung := by omega
    rw [this]
    exact inf_not_nan k s
/-- A whole number as a float is a number. -/
theorem ofint_num (k : FloatKind) (n : Int) : isNaN k (fofint k n) = false := by
  have h : isNaN k (k.nearest n) = false := nearest_num k _ _ _
  unfold fofint
  rw [nz_of_not h]
  exact h
theorem ofint_fne (k : FloatKind) (n : Int) : fne k (fofint k n) (fofint k n) = false := by
  rw [fne_self, ofint_num]
/-- A loop that marks: round i makes of a list of which i elements are marked one of which i + 1 are. -/
theorem mark_from {α : Type} {step : Int × Int × List α → T ((Int × Int × List α) ⊕ (Int × List α))} (Q : Nat → List α → Prop) (k m n : Nat)
    (h1 : ∀ i ys, i < n → Q i ys → ∃ ys', (step (((k + m * i : Nat) : Int), (i : Int), ys)).get = some (.inl (((k + m * (i + 1) : Nat) : Int), ((i + 1 : Nat) : Int), ys')) ∧ Q (i + 1) ys')
    (h2 : ∀ ys, Q n ys → (step (((k + m * n : Nat) : Int), (n : Int), ys)).get = some (.inr (((k + m * n : Nat) : Int), ys))) :
    ∀ (d i N : Nat) (ys : List α), i + d = n → d < N → Q i ys → ∃ ys', iterT step N (((k + m * i : Nat) : Int), (i : Int), ys) = some (((k + m * n : Nat) : Int), ys') ∧ Q n ys'
  | 0, i, N + 1, ys, hi, hN, hQ => by
    have : i = n := by omega
    subst this
    exact ⟨ys, by rw [iterT_succ, h2 ys hQ], hQ⟩
  | d + 1, i, N + 1, ys, hi, hN, hQ => by
    obtain ⟨ys', h3, h4⟩ := h1 i ys (by omega) hQ
    obtain ⟨ys'', h5, h6⟩ := mark_from Q k m n h1 h2 d (i + 1) N ys' (by omega) (by omega) h4
    exact ⟨ys'', by rw [iterT_succ, h3]; exact h5, h6⟩
theorem mark_ends {α : Type} {step : Int × Int × List α → T ((Int × Int × List α) ⊕ (Int × List α))} (Q : Nat → List α → Prop) (k m n : Nat) (hn : n < 9223372036854775807) (xs : List α) (h0 : Q 0 xs)
    (h1 : ∀ i ys, i < n → Q i ys → ∃ ys', (step (((k + m * i : Nat) : Int), (i : Int), ys)).get = some (.inl (((k + m * (i + 1) : Nat) : Int), ((i + 1 : Nat) : Int), ys')) ∧ Q (i + 1) ys')
    (h2 : ∀ ys, Q n ys → (step (((k + m * n : Nat) : Int), (n : Int), ys)).get = some (.inr (((k + m * n : Nat) : Int), ys))) :
    ∃ ys', iterT step manyRounds ((k : Int), 0, xs) = some (((k + m * n : Nat) : Int), ys') ∧ Q n ys' := by
  obtain ⟨ys', h3, h4⟩ := mark_from Q k m n h1 h2 n 0 manyRounds xs (by omega) (many_lt (by omega)) h0
  rw [Nat.mul_zero, Nat.add_zero] at h3
  exact ⟨ys', h3, h4⟩
/-- A loop that counts on while nothing is amiss. -/
theorem held_run {ε : Type} {step : Int × Int → T ((Int × Int) ⊕ ε)} {e : ε} (k m n : Nat) (hn : n < 9223372036854775807)
    (h1 : ∀ i, i < n → (step (((k + m * i : Nat) : Int), (i : Int))).get = some (.inl (((k + m * (i + 1) : Nat) : Int), ((i + 1 : Nat) : Int)))) (h2 : (step (((k + m * n : Nat) : Int), (n : Int))).get = some (.inr e)) :
    iterT step manyRounds ((k : Int), 0) = some e := by
  have hf := iter_run (step := step) (f := fun i => (((k + m * i : Nat) : Int), (i : Int))) (e := e) (n := n) (N := manyRounds) (k := 0) (many_lt (by omega)) (fun i hi => ?_) ?_
  · rw [Nat.mul_zero, Nat.add_zero] at hf
    exact hf
  · simp only [Nat.zero_add]
    exact h1 i hi
  · simp only [Nat.zero_add]
    exact h2
theorem lD_same {α : Type} (xs : List α) (i : Nat) (x d : α) (h : i < xs.length) : (xs.set i x).getD i d = x := by
  simp [List.getD, List.getElem?_set, h]
theorem lD_ne {α : Type} (xs : List α) (i j : Nat) (x d : α) (h : i ≠ j) : (xs.set i x).getD j d = xs.getD j d := by
  simp [List.getD, List.getElem?_set, h]
theorem wrap64_of {n : Int} {m : Nat} (h : n = (m : Int)) (hm : m < 9223372036854775808) : IntKind.wrap .i64 n = (m : Int) := by
  rw [h]
  exact wrap64_nat hm
end Go.Proofs.Ytkfpmiggolmabaa.Sx
