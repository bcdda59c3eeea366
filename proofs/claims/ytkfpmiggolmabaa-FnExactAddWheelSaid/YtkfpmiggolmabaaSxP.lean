/- Plain facts: loops that look for a place, loops that gather. -/
import Derived.Test.YtkfpmiggolmabaaSxO
namespace Go.Proofs.Ytkfpmiggolmabaa.Sx
open Go Go.RowKit
set_option linter.unusedVariables false
set_option linter.unusedSimpArgs false

/-- The first place from k on, among n, at which p holds. -/
def firstAt (p : Nat → Bool) : Nat → Nat → Option Nat
  | 0, _ => none
  | n + 1, k => bif p k then some k else firstAt p n (k + 1)
theorem iter_first_from {ε : Type} {step : Int → T (Int ⊕ ε)} (p : Nat → Bool) (f : Nat → ε) (e : ε) (m : Nat) (hm : m < 9223372036854775807)
    (h1 : ∀ i : Nat, i < m → (step (i : Int)).get = some (bif p i then .inr (f i) else .inl (IntKind.wrap .i64 ((i : Int) + 1)))) (h2 : (step (m : Int)).get = some (.inr e)) :
    ∀ (n k N : Nat), k + n = m → n < N → iterT step N (k : Int) = some (match firstAt p n k with | some i => f i | none => e)
  | 0, k, N + 1, hk, hN => by
    have : k = m := by omega
    subst this
    rw [iterT_succ, h2]
    rfl
  | n + 1, k, N + 1, hk, hN => by
    rw [iterT_succ, h1 k (by omega)]
    unfold firstAt
    cases p k with
    | true => rfl
    | false =>
      simp only [cond_false]
      rw [wrap64_succ (by omega)]
      exact iter_first_from p f e m hm h1 h2 n (k + 1) N (by omega) (by omega)
theorem iter_first {ε : Type} {step : Int → T (Int ⊕ ε)} (p : Nat → Bool) (f : Nat → ε) (e : ε) (n : Nat) (hn : n < 9223372036854775807)
    (h1 : ∀ i : Nat, i < n → (step (i : Int)).get = some (bif p i then .inr (f i) else .inl (IntKind.wrap .i64 ((i : Int) + 1)))) (h2 : (step (n : Int)).get = some (.inr e)) :
    iterT step manyRounds 0 = some (match firstAt p n 0 with | some i => f i | none => e) :=
  iter_first_from p f e n hn h1 h2 n 0 manyRounds (by omega) (many_lt (by omega))
theorem firstAt_none {p : Nat → Bool} : ∀ {n k : Nat}, firstAt p n k = none ↔ ∀ i, k ≤ i → i < k + n → p i = false
  | 0, k => ⟨fun _ i h1 h2 => by omega, fun _ => rfl⟩
  | n + 1, k => by
    unfold firstAt
    cases hp : p k with
    | true =>
      simp only [cond_true]
      exact ⟨fun h => (by cases h), fun h => (by rw [h k (Nat.le_refl _) (by omega)] at hp; cases hp)⟩
    | false =>
      simp only [cond_false]
      rw [firstAt_none]
      constructor
      · intro h i h1 h2
        by_cases hi : i = k
        · rw [hi, hp]
        · exact h i (by omega) (by omega)
      · intro h i h1 h2
        exact h i (by omega) (by omega)
theorem firstAt_some {p : Nat → Bool} : ∀ {n k i : Nat}, firstAt p n k = some i → k ≤ i ∧ i < k + n ∧ p i = true ∧ ∀ j, k ≤ j → j < i → p j = false
  | 0, k, i, h => by cases h
  | n + 1, k, i, h => by
    unfold firstAt at h
    cases hp : p k with
    | true =>
      rw [hp] at h
      cases h
      exact ⟨Nat.le_refl _, by omega, hp, fun j h1 h2 => by omega⟩
    | false =>
      rw [hp] at h
      obtain ⟨h1, h2, h3, h4⟩ := firstAt_some (n := n) (k := k + 1) h
      refine ⟨by omega, by omega, h3, fun j h5 h6 => ?_⟩
      by_cases hj : j = k
      · rw [hj, hp]
      · exact h4 j (by omega) h6
/-- Whether p holds at one of the first n places. -/
def anyAt (p : Nat → Bool) : Nat → Bool
  | 0 => false
  | n + 1 => anyAt p n || p n
theorem anyAt_true {p : Nat → Bool} : ∀ {n : Nat}, anyAt p n = true ↔ ∃ i, i < n ∧ p i = true
  | 0 => ⟨fun h => (by cases h), fun ⟨i, h, _⟩ => (by omega)⟩
  | n + 1 => by
    unfold anyAt
    rw [Bool.or_eq_true, anyAt_true]
    constructor
    · rintro (⟨i, h1, h2⟩ | h)
      · exact ⟨i, by omega, h2⟩
      · exact ⟨n, by omega, h⟩
    · rintro ⟨i, h1, h2⟩
      by_cases hi : i = n
      · exact .inr (hi ▸ h2)
      · exact .inl ⟨i, by omega, h2⟩
theorem anyAt_congr {p q : Nat → Bool} : ∀ {n : Nat}, (∀ i, i < n → p i = q i) → anyAt p n = anyAt q n
  | 0, _ => rfl
  | n + 1, h => by
    unfold anyAt
    rw [anyAt_congr fun i hi => h i (by omega), h n (by omega)]
theorem firstAt_any (p : Nat → Bool) (n : Nat) : (firstAt p n 0).isSome = anyAt p n := by
  cases h : firstAt p n 0 with
  | none =>
    have h1 := firstAt_none.1 h
    cases h2 : anyAt p n with
    | false => rfl
    | true =>
      obtain ⟨i, h3, h4⟩ := anyAt_true.1 h2
      rw [h1 i (by omega) (by omega)] at h4
      cases h4
  | some i =>
    obtain ⟨_, h1, h2, _⟩ := firstAt_some h
    exact (anyAt_true.2 ⟨i, by omega, h2⟩).symm
/-- A loop that gathers: round i makes g (i + 1) of g i. -/
theorem iter_gather {σ τ ε : Type} {step : τ → T (τ ⊕ ε)} (mk : Int → σ → τ) (g : Nat → σ) {e : ε} (n : Nat) (hn : n < 9223372036854775807)
    (h1 : ∀ i : Nat, i < n → (step (mk (i : Int) (g i))).get = some (.inl (mk (IntKind.wrap .i64 ((i : Int) + 1)) (g (i + 1))))) (h2 : (step (mk (n : Int) (g n))).get = some (.inr e)) :
    iterT step manyRounds (mk 0 (g 0)) = some e := by
  have hf := iter_run (step := step) (f := fun i => mk (i : Int) (g i)) (e := e) (n := n) (N := manyRounds) (k := 0) (many_lt (by omega)) (fun i hi => ?_) (by simpa using h2)
  · exact hf
  · simp only [Nat.zero_add]
    rw [h1 i hi, wrap64_succ (by omega)]
/-- Euclid's loop. -/
def gcdStep (x0 x1 : Int) : T ((Int × Int) ⊕ Int) := .br (x1 != 0) (.br (x1 == 0) .bad (.leaf (.inl (x1, Int.tmod x0 x1)))) (.leaf (.inr x0))
theorem gcd_run {step : Int × Int → T ((Int × Int) ⊕ Int)} (hs : ∀ a b : Nat, (step ((a : Int), (b : Int))).get = (gcdStep (a : Int) (b : Int)).get) (a b : Nat) (hb : b < 18446744073709551615) :
    iterT step manyRounds ((a : Int), (b : Int)) = some ((Nat.gcd a b : Nat) : Int) := by
  obtain ⟨e, h1, h2⟩ := iter_ends (step := step) (R := fun s => ∃ x y : Nat, s = ((x : Int), (y : Int)) ∧ Nat.gcd x y = Nat.gcd a b) (E := fun e => e = ((Nat.gcd a b : Nat) : Int)) (fun s => s.2.toNat) (by
    rintro _ ⟨x, y, rfl, hg⟩
    rw [hs]
    unfold gcdStep
    by_cases hy : y = 0
    · subst hy
      refine .inr ⟨(x : Int), rfl, ?_⟩
      rw [← hg, Nat.gcd_zero_right]
    · refine .inl ⟨((y : Int), ((x % y : Nat) : Int)), ?_, ⟨y, x % y, rfl, ?_⟩, ?_⟩
      · have e1 : ((y : Int) != 0) = true := by simp; omega
        have e2 : ((y : Int) == 0) = false := by simp; omega
        simp only [T.get, e1, e2, cond_true, cond_false]
        rfl
      · rw [← hg, Nat.gcd_comm x y, Nat.gcd_rec y x, Nat.gcd_comm]
      · have := Nat.mod_lt x (Nat.pos_of_ne_zero hy)
        dsimp only
        omega) manyRounds ((a : Int), (b : Int)) ⟨a, b, rfl, rfl⟩ (many_lt (by dsimp only; omega))
  rw [h1, h2]
end Go.Proofs.Ytkfpmiggolmabaa.Sx
