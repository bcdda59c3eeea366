/- Plain facts: loops that count up and fold. -/
import Derived.Test.YthllapodgemlfaaSxR
namespace Go.Proofs.Ythllapodgemlfaa.Sx
open Go Go.RowKit
set_option linter.unusedVariables false
set_option linter.unusedSimpArgs false
set_option maxRecDepth 100000

/-- n rounds, from k on. -/
def foldF {σ : Type} (f : Nat → σ → σ) : Nat → Nat → σ → σ
  | 0, _, s => s
  | n + 1, k, s => foldF f n (k + 1) (f k s)
theorem foldF_rel {σ τ : Type} {f : Nat → σ → σ} {g : Nat → τ → τ} (R : σ → τ → Prop) : ∀ (n k : Nat) (s : σ) (t : τ), (∀ i s t, k ≤ i → i < k + n → R s t → R (f i s) (g i t)) → R s t → R (foldF f n k s) (foldF g n k t)
  | 0, k, s, t, _, hr => hr
  | n + 1, k, s, t, h, hr => foldF_rel R n (k + 1) _ _ (fun i s t h1 h2 hr => h i s t (by omega) (by omega) hr) (h k s t (by omega) (by omega) hr)
theorem foldF_inv {σ : Type} {f : Nat → σ → σ} (I : σ → Prop) (n k : Nat) (s : σ) (h : ∀ i s, k ≤ i → i < k + n → I s → I (f i s)) (hi : I s) : I (foldF f n k s) :=
  foldF_rel (f := f) (g := f) (fun s _ => I s) n k s s (fun i s _ h1 h2 hs => h i s h1 h2 hs) hi
theorem foldF_congr {σ : Type} {f g : Nat → σ → σ} (n k : Nat) (s : σ) (h : ∀ i s, k ≤ i → i < k + n → f i s = g i s) : foldF f n k s = foldF g n k s :=
  foldF_rel (f := f) (g := g) (fun s t => s = t) n k s s (fun i s t h1 h2 hs => by rw [hs]; exact h i t h1 h2) rfl
theorem loop_from {σ τ ε : Type} {step : τ → T (τ ⊕ ε)} (mk : Int → σ → τ) (f : Nat → σ → σ) (ex : σ → ε) (I : σ → Prop) (m : Nat) (hm : m < 9223372036854775807)
    (h1 : ∀ (i : Nat) s, i < m → I s → (step (mk (i : Int) s)).get = some (.inl (mk (IntKind.wrap .i64 ((i : Int) + 1)) (f i s))) ∧ I (f i s)) (h2 : ∀ s, I s → (step (mk (m : Int) s)).get = some (.inr (ex s))) :
    ∀ (n k N : Nat) (s : σ), k + n = m → n < N → I s → iterT step N (mk (k : Int) s) = some (ex (foldF f n k s)) ∧ I (foldF f n k s)
  | 0, k, N + 1, s, hk, hN, hI => by
    have : k = m := by omega
    subst this
    rw [iterT_succ, h2 s hI]
    exact ⟨rfl, hI⟩
  | n + 1, k, N + 1, s, hk, hN, hI => by
    obtain ⟨h3, h4⟩ := h1 k s (by omega) hI
    rw [iterT_succ, h3]
    dsimp only
    rw [wrap64_succ (by omega)]
    exact loop_from mk f ex I m hm h1 h2 n (k + 1) N (f k s) (by omega) (by omega) h4
/-- A loop that counts from 0 to n and folds; I holds of every state. -/
theorem loop_fold {σ τ ε : Type} {step : τ → T (τ ⊕ ε)} (mk : Int → σ → τ) (f : Nat → σ → σ) (ex : σ → ε) (I : σ → Prop) (n : Nat) (hn : n < 9223372036854775807) (s : σ) (hI : I s)
    (h1 : ∀ (i : Nat) s, i < n → I s → (step (mk (i : Int) s)).get = some (.inl (mk (IntKind.wrap .i64 ((i : Int) + 1)) (f i s))) ∧ I (f i s)) (h2 : ∀ s, I s → (step (mk (n : Int) s)).get = some (.inr (ex s))) :
    iterT step manyRounds (mk 0 s) = some (ex (foldF f n 0 s)) ∧ I (foldF f n 0 s) :=
  loop_from mk f ex I n hn h1 h2 n 0 manyRounds s (by omega) (many_lt (by omega)) hI
theorem wrap16 {n : Int} {m : Nat} (h : n = (m : Int)) (hm : m < 32768) : IntKind.wrap .i16 n = (m : Int) := by
  simp only [IntKind.wrap, IntKind.bits, IntKind.signed]
  simp
  split <;> omega
/-- The same, the count being an int16. -/
theorem loop16_from {σ τ ε : Type} {step : τ → T (τ ⊕ ε)} (mk : Int → σ → τ) (f : Nat → σ → σ) (ex : σ → ε) (I : σ → Prop) (m : Nat) (hm : m < 32767)
    (h1 : ∀ (i : Nat) s, i < m → I s → (step (mk (i : Int) s)).get = some (.inl (mk (IntKind.wrap .i16 ((i : Int) + 1)) (f i s))) ∧ I (f i s)) (h2 : ∀ s, I s → (step (mk (m : Int) s)).get = some (.inr (ex s))) :
    ∀ (n k N : Nat) (s : σ), k + n = m → n < N → I s → iterT step N (mk (k : Int) s) = some (ex (foldF f n k s)) ∧ I (foldF f n k s)
  | 0, k, N + 1, s, hk, hN, hI => by
    have : k = m := by omega
    subst this
    rw [iterT_succ, h2 s hI]
    exact ⟨rfl, hI⟩
  | n + 1, k, N + 1, s, hk, hN, hI => by
    obtain ⟨h3, h4⟩ := h1 k s (by omega) hI
    rw [iterT_succ, h3]
    dsimp only
    have hw : IntKind.wrap .i16 ((k : Int) + 1) = ((k + 1 : Nat) : Int) := by
      exact wrap16 (by omega) (by omega)
    rw [hw]
    exact loop16_from mk f ex I m hm h1 h2 n (k + 1) N (f k s) (by omega) (by omega) h4
theorem loop16_fold {σ τ ε : Type} {step : τ → T (τ ⊕ ε)} (mk : Int → σ → τ) (f : Nat → σ → σ) (ex : σ → ε) (I : σ → Prop) (n : Nat) (hn : n < 32767) (s : σ) (hI : I s)
    (h1 : ∀ (i : Nat) s, i < n → I s → (step (mk (i : Int) s)).get = some (.inl (mk (IntKind.wrap .i16 ((i : Int) + 1)) (f i s))) ∧ I (f i s)) (h2 : ∀ s, I s → (step (mk (n : Int) s)).get = some (.inr (ex s))) :
    iterT step manyRounds (mk 0 s) = some (ex (foldF f n 0 s)) ∧ I (foldF f n 0 s) :=
  loop16_from mk f ex I n hn h1 h2 n 0 manyRounds s (by omega) (many_lt (by omega)) hI
end Go.Proofs.Ythllapodgemlfaa.Sx
