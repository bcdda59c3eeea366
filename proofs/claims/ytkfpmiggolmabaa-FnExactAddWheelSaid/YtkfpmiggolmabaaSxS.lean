/- Plain facts: loops that count up and fold. -/
import Derived.Test.YtkfpmiggolmabaaSxR
namespace Go.Proofs.Ytkfpmiggolmabaa.Sx
open Go Go.RowKit
set_option linter.unusedVariables false
set_option linter.unusedSimpArgs false
set_option maxRecDepth 100000

/-- n rounds, from k on. -/
def foldF {σ : Type} (f : Nat → σ → σ) : Nat → Nat → σ → σ
  | 0, _, s => s
  | n + 1, k, s => foldF f n (k + 1) (f k s)
theorem foldF_rel {σ τ : Type} {f : Nat → σ → σ} {g : Nat → τ → τ} (R : σ → τ → Prop) : ∀ (n k : Nat) (s : σ) (t : τ), (∀ i s t, k ≤ i → i < k + n → R s t → R (f i s) (g i t)) → R s t → R (foldF f n k s) (foldF g n k t)
  | 0, k, s, t, _, hr => hr
  | n + 1, k, s, t, h, hr => foldF_rel R n (k + 1) _ _ (fun i s t h1 h2 hr => h i s t (by omega) (by omega) hr) (h k s t (by omega) (by omega) hr)
theorem foldF_inv {σ : Type} {f : Nat → σ → σ} (I : σ → Prop) (n k : Nat) (s : σ) (h : ∀ i s, k ≤ i → i < k + n → I s → I (f i s)) (hi : I s) : I (foldF f n k s) :=
  foldF_rel (f := f) (g := f) (fun s _ => I s) n k s s (fun i s _ h1 h2 hs => h i s h1 h2 hs) hi
theorem foldF_congr {σ : Type} {f g : Nat → σ → σ} (n k : Nat) (s : σ) (h : ∀ i s, k ≤ i → i < k + n → f i s = g i s) : foldF f n k s = foldF g n k s :=
  foldF_rel (f := f) (g := g) (fun s t => s = t) n k s s (fun i s t h1 h2 hs => by rw [hs]; exact h i t h1 h2) rfl
theorem loop_from {σ τ ε : Type} {step : τ → T (τ ⊕ ε)} (mk : Int → σ → τ) (f : Nat → σ → σ) (ex : σ → ε) (I : σ → Prop) (m : Nat) (hm : m < 9223372036854775807)
    (h1 : ∀ (i : Nat) s, i < m → I s → (step (mk (i : Int) s)).get = some (.inl (mk (IntKind.wrap .i64 ((i : Int) + 1)) (f i s))) ∧ I (f i s)) (h2 : ∀ s, I s → (step (mk (m : Int) s)).get = some (.inr (ex s))) :
    ∀ (n k N : Nat) (s : σ), k + n = m → n < N → I s → iterT step N (mk (k : Int) s) = some (ex (foldF f n k s)) ∧ I (foldF f n k s)
  | 0, k, N + 1, s, hk, hN, hI => by
    have : k = m := by omega
    subst this
    rw [iterT_succ, h2 s hI]
    exact ⟨rfl, hI⟩
  | n + 1, k, N + 1, s, hk, hN, hI => by
    obtain ⟨h3, h4⟩ := h1 k s (by omega) hI
    rw [iterT_succ, h3]
    dsimp only
    rw [wrap64_succ (by omega)]
    exact loop_from mk f ex I m hm h1 h2 n (k + 1) N (f k s) (by omega) (by omega) h4
/-- A loop that counts from 0 to n and folds; I holds of every state. -/
theorem loop_fold {σ τ ε : Type} {step : τ → T (τ ⊕ ε)} (mk : Int → σ → τ) (f : Nat → σ → σ) (ex : σ → ε) (I : σ → Prop) (n : Nat) (hn : n < 9223372036854775807) (s : σ) (hI : I s)
    (h1 : ∀ (i : Nat) s, i < n → I s → (step (mk (i : Int) s)).get = some (.inl (mk (IntKind.wrap .i64 ((i : Int) + 1)) (f i s))) ∧ I (f i s)) (h2 : ∀ s, I s → (step (mk (n : Int) s)).get = some (.inr (ex s))) :
    iterT step manyRounds (mk 0 s) = some (ex (foldF f n 0 s)) ∧ I (foldF f n 0 s) :=
  loop_from mk f ex I n hn h1 h2 n 0 manyRounds s (by omega) (many_lt (by omega)) hI
theorem wrap16 {n : Int} {m : Nat} (h : n = (m : Int)) (hm : m < 32768) : IntKind.wrap .i16 n = (m : Int) := by
  simp only [IntKind.wrap, IntKind.bits, IntKind.signed]
  simp
  split <;> omega
/-- The same, the count being an int16. -/
theorem loop16_from {σ τ ε : Type} {step : τ → T (τ ⊕ ε)} (mk : Int → σ → τ) (f : Nat → σ → σ) (ex : σ → ε) (I : σ → Prop) (m : Nat) (hm : m < 32767)
    (h1 : ∀ (i : Nat) s, i < m → I s → (step (mk (i : Int) s)).get = some (.inl (mk (IntKind.wrap .i16 ((i : Int) + 1)) (f i s))) ∧ I (f i s)) (h2 : ∀ s, I s → (step (mk (m : Int) s)).get = some (.inr (ex s))) :
    ∀ (n k N : Nat) (s : σ), k + n = m → n < N → I s → iterT step N (mk (k : Int) s) = some (ex (foldF f n k s)) ∧ I (foldF f n k s)
  | 0, k, N + 1, s, hk, hN, hI => by
    have : k = m := by omega
    subst this
    rw [iterT_succ, h2 s hI]
    exact ⟨rfl, hI⟩
  | n + 1, k, N + 1, s, hk, hN, hI => by
    obtain ⟨h3, h4⟩ := h1 k s (by omega) hI
    rw [iterT_succ, h3]
    dsimp only
    have hw : IntKind.wrap .i16 ((k : Int) + 1) = ((k + 1 : Nat) : Int) := by
      exact wrap16 (by omega) (by omega)
    rw [hw]
    exact loop16_from mk f ex I m hm h1 h2 n (k + 1) N (f k s) (by omega) (by omega) h4
theorem loop16_fold {σ τ ε : Type} {step : τ → T (τ ⊕ ε)} (mk : Int → σ → τ) (f : Nat → σ → σ) (ex : σ → ε) (I : σ → Prop) (n : Nat) (hn : n < 32767) (s : σ) (hI : I s)
    (h1 : ∀ (i : Nat) s, i < n → I s → (step (mk (i : Int) s)).get = some (.inl (mk (IntKind.wrap .i16 ((i : Int) + 1)) (f i s))) ∧ I (f i s)) (h2 : ∀ s, I s → (step (mk (n : Int) s)).get = some (.inr (ex s))) :
    iterT step manyRounds (mk 0 s) = some (ex (foldF f n 0 s)) ∧ I (foldF f n 0 s) :=
  loop16_from mk f ex I n hn h1 h2 n 0 manyRounds s (by omega) (many_lt (by omega)) hI
theorem loopI_from {σ τ ε : Type} {step : τ → T (τ ⊕ ε)} (inc : Int → Int) (mk : Int → σ → τ) (f : Nat → σ → σ) (ex : σ → ε) (I : Nat → σ → Prop) (m : Nat) (hinc : ∀ i : Nat, i < m → inc (i : Int) = ((i + 1 : Nat) : Int))
    (h1 : ∀ (i : Nat) s, i < m → I i s → (step (mk (i : Int) s)).get = some (.inl (mk (inc (i : Int)) (f i s))) ∧ I (i + 1) (f i s)) (h2 : ∀ s, I m s → (step (mk (m : Int) s)).get = some (.inr (ex s))) :
    ∀ (n k N : Nat) (s : σ), k + n = m → n < N → I k s → iterT step N (mk (k : Int) s) = some (ex (foldF f n k s)) ∧ I m (foldF f n k s)
  | 0, k, N + 1, s, hk, hN, hI => by
    have : k = m := by omega
    subst this
    rw [iterT_succ, h2 s hI]
    exact ⟨rfl, hI⟩
  | n + 1, k, N + 1, s, hk, hN, hI => by
    obtain ⟨h3, h4⟩ := h1 k s (by omega) hI
    rw [iterT_succ, h3]
    dsimp only
    rw [hinc k (by omega)]
    exact loopI_from inc mk f ex I m hinc h1 h2 n (k + 1) N (f k s) (by omega) (by omega) h4
/-- A loop that counts from 0 to n and folds; what holds of a state hangs on the count. -/
theorem loopI_fold {σ τ ε : Type} {step : τ → T (τ ⊕ ε)} (inc : Int → Int) (mk : Int → σ → τ) (f : Nat → σ → σ) (ex : σ → ε) (I : Nat → σ → Prop) (n : Nat) (hn : n < 18446744073709551615) (hinc : ∀ i : Nat, i < n → inc (i : Int) = ((i + 1 : Nat) : Int)) (s : σ) (hI : I 0 s)
    (h1 : ∀ (i : Nat) s, i < n → I i s → (step (mk (i : Int) s)).get = some (.inl (mk (inc (i : Int)) (f i s))) ∧ I (i + 1) (f i s)) (h2 : ∀ s, I n s → (step (mk (n : Int) s)).get = some (.inr (ex s))) :
    iterT step manyRounds (mk 0 s) = some (ex (foldF f n 0 s)) ∧ I n (foldF f n 0 s) :=
  loopI_from inc mk f ex I n hinc h1 h2 n 0 manyRounds s (by omega) (many_lt (by omega)) hI
theorem foldF_drop {σ α : Type} (g : α → σ → σ) (q : List α) (d : α) : ∀ (n k : Nat) (s : σ), k + n = q.length → foldF (fun i s => g (q.getD i d) s) n k s = (q.drop k).foldl (fun s x => g x s) s
  | 0, k, s, h => by
    rw [List.drop_eq_nil_of_le (by omega)]
    rfl
  | n + 1, k, s, h => by
    have hk : k < q.length := by omega
    have e : q.getD k d = q[k] := by simp [List.getD, List.getElem?_eq_getElem hk]
    rw [List.drop_eq_getElem_cons hk, List.foldl_cons, ← e]
    exact foldF_drop g q d n (k + 1) _ (by omega)
theorem foldF_id {σ : Type} {f : Nat → σ → σ} (n k : Nat) (s : σ) (h : ∀ i, f i s = s) : foldF f n k s = s :=
  foldF_inv (f := f) (fun t => t = s) n k s (fun i t _ _ ht => by rw [ht]; exact h i) rfl

/-! ### Choices of four -/
abbrev Quad := Nat × Nat × Nat × Nat
def dist4 (a b c d : Nat) : Bool := !decide (a = b) && (!decide (a = c) && (!decide (a = d) && (!decide (b = c) && (!decide (b = d) && !decide (c = d)))))
def addQ (a b c d : Nat) (q : List Quad) : List Quad := bif dist4 a b c d then q ++ [(a, b, c, d)] else q
/-- All choices of four of n, in their order. -/
def quads (n : Nat) : List Quad := foldF (fun a => foldF (fun b => foldF (fun c => foldF (fun d => addQ a b c d) n 0) n 0) n 0) n 0 []
def encQ : List Quad → List Int
  | [] => []
  | (a, b, c, d) :: r => (a : Int) :: (b : Int) :: (c : Int) :: (d : Int) :: encQ r
theorem encQ_length : ∀ q, (encQ q).length = q.length * 4
  | [] => rfl
  | (a, b, c, d) :: r => by
    simp only [encQ, List.length_cons, encQ_length r]
    omega
theorem encQ_app : ∀ (q : List Quad) (a b c d : Nat), encQ (q ++ [(a, b, c, d)]) = encQ q ++ [(a : Int), (b : Int), (c : Int), (d : Int)]
  | [], a, b, c, d => rfl
  | (x, y, z, w) :: r, a, b, c, d => by
    simp only [List.cons_append, encQ, encQ_app r]
theorem encQ_get : ∀ (q : List Quad) (i : Nat), i < q.length → (encQ q).getD (i * 4) 0 = ((q.getD i default).1 : Int) ∧ (encQ q).getD (i * 4 + 1) 0 = ((q.getD i default).2.1 : Int) ∧ (encQ q).getD (i * 4 + 1 + 1) 0 = ((q.getD i default).2.2.1 : Int) ∧ (encQ q).getD (i * 4 + 1 + 1 + 1) 0 = ((q.getD i default).2.2.2 : Int)
  | [], i, h => by simp at h
  | (a, b, c, d) :: r, 0, h => ⟨rfl, rfl, rfl, rfl⟩
  | (a, b, c, d) :: r, i + 1, h => by
    have h1 := encQ_get r i (by simpa using h)
    rw [show (i + 1) * 4 = i * 4 + 1 + 1 + 1 + 1 by omega]
    simp only [encQ, List.getD_cons_succ]
    exact h1
theorem quads_lt (n : Nat) : ∀ x ∈ quads n, x.1 < n ∧ x.2.1 < n ∧ x.2.2.1 < n ∧ x.2.2.2 < n := by
  refine foldF_inv (fun q : List Quad => ∀ x ∈ q, x.1 < n ∧ x.2.1 < n ∧ x.2.2.1 < n ∧ x.2.2.2 < n) n 0 [] (fun a q _ ha hq => ?_) (fun x hx => by cases hx)
  refine foldF_inv (fun q : List Quad => ∀ x ∈ q, x.1 < n ∧ x.2.1 < n ∧ x.2.2.1 < n ∧ x.2.2.2 < n) n 0 q (fun b q _ hb hq => ?_) hq
  refine foldF_inv (fun q : List Quad => ∀ x ∈ q, x.1 < n ∧ x.2.1 < n ∧ x.2.2.1 < n ∧ x.2.2.2 < n) n 0 q (fun c q _ hc hq => ?_) hq
  refine foldF_inv (fun q : List Quad => ∀ x ∈ q, x.1 < n ∧ x.2.1 < n ∧ x.2.2.1 < n ∧ x.2.2.2 < n) n 0 q (fun d q _ hd hq => ?_) hq
  unfold addQ
  cases dist4 a b c d with
  | false => exact hq
  | true =>
    intro x hx
    rcases List.mem_append.1 hx with h | h
    · exact hq x h
    · rw [List.mem_singleton] at h
      subst h
      exact ⟨by dsimp only; omega, by dsimp only; omega, by dsimp only; omega, by dsimp only; omega⟩
/-- Pairs within pairs: all choices, one after the other. -/
theorem nest_quads {σ : Type} (n : Nat) (g : Quad → σ → σ) (s0 : σ) :
    foldF (fun a => foldF (fun b s => bif decide (a = b) then s else foldF (fun c => foldF (fun d s => bif decide (c = d) then s else bif !decide (c = a) && (!decide (c = b) && (!decide (d = a) && !decide (d = b))) then g (a, b, c, d) s else s) n 0) n 0 s) n 0) n 0 s0 = (quads n).foldl (fun s x => g x s) s0 := by
  have hrel := foldF_rel (f := fun a => foldF (fun b => foldF (fun c => foldF (fun d => addQ a b c d) n 0) n 0) n 0) (g := fun a => foldF (fun b s => bif decide (a = b) then s else foldF (fun c => foldF (fun d s => bif decide (c = d) then s else bif !decide (c = a) && (!decide (c = b) && (!decide (d = a) && !decide (d = b))) then g (a, b, c, d) s else s) n 0) n 0 s) n 0)
    (fun (q : List Quad) (s : σ) => s = q.foldl (fun s x => g x s) s0) n 0 [] s0 (fun a q s _ _ hr => ?_) rfl
  · exact hrel
  · refine foldF_rel (fun (q : List Quad) (s : σ) => s = q.foldl (fun s x => g x s) s0) n 0 q s (fun b q s _ _ hr => ?_) hr
    by_cases hab : a = b
    · rw [decide_eq_true hab]
      have e : foldF (fun c => foldF (fun d => addQ a b c d) n 0) n 0 q = q := by
        refine foldF_id n 0 q fun c => foldF_id n 0 q fun d => ?_
        unfold addQ dist4
        rw [decide_eq_true hab]
        rfl
      rw [e]
      exact hr
    · rw [decide_eq_false hab]
      refine foldF_rel (fun (q : List Quad) (s : σ) => s = q.foldl (fun s x => g x s) s0) n 0 q s (fun c q s _ _ hr => ?_) hr
      refine foldF_rel (fun (q : List Quad) (s : σ) => s = q.foldl (fun s x => g x s) s0) n 0 q s (fun d q s _ _ hr => ?_) hr
      unfold addQ dist4
      rw [decide_eq_false hab, show decide (c = a) = decide (a = c) from decide_eq_decide.2 eq_comm, show decide (c = b) = decide (b = c) from decide_eq_decide.2 eq_comm, show decide (d = a) = decide (a = d) from decide_eq_decide.2 eq_comm, show decide (d = b) = decide (b = d) from decide_eq_decide.2 eq_comm]
      have hcd : decide (c = d) = decide (c = d) := rfl
      cases decide (a = c) <;> cases decide (b = c) <;> cases decide (a = d) <;> cases decide (b = d) <;> cases decide (c = d) <;> first | exact hr | (show _ = (q ++ [(a, b, c, d)]).foldl (fun s x => g x s) s0; rw [List.foldl_append, ← hr]; rfl)
/-- One choice: what it does to a state, if it is one. -/
def nOne {σ : Type} (g : Quad → σ → σ) (a b c d : Nat) (s : σ) : σ := bif !decide (c = a) && (!decide (c = b) && (!decide (d = a) && !decide (d = b))) then g (a, b, c, d) s else s
def nD {σ : Type} (g : Quad → σ → σ) (n a b c : Nat) : σ → σ := foldF (fun d s => bif decide (c = d) then s else nOne g a b c d s) n 0
def nC {σ : Type} (g : Quad → σ → σ) (n a b : Nat) : σ → σ := foldF (fun c => nD g n a b c) n 0
def nB {σ : Type} (g : Quad → σ → σ) (n a : Nat) : σ → σ := foldF (fun b s => bif decide (a = b) then s else nC g n a b s) n 0
def nA {σ : Type} (g : Quad → σ → σ) (n : Nat) : σ → σ := foldF (fun a => nB g n a) n 0
theorem nA_quads {σ : Type} (n : Nat) (g : Quad → σ → σ) (s0 : σ) : nA g n s0 = (quads n).foldl (fun s x => g x s) s0 := nest_quads n g s0
end Go.Proofs.Ytkfpmiggolmabaa.Sx
