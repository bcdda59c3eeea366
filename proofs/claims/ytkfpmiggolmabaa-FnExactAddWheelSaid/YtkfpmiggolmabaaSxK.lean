/- The abstract execution is sound: regions whose order is drawn. -/
import Derived.Test.YtkfpmiggolmabaaSxC
namespace Go.Proofs.Ytkfpmiggolmabaa.Sx
open Go Go.RowKit
set_option linter.unusedVariables false
set_option linter.unusedSimpArgs false
variable {P : Program}

theorem beqN {a b : Nat} (h : Nat.beq a b = true) : a = b := Nat.eq_of_beq_eq_true h
/-! ### Names -/
mutual
theorem V.R_ids {ρ ρ' : Nat → Option Loc} : ∀ (x : V) (c : Value), (∀ n ∈ x.ids, ρ' n = ρ n) → V.R ρ x c → V.R ρ' x c
  | .kb _, _, _, hx => by simpa only [V.R] using hx
  | .bo _, _, _, hx => by simpa only [V.R] using hx
  | .it _ _, _, _, hx => by simpa only [V.R] using hx
  | .fl _ _, _, _, hx => by simpa only [V.R] using hx
  | .st _, _, _, hx => by simpa only [V.R] using hx
  | .pt id off, _, h, hx => by
    simp only [V.R] at hx ⊢
    rw [h id (by simp [V.ids])]
    exact hx
  | .pr id row sz col, _, h, hx => by
    simp only [V.R] at hx ⊢
    rw [h id (by simp [V.ids])]
    exact hx
  | .pn, _, _, hx => by simpa only [V.R] using hx
  | .sl id off len, _, h, hx => by
    simp only [V.R] at hx ⊢
    rw [h id (by simp [V.ids])]
    exact hx
  | .own id len, _, h, hx => by
    simp only [V.R] at hx ⊢
    rw [h id (by simp [V.ids])]
    exact hx
  | .sn, _, _, hx => by simpa only [V.R] using hx
  | .nf, _, _, hx => by simpa only [V.R] using hx
  | .qn, _, _, hx => by simpa only [V.R] using hx
  | .er, _, _, hx => by simpa only [V.R] using hx
  | .fu f cap, _, h, hx => by
    simp only [V.R] at hx ⊢
    obtain ⟨cs, h1, h2⟩ := hx
    exact ⟨cs, h1, V.Rs_ids cap _ (fun n hn => h n (by simpa [V.ids] using hn)) h2⟩
  | .agg xs, _, h, hx => by
    simp only [V.R] at hx ⊢
    obtain ⟨cs, h1, h2⟩ := hx
    exact ⟨cs, h1, V.Rs_ids xs _ (fun n hn => h n (by simpa [V.ids] using hn)) h2⟩
  | .tup xs, _, h, hx => by
    simp only [V.R] at hx ⊢
    obtain ⟨cs, h1, h2⟩ := hx
    exact ⟨cs, h1, V.Rs_ids xs _ (fun n hn => h n (by simpa [V.ids] using hn)) h2⟩
  | .unk, _, _, _ => by simp only [V.R]
theorem V.Rs_ids {ρ ρ' : Nat → Option Loc} : ∀ (xs : List V) (cs : List Value), (∀ n ∈ V.idsL xs, ρ' n = ρ n) → V.Rs ρ xs cs → V.Rs ρ' xs cs
  | [], _, _, hx => by simpa only [V.Rs] using hx
  | x :: xs, _, h, hx => by
    simp only [V.Rs] at hx ⊢
    obtain ⟨y, ys, h1, h2, h3⟩ := hx
    exact ⟨y, ys, h1, V.R_ids x _ (fun n hn => h n (by simp [V.idsL, hn])) h2, V.Rs_ids xs _ (fun n hn => h n (by simp [V.idsL, hn])) h3⟩
end
theorem BlkR.congrIds {ρ ρ' : Nat → Option Loc} {l : Loc} {B : Blk} {w : World} (h : ∀ n ∈ B.c.ids, ρ' n = ρ n) (hb : BlkR ρ l B w) : BlkR ρ' l B w := by
  obtain ⟨cs, e, fr, h1, h2, h3⟩ := hb
  refine ⟨cs, e, fr, h1, fun j hj => ?_, h3⟩
  obtain ⟨v, a, b, c⟩ := h2 j hj
  exact ⟨v, a, b, V.R_ids _ _ (fun n hn => h n (Cells.ids_at _ _ _ hn)) c⟩
theorem HpR.same {ρ : Nat → Option Loc} {H H' : Hp} {w : World} (h : HpR ρ H w) (hg : ∀ b, hget H' b = hget H b) (hl : H.length ≤ H'.length) : HpR ρ H' w :=
  ⟨fun i B hB => h.blk i B (by rw [← hg]; exact hB), fun i j B D l m h1 h2 => h.sep i j B D l m (by rw [← hg]; exact h1) (by rw [← hg]; exact h2), fun i hi => h.dom i (Nat.le_trans hl hi)⟩

/-! ### What has come up before -/
theorem mem_insN : ∀ {l acc : List Nat} {n : Nat}, n ∈ insN acc l → n ∈ acc ∨ n ∈ l
  | [], acc, n, h => .inl h
  | x :: r, acc, n, h => by
    unfold insN at h
    split at h
    · rcases mem_insN h with h | h
      · exact .inl h
      · exact .inr (by simp [h])
    · rcases mem_insN h with h | h
      · rcases List.mem_cons.1 h with rfl | h
        · exact .inr (by simp)
        · exact .inl h
      · exact .inr (by simp [h])
theorem mem_predsOf {cl : List (List Nat)} : ∀ {es : List Edge} {n : Nat}, n ∈ predsOf cl es → ∃ e ∈ es, Region.binds .any e = true ∧ (n = e.on ∨ n ∈ lgetD [] cl e.on)
  | [], n, h => by cases h
  | e :: r, n, h => by
    unfold predsOf at h
    split at h
    · rename_i hb
      rcases mem_insN h with h | h
      · obtain ⟨e', h1, h2, h3⟩ := mem_predsOf h
        exact ⟨e', by simp [h1], h2, h3⟩
      · exact ⟨e, by simp, hb, by simpa using h⟩
    · obtain ⟨e', h1, h2, h3⟩ := mem_predsOf h
      exact ⟨e', by simp [h1], h2, h3⟩
theorem closFrom_old : ∀ (l : List Oper) (cl : List (List Nat)) (k : Nat), k < cl.length → lgetD [] (closFrom cl l) k = lgetD [] cl k
  | [], cl, k, h => rfl
  | o :: r, cl, k, h => by
    unfold closFrom
    rw [closFrom_old r _ k (by simp; omega), lgetD_eq, lgetD_eq]
    simp [List.getD_eq_getElem?_getD, List.getElem?_append_left h]
theorem closFrom_pre (l : List Oper) (cl : List (List Nat)) (k n : Nat) (h : n ∈ lgetD [] cl k) : n ∈ lgetD [] (closFrom cl l) k := by
  rcases Nat.lt_or_ge k cl.length with hk | hk
  · rwa [closFrom_old l cl k hk]
  · rw [lgetD_eq, List.getD_eq_getElem?_getD, List.getElem?_eq_none hk] at h
    cases h
theorem closFrom_new : ∀ (l : List Oper) (cl : List (List Nat)) (j : Nat) (o : Oper), l[j]? = some o → ∀ n ∈ lgetD [] (closFrom cl l) (cl.length + j), ∃ e ∈ o.after.toList, Region.binds .any e = true ∧ (n = e.on ∨ n ∈ lgetD [] (closFrom cl l) e.on)
  | [], cl, j, o, h, n, hn => by simp at h
  | x :: r, cl, 0, o, h, n, hn => by
    simp at h
    subst h
    unfold closFrom at hn ⊢
    rw [Nat.add_zero, closFrom_old r _ cl.length (by simp)] at hn
    have e : lgetD [] (cl ++ [predsOf cl x.after.toList]) cl.length = predsOf cl x.after.toList := by
      rw [lgetD_eq]
      simp [List.getD_eq_getElem?_getD]
    rw [e] at hn
    obtain ⟨e', h1, h2, h3⟩ := mem_predsOf hn
    refine ⟨e', h1, h2, h3.imp id fun h => closFrom_pre r _ _ _ ?_⟩
    have hlt : e'.on < cl.length := by
      rcases Nat.lt_or_ge e'.on cl.length with hk | hk
      · exact hk
      · rw [lgetD_eq, List.getD_eq_getElem?_getD, List.getElem?_eq_none hk] at h
        cases h
    rw [lgetD_eq] at h ⊢
    simpa [List.getD_eq_getElem?_getD, List.getElem?_append_left hlt] using h
  | x :: r, cl, j + 1, o, h, n, hn => by
    unfold closFrom at hn ⊢
    have := closFrom_new r (cl ++ [predsOf cl x.after.toList]) j o (by simpa using h) n
    simp only [List.length_append, List.length_singleton] at this
    rw [show cl.length + 1 + j = cl.length + (j + 1) by omega] at this
    exact this hn
theorem backE_spec : ∀ {es : List Edge} {i : Nat}, backE i es = true → ∀ e ∈ es, Region.binds .any e = true → e.on < i
  | [], i, h, e, he, _ => by cases he
  | x :: r, i, h, e, he, hb => by
    simp only [backE, Bool.and_eq_true, Bool.or_eq_true, Bool.not_eq_true'] at h
    cases he with
    | head =>
      rcases h.1 with h1 | h1
      · rw [hb] at h1; cases h1
      · exact Nat.le_of_ble_eq_true h1
    | tail _ he => exact backE_spec h.2 e he hb
theorem edgesBack_spec : ∀ {l : List Oper} {i : Nat}, edgesBack i l = true → ∀ j o, l[j]? = some o → ∀ e ∈ o.after.toList, Region.binds .any e = true → e.on < i + j
  | [], i, h, j, o, hj => by simp at hj
  | x :: r, i, h, 0, o, hj => by
    simp at hj
    subst hj
    simp only [edgesBack, Bool.and_eq_true] at h
    exact backE_spec h.1
  | x :: r, i, h, j + 1, o, hj => by
    simp only [edgesBack, Bool.and_eq_true] at h
    have := edgesBack_spec h.2 j o (by simpa using hj)
    intro e he hb
    have := this e he hb
    omega
/-- What has come up is closed. -/
def Closed (all : List Oper) (S : Nat → Bool) : Prop := ∀ (j : Nat) (o : Oper), all[j]? = some o → S j = true → ∀ e ∈ o.after.toList, Region.binds .any e = true → S e.on = true
theorem clos_in {all : List Oper} {S : Nat → Bool} (hS : Closed all S) (hB : edgesBack 0 all = true) : ∀ (j i : Nat) (o : Oper), all[j]? = some o → S j = true → i ∈ lgetD [] (closFrom [] all) j → S i = true := by
  intro j
  induction j using Nat.strongRecOn with
  | ind j ih =>
    intro i o hj hs hi
    have := closFrom_new all [] j o hj i (by simpa using hi)
    obtain ⟨e, h1, h2, h3⟩ := this
    have hlt : e.on < j := by simpa using edgesBack_spec hB j o hj e h1 h2
    have hse := hS j o hj hs e h1 h2
    rcases h3 with rfl | h3
    · exact hse
    · have hl : e.on < all.length := by
        have := (List.getElem?_eq_some_iff.1 hj).1
        omega
      exact ih e.on hlt i (all[e.on]) (List.getElem?_eq_getElem hl) hse h3
theorem clos_ready {all : List Oper} {S : Nat → Bool} (hS : Closed all S) (hB : edgesBack 0 all = true) {j : Nat} {o : Oper} (hj : all[j]? = some o) (hr : ∀ e ∈ o.after.toList, Region.binds .any e = true → S e.on = true) {i : Nat}
    (hi : i ∈ lgetD [] (closFrom [] all) j) : S i = true := by
  obtain ⟨e, h1, h2, h3⟩ := closFrom_new all [] j o hj i (by simpa using hi)
  have hse := hr e h1 h2
  rcases h3 with rfl | h3
  · exact hse
  · have hlt : e.on < j := by simpa using edgesBack_spec hB j o hj e h1 h2
    have hl : e.on < all.length := by
      have := (List.getElem?_eq_some_iff.1 hj).1
      omega
    exact clos_in hS hB e.on i (all[e.on]) (List.getElem?_eq_getElem hl) hse h3
theorem apartWith_spec {all : List Oper} {cl : List Nat} {o : Oper} : ∀ {l : List Oper} {k : Nat}, apartWith all cl o k l = true → ∀ i x, l[i]? = some x → (k + i) ∈ cl ∨ apartS all x o = true
  | [], k, h, i, x, hi => by simp at hi
  | y :: r, k, h, 0, x, hi => by
    simp at hi
    subst hi
    simp only [apartWith, Bool.and_eq_true, Bool.or_eq_true] at h
    exact h.1.imp (fun h => by simpa using memN_iff.1 h) id
  | y :: r, k, h, i + 1, x, hi => by
    simp only [apartWith, Bool.and_eq_true] at h
    have := apartWith_spec h.2 i x (by simpa using hi)
    rwa [show k + 1 + i = k + (i + 1) by omega] at this
theorem pairsOk_spec {all : List Oper} {cl : List (List Nat)} : ∀ {l pre : List Oper}, pairsOk all cl pre l = true → ∀ j o, l[j]? = some o → ∀ i x, i < pre.length + j → (pre ++ l)[i]? = some x → i ∈ lgetD [] cl (pre.length + j) ∨ apartS all x o = true
  | [], pre, h, j, o, hj => by simp at hj
  | y :: r, pre, h, 0, o, hj => by
    simp at hj
    subst hj
    simp only [pairsOk, Bool.and_eq_true] at h
    intro i x hi hx
    rw [List.getElem?_append_left (by omega)] at hx
    simpa using apartWith_spec h.1 i x hx
  | y :: r, pre, h, j + 1, o, hj => by
    simp only [pairsOk, Bool.and_eq_true] at h
    intro i x hi hx
    have := pairsOk_spec h.2 j o (by simpa using hj) i x (by simp; omega) (by simpa using hx)
    rwa [show (pre ++ [y]).length + j = pre.length + (j + 1) by simp; omega] at this
theorem logWith_spec {cl : List Nat} {y : Rec} : ∀ {l : List Rec} {k : Nat}, logWith cl y k l = true → ∀ i x, l[i]? = some x → (k + i) ∈ cl ∨ clash x y = false
  | [], k, h, i, x, hi => by simp at hi
  | z :: r, k, h, 0, x, hi => by
    simp at hi
    subst hi
    simp only [logWith, Bool.and_eq_true, Bool.or_eq_true, Bool.not_eq_true'] at h
    exact h.1.imp (fun h => by simpa using memN_iff.1 h) id
  | z :: r, k, h, i + 1, x, hi => by
    simp only [logWith, Bool.and_eq_true] at h
    have := logWith_spec h.2 i x (by simpa using hi)
    rwa [show k + 1 + i = k + (i + 1) by omega] at this
theorem logOk_spec {cl : List (List Nat)} : ∀ {l pre : List Rec}, logOk cl pre l = true → ∀ j y, l[j]? = some y → ∀ i x, i < pre.length + j → (pre ++ l)[i]? = some x → i ∈ lgetD [] cl (pre.length + j) ∨ clash x y = false
  | [], pre, h, j, o, hj => by simp at hj
  | z :: r, pre, h, 0, y, hj => by
    simp at hj
    subst hj
    simp only [logOk, Bool.and_eq_true] at h
    intro i x hi hx
    rw [List.getElem?_append_left (by omega)] at hx
    simpa using logWith_spec h.1 i x hx
  | z :: r, pre, h, j + 1, y, hj => by
    simp only [logOk, Bool.and_eq_true] at h
    intro i x hi hx
    have := logOk_spec h.2 j y (by simpa using hj) i x (by simp; omega) (by simpa using hx)
    rwa [show (pre ++ [z]).length + j = pre.length + (j + 1) by simp; omega] at this
theorem overlap_of : ∀ {l m : List Nat} {b : Nat}, b ∈ l → b ∈ m → overlap l m = true
  | x :: r, m, b, h1, h2 => by
    simp only [overlap, Bool.or_eq_true]
    cases h1 with
    | head => exact .inl (memN_iff.2 h2)
    | tail _ h1 => exact .inr (overlap_of h1 h2)
theorem mem_upto : ∀ {k n b : Nat}, b ∈ upto n k ↔ n ≤ b ∧ b < n + k
  | 0, n, b => by
    simp only [upto, List.not_mem_nil, false_iff]
    omega
  | k + 1, n, b => by
    simp only [upto, List.mem_cons, mem_upto (k := k)]
    omega
theorem ltAll_spec : ∀ {l : List Nat} {n : Nat}, ltAll n l = true → ∀ x ∈ l, x < n
  | [], n, h, x, hx => by cases hx
  | y :: r, n, h, x, hx => by
    simp only [ltAll, Bool.and_eq_true] at h
    cases hx with
    | head => exact Nat.le_of_ble_eq_true h.1
    | tail _ hx => exact ltAll_spec h.2 x hx

/-! ### What came up last -/
structure Ev where
  o : Oper
  fr : List (Nat × V)
  H : Hp
  ran : Bool
  ids : List Nat
  noisy : Bool
  v : V
  H' : Hp
def foldL {γ : Type} (g : Ev → Option γ) : List Ev → Nat → (Nat → Bool) → γ → γ
  | [], _, _, d => d
  | e :: r, k, S, d => foldL g r (k + 1) S (match S k, g e with
    | true, some x => x
    | _, _ => d)
section
variable {γ : Type} {g : Ev → Option γ}
theorem foldL_congr : ∀ {l : List Ev} {k : Nat} {S S' : Nat → Bool} {d : γ}, (∀ (j : Nat) (e : Ev), l[j]? = some e → (g e).isSome = true → S (k + j) = S' (k + j)) → foldL g l k S d = foldL g l k S' d
  | [], k, S, S', d, h => rfl
  | e :: r, k, S, S', d, h => by
    unfold foldL
    have h0 : (match S k, g e with | true, some x => x | _, _ => d) = (match S' k, g e with | true, some x => x | _, _ => d) := by
      cases hg : g e with
      | none => cases S k <;> cases S' k <;> rfl
      | some x =>
        have := h 0 e (by simp) (by rw [hg]; rfl)
        simp only [Nat.add_zero] at this
        rw [this]
    rw [h0]
    exact foldL_congr fun j e' hj hg => by
      have := h (j + 1) e' (by simpa using hj) hg
      rwa [show k + (j + 1) = k + 1 + j by omega] at this
theorem foldL_none : ∀ {l : List Ev} {k : Nat} {S : Nat → Bool} {d : γ}, (∀ (j : Nat) (e : Ev), l[j]? = some e → (g e).isSome = true → S (k + j) = false) → foldL g l k S d = d
  | [], k, S, d, h => rfl
  | e :: r, k, S, d, h => by
    unfold foldL
    have h0 : (match S k, g e with | true, some x => x | _, _ => d) = d := by
      cases hg : g e with
      | none => cases S k <;> rfl
      | some x =>
        have := h 0 e (by simp) (by rw [hg]; rfl)
        simp only [Nat.add_zero] at this
        rw [this]
    rw [h0]
    exact foldL_none fun j e' hj hg => by
      have := h (j + 1) e' (by simpa using hj) hg
      rwa [show k + (j + 1) = k + 1 + j by omega] at this
theorem foldL_append : ∀ {l m : List Ev} {k : Nat} {S : Nat → Bool} {d : γ}, foldL g (l ++ m) k S d = foldL g m (k + l.length) S (foldL g l k S d)
  | [], m, k, S, d => rfl
  | e :: r, m, k, S, d => by
    show foldL g (r ++ m) (k + 1) S _ = _
    rw [foldL_append]
    rw [show k + 1 + r.length = k + (e :: r).length by simp; omega]
    rfl
theorem foldL_set {l : List Ev} {S S' : Nat → Bool} {d : γ} {i : Nat} {ei : Ev} (hi : l[i]? = some ei) (hS : S i = false) (hS' : ∀ j, S' j = (S j || Nat.beq j i))
    (hlast : ∀ (j : Nat) (e : Ev), i < j → l[j]? = some e → (g ei).isSome = true → (g e).isSome = true → S j = false) : foldL g l 0 S' d = match g ei with
      | some x => x
      | none => foldL g l 0 S d := by
  have hne : ∀ j, j ≠ i → S' j = S j := fun j hj => by
    rw [hS' j]
    have : Nat.beq j i = false := by
      cases hb : Nat.beq j i with
      | false => rfl
      | true => exact absurd (beqN hb) hj
    rw [this, Bool.or_false]
  cases hg : g ei with
  | none =>
    refine foldL_congr fun j e hj hge => ?_
    rw [Nat.zero_add]
    refine hne j fun he => ?_
    subst he
    rw [hi] at hj
    cases hj
    rw [hg] at hge
    cases hge
  | some x =>
    have hl : l = l.take i ++ ei :: l.drop (i + 1) := by
      have hlt := (List.getElem?_eq_some_iff.1 hi).1
      have : l[i] = ei := (List.getElem?_eq_some_iff.1 hi).2
      rw [← this]
      simp
    have hlen : (l.take i).length = i := by
      have hlt := (List.getElem?_eq_some_iff.1 hi).1
      simp; omega
    rw [hl, foldL_append]
    unfold foldL
    rw [hlen, Nat.zero_add, hg]
    have : S' i = true := by rw [hS' i]; simp
    rw [this]
    refine foldL_none fun j e hj hge => ?_
    have hj' : l[i + 1 + j]? = some e := by
      rw [List.getElem?_drop] at hj
      exact hj
    rw [hne (i + 1 + j) (by omega)]
    exact hlast (i + 1 + j) e (by omega) hj' (by rw [hg]; rfl) hge
theorem foldL_take {l : List Ev} {d : γ} {i : Nat} (hi : i ≤ l.length) : foldL g l 0 (fun j => Nat.blt j i) d = foldL g (l.take i) 0 (fun _ => true) d := by
  have hl : l = l.take i ++ l.drop i := (List.take_append_drop i l).symm
  have hlen : (l.take i).length = i := by simp; omega
  conv => lhs; rw [hl]
  rw [foldL_append, foldL_none]
  · refine foldL_congr fun j e hj _ => ?_
    have := (List.getElem?_eq_some_iff.1 hj).1
    rw [hlen] at this
    show Nat.ble (0 + j + 1) i = true
    exact Nat.ble_eq_true_of_le (by omega)
  · intro j e hj _
    rw [hlen]
    show Nat.ble (0 + i + j + 1) i = false
    cases hb : Nat.ble (0 + i + j + 1) i with
    | false => rfl
    | true =>
      have := Nat.le_of_ble_eq_true hb
      omega
end
def gF (t : Nat) (e : Ev) : Option (Option V) := match e.o.dst with
  | some d => match Nat.beq d t with
    | true => some (some e.v)
    | false => none
  | none => none
def touches (b : Nat) (e : Ev) : Bool := memN e.ids b || (Nat.ble e.H.length b && Nat.blt b e.H'.length)
def gH (b : Nat) (e : Ev) : Option (Option Blk) := match e.noisy && touches b e with
  | true => some (hget e.H' b)
  | false => none
/-- What is known of a bool may be more by now. -/
def Upv (v v' : V) : Prop := v' = v ∨ ∃ g, v = .bo g ∧ v' = .kb g
theorem Upv.R {ρ : Nat → Option Loc} {v v' : V} {c : Value} (h : Upv v v') (hr : V.R ρ v c) : V.R ρ v' c := by
  rcases h with rfl | ⟨g, rfl, rfl⟩
  · exact hr
  · simpa only [V.R] using hr
theorem Upv.trans {a b c : V} (h1 : Upv a b) (h2 : Upv b c) : Upv a c := by
  rcases h1 with rfl | ⟨g, rfl, rfl⟩
  · exact h2
  · rcases h2 with rfl | ⟨g', h, _⟩
    · exact .inr ⟨g, rfl, rfl⟩
    · cases h
theorem hget_maskH (ids : List Nat) : ∀ (H : Hp) (k b : Nat), hget (maskH ids k H) b = match memN ids (k + b) with
    | true => hget H b
    | false => none
  | [], k, b => by cases memN ids (k + b) <;> cases b <;> rfl
  | x :: r, k, 0 => by
    simp only [maskH, hget, Nat.add_zero]
    cases memN ids k <;> rfl
  | x :: r, k, b + 1 => by
    simp only [maskH, hget]
    rw [hget_maskH ids r (k + 1) b, show k + 1 + b = k + (b + 1) by omega]
theorem maskH_length (ids : List Nat) : ∀ (H : Hp) (k : Nat), (maskH ids k H).length = H.length
  | [], k => rfl
  | x :: r, k => by simp [maskH, maskH_length ids r (k + 1)]
theorem mergeH_get (ids : List Nat) : ∀ (H H' : Hp) (k b : Nat), H.length ≤ H'.length → hget (mergeH ids k H H') b = (if b < H.length then (match memN ids (k + b) with
    | true => hget H' b
    | false => hget H b) else hget H' b)
  | [], H', k, b, h => by simp [mergeH]
  | x :: r, [], k, b, h => by simp at h
  | x :: r, y :: l, k, 0, h => by
    simp only [mergeH, hget, Nat.add_zero, List.length_cons, Nat.zero_lt_succ, if_true]
    cases memN ids k <;> rfl
  | x :: r, y :: l, k, b + 1, h => by
    simp only [mergeH, hget, List.length_cons, Nat.add_lt_add_iff_right]
    rw [mergeH_get ids r l (k + 1) b (by simpa using h), show k + 1 + b = k + (b + 1) by omega]
theorem mergeH_length (ids : List Nat) : ∀ (H H' : Hp) (k : Nat), H.length ≤ H'.length → (mergeH ids k H H').length = H'.length
  | [], H', k, h => by simp [mergeH]
  | x :: r, [], k, h => by simp at h
  | x :: r, y :: l, k, h => by simp [mergeH, mergeH_length ids r l (k + 1) (by simpa using h)]
theorem fget_maskF {fr : List (Nat × V)} : ∀ {l : List Nat} {t : Nat} {v : V}, fget (maskF fr l) t = some v → t ∈ l ∧ fget fr t = some v
  | [], t, v, h => by cases h
  | s :: r, t, v, h => by
    unfold maskF at h
    split at h
    · rename_i u hu
      rw [fget_cons] at h
      split at h
      · rename_i e
        subst e
        cases h
        exact ⟨by simp, hu⟩
      · obtain ⟨h1, h2⟩ := fget_maskF h
        exact ⟨by simp [h1], h2⟩
    · obtain ⟨h1, h2⟩ := fget_maskF h
      exact ⟨by simp [h1], h2⟩
theorem ids_valsF : ∀ {fr : List (Nat × V)} {t : Nat} {v : V}, fget fr t = some v → ∀ n ∈ v.ids, n ∈ V.idsL (valsF fr)
  | [], t, v, h => by cases h
  | (s, u) :: r, t, v, h => by
    rw [fget_cons] at h
    intro n hn
    simp only [valsF, V.idsL, List.mem_append]
    split at h
    · cases h
      exact .inl hn
    · exact .inr (ids_valsF h n hn)

/-! ### A step, of what it may look at alone -/
theorem StR.frame {G : Gl} {ρ ρ' : Nat → Option Loc} {HS HS' Hm H' : Hp} {w w' : World} {a : Act} {n : Nat} {d : Option Nat} {c : Value} {T : Nat → Bool} (h : StR G ρ ⟨[], HS⟩ a w) (hn : Hm.length = n) (hG : G.H0.length ≤ n)
    (hsub : ∀ b B, hget Hm b = some B → T b = true ∧ hget HS b = some B) (hL : Left (fun b => if b < n then ρ b else none) Hm w ρ' H' w')
    (hnew : ∀ b, n ≤ b → b < H'.length → hget HS b = none ∧ ρ b = none) (hT : ∀ b, n ≤ b → b < H'.length → T b = true) (hlen : HS'.length = HS.length) (hle : H'.length ≤ HS.length)
    (hg : ∀ b, hget HS' b = match T b with
      | true => hget H' b
      | false => hget HS b) :
    ∃ ρn, StR G ρn ⟨[], HS'⟩ (a.put d c) w' ∧ (∀ i l, ρ i = some l → ρn i = some l) ∧ (∀ i l, ρ' i = some l → ρn i = some l) ∧ (∀ b, ¬ (n ≤ b ∧ b < H'.length) → ρn b = ρ b) := by
  have hnn : n ≤ H'.length := hn ▸ hL.len
  have hsame : ∀ b, b < n → ρ' b = ρ b := fun b hb => by
    have := hL.same b (hn ▸ hb)
    simpa [hb] using this
  let ρn : Nat → Option Loc := fun b => if n ≤ b ∧ b < H'.length then ρ' b else ρ b
  have hout : ∀ b, ¬ (n ≤ b ∧ b < H'.length) → ρn b = ρ b := fun b hb => if_neg hb
  have hin : ∀ b, b < H'.length → ρn b = ρ' b := fun b hb => by
    by_cases hb' : n ≤ b
    · exact if_pos ⟨hb', hb⟩
    · rw [hout b (fun h => hb' h.1), hsame b (by omega)]
  have m1 : ∀ i l, ρ i = some l → ρn i = some l := fun i l hi => by
    by_cases hb : n ≤ i ∧ i < H'.length
    · have := (hnew i hb.1 hb.2).2
      rw [hi] at this
      cases this
    · rw [hout i hb]; exact hi
  have m2 : ∀ i l, ρ' i = some l → ρn i = some l := fun i l hi => by
    rcases Nat.lt_or_ge i H'.length with hb | hb
    · rw [hin i hb]; exact hi
    · have := hL.hp.dom i hb
      rw [hi] at this
      cases this
  have hTf : ∀ b, T b = false → ρn b = ρ b := fun b hb => hout b fun hb' => by
    rw [hT b hb'.1 hb'.2] at hb
    cases hb
  have hTt : ∀ b B, T b = true → hget HS' b = some B → hget H' b = some B ∧ ρn b = ρ' b := fun b B hb hB => by
    rw [hg b, hb] at hB
    exact ⟨hB, hin b (hget_lt hB)⟩
  have hTn : ∀ b B, T b = false → hget HS' b = some B → hget HS b = some B ∧ ρn b = ρ b := fun b B hb hB => by
    rw [hg b, hb] at hB
    exact ⟨hB, hTf b hb⟩
  have wr' : ∀ {x : Nat}, wrOf (fun b => if b < n then ρ b else none) Hm x → ∃ i B l, T i = true ∧ hget HS i = some B ∧ B.wr = true ∧ ρ i = some l ∧ l.b = x := by
    rintro x ⟨i, B, l, h1, h2, h3, h4⟩
    have hi : i < n := hn ▸ hget_lt h1
    simp only [hi, if_true] at h3
    obtain ⟨h5, h6⟩ := hsub i B h1
    exact ⟨i, B, l, h5, h6, h2, h3, h4⟩
  refine ⟨ρn, ⟨fun t v hv => (by cases hv), ⟨?_, ?_, ?_⟩, ?_, ?_, ?_, ?_, ?_, ?_⟩, m1, m2, hout⟩
  · intro b B hB
    dsimp only at hB
    cases hb : T b with
    | true =>
      obtain ⟨h1, h2⟩ := hTt b B hb hB
      obtain ⟨l, h3, h4⟩ := hL.hp.blk b B h1
      exact ⟨l, m2 b l h3, h4.mono m2⟩
    | false =>
      obtain ⟨h1, h2⟩ := hTn b B hb hB
      obtain ⟨l, h3, h4⟩ := h.hp.blk b B h1
      refine ⟨l, m1 b l h3, (h4.world (hL.ext.old l.b h4.lt ?_)).mono m1⟩
      intro hw
      obtain ⟨i, D, m, h5, h6, h7, h8, h9⟩ := wr' hw
      refine h.hp.sep i b D B m l h6 h1 (fun e => ?_) h7 h8 h3 h9
      subst e
      rw [hb] at h5
      cases h5
  · intro i j B D l m hB hD hij hwr hl hm
    dsimp only at hB hD
    cases hi : T i with
    | true =>
      obtain ⟨h1, h2⟩ := hTt i B hi hB
      rw [h2] at hl
      cases hj : T j with
      | true =>
        obtain ⟨h3, h4⟩ := hTt j D hj hD
        rw [h4] at hm
        exact hL.hp.sep i j B D l m h1 h3 hij hwr hl hm
      | false =>
        obtain ⟨h3, h4⟩ := hTn j D hj hD
        rw [h4] at hm
        rcases hL.mine i B l h1 hl with ⟨h5, _⟩ | h5 | h5
        · rw [hwr] at h5; cases h5
        · obtain ⟨i', B', l', h6, h7, h8, h9, h10⟩ := wr' h5
          rw [← h10]
          refine h.hp.sep i' j B' D l' m h7 h3 (fun e => ?_) h8 h9 hm
          subst e
          rw [hj] at h6
          cases h6
        · obtain ⟨m', h6, h7⟩ := h.hp.blk j D h3
          rw [hm] at h6
          cases h6
          have := h7.lt
          omega
    | false =>
      obtain ⟨h1, h2⟩ := hTn i B hi hB
      rw [h2] at hl
      cases hj : T j with
      | true =>
        obtain ⟨h3, h4⟩ := hTt j D hj hD
        rw [h4] at hm
        rcases hL.mine j D m h3 hm with ⟨_, D0, h5⟩ | h5 | h5
        · obtain ⟨_, h6⟩ := hsub j D0 h5
          have hjn : j < n := hn ▸ hget_lt h5
          rw [hsame j hjn] at hm
          exact h.hp.sep i j B D0 l m h1 h6 hij hwr hl hm
        · obtain ⟨i', B', l', h6, h7, h8, h9, h10⟩ := wr' h5
          rw [← h10]
          refine h.hp.sep i i' B B' l l' h1 h7 (fun e => ?_) hwr hl h9
          subst e
          rw [hi] at h6
          cases h6
        · obtain ⟨m', h6, h7⟩ := h.hp.blk i B h1
          rw [hl] at h6
          cases h6
          have := h7.lt
          omega
      | false =>
        obtain ⟨h3, h4⟩ := hTn j D hj hD
        rw [h4] at hm
        exact h.hp.sep i j B D l m h1 h3 hij hwr hl hm
  · intro i hi
    dsimp only at hi
    rw [hlen] at hi
    rw [hout i (by omega)]
    exact h.hp.dom i hi
  · cases d <;> simp [Act.put, h.sz]
  · cases d <;> exact h.df
  · refine h.ext.trans hL.ext fun b hb hw => ?_
    obtain ⟨i, B, l, _, h2, h3, h4, rfl⟩ := wr' hw
    rcases h.ow i B l h2 h4 with ⟨h5, _⟩ | h5 | h5
    · rw [h3] at h5; cases h5
    · exact h5
    · omega
  · intro i B l hB hl
    dsimp only at hB
    cases hi : T i with
    | true =>
      obtain ⟨h1, h2⟩ := hTt i B hi hB
      rw [h2] at hl
      rcases hL.mine i B l h1 hl with ⟨h5, D, h6⟩ | h5 | h5
      · obtain ⟨_, h7⟩ := hsub i D h6
        have hin' : i < n := hn ▸ hget_lt h6
        rw [hsame i hin'] at hl
        rcases h.ow i D l h7 hl with ⟨_, h8⟩ | h8
        · exact .inl ⟨h5, h8⟩
        · exact .inr h8
      · obtain ⟨i', B', l', _, h7, h8, h9, h10⟩ := wr' h5
        rcases h.ow i' B' l' h7 h9 with ⟨h11, _⟩ | h11
        · rw [h8] at h11; cases h11
        · rw [h10] at h11; exact .inr h11
      · exact .inr (.inr (Nat.le_trans h.ext.size h5))
    | false =>
      obtain ⟨h1, h2⟩ := hTn i B hi hB
      rw [h2] at hl
      exact h.ow i B l h1 hl
  · intro i hi
    rw [hout i (by omega)]
    exact h.ag i hi
  · show G.H0.length ≤ HS'.length
    rw [hlen]
    exact h.len
end Go.Proofs.Ytkfpmiggolmabaa.Sx
