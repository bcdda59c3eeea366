/- The abstract execution is sound: floats, renaming, operations. -/
import Derived.Test.YtkfpmiggolmabaaSx1
import Derived.Laws.MakeOwn
import Derived.Laws.Append
import Derived.Laws.AppendOwn
import Derived.Laws.Rows
import Derived.Laws.CopyRow
namespace Go.Proofs.Ytkfpmiggolmabaa.Sx
open Go Go.RowKit
set_option linter.unusedVariables false
set_option linter.unusedSimpArgs false

/-! ### Trees -/
section
variable {α β : Type}
@[simp] theorem T.get_leaf (a : α) : (T.leaf a).get = some a := rfl
@[simp] theorem T.get_bad : (T.bad : T α).get = none := rfl
@[simp] theorem T.get_br (c : Bool) (t e : T α) : (T.br c t e).get = bif c then t.get else e.get := rfl
theorem T.get_bind : ∀ (t : T α) (f : α → T β) (r : β), (t.bind f).get = some r → ∃ a, t.get = some a ∧ (f a).get = some r
  | .leaf a, f, r, h => ⟨a, rfl, h⟩
  | .br true t e, f, r, h => T.get_bind t f r h
  | .br false t e, f, r, h => T.get_bind e f r h
  | .bad, f, r, h => by cases h
theorem T.bind_get : ∀ (t : T α) (f : α → T β) (a : α) (r : β), t.get = some a → (f a).get = some r → (t.bind f).get = some r
  | .leaf a, f, b, r, h, h2 => by cases h; exact h2
  | .br true t e, f, b, r, h, h2 => T.bind_get t f b r h h2
  | .br false t e, f, b, r, h, h2 => T.bind_get e f b r h h2
  | .bad, f, b, r, h, h2 => by cases h
theorem T.get_bind_eq : ∀ (t : T α) (f : α → T β), (t.bind f).get = t.get.bind fun a => (f a).get
  | .leaf a, f => rfl
  | .br true t e, f => T.get_bind_eq t f
  | .br false t e, f => T.get_bind_eq e f
  | .bad, f => rfl
theorem T.get_val [Inhabited α] : ∀ (t : T α), t.ok = true → t.get = some t.val
  | .leaf a, _ => rfl
  | .br true t e, h => T.get_val t h
  | .br false t e, h => T.get_val e h
  | .bad, h => by cases h
theorem T.get_br_some {c : Bool} {t e : T α} {r : α} (h : (T.br c t e).get = some r) : (c = true ∧ t.get = some r) ∨ (c = false ∧ e.get = some r) := by
  cases c
  · exact .inr ⟨rfl, h⟩
  · exact .inl ⟨rfl, h⟩
end

/-! ### Floats -/
theorem decode_nanOf (k : FloatKind) : ∃ s t, k.format.read (nanOf k) = .nan s t := by
  cases k
  · exact ⟨_, _, rfl⟩
  · exact ⟨_, _, rfl⟩
theorem isNaN_read {k : FloatKind} {b : Nat} (h : isNaN k b = true) : ∃ s t, k.format.read b = .nan s t := by
  have h' : (k.format.read b).isNaN = true := h
  cases hd : k.format.read b with
  | nan s t => exact ⟨s, t, rfl⟩
  | number s m e => rw [hd] at h'; cases h'
  | infinity s => rw [hd] at h'; cases h'
theorem isNaN_of_read {k : FloatKind} {b : Nat} {s : Bool} {t : Nat} (h : k.format.read b = .nan s t) : isNaN k b = true := by
  show (k.format.read b).isNaN = true
  rw [h]; rfl
theorem nz_of_nan {k : FloatKind} {b : Nat} (h : isNaN k b = true) : nz k b = nanOf k := by unfold nz; rw [h]; rfl
theorem nz_of_not {k : FloatKind} {b : Nat} (h : isNaN k b = false) : nz k b = b := by unfold nz; rw [h]; rfl
theorem nz_nanOf (k : FloatKind) : nz k (nanOf k) = nanOf k := by
  obtain ⟨s, t, h⟩ := decode_nanOf k
  exact nz_of_nan (isNaN_of_read h)
theorem nz_nz (k : FloatKind) (b : Nat) : nz k (nz k b) = nz k b := by
  cases h : isNaN k b with
  | true => rw [nz_of_nan h, nz_nanOf]
  | false => rw [nz_of_not h, nz_of_not h]
theorem nz_cases (k : FloatKind) (b : Nat) : nz k b = b ∨ ((∃ s t, k.format.read b = .nan s t) ∧ ∃ s t, k.format.read (nz k b) = .nan s t) := by
  cases h : isNaN k b with
  | true => exact .inr ⟨isNaN_read h, by rw [nz_of_nan h]; exact decode_nanOf k⟩
  | false => exact .inl (nz_of_not h)
theorem sum_nan_r (d : Ieee.Datum) (s : Bool) (t : Nat) : d.sum (.nan s t) = none := by cases d <;> rfl
theorem sum_nan_l (d : Ieee.Datum) (s : Bool) (t : Nat) : (Ieee.Datum.nan s t).sum d = none := by cases d <;> rfl
theorem product_nan_r (d : Ieee.Datum) (s : Bool) (t : Nat) : d.product (.nan s t) = none := by cases d <;> rfl
theorem product_nan_l (d : Ieee.Datum) (s : Bool) (t : Nat) : (Ieee.Datum.nan s t).product d = none := by cases d <;> rfl
theorem quotient_nan_r (n : Nat) (d : Ieee.Datum) (s : Bool) (t : Nat) : d.quotient n (.nan s t) = none := by cases d <;> rfl
theorem quotient_nan_l (n : Nat) (d : Ieee.Datum) (s : Bool) (t : Nat) : (Ieee.Datum.nan s t).quotient n d = none := by cases d <;> rfl
theorem order_nan_r (d : Ieee.Datum) (s : Bool) (t : Nat) : d.order (.nan s t) = none := by cases d <;> rfl
theorem order_nan_l (d : Ieee.Datum) (s : Bool) (t : Nat) : (Ieee.Datum.nan s t).order d = none := by cases d <;> rfl
theorem add_nz (k : FloatKind) (x y : Nat) : k.format.add (nz k x) (nz k y) = k.format.add x y := by
  rcases nz_cases k x with hx | ⟨⟨s, t, hx⟩, s', t', hx'⟩
  · rcases nz_cases k y with hy | ⟨⟨s, t, hy⟩, s', t', hy'⟩
    · rw [hx, hy]
    · simp only [Ieee.Format.add, hy, hy', sum_nan_r]
  · simp only [Ieee.Format.add, hx, hx', sum_nan_l]
theorem sub_nz (k : FloatKind) (x y : Nat) : k.format.sub (nz k x) (nz k y) = k.format.sub x y := by
  rcases nz_cases k x with hx | ⟨⟨s, t, hx⟩, s', t', hx'⟩
  · rcases nz_cases k y with hy | ⟨⟨s, t, hy⟩, s', t', hy'⟩
    · rw [hx, hy]
    · simp only [Ieee.Format.sub, hy, hy', Ieee.Datum.opposite, sum_nan_r]
  · simp only [Ieee.Format.sub, hx, hx', sum_nan_l]
theorem mul_nz (k : FloatKind) (x y : Nat) : k.format.mul (nz k x) (nz k y) = k.format.mul x y := by
  rcases nz_cases k x with hx | ⟨⟨s, t, hx⟩, s', t', hx'⟩
  · rcases nz_cases k y with hy | ⟨⟨s, t, hy⟩, s', t', hy'⟩
    · rw [hx, hy]
    · simp only [Ieee.Format.mul, hy, hy', product_nan_r]
  · simp only [Ieee.Format.mul, hx, hx', product_nan_l]
theorem div_nz (k : FloatKind) (x y : Nat) : k.format.div (nz k x) (nz k y) = k.format.div x y := by
  rcases nz_cases k x with hx | ⟨⟨s, t, hx⟩, s', t', hx'⟩
  · rcases nz_cases k y with hy | ⟨⟨s, t, hy⟩, s', t', hy'⟩
    · rw [hx, hy]
    · simp only [Ieee.Format.div, hy, hy', quotient_nan_r]
  · simp only [Ieee.Format.div, hx, hx', quotient_nan_l]
theorem order_nz (k : FloatKind) (x y : Nat) : k.format.order (nz k x) (nz k y) = k.format.order x y := by
  rcases nz_cases k x with hx | ⟨⟨s, t, hx⟩, s', t', hx'⟩
  · rcases nz_cases k y with hy | ⟨⟨s, t, hy⟩, s', t', hy'⟩
    · rw [hx, hy]
    · simp only [Ieee.Format.order, hy, hy', order_nan_r]
  · simp only [Ieee.Format.order, hx, hx', order_nan_l]
theorem isNaN_eq (k : FloatKind) (b : Nat) : isNaN k b = decide (k.format.infRung < b % k.format.signWeight) := by
  have hb : k.format.binade ≤ k.format.infRung := by cases k <;> decide
  show (k.format.read b).isNaN = _
  unfold Ieee.Format.read
  dsimp only
  split
  · rename_i h
    have : ¬ k.format.infRung < b % k.format.signWeight := by omega
    simp [Ieee.Datum.isNaN, this]
  · split
    · rename_i h
      have : ¬ k.format.infRung < b % k.format.signWeight := by omega
      simp [Ieee.Datum.isNaN, this]
    · split
      · rename_i h
        simp [Ieee.Datum.isNaN, h]
      · rename_i h1 h2
        have : k.format.infRung < b % k.format.signWeight := by omega
        simp [Ieee.Datum.isNaN, this]
theorem isNaN_neg (k : FloatKind) (b : Nat) : isNaN k (Op.negFloat k b) = isNaN k b := by
  rw [isNaN_eq, isNaN_eq]
  have : Op.negFloat k b % k.format.signWeight = b % k.format.signWeight := by
    unfold Op.negFloat Ieee.Format.signWeight
    rw [Nat.xor_mod_two_pow, Nat.mod_self, Nat.xor_zero]
  rw [this]
theorem fneg_nz (k : FloatKind) (b : Nat) : nz k (Op.negFloat k b) = fneg k (nz k b) := by
  unfold fneg
  cases h : isNaN k b with
  | false => rw [nz_of_not h]
  | true =>
    rw [nz_of_nan h, nz_of_nan (by rw [isNaN_neg]; exact h), nz_of_nan]
    rw [isNaN_neg]
    obtain ⟨s, t, h⟩ := decode_nanOf k
    exact isNaN_of_read h
theorem mod_top (m A r s : Nat) (h : A + r < s) : (m * s + A + r) % s = A + r := by
  rw [Nat.add_assoc, Nat.mul_comm, Nat.mul_add_mod]
  exact Nat.mod_eq_of_lt h
theorem cut_nan32 (t : Nat) : isNaN .f32 ((t % 2) * 2 ^ 31 + 0x7f800000 + 1 + (t / 2) % (2 ^ 23 - 1)) = true := by
  rw [isNaN_eq]
  have e1 : FloatKind.f32.format.infRung = 2139095040 := by decide
  have e2 : FloatKind.f32.format.signWeight = 2147483648 := by decide
  have hr : t / 2 % (2 ^ 23 - 1) < 8388607 := Nat.mod_lt _ (by decide)
  rw [e1, e2, Nat.add_assoc (t % 2 * 2 ^ 31), show (2 : Nat) ^ 31 = 2147483648 from rfl, mod_top _ _ _ _ (by omega)]
  simp only [decide_eq_true_eq]
  omega
theorem cut_nan64 (t : Nat) : isNaN .f64 ((t % 2) * 2 ^ 63 + 0x7ff0000000000000 + 1 + (t / 2) % (2 ^ 52 - 1)) = true := by
  rw [isNaN_eq]
  have e1 : FloatKind.f64.format.infRung = 9218868437227405312 := by decide
  have e2 : FloatKind.f64.format.signWeight = 9223372036854775808 := by decide
  have hr : t / 2 % (2 ^ 52 - 1) < 4503599627370495 := Nat.mod_lt _ (by decide)
  rw [e1, e2, Nat.add_assoc (t % 2 * 2 ^ 63), show (2 : Nat) ^ 63 = 9223372036854775808 from rfl, mod_top _ _ _ _ (by omega)]
  simp only [decide_eq_true_eq]
  omega
theorem cut_nanBits (k : FloatKind) (x y t : Nat) : nz k ((Question.nanBits k x y).cut t) = nanOf k := by
  cases k
  · exact nz_of_nan (cut_nan32 t)
  · exact nz_of_nan (cut_nan64 t)
theorem cut_nanConv (k : FloatKind) (x t : Nat) : nz k ((Question.nanConv k x).cut t) = nanOf k := by
  cases k
  · exact nz_of_nan (cut_nan32 t)
  · exact nz_of_nan (cut_nan64 t)
theorem cut_nanMinMax (k : FloatKind) (m : Bool) (x y t : Nat) : nz k ((Question.nanMinMax k m x y).cut t) = nanOf k := by
  cases k
  · exact nz_of_nan (cut_nan32 t)
  · exact nz_of_nan (cut_nan64 t)

/-! ### Worlds -/
abbrev Gr (w w' : World) : Prop := WExt w (fun _ => False) w'
theorem WExt.refl (w : World) (f : Nat → Prop) : WExt w f w := ⟨rfl, rfl, rfl, Nat.le_refl _, fun _ _ _ => rfl⟩
theorem WExt.mono {w w' : World} {f g : Nat → Prop} (h : WExt w f w') (hg : ∀ b, b < w.heap.size → f b → g b) : WExt w g w' :=
  ⟨h.os, h.tape, h.output, h.size, fun b hb hn => h.old b hb fun hf => hn (hg b hb hf)⟩
theorem WExt.trans {w w1 w2 : World} {f g : Nat → Prop} (h : WExt w f w1) (h2 : WExt w1 g w2) (hg : ∀ b, b < w.heap.size → g b → f b) : WExt w f w2 :=
  ⟨h2.os.trans h.os, h2.tape.trans h.tape, h2.output.trans h.output, Nat.le_trans h.size h2.size,
    fun b hb hn => (h2.old b (Nat.lt_of_lt_of_le hb h.size) fun x => hn (hg b hb x)).trans (h.old b hb hn)⟩
theorem Gr.drew (w : World) : Gr w { w with drawn := w.drawn + 1 } := ⟨rfl, rfl, rfl, Nat.le_refl _, fun _ _ _ => rfl⟩
theorem Gr.drew' (w : World) : Gr w w.drew := ⟨rfl, rfl, rfl, Nat.le_refl _, fun _ _ _ => rfl⟩
theorem Gr.heap {w w' : World} (h : Gr w w') (b : Nat) (hb : b < w.heap.size) : w'.heap[b]? = w.heap[b]? := h.old b hb (fun h => h)

/-! ### The relation -/
mutual
theorem V.R_mono {ρ ρ' : Nat → Option Loc} (h : ∀ i l, ρ i = some l → ρ' i = some l) : ∀ (x : V) (c : Value), V.R ρ x c → V.R ρ' x c
  | .kb _, _, hx => by simpa only [V.R] using hx
  | .bo _, _, hx => by simpa only [V.R] using hx
  | .it _ _, _, hx => by simpa only [V.R] using hx
  | .fl _ _, _, hx => by simpa only [V.R] using hx
  | .st _, _, hx => by simpa only [V.R] using hx
  | .pt id off, _, hx => by
    simp only [V.R] at hx ⊢
    obtain ⟨l, h1, h2⟩ := hx
    exact ⟨l, h _ _ h1, h2⟩
  | .pr id row sz col, _, hx => by
    simp only [V.R] at hx ⊢
    obtain ⟨l, h1, h2⟩ := hx
    exact ⟨l, h _ _ h1, h2⟩
  | .pn, _, hx => by simpa only [V.R] using hx
  | .sl id off len, _, hx => by
    simp only [V.R] at hx ⊢
    obtain ⟨a, cap, h1, h0, h2⟩ := hx
    exact ⟨a, cap, h1, h0, fun hn => let ⟨l, h3, h4⟩ := h2 hn; ⟨l, h _ _ h3, h4⟩⟩
  | .own id len, _, hx => by
    simp only [V.R] at hx ⊢
    obtain ⟨l, h1, h2⟩ := hx
    exact ⟨l, h _ _ h1, h2⟩
  | .sn, _, hx => by simpa only [V.R] using hx
  | .nf, _, hx => by simpa only [V.R] using hx
  | .qn, _, hx => by simpa only [V.R] using hx
  | .er, _, hx => by simpa only [V.R] using hx
  | .fu f cap, _, hx => by
    simp only [V.R] at hx ⊢
    obtain ⟨cs, h1, h2⟩ := hx
    exact ⟨cs, h1, V.Rs_mono h cap _ h2⟩
  | .agg xs, _, hx => by
    simp only [V.R] at hx ⊢
    obtain ⟨cs, h1, h2⟩ := hx
    exact ⟨cs, h1, V.Rs_mono h xs _ h2⟩
  | .tup xs, _, hx => by
    simp only [V.R] at hx ⊢
    obtain ⟨cs, h1, h2⟩ := hx
    exact ⟨cs, h1, V.Rs_mono h xs _ h2⟩
  | .unk, _, _ => by simp only [V.R]
theorem V.Rs_mono {ρ ρ' : Nat → Option Loc} (h : ∀ i l, ρ i = some l → ρ' i = some l) : ∀ (xs : List V) (cs : List Value), V.Rs ρ xs cs → V.Rs ρ' xs cs
  | [], _, hx => by simpa only [V.Rs] using hx
  | x :: xs, _, hx => by
    simp only [V.Rs] at hx ⊢
    obtain ⟨y, ys, h1, h2, h3⟩ := hx
    exact ⟨y, ys, h1, V.R_mono h x _ h2, V.Rs_mono h xs _ h3⟩
end
/-- From one naming to another: what the renaming knows means the same. -/
def Through (ρ : Nat → Option Loc) (g : Nat → Option Nat) (ρ' : Nat → Option Loc) : Prop := ∀ i j, g i = some j → ρ' j = ρ i
mutual
theorem V.R_ren {ρ ρ' : Nat → Option Loc} {g : Nat → Option Nat} (h : Through ρ g ρ') : ∀ (x : V) (c : Value), V.R ρ x c → V.R ρ' (x.ren g) c
  | .kb _, _, hx => by simpa only [V.R, V.ren] using hx
  | .bo _, _, hx => by simpa only [V.R, V.ren] using hx
  | .it _ _, _, hx => by simpa only [V.R, V.ren] using hx
  | .fl _ _, _, hx => by simpa only [V.R, V.ren] using hx
  | .st _, _, hx => by simpa only [V.R, V.ren] using hx
  | .pt id off, _, hx => by
    simp only [V.ren]
    cases hg : g id with
    | none => simp only [V.R]
    | some j =>
      simp only [V.R] at hx ⊢
      rw [h id j hg]
      exact hx
  | .pr id row sz col, _, hx => by
    simp only [V.ren]
    cases hg : g id with
    | none => simp only [V.R]
    | some j =>
      simp only [V.R] at hx ⊢
      rw [h id j hg]
      exact hx
  | .pn, _, hx => by simpa only [V.R, V.ren] using hx
  | .sl id off len, _, hx => by
    simp only [V.ren]
    cases hg : g id with
    | none => simp only [V.R]
    | some j =>
      simp only [V.R] at hx ⊢
      rw [h id j hg]
      exact hx
  | .own id len, _, hx => by
    simp only [V.ren]
    cases hg : g id with
    | none => simp only [V.R]
    | some j =>
      simp only [V.R] at hx ⊢
      rw [h id j hg]
      exact hx
  | .sn, _, hx => by simpa only [V.R, V.ren] using hx
  | .nf, _, hx => by simpa only [V.R, V.ren] using hx
  | .qn, _, hx => by simpa only [V.R, V.ren] using hx
  | .er, _, hx => by simpa only [V.R, V.ren] using hx
  | .fu f cap, _, hx => by
    simp only [V.R, V.ren] at hx ⊢
    obtain ⟨cs, h1, h2⟩ := hx
    exact ⟨cs, h1, V.Rs_ren h cap _ h2⟩
  | .agg xs, _, hx => by
    simp only [V.R, V.ren] at hx ⊢
    obtain ⟨cs, h1, h2⟩ := hx
    exact ⟨cs, h1, V.Rs_ren h xs _ h2⟩
  | .tup xs, _, hx => by
    simp only [V.R, V.ren] at hx ⊢
    obtain ⟨cs, h1, h2⟩ := hx
    exact ⟨cs, h1, V.Rs_ren h xs _ h2⟩
  | .unk, _, _ => by simp only [V.R, V.ren]
theorem V.Rs_ren {ρ ρ' : Nat → Option Loc} {g : Nat → Option Nat} (h : Through ρ g ρ') : ∀ (xs : List V) (cs : List Value), V.Rs ρ xs cs → V.Rs ρ' (V.renL g xs) cs
  | [], _, hx => by simpa only [V.Rs, V.renL] using hx
  | x :: xs, _, hx => by
    simp only [V.Rs, V.renL] at hx ⊢
    obtain ⟨y, ys, h1, h2, h3⟩ := hx
    exact ⟨y, ys, h1, V.R_ren h x _ h2, V.Rs_ren h xs _ h3⟩
end
theorem knows_mem {ids : List Nat} : ∀ {l : List Nat}, knows ids l = true → ∀ n ∈ l, memN ids n = true
  | [], _, n, hn => by cases hn
  | m :: r, h, n, hn => by
    simp only [knows, Bool.and_eq_true] at h
    cases hn with
    | head => exact h.1
    | tail _ hn => exact knows_mem h.2 n hn
theorem idxN_of_mem : ∀ {ids : List Nat} {n : Nat}, memN ids n = true → ∃ j, idxN ids n = some j ∧ lget ids j = some n
  | [], n, h => by cases h
  | x :: r, n, h => by
    unfold memN at h
    unfold idxN
    cases hb : Nat.beq x n with
    | true =>
      have : x = n := Nat.eq_of_beq_eq_true hb
      subst this
      exact ⟨0, rfl, rfl⟩
    | false =>
      rw [hb] at h
      obtain ⟨j, h1, h2⟩ := idxN_of_mem (ids := r) h
      exact ⟨j + 1, by simp only [h1], h2⟩
theorem idxN_lget : ∀ {ids : List Nat} {n j : Nat}, idxN ids n = some j → lget ids j = some n
  | [], n, j, h => by cases h
  | x :: r, n, j, h => by
    unfold idxN at h
    cases hb : Nat.beq x n with
    | true =>
      have : x = n := Nat.eq_of_beq_eq_true hb
      subst this
      rw [hb] at h
      cases h
      rfl
    | false =>
      rw [hb] at h
      cases h2 : idxN r n with
      | none => rw [h2] at h; cases h
      | some i =>
        rw [h2] at h
        cases h
        exact idxN_lget (ids := r) h2
mutual
/-- Back again, where every name is known. -/
theorem V.R_back {ρ ρ' : Nat → Option Loc} {ids : List Nat} (h : Through ρ (idxN ids) ρ') : ∀ (x : V) (c : Value), knows ids x.ids = true → V.R ρ' (x.ren (idxN ids)) c → V.R ρ x c
  | .kb _, _, _, hx => by simpa only [V.R, V.ren] using hx
  | .bo _, _, _, hx => by simpa only [V.R, V.ren] using hx
  | .it _ _, _, _, hx => by simpa only [V.R, V.ren] using hx
  | .fl _ _, _, _, hx => by simpa only [V.R, V.ren] using hx
  | .st _, _, _, hx => by simpa only [V.R, V.ren] using hx
  | .pt id off, _, hk, hx => by
    obtain ⟨j, h1, h2⟩ := idxN_of_mem (knows_mem hk id (by simp [V.ids]))
    simp only [V.ren, h1, V.R] at hx ⊢
    rw [← h id j h1]
    exact hx
  | .pr id row sz col, _, hk, hx => by
    obtain ⟨j, h1, h2⟩ := idxN_of_mem (knows_mem hk id (by simp [V.ids]))
    simp only [V.ren, h1, V.R] at hx ⊢
    rw [← h id j h1]
    exact hx
  | .pn, _, _, hx => by simpa only [V.R, V.ren] using hx
  | .sl id off len, _, hk, hx => by
    obtain ⟨j, h1, h2⟩ := idxN_of_mem (knows_mem hk id (by simp [V.ids]))
    simp only [V.ren, h1, V.R] at hx ⊢
    rw [← h id j h1]
    exact hx
  | .own id len, _, hk, hx => by
    obtain ⟨j, h1, h2⟩ := idxN_of_mem (knows_mem hk id (by simp [V.ids]))
    simp only [V.ren, h1, V.R] at hx ⊢
    rw [← h id j h1]
    exact hx
  | .sn, _, _, hx => by simpa only [V.R, V.ren] using hx
  | .nf, _, _, hx => by simpa only [V.R, V.ren] using hx
  | .qn, _, _, hx => by simpa only [V.R, V.ren] using hx
  | .er, _, _, hx => by simpa only [V.R, V.ren] using hx
  | .fu f cap, _, hk, hx => by
    simp only [V.R, V.ren, V.ids] at hk hx ⊢
    obtain ⟨cs, h1, h2⟩ := hx
    exact ⟨cs, h1, V.Rs_back h cap _ hk h2⟩
  | .agg xs, _, hk, hx => by
    simp only [V.R, V.ren, V.ids] at hk hx ⊢
    obtain ⟨cs, h1, h2⟩ := hx
    exact ⟨cs, h1, V.Rs_back h xs _ hk h2⟩
  | .tup xs, _, hk, hx => by
    simp only [V.R, V.ren, V.ids] at hk hx ⊢
    obtain ⟨cs, h1, h2⟩ := hx
    exact ⟨cs, h1, V.Rs_back h xs _ hk h2⟩
  | .unk, _, _, _ => by simp only [V.R]
theorem V.Rs_back {ρ ρ' : Nat → Option Loc} {ids : List Nat} (h : Through ρ (idxN ids) ρ') : ∀ (xs : List V) (cs : List Value), knows ids (V.idsL xs) = true → V.Rs ρ' (V.renL (idxN ids) xs) cs → V.Rs ρ xs cs
  | [], _, _, hx => by simpa only [V.Rs, V.renL] using hx
  | x :: xs, _, hk, hx => by
    simp only [V.Rs, V.renL] at hx ⊢
    obtain ⟨y, ys, h1, h2, h3⟩ := hx
    have hk' : ∀ n ∈ x.ids ++ V.idsL xs, memN ids n = true := fun n hn => knows_mem hk n (by simpa [V.idsL] using hn)
    have mk : ∀ l : List Nat, (∀ n ∈ l, memN ids n = true) → knows ids l = true := by
      intro l
      induction l with
      | nil => intro _; rfl
      | cons a r ih => intro hl; simp [knows, hl a (by simp), ih (fun n hn => hl n (by simp [hn]))]
    exact ⟨y, ys, h1, V.R_back h x _ (mk _ fun n hn => hk' n (by simp [hn])) h2, V.Rs_back h xs _ (mk _ fun n hn => hk' n (by simp [hn])) h3⟩
end
theorem knows_of {ids : List Nat} : ∀ {l : List Nat}, (∀ n ∈ l, memN ids n = true) → knows ids l = true
  | [], _ => rfl
  | a :: r, hl => by simp [knows, hl a (by simp), knows_of (l := r) (fun n hn => hl n (by simp [hn]))]
theorem V.Rs_length {ρ : Nat → Option Loc} : ∀ {xs : List V} {cs : List Value}, V.Rs ρ xs cs → xs.length = cs.length
  | [], cs, h => by simp only [V.Rs] at h; subst h; rfl
  | x :: xs, cs, h => by
    simp only [V.Rs] at h
    obtain ⟨y, ys, rfl, _, h3⟩ := h
    simp [V.Rs_length h3]
theorem V.Rs_append {ρ : Nat → Option Loc} : ∀ {xs ys : List V} {cs ds : List Value}, V.Rs ρ xs cs → V.Rs ρ ys ds → V.Rs ρ (xs ++ ys) (cs ++ ds)
  | [], ys, cs, ds, h, h2 => by simp only [V.Rs] at h; subst h; exact h2
  | x :: xs, ys, cs, ds, h, h2 => by
    simp only [V.Rs] at h
    obtain ⟨y, zs, rfl, h1, h3⟩ := h
    simp only [List.cons_append, V.Rs]
    exact ⟨y, _, rfl, h1, V.Rs_append h3 h2⟩
theorem V.Rs_get {ρ : Nat → Option Loc} : ∀ {xs : List V} {cs : List Value}, V.Rs ρ xs cs → ∀ j, j < xs.length → ∃ c, cs[j]? = some c ∧ V.R ρ (lgetD .unk xs j) c
  | [], cs, h, j, hj => by simp at hj
  | x :: xs, cs, h, j, hj => by
    simp only [V.Rs] at h
    obtain ⟨y, ys, rfl, h1, h3⟩ := h
    cases j with
    | zero => exact ⟨y, rfl, h1⟩
    | succ j => exact V.Rs_get h3 j (by simpa using hj)
theorem V.Rs_of_get {ρ : Nat → Option Loc} : ∀ {xs : List V} {cs : List Value}, xs.length = cs.length → (∀ j, j < xs.length → ∃ c, cs[j]? = some c ∧ V.R ρ (lgetD .unk xs j) c) → V.Rs ρ xs cs
  | [], cs, h, _ => by
    simp only [V.Rs]
    exact List.eq_nil_of_length_eq_zero (by simpa using h.symm)
  | x :: xs, [], h, _ => by simp at h
  | x :: xs, c :: cs, h, hg => by
    simp only [V.Rs]
    refine ⟨c, cs, rfl, ?_, V.Rs_of_get (by simpa using h) fun j hj => hg (j + 1) (by simpa using hj)⟩
    obtain ⟨c', h1, h2⟩ := hg 0 (by simp)
    simp at h1
    subst h1
    exact h2
theorem V.Rs_lget {ρ : Nat → Option Loc} : ∀ {xs : List V} {cs : List Value}, V.Rs ρ xs cs → ∀ {j v}, lget xs j = some v → ∃ c, cs[j]? = some c ∧ V.R ρ v c
  | [], cs, h, j, v, hj => by cases hj
  | x :: xs, cs, h, j, v, hj => by
    simp only [V.Rs] at h
    obtain ⟨y, ys, rfl, h1, h3⟩ := h
    cases j with
    | zero => cases hj; exact ⟨y, rfl, h1⟩
    | succ j => exact V.Rs_lget h3 hj
theorem V.cells_R {ρ : Nat → Option Loc} {v : V} {c : Value} {cs : List V} (h : v.cells = some cs) (hr : V.R ρ v c) : V.Rs ρ cs c.cells.toList := by
  cases v <;> simp only [V.cells, Option.some.injEq, reduceCtorEq] at h <;> (try subst h)
  case agg xs =>
    simp only [V.R] at hr
    obtain ⟨ds, rfl, h2⟩ := hr
    exact h2
  all_goals
    have hc : c.cells = #[c] := by
      simp only [V.R] at hr
      first
        | (subst hr; rfl)
        | (obtain ⟨_, rfl, _⟩ := hr; rfl)
        | (obtain ⟨_, _, rfl⟩ := hr; rfl)
        | (obtain ⟨_, _, rfl, _⟩ := hr; rfl)
    rw [hc]
    simp only [V.Rs]
    exact ⟨c, [], rfl, hr, rfl⟩
theorem V.cellOk_one {ρ : Nat → Option Loc} {v : V} {c : Value} (h : v.cellOk = true) (hr : V.R ρ v c) : c.oneCell' = true := by
  cases v <;> simp only [V.cellOk, reduceCtorEq] at h <;> simp only [V.R] at hr
  all_goals
    first
      | (subst hr; rfl)
      | (obtain ⟨_, rfl, _⟩ := hr; rfl)
      | (obtain ⟨_, _, rfl⟩ := hr; rfl)
      | (obtain ⟨_, _, rfl, _⟩ := hr; rfl)
theorem allCellOk_one {ρ : Nat → Option Loc} : ∀ {vs : List V} {cs : List Value}, allCellOk vs = true → V.Rs ρ vs cs → ∀ c ∈ cs, c.oneCell' = true
  | [], cs, _, h, c, hc => by simp only [V.Rs] at h; subst h; cases hc
  | v :: vs, cs, ha, h, c, hc => by
    simp only [V.Rs] at h
    obtain ⟨y, ys, rfl, h1, h3⟩ := h
    simp only [allCellOk, Bool.and_eq_true] at ha
    cases hc with
    | head => exact V.cellOk_one ha.1 h1
    | tail _ hc => exact allCellOk_one ha.2 h3 c hc
theorem ofSc_R {ρ : Nat → Option Loc} {v : Value} {x : V} (h : ofSc v = some x) : V.R ρ x v := by
  unfold ofSc at h
  split at h <;> first | (cases h; done) | (cases h; simp only [V.R]; try exact ⟨_, rfl, rfl⟩)
theorem ofScs_R {ρ : Nat → Option Loc} : ∀ {l : List Value} {xs : List V}, ofScs l = some xs → V.Rs ρ xs l
  | [], xs, h => by cases h; simp only [V.Rs]
  | v :: r, xs, h => by
    simp only [ofScs] at h
    split at h
    · rename_i x xs' h1 h2
      cases h
      simp only [V.Rs]
      exact ⟨v, r, rfl, ofSc_R h1, ofScs_R h2⟩
    · cases h
theorem ofVal_R {ρ : Nat → Option Loc} {v : Value} {x : V} (h : ofVal v = some x) : V.R ρ x v := by
  unfold ofVal at h
  split at h
  · rename_i cs
    cases hs : ofScs cs.toList with
    | none => rw [hs] at h; cases h
    | some xs => rw [hs] at h; cases h; simp only [V.R]; exact ⟨cs, rfl, ofScs_R hs⟩
  · rename_i cs
    cases hs : ofScs cs.toList with
    | none => rw [hs] at h; cases h
    | some xs => rw [hs] at h; cases h; simp only [V.R]; exact ⟨cs, rfl, ofScs_R hs⟩
  · exact ofSc_R h
def FR (ρ : Nat → Option Loc) (fr : List (Nat × V)) (tmps : Array Value) : Prop := ∀ t v, fget fr t = some v → ∃ c, tmps[t]? = some c ∧ V.R ρ v c
theorem ev_R {ρ : Nat → Option Loc} {fr : List (Nat × V)} {a : Act} (hf : FR ρ fr a.tmps) {x : Operand} {v : V} (h : ev fr x = some v) : V.R ρ v (a.eval x) := by
  cases x with
  | tmp t =>
    obtain ⟨c, h1, h2⟩ := hf t v h
    simpa [Act.eval, Array.getD_eq_getD_getElem?, h1] using h2
  | const c => exact ofVal_R h
  | global g => cases h
  | func f => cases h; simp only [V.R, Act.eval]; exact ⟨#[], rfl, by simp only [V.Rs]⟩
theorem evs_R {ρ : Nat → Option Loc} {fr : List (Nat × V)} {a : Act} (hf : FR ρ fr a.tmps) : ∀ {l : List Operand} {vs : List V}, evs fr l = some vs → V.Rs ρ vs (l.map a.eval)
  | [], vs, h => by cases h; simp only [V.Rs, List.map_nil]
  | o :: r, vs, h => by
    simp only [evs] at h
    split at h
    · rename_i x xs h1 h2
      cases h
      simp only [V.Rs, List.map_cons]
      exact ⟨_, _, rfl, ev_R hf h1, evs_R hf h2⟩
    · cases h
theorem ikEq_eq {a b : IntKind} (h : ikEq a b = true) : a = b := by cases a <;> cases b <;> first | rfl | cases h
theorem fkEq_eq {a b : FloatKind} (h : fkEq a b = true) : a = b := by cases a <;> cases b <;> first | rfl | cases h
end Go.Proofs.Ytkfpmiggolmabaa.Sx
