/- The abstract execution is sound: memory and single operations. -/
import Derived.Test.YtkfpmiggolmabaaSx2
namespace Go.Proofs.Ytkfpmiggolmabaa.Sx
open Go Go.RowKit
set_option linter.unusedVariables false
set_option linter.unusedSimpArgs false

/-! ### Lists -/
theorem hget_lt : ∀ {H : Hp} {i : Nat} {B : Blk}, hget H i = some B → i < H.length
  | [], i, B, h => by cases h
  | x :: r, 0, B, h => by simp
  | x :: r, i + 1, B, h => by have := hget_lt (H := r) h; simp; omega
theorem hget_app_lt : ∀ {H K : Hp} {i : Nat}, i < H.length → hget (H ++ K) i = hget H i
  | [], K, i, h => by simp at h
  | x :: r, K, 0, h => rfl
  | x :: r, K, i + 1, h => hget_app_lt (H := r) (by simpa using h)
theorem hget_app_ge : ∀ {H K : Hp} {i : Nat}, H.length ≤ i → hget (H ++ K) i = hget K (i - H.length)
  | [], K, i, h => by simp
  | x :: r, K, 0, h => by simp at h
  | x :: r, K, i + 1, h => by
    have := hget_app_ge (H := r) (K := K) (i := i) (by simpa using h)
    simpa [hget] using this
theorem hget_ge : ∀ {H : Hp} {i : Nat}, H.length ≤ i → hget H i = none
  | [], i, h => rfl
  | x :: r, 0, h => by simp at h
  | x :: r, i + 1, h => hget_ge (H := r) (by simpa using h)
theorem hset_length : ∀ (H : Hp) (n : Nat) (x : Option Blk), (hset H n x).length = H.length
  | [], _, _ => rfl
  | _ :: r, 0, _ => rfl
  | _ :: r, n + 1, x => by simp [hset, hset_length r n x]
theorem hget_hset_same : ∀ {H : Hp} {n : Nat} {x : Option Blk}, n < H.length → hget (hset H n x) n = x
  | [], n, x, h => by simp at h
  | _ :: r, 0, x, h => rfl
  | _ :: r, n + 1, x, h => hget_hset_same (H := r) (by simpa using h)
theorem hget_hset_ne : ∀ {H : Hp} {n i : Nat} {x : Option Blk}, i ≠ n → hget (hset H n x) i = hget H i
  | [], n, i, x, h => rfl
  | _ :: r, 0, 0, x, h => by simp at h
  | _ :: r, 0, i + 1, x, h => rfl
  | _ :: r, n + 1, 0, x, h => rfl
  | _ :: r, n + 1, i + 1, x, h => hget_hset_ne (H := r) (by omega)
theorem lgetD_lset_same {α : Type} {d : α} : ∀ {l : List α} {n : Nat} {v : α}, n < l.length → lgetD d (lset l n v) n = v
  | [], n, v, h => by simp at h
  | _ :: r, 0, v, h => rfl
  | _ :: r, n + 1, v, h => lgetD_lset_same (l := r) (by simpa using h)
theorem lgetD_lset_ne {α : Type} {d : α} : ∀ {l : List α} {n i : Nat} {v : α}, i ≠ n → lgetD d (lset l n v) i = lgetD d l i
  | [], n, i, v, h => rfl
  | _ :: r, 0, 0, v, h => by simp at h
  | _ :: r, 0, i + 1, v, h => rfl
  | _ :: r, n + 1, 0, v, h => rfl
  | _ :: r, n + 1, i + 1, v, h => lgetD_lset_ne (l := r) (by omega)
theorem lset_length {α : Type} : ∀ (l : List α) (n : Nat) (v : α), (lset l n v).length = l.length
  | [], _, _ => rfl
  | _ :: r, 0, _ => rfl
  | _ :: r, n + 1, v => by simp [lset, lset_length r n v]
theorem lgetD_eq {α : Type} {d : α} : ∀ (l : List α) (n : Nat), lgetD d l n = l.getD n d
  | [], n => by simp [lgetD]
  | x :: r, 0 => by simp [lgetD]
  | x :: r, n + 1 => by simp [lgetD, lgetD_eq r n]
theorem lget_eq {α : Type} : ∀ (l : List α) (n : Nat), lget l n = l[n]?
  | [], n => by simp [lget]
  | x :: r, 0 => by simp [lget]
  | x :: r, n + 1 => by simp [lget, lget_eq r n]
theorem alook_mem {α : Type} : ∀ {l : List (Nat × α)} {t : Nat} {v : α}, alook l t = some v → (t, v) ∈ l
  | [], t, v, h => by cases h
  | (s, u) :: r, t, v, h => by
    unfold alook at h
    cases hb : Nat.beq s t with
    | true =>
      rw [hb] at h
      cases h
      have : s = t := Nat.eq_of_beq_eq_true hb
      subst this
      exact List.mem_cons_self
    | false =>
      rw [hb] at h
      exact List.mem_cons_of_mem _ (alook_mem (l := r) h)

/-! ### Memory -/
theorem BlkR.mono {ρ ρ' : Nat → Option Loc} (h : ∀ i l, ρ i = some l → ρ' i = some l) {l : Loc} {B : Blk} {w : World} (hb : BlkR ρ l B w) : BlkR ρ' l B w := by
  obtain ⟨cs, e, fr, h1, h2, h3⟩ := hb
  exact ⟨cs, e, fr, h1, fun j hj => let ⟨v, a, b, c⟩ := h2 j hj; ⟨v, a, b, V.R_mono h _ _ c⟩, h3⟩
theorem BlkR.world {ρ : Nat → Option Loc} {l : Loc} {B : Blk} {w w' : World} (hb : BlkR ρ l B w) (h : w'.heap[l.b]? = w.heap[l.b]?) : BlkR ρ l B w' := by
  obtain ⟨cs, e, fr, h1, h2, h3⟩ := hb
  exact ⟨cs, e, fr, h.trans h1, h2, h3⟩
theorem BlkR.lt {ρ : Nat → Option Loc} {l : Loc} {B : Blk} {w : World} (hb : BlkR ρ l B w) : l.b < w.heap.size := by
  obtain ⟨cs, e, fr, h1, h2, h3⟩ := hb
  exact (Array.getElem?_eq_some_iff.1 h1).1
theorem HpR.grow {ρ : Nat → Option Loc} {H : Hp} {w w' : World} (h : HpR ρ H w) (hw : ∀ b, b < w.heap.size → w'.heap[b]? = w.heap[b]?) : HpR ρ H w' :=
  ⟨fun i B hi => let ⟨l, h1, h2⟩ := h.blk i B hi; ⟨l, h1, h2.world (hw l.b h2.lt)⟩, h.sep, h.dom⟩
theorem HpR.gr {ρ : Nat → Option Loc} {H : Hp} {w w' : World} (h : HpR ρ H w) (hw : Gr w w') : HpR ρ H w' := h.grow hw.heap
theorem dom_lt {ρ : Nat → Option Loc} {H : Hp} {w : World} (h : HpR ρ H w) {i : Nat} {l : Loc} (hi : ρ i = some l) : i < H.length := by
  rcases Nat.lt_or_ge i H.length with h1 | h1
  · exact h1
  · rw [h.dom i h1] at hi; cases hi
theorem Left.mono {ρ ρ' : Nat → Option Loc} {H H' : Hp} {w w' : World} (h : Left ρ H w ρ' H' w') (hh : HpR ρ H w) : ∀ i l, ρ i = some l → ρ' i = some l := by
  intro i l hi
  rw [h.same i (dom_lt hh hi)]
  exact hi
/-- Nothing that is known has turned. -/
theorem Left.quiet {ρ : Nat → Option Loc} {H : Hp} {w w' : World} (hh : HpR ρ H w) (h' : HpR ρ H w') (hw : WExt w (wrOf ρ H) w') : Left ρ H w ρ H w' :=
  ⟨h', hw, fun _ _ => rfl, fun i B l hi hl => by
    cases hb : B.wr with
    | false => exact .inl ⟨rfl, B, hi⟩
    | true => exact .inr (.inl ⟨i, B, l, hi, hb, hl, rfl⟩), Nat.le_refl _⟩
theorem Gr.toExt {w w' : World} {f : Nat → Prop} (h : Gr w w') : WExt w f w' := h.mono fun _ _ hf => hf.elim
theorem Left.gr {ρ : Nat → Option Loc} {H : Hp} {w w' : World} (hh : HpR ρ H w) (h : Gr w w') : Left ρ H w ρ H w' :=
  Left.quiet hh (hh.gr h) h.toExt
/-- The naming with one name more. -/
def upd (ρ : Nat → Option Loc) (n : Nat) (l : Loc) : Nat → Option Loc := fun i => if i = n then some l else ρ i
theorem upd_mono {ρ : Nat → Option Loc} {H : Hp} {w : World} (hh : HpR ρ H w) (l : Loc) : ∀ i m, ρ i = some m → upd ρ H.length l i = some m := by
  intro i m hi
  have := dom_lt hh hi
  unfold upd
  rw [if_neg (by omega)]
  exact hi
/-- A new block. -/
theorem Left.new {ρ : Nat → Option Loc} {H : Hp} {w w' : World} (hh : HpR ρ H w) {l : Loc} {B : Blk} (hw : Gr w w') (hb : BlkR (upd ρ H.length l) l B w') (hl : w.heap.size ≤ l.b) :
    Left ρ H w (upd ρ H.length l) (H ++ [some B]) w' := by
  have hm := upd_mono hh l
  have hlast : hget (H ++ [some B]) H.length = some B := by rw [hget_app_ge (Nat.le_refl _), Nat.sub_self]; rfl
  have hin : ∀ {i D}, hget (H ++ [some B]) i = some D → (i < H.length ∧ hget H i = some D) ∨ (i = H.length ∧ D = B) := by
    intro i D hi
    rcases Nat.lt_or_ge i H.length with h1 | h1
    · rw [hget_app_lt h1] at hi
      exact .inl ⟨h1, hi⟩
    · have hlt := hget_lt hi
      simp at hlt
      have : i = H.length := by omega
      subst this
      rw [hlast] at hi
      exact .inr ⟨rfl, by cases hi; rfl⟩
  have hu : upd ρ H.length l H.length = some l := by unfold upd; rw [if_pos rfl]
  refine ⟨⟨?_, ?_, ?_⟩, hw.toExt, ?_, ?_, by simp⟩
  · intro i D hi
    rcases hin hi with ⟨h1, h2⟩ | ⟨rfl, rfl⟩
    · obtain ⟨m, h3, h4⟩ := hh.blk i D h2
      exact ⟨m, hm i m h3, (h4.mono hm).world (hw.heap m.b h4.lt)⟩
    · exact ⟨l, hu, hb⟩
  · intro i j D E a b hi hj hij hwr ha hb'
    have old : ∀ {i D a}, hget H i = some D → i < H.length → upd ρ H.length l i = some a → ρ i = some a ∧ a.b < w.heap.size := by
      intro i D a h1 h2 h3
      obtain ⟨m, h4, h5⟩ := hh.blk i D h1
      have := hm i m h4
      rw [h3] at this
      cases this
      exact ⟨h4, h5.lt⟩
    rcases hin hi with ⟨h1, h2⟩ | ⟨rfl, rfl⟩
    · obtain ⟨p1, p2⟩ := old h2 h1 ha
      rcases hin hj with ⟨h3, h4⟩ | ⟨rfl, rfl⟩
      · obtain ⟨q1, q2⟩ := old h4 h3 hb'
        exact hh.sep i j D E a b h2 h4 hij hwr p1 q1
      · rw [hu] at hb'; cases hb'
        intro e; omega
    · rcases hin hj with ⟨h3, h4⟩ | ⟨rfl, rfl⟩
      · obtain ⟨q1, q2⟩ := old h4 h3 hb'
        rw [hu] at ha; cases ha
        intro e; omega
      · exact absurd rfl hij
  · intro i hi
    simp at hi
    unfold upd
    rw [if_neg (by omega)]
    exact hh.dom i (by omega)
  · intro i hi
    unfold upd
    rw [if_neg (by omega)]
  · intro i D a hi ha
    rcases hin hi with ⟨h1, h2⟩ | ⟨rfl, rfl⟩
    · cases hd : D.wr with
      | false => exact .inl ⟨rfl, D, h2⟩
      | true =>
        obtain ⟨m, h4, h5⟩ := hh.blk i D h2
        have := hm i m h4
        rw [ha] at this
        cases this
        exact .inr (.inl ⟨i, D, a, h2, hd, h4, rfl⟩)
    · rw [hu] at ha; cases ha
      exact .inr (.inr hl)
theorem atRange_length (c : Cells) : ∀ n off, (atRange c off n).length = n
  | 0, _ => rfl
  | n + 1, off => by simp [atRange, atRange_length c n (off + 1)]
theorem atRange_get (c : Cells) : ∀ n off j, j < n → lgetD .unk (atRange c off n) j = c.at (off + j)
  | 0, off, j, h => by omega
  | n + 1, off, 0, h => rfl
  | n + 1, off, j + 1, h => by
    have := atRange_get c n (off + 1) j (by omega)
    simp only [atRange, lgetD, this]
    congr 1
    omega

/-! ### Types -/
def TyOK (P : Program) (t : TypeId) (ti : TI) : Prop :=
  P.underlying t = some ti.d ∧ ∃ inf z, P.info? t = some inf ∧ inf.size = ti.size ∧ inf.bytes = ti.bytes ∧ inf.zero = some z ∧ ofScs z.cells.toList = some ti.zero
section
variable {P : Program} {w : World}
theorem run_sizeOf_sx {t : TypeId} {ti : TI} (h : TyOK P t ti) : (sizeOf t).run P w = .ok ti.size w := by
  obtain ⟨_, inf, z, h1, h2, _⟩ := h
  simp [sizeOf, typeInfo, h1, h2]
theorem run_isAgg_sx {t : TypeId} {ti : TI} (h : TyOK P t ti) : (isAgg t).run P w = .ok (isAggD ti.d) w := by
  unfold isAgg
  rw [Sem.run_bind, run_underlying h.1 w]
  cases ti.d <;> rfl
theorem cell_of_blk {ρ : Nat → Option Loc} {l : Loc} {B : Blk} (hb : BlkR ρ l B w) {j : Nat} (hj : j < B.c.len) :
    ∃ v, w.cell? ⟨l.b, l.o + j, none⟩ = some v ∧ v.oneCell' = true ∧ V.R ρ (B.c.at j) v := by
  obtain ⟨cs, e, fr, h1, h2, h3⟩ := hb
  obtain ⟨v, a, b, c⟩ := h2 j hj
  exact ⟨v, by rw [cell_of_row w _ _ cs e fr h1]; exact a, b, c⟩
theorem run_loadCells_sx {ρ : Nat → Option Loc} {l : Loc} {B : Blk} (hb : BlkR ρ l B w) (off n : Nat) (h : off + n ≤ B.c.len) :
    ∃ cs : List Value, cs.length = n ∧ (∀ j u, cs[j]? = some u → w.cell? ((⟨l.b, l.o + off, none⟩ : Addr).add j) = some u) ∧
      (loadCells ⟨l.b, l.o + off, none⟩ n).run P w = .ok cs.toArray w ∧ V.Rs ρ (atRange B.c off n) cs ∧ ∀ u ∈ cs, u.oneCell' = true := by
  have key : ∀ n off, off + n ≤ B.c.len → ∃ cs : List Value, cs.length = n ∧ (∀ j u, cs[j]? = some u → w.cell? ⟨l.b, l.o + off + j, none⟩ = some u) ∧ V.Rs ρ (atRange B.c off n) cs ∧ ∀ u ∈ cs, u.oneCell' = true := by
    intro n
    induction n with
    | zero => intro off _; exact ⟨[], rfl, fun j u h => by simp at h, by simp only [atRange, V.Rs], fun u hu => by cases hu⟩
    | succ n ih =>
      intro off ho
      obtain ⟨v, h1, h2, h3⟩ := cell_of_blk hb (j := off) (by omega)
      obtain ⟨cs, h4, h5, h6, h7⟩ := ih (off + 1) (by omega)
      refine ⟨v :: cs, by simp [h4], ?_, ?_, ?_⟩
      · intro j u hj
        cases j with
        | zero => simp at hj; subst hj; exact h1
        | succ j =>
          have := h5 j u (by simpa using hj)
          rw [show l.o + off + (j + 1) = l.o + (off + 1) + j by omega]
          exact this
      · simp only [atRange, V.Rs]
        exact ⟨v, cs, rfl, h3, h6⟩
      · intro u hu
        cases hu with
        | head => exact h2
        | tail _ hu => exact h7 u hu
  obtain ⟨cs, h1, h2, h3, h4⟩ := key n off h
  have h5 : ∀ j u, cs[j]? = some u → w.cell? ((⟨l.b, l.o + off, none⟩ : Addr).add j) = some u := by
    intro j u hj
    rw [Addr.add_lit]
    exact h2 j u hj
  exact ⟨cs, h1, h5, by rw [← h1]; exact run_loadCells_list w _ cs h5, h3, h4⟩
theorem loadQ_sound {C : Ctx} {ρ : Nat → Option Loc} {H : Hp} {t : TypeId} {ti : TI} {id off : Nat} {v : V} (ht : TyOK P t ti) (hh : HpR ρ H w) (h : (loadQ C H ti id off).get = some v)
    {l : Loc} (hl : ρ id = some l) : ∃ c, (loadVar t ⟨l.b, l.o + off, none⟩).run P w = .ok c w ∧ V.R ρ v c := by
  unfold loadQ at h
  cases hB : hget H id with
  | none => rw [hB] at h; cases h
  | some B =>
    simp only [hB] at h
    obtain ⟨l', hl', hb⟩ := hh.blk id B hB
    rw [hl] at hl'; cases hl'
    cases hagg : isAggD ti.d with
    | true =>
      simp only [hagg] at h
      have hfin : ∀ hn : off + ti.size ≤ B.c.len, v = .agg (atRange B.c off ti.size) → ∃ c, (loadVar t ⟨l.b, l.o + off, none⟩).run P w = .ok c w ∧ V.R ρ v c := by
        intro hn hv
        obtain ⟨cs, h1, _, h2, h3, _⟩ := run_loadCells_sx (P := P) hb off ti.size hn
        refine ⟨.agg cs.toArray, ?_, ?_⟩
        · simp [loadVar, run_isAgg_sx ht, hagg, run_sizeOf_sx ht, h2]
        · subst hv
          simp only [V.R]
          exact ⟨_, rfl, by simpa using h3⟩
      split at h
      · rename_i xs hxs
        split at h
        · rename_i hn
          refine hfin ?_ (by cases h; rfl)
          rw [hxs]
          exact Nat.le_of_ble_eq_true hn
        · cases h
      · rcases T.get_br_some h with ⟨hn, h⟩ | ⟨_, h⟩
        · exact hfin (Nat.le_of_ble_eq_true hn) (by cases h; rfl)
        · cases h
    | false =>
      simp only [hagg] at h
      have hfin : ∀ hn : off + 1 ≤ B.c.len, v = B.c.at off → ∃ c, (loadVar t ⟨l.b, l.o + off, none⟩).run P w = .ok c w ∧ V.R ρ v c := by
        intro hn hv
        obtain ⟨c, h1, _, h2⟩ := cell_of_blk hb (j := off) (by omega)
        refine ⟨c, ?_, ?_⟩
        · simp [loadVar, run_isAgg_sx ht, hagg, h1]
        · subst hv; exact h2
      split at h
      · rename_i xs hxs
        split at h
        · rename_i hn
          refine hfin ?_ (by cases h; rfl)
          rw [hxs]
          exact Nat.le_of_ble_eq_true hn
        · cases h
      · rcases T.get_br_some h with ⟨hn, h⟩ | ⟨_, h⟩
        · exact hfin (Nat.le_of_ble_eq_true hn) (by cases h; rfl)
        · cases h
theorem rowcol {n row col : Nat} (h : col < n) : (row * n + col) / n = row ∧ (row * n + col) % n = col := by
  have hn : 0 < n := by omega
  rw [Nat.mul_comm row n]
  exact ⟨by rw [Nat.mul_add_div hn, Nat.div_eq_of_lt h, Nat.add_zero], by rw [Nat.mul_add_mod, Nat.mod_eq_of_lt h]⟩
theorem colsAt_range (ks : List SK) (xs : List (List Sc)) (row : Nat) : ∀ (n col : Nat), col + n ≤ ks.length → atRange (.mx ks xs) (row * ks.length + col) n = colsAt ks xs row col n
  | 0, col, h => rfl
  | n + 1, col, h => by
    obtain ⟨h1, h2⟩ := rowcol (n := ks.length) (row := row) (col := col) (by omega)
    simp only [atRange, colsAt, Cells.at, h1, h2]
    rw [Nat.add_assoc, colsAt_range ks xs row n (col + 1) (by omega)]
theorem loadP_sound {ρ : Nat → Option Loc} {H : Hp} {t : TypeId} {ti : TI} {id row sz col : Nat} {v : V} (ht : TyOK P t ti) (hh : HpR ρ H w) (h : (loadP H ti id row sz col).get = some v)
    {l : Loc} (hl : ρ id = some l) : ∃ c, (loadVar t ⟨l.b, l.o + (row * sz + col), none⟩).run P w = .ok c w ∧ V.R ρ v c := by
  unfold loadP at h
  cases hB : hget H id with
  | none => rw [hB] at h; cases h
  | some B =>
    simp only [hB] at h
    split at h
    · rename_i ks xs hmx
      refine loadQ_sound (C := ⟨[], [], [], 0, 0, 0, []⟩) ht hh ?_ hl
      unfold loadQ
      simp only [hB, hmx]
      cases hagg : isAggD ti.d with
      | true =>
        simp only [hagg] at h ⊢
        split at h
        · rename_i hc
          simp only [Bool.and_eq_true] at hc
          have hsz := Nat.eq_of_beq_eq_true hc.1
          have hcol := Nat.le_of_ble_eq_true hc.2
          subst hsz
          rcases T.get_br_some h with ⟨hr, h⟩ | ⟨_, h⟩
          · have hrow := Nat.le_of_ble_eq_true hr
            have hbig : (row + 1) * ks.length ≤ xs.length * ks.length := Nat.mul_le_mul_right _ hrow
            rw [Nat.add_mul, Nat.one_mul] at hbig
            cases h
            rw [T.get_br, show Nat.ble (row * ks.length + col + ti.size) (Cells.len (.mx ks xs)) = true from Nat.ble_eq_true_of_le (by simp only [Cells.len]; omega), colsAt_range ks xs row ti.size col (by omega)]
            rfl
          · cases h
        · cases h
      | false =>
        simp only [hagg] at h ⊢
        split at h
        · rename_i hc
          simp only [Bool.and_eq_true] at hc
          have hsz := Nat.eq_of_beq_eq_true hc.1
          have hcol := Nat.le_of_ble_eq_true hc.2
          subst hsz
          rcases T.get_br_some h with ⟨hr, h⟩ | ⟨_, h⟩
          · have hrow := Nat.le_of_ble_eq_true hr
            have hbig : (row + 1) * ks.length ≤ xs.length * ks.length := Nat.mul_le_mul_right _ hrow
            rw [Nat.add_mul, Nat.one_mul] at hbig
            cases h
            obtain ⟨h1, h2⟩ := rowcol (n := ks.length) (row := row) (col := col) (by omega)
            rw [T.get_br, show Nat.ble (row * ks.length + col + 1) (Cells.len (.mx ks xs)) = true from Nat.ble_eq_true_of_le (by simp only [Cells.len]; omega)]
            simp only [Cells.at, h1, h2]
            rfl
          · cases h
        · cases h
    · cases h
end
end Go.Proofs.Ytkfpmiggolmabaa.Sx
