/- The abstract execution is sound: calls, by what the callee was shown to do; operations that change no memory. -/
import Derived.Test.YtkfpmiggolmabaaSx4
namespace Go.Proofs.Ytkfpmiggolmabaa.Sx
open Go Go.RowKit
set_option linter.unusedVariables false
set_option linter.unusedSimpArgs false
variable {P : Program}

def CallOK (P : Program) (f : FuncId) (args : Array Value) (w : World) (R : Value → World → Prop) : Prop :=
  ∀ (o : Oper) (a : Act) (K : Act → World → Prop) (Q : Exit → Act → World → Prop), (∀ c w', R c w' → K (a.put o.dst c) w') → o.upon P a K Q ((callFunc f args).run P w)
def OKe (P : Program) (f : FuncId) (F : List V → Hp → T (V × Hp)) : Prop :=
  ∀ args H r, (F args H).get = some r → ∀ ρ w vs, V.Rs ρ args vs → HpR ρ H w → CallOK P f vs.toArray w fun c w' => ∃ ρ', V.R ρ' r.1 c ∧ Left ρ H w ρ' r.2 w'
def OKq (P : Program) (f : FuncId) (F : List V → Hp → T V) : Prop :=
  ∀ args H v, (F args H).get = some v → ∀ ρ w vs, V.Rs ρ args vs → HpR ρ H w → CallOK P f vs.toArray w fun c w' => V.R ρ v c ∧ HpR ρ H w' ∧ WExt w (wrOf ρ H) w'
def ConOK (P : Program) (f : FuncId) : Con → Prop
  | .q F => OKq P f F
  | .e F => OKe P f F
structure CtxOK (P : Program) (C : Ctx) : Prop where
  ty : ∀ t ti, alook C.ty t = some ti → TyOK P t ti
  fn : ∀ f c, alook C.fn f = some c → ConOK P f c
  mo : P.follows .mixedOrders = true
  eq : ∀ t n, alook C.eq t = some n → EqOK P t n
theorem CallOK.mono {f : FuncId} {args : Array Value} {w : World} {R R' : Value → World → Prop} (h : CallOK P f args w R) (hr : ∀ c w', R c w' → R' c w') : CallOK P f args w R' :=
  fun o a K Q hK => h o a K Q fun c w' hc => hK c w' (hr c w' hc)
theorem CallOK.of_calls {f : FuncId} {fn : Func} {args : Array Value} {w : World} {R : Value → World → Prop} (hf : P.funcs[f]? = some fn) (hb : fn.body.isNone = false) (hn : (fn.name == "runtime.NumGoroutine") = false)
    (h : Calls P f args w fun e w' => ∃ c, e = .returned c ∧ R c w') : CallOK P f args w R := by
  intro o a K Q hK
  have hr : (callFunc f args).run P w = .ok (.enter f args) w := by
    simp only [callFunc, Sem.run_bind, run_program, Result.andThen_ok, hf, hn, hb, Bool.false_eq_true, if_false, Sem.run_pure]
  rw [hr, Oper.upon_enter]
  refine h.mono ?_
  rintro e w' ⟨c, rfl, hc⟩
  exact hK c w' hc

/-! ### Names -/
theorem memN_iff : ∀ {l : List Nat} {n : Nat}, memN l n = true ↔ n ∈ l
  | [], n => by simp [memN]
  | x :: r, n => by
    unfold memN
    cases hb : Nat.beq x n with
    | true =>
      have : x = n := Nat.eq_of_beq_eq_true hb
      subst this
      simp
    | false =>
      have : x ≠ n := Nat.ne_of_beq_eq_false hb
      simp only [memN_iff (l := r), List.mem_cons]
      exact ⟨fun h => .inr h, fun h => h.resolve_left fun e => this e.symm⟩
theorem addN_ext (H : Hp) : ∀ (l acc : List Nat), ∃ ext, addN H acc l = acc ++ ext ∧ (∀ n ∈ ext, n ∉ acc ∧ ∃ B, hget H n = some B) ∧ ext.Nodup
  | [], acc => ⟨[], by simp [addN], by simp, List.nodup_nil⟩
  | n :: r, acc => by
    unfold addN
    split
    · rename_i B hm hB
      obtain ⟨ext, h1, h2, h3⟩ := addN_ext H r (acc ++ [n])
      have hn : n ∉ acc := fun h => by rw [memN_iff.2 h] at hm; cases hm
      refine ⟨n :: ext, by rw [h1]; simp, ?_, ?_⟩
      · intro m hmem
        cases hmem with
        | head => exact ⟨hn, B, hB⟩
        | tail _ hmem =>
          obtain ⟨h4, h5⟩ := h2 m hmem
          exact ⟨fun h => h4 (by simp [h]), h5⟩
      · exact List.nodup_cons.2 ⟨fun h => (h2 n h).1 (by simp), h3⟩
    · exact addN_ext H r acc
theorem reach_ext (H : Hp) (acc l : List Nat) : ∃ ext, reach H acc l = acc ++ ext ∧ (∀ n ∈ ext, n ∉ acc ∧ ∃ B, hget H n = some B) ∧ ext.Nodup := by
  have step : ∀ (a l' : List Nat), (∃ ext, a = acc ++ ext ∧ (∀ n ∈ ext, n ∉ acc ∧ ∃ B, hget H n = some B) ∧ ext.Nodup) →
      ∃ ext, addN H a l' = acc ++ ext ∧ (∀ n ∈ ext, n ∉ acc ∧ ∃ B, hget H n = some B) ∧ ext.Nodup := by
    rintro a l' ⟨ext, rfl, h2, h3⟩
    obtain ⟨ext', h4, h5, h6⟩ := addN_ext H l' (acc ++ ext)
    refine ⟨ext ++ ext', by rw [h4]; simp, ?_, ?_⟩
    · intro n hn
      rcases List.mem_append.1 hn with h | h
      · exact h2 n h
      · exact ⟨fun h7 => (h5 n h).1 (by simp [h7]), (h5 n h).2⟩
    · exact List.nodup_append.2 ⟨h3, h6, fun a ha b hb e => (h5 b hb).1 (by subst e; simp [ha])⟩
  unfold reach
  exact step _ _ (step _ _ (step _ _ (addN_ext H l acc)))
/-- A list of names without a name twice. -/
theorem lget_inj {ids : List Nat} (h : ids.Nodup) {i j n : Nat} (hi : lget ids i = some n) (hj : lget ids j = some n) : i = j := by
  rw [lget_eq] at hi hj
  have h1 : i < ids.length := by
    rcases Nat.lt_or_ge i ids.length with h2 | h2
    · exact h2
    · rw [List.getElem?_eq_none h2] at hi; cases hi
  exact (List.getElem?_inj h1 h).1 (hi.trans hj.symm)
theorem lget_mem {ids : List Nat} {j n : Nat} (h : lget ids j = some n) : n ∈ ids := by
  rw [lget_eq] at h
  exact List.mem_of_getElem? h
theorem lget_lt {α : Type} {ids : List α} {j : Nat} {n : α} (h : lget ids j = some n) : j < ids.length := by
  rw [lget_eq] at h
  rcases Nat.lt_or_ge j ids.length with h2 | h2
  · exact h2
  · rw [List.getElem?_eq_none h2] at h; cases h
theorem mem_lget {ids : List Nat} {n : Nat} (h : n ∈ ids) : ∃ j, lget ids j = some n := by
  obtain ⟨j, hj, rfl⟩ := List.mem_iff_getElem.1 h
  exact ⟨j, by rw [lget_eq]; exact List.getElem?_eq_getElem hj⟩
theorem cut_length (H : Hp) (ids : List Nat) : ∀ l, (cut H ids l).length = l.length
  | [] => rfl
  | _ :: r => by simp [cut, cut_length H ids r]
theorem cut_get (H : Hp) (ids : List Nat) : ∀ l j, hget (cut H ids l) j = (match lget l j with
    | some n => (hget H n).map (Blk.ren (idxN ids))
    | none => none)
  | [], j => rfl
  | n :: r, 0 => by
    simp only [cut, hget, lget]
    cases hget H n <;> rfl
  | n :: r, j + 1 => by
    simp only [cut, hget, lget]
    exact cut_get H ids r j
def rhoIn (ρ : Nat → Option Loc) (ids : List Nat) : Nat → Option Loc := fun j => match lget ids j with
  | some n => ρ n
  | none => none
theorem rhoIn_through (ρ : Nat → Option Loc) (ids : List Nat) : Through ρ (idxN ids) (rhoIn ρ ids) := by
  intro i j h
  unfold rhoIn
  rw [idxN_lget h]
theorem lgetD_renL (g : Nat → Option Nat) : ∀ (xs : List V) (j : Nat), lgetD .unk (V.renL g xs) j = (lgetD .unk xs j).ren g
  | [], j => by simp [V.renL, lgetD, V.ren]
  | x :: r, 0 => by simp [V.renL, lgetD]
  | x :: r, j + 1 => by simp only [V.renL, lgetD]; exact lgetD_renL g r j
theorem renL_length (g : Nat → Option Nat) : ∀ (xs : List V), (V.renL g xs).length = xs.length
  | [] => by simp [V.renL]
  | x :: r => by simp [V.renL, renL_length g r]
theorem Cells.ren_len (g : Nat → Option Nat) (c : Cells) : (c.ren g).len = c.len := by
  cases c <;> simp [Cells.ren, Cells.len, renL_length]
theorem colAt_ren (g : Nat → Option Nat) (ks : List SK) (xs : List (List Sc)) (row col : Nat) : (colAt ks xs row col).ren g = colAt ks xs row col := by
  unfold colAt
  cases lget ks col with
  | none => simp [V.ren]
  | some k => cases k <;> simp [SK.val, V.ren]
theorem colAt_ids (ks : List SK) (xs : List (List Sc)) (row col : Nat) : (colAt ks xs row col).ids = [] := by
  unfold colAt
  cases lget ks col with
  | none => simp [V.ids]
  | some k => cases k <;> simp [SK.val, V.ids]
theorem Cells.ren_at (g : Nat → Option Nat) (c : Cells) (j : Nat) : (c.ren g).at j = (c.at j).ren g := by
  cases c <;> simp [Cells.ren, Cells.at, lgetD_renL, V.ren, colAt_ren]
theorem BlkR.ren {ρ ρ' : Nat → Option Loc} {g : Nat → Option Nat} {l : Loc} {B : Blk} {w : World} (h : Through ρ g ρ') (hb : BlkR ρ l B w) : BlkR ρ' l (B.ren g) w := by
  obtain ⟨cs, e, fr, h1, h2, h3⟩ := hb
  refine ⟨cs, e, fr, h1, fun j hj => ?_, h3⟩
  obtain ⟨v, a, b, c⟩ := h2 j (by simpa [Blk.ren, Cells.ren_len] using hj)
  exact ⟨v, a, b, by simp only [Blk.ren, Cells.ren_at]; exact V.R_ren h _ _ c⟩
theorem idsL_lgetD : ∀ (xs : List V) (j n : Nat), n ∈ (lgetD .unk xs j).ids → n ∈ V.idsL xs
  | [], j, n, h => by simp [lgetD, V.ids] at h
  | x :: r, 0, n, h => by simp only [V.idsL, List.mem_append]; exact .inl h
  | x :: r, j + 1, n, h => by simp only [V.idsL, List.mem_append]; exact .inr (idsL_lgetD r j n h)
theorem Cells.ids_at (c : Cells) (j n : Nat) (h : n ∈ (c.at j).ids) : n ∈ c.ids := by
  cases c <;> simp only [Cells.at, V.ids, colAt_ids, List.not_mem_nil] at h
  exact idsL_lgetD _ _ _ h
theorem BlkR.back {ρ ρ' : Nat → Option Loc} {ids : List Nat} {l : Loc} {B : Blk} {w : World} (h : Through ρ (idxN ids) ρ') (hk : ∀ n ∈ B.c.ids, memN ids n = true) (hb : BlkR ρ' l (B.ren (idxN ids)) w) : BlkR ρ l B w := by
  obtain ⟨cs, e, fr, h1, h2, h3⟩ := hb
  refine ⟨cs, e, fr, h1, fun j hj => ?_, h3⟩
  obtain ⟨v, a, b, c⟩ := h2 j (by simpa [Blk.ren, Cells.ren_len] using hj)
  simp only [Blk.ren, Cells.ren_at] at c
  exact ⟨v, a, b, V.R_back h _ _ (knows_of fun n hn => hk n (Cells.ids_at _ _ _ hn)) c⟩
theorem idsOf_mem {H : Hp} : ∀ {l : List Nat} {n : Nat} {B : Blk} {m : Nat}, n ∈ l → hget H n = some B → m ∈ B.c.ids → m ∈ idsOf H l
  | [], n, B, m, h, _, _ => by cases h
  | x :: r, n, B, m, h, hB, hm => by
    unfold idsOf
    cases h with
    | head => rw [hB]; simp [hm]
    | tail _ h =>
      have ih := idsOf_mem h hB hm
      cases hget H x with
      | some D => simp [ih]
      | none => exact ih
/-- What is handed in reads within the call as outside. -/
theorem HpR.cut {ρ : Nat → Option Loc} {H : Hp} {w : World} {ids : List Nat} (hh : HpR ρ H w) (hnd : ids.Nodup) : HpR (rhoIn ρ ids) (cut H ids ids) w := by
  have src : ∀ {j B}, hget (Sx.cut H ids ids) j = some B → ∃ n D, lget ids j = some n ∧ hget H n = some D ∧ B = D.ren (idxN ids) ∧ rhoIn ρ ids j = ρ n := by
    intro j B hj
    rw [cut_get] at hj
    cases hn : lget ids j with
    | none => rw [hn] at hj; cases hj
    | some n =>
      simp only [hn] at hj
      cases hD : hget H n with
      | none => rw [hD] at hj; cases hj
      | some D =>
        rw [hD] at hj
        cases hj
        exact ⟨n, D, rfl, hD, rfl, by unfold rhoIn; rw [hn]⟩
  refine ⟨?_, ?_, ?_⟩
  · intro j B hj
    obtain ⟨n, D, h1, h2, rfl, h4⟩ := src hj
    obtain ⟨l, h5, h6⟩ := hh.blk n D h2
    exact ⟨l, h4.trans h5, h6.ren (rhoIn_through ρ ids)⟩
  · intro i j B D l m hi hj hij hw hl hm
    obtain ⟨n, B', h1, h2, rfl, h4⟩ := src hi
    obtain ⟨n', D', h1', h2', rfl, h4'⟩ := src hj
    exact hh.sep n n' B' D' l m h2 h2' (fun e => hij (lget_inj hnd h1 (e ▸ h1'))) hw (h4 ▸ hl) (h4' ▸ hm)
  · intro i hi
    rw [cut_length] at hi
    unfold rhoIn
    rw [lget_eq, List.getElem?_eq_none hi]
theorem wrOf_cut {ρ : Nat → Option Loc} {H : Hp} {ids : List Nat} {b : Nat} (h : wrOf (rhoIn ρ ids) (cut H ids ids) b) : ∃ n B l, n ∈ ids ∧ hget H n = some B ∧ B.wr = true ∧ ρ n = some l ∧ l.b = b := by
  obtain ⟨j, B, l, h1, h2, h3, h4⟩ := h
  rw [cut_get] at h1
  cases hn : lget ids j with
  | none => rw [hn] at h1; cases h1
  | some n =>
    simp only [hn] at h1
    cases hD : hget H n with
    | none => rw [hD] at h1; cases h1
    | some D =>
      rw [hD] at h1
      cases h1
      exact ⟨n, D, l, lget_mem hn, hD, h2, by unfold rhoIn at h3; rw [hn] at h3; exact h3, h4⟩
theorem wrOf_of_cut {ρ : Nat → Option Loc} {H : Hp} {ids : List Nat} {b : Nat} (h : wrOf (rhoIn ρ ids) (cut H ids ids) b) : wrOf ρ H b := by
  obtain ⟨n, B, l, _, h1, h2, h3, h4⟩ := wrOf_cut h
  exact ⟨n, B, l, h1, h2, h3, h4⟩
theorem callQ_sound {C : Ctx} (hC : CtxOK P C) {ρ : Nat → Option Loc} {H : Hp} {w : World} {f : FuncId} {args : List V} {vs : List Value} {v : V} (hh : HpR ρ H w) (ha : V.Rs ρ args vs)
    (h : (callQ C H f args).get = some v) : CallOK P f vs.toArray w fun c w' => V.R ρ v c ∧ HpR ρ H w' ∧ WExt w (wrOf ρ H) w' := by
  unfold callQ at h
  split at h
  · rename_i F hF
    have hok : OKq P f F := hC.fn f _ hF
    dsimp only at h
    obtain ⟨ext, he, hext, hnd⟩ := reach_ext H [] (below C.g ++ V.idsL args)
    rw [List.nil_append] at he
    generalize reach H [] (below C.g ++ V.idsL args) = ids at h he
    subst he
    split at h
    · rename_i hk
      obtain ⟨v0, h1, h2⟩ := T.get_bind _ _ _ h
      cases h2
      refine (hok _ _ _ h1 (rhoIn ρ ids) w vs (V.Rs_ren (rhoIn_through ρ ids) _ _ ha) (hh.cut hnd)).mono ?_
      rintro c w' ⟨hr, hc, hw⟩
      have hback : Through (rhoIn ρ ids) (lget ids) ρ := by
        intro i j hij
        unfold rhoIn
        rw [hij]
      refine ⟨V.R_ren hback _ _ hr, ⟨?_, hh.sep, hh.dom⟩, hw.mono fun b _ hb => wrOf_of_cut hb⟩
      intro i B hi
      obtain ⟨l, h3, h4⟩ := hh.blk i B hi
      refine ⟨l, h3, ?_⟩
      by_cases hm : i ∈ ids
      · obtain ⟨j, hj⟩ := mem_lget hm
        have hcj : hget (cut H ids ids) j = some (B.ren (idxN ids)) := by rw [cut_get, hj]; simp [hi]
        obtain ⟨l', h5, h6⟩ := hc.blk j _ hcj
        have : rhoIn ρ ids j = some l := by unfold rhoIn; rw [hj]; exact h3
        rw [this] at h5
        cases h5
        exact h6.back (rhoIn_through ρ ids) fun n hn => knows_mem hk n (idsOf_mem hm hi hn)
      · refine h4.world (hw.old l.b h4.lt fun hb => ?_)
        obtain ⟨n, D, m, h5, h6, h7, h8, h9⟩ := wrOf_cut hb
        exact hh.sep n i D B m l h6 hi (fun e => hm (e ▸ h5)) h7 h8 h3 h9
    · cases h
  · cases h
theorem hget_map (g : Nat → Option Nat) : ∀ (H : Hp) (i : Nat), hget (H.map (renO g)) i = (hget H i).map (Blk.ren g)
  | [], i => rfl
  | x :: r, 0 => by cases x <;> rfl
  | x :: r, i + 1 => hget_map g r i
theorem putBack_other (g : Nat → Option Nat) : ∀ (ids : List Nat) (H H2 : Hp) (i : Nat), i < H.length → i ∉ ids → hget (putBack g H ids H2) i = hget H i
  | [], H, H2, i, hi, _ => by simp only [putBack]; exact hget_app_lt hi
  | n :: r, H, [], i, hi, hm => rfl
  | n :: r, H, x :: H2, i, hi, hm => by
    simp only [putBack]
    rw [putBack_other g r (hset H n (renO g x)) H2 i (by rw [hset_length]; exact hi) (fun h => hm (by simp [h]))]
    exact hget_hset_ne fun e => hm (by simp [e])
theorem putBack_at (g : Nat → Option Nat) : ∀ (ids : List Nat) (H H2 : Hp) (j n : Nat), ids.Nodup → lget ids j = some n → n < H.length → j < H2.length → hget (putBack g H ids H2) n = (hget H2 j).map (Blk.ren g)
  | [], H, H2, j, n, _, h, _, _ => by cases h
  | m :: r, H, [], j, n, _, h, _, hj => by simp at hj
  | m :: r, H, x :: H2, 0, n, hnd, h, hn, hj => by
    cases h
    simp only [putBack]
    rw [putBack_other g r _ _ _ (by rw [hset_length]; exact hn) (List.nodup_cons.1 hnd).1, hget_hset_same hn]
    cases x <;> rfl
  | m :: r, H, x :: H2, j + 1, n, hnd, h, hn, hj => by
    simp only [putBack]
    exact putBack_at g r _ H2 j n (List.nodup_cons.1 hnd).2 h (by rw [hset_length]; exact hn) (by simpa using hj)
theorem putBack_new (g : Nat → Option Nat) : ∀ (ids : List Nat) (H H2 : Hp) (i : Nat), H.length ≤ i → ids.length ≤ H2.length → hget (putBack g H ids H2) i = (hget H2 (ids.length + (i - H.length))).map (Blk.ren g)
  | [], H, H2, i, hi, _ => by
    simp only [putBack]
    rw [hget_app_ge hi, hget_map]
    simp
  | n :: r, H, [], i, hi, hl => by simp at hl
  | n :: r, H, x :: H2, i, hi, hl => by
    simp only [putBack]
    rw [putBack_new g r _ H2 i (by rw [hset_length]; exact hi) (by simpa using hl), hset_length]
    have : (n :: r).length + (i - H.length) = (r.length + (i - H.length)) + 1 := by simp; omega
    rw [this]
    rfl
theorem putBack_length (g : Nat → Option Nat) : ∀ (ids : List Nat) (H H2 : Hp), ids.length ≤ H2.length → (putBack g H ids H2).length = H.length + (H2.length - ids.length)
  | [], H, H2, _ => by simp [putBack]
  | n :: r, H, [], hl => by simp at hl
  | n :: r, H, x :: H2, hl => by
    simp only [putBack]
    rw [putBack_length g r _ H2 (by simpa using hl), hset_length]
    simp
theorem callE_sound {C : Ctx} (hC : CtxOK P C) {ρ : Nat → Option Loc} {H : Hp} {w : World} {f : FuncId} {args : List V} {vs : List Value} {r : V × Hp} (hh : HpR ρ H w) (ha : V.Rs ρ args vs)
    (h : (callE C H f args).get = some r) : CallOK P f vs.toArray w fun c w' => ∃ ρ', V.R ρ' r.1 c ∧ Left ρ H w ρ' r.2 w' := by
  unfold callE at h
  split at h
  · obtain ⟨v, h1, h2⟩ := T.get_bind _ _ _ h
    cases h2
    exact (callQ_sound hC hh ha h1).mono fun c w' ⟨h3, h4, h5⟩ => ⟨ρ, h3, Left.quiet hh h4 h5⟩
  · rename_i F hF
    have hok : OKe P f F := hC.fn f _ hF
    dsimp only at h
    obtain ⟨ext, he, hext, hnd⟩ := reach_ext H [] (below C.g ++ V.idsL args)
    rw [List.nil_append] at he
    generalize reach H [] (below C.g ++ V.idsL args) = ids at h he
    subst he
    obtain ⟨⟨v0, H2⟩, h1, h2⟩ := T.get_bind _ _ _ h
    cases h2
    refine (hok _ _ _ h1 (rhoIn ρ ids) w vs (V.Rs_ren (rhoIn_through ρ ids) _ _ ha) (hh.cut hnd)).mono ?_
    rintro c w' ⟨ρc, hr, hL⟩
    dsimp only at hr hL ⊢
    have hlen : ids.length ≤ H2.length := by have := hL.len; rwa [cut_length] at this
    have hlt : ∀ {j n}, lget ids j = some n → n < H.length := fun hj => let ⟨_, B, hB⟩ := hext _ (lget_mem hj); hget_lt hB
    let ρ' : Nat → Option Loc := fun i => if i < H.length then ρ i else ρc (ids.length + (i - H.length))
    have hold : ∀ i, i < H.length → ρ' i = ρ i := fun i hi => if_pos hi
    have hnew : ∀ i, H.length ≤ i → ρ' i = ρc (ids.length + (i - H.length)) := fun i hi => if_neg (by omega)
    have hcs : ∀ {j n}, lget ids j = some n → ρc j = ρ n := by
      intro j n hj
      rw [hL.same j (by rw [cut_length]; exact lget_lt hj)]
      unfold rhoIn
      rw [hj]
    have hth : Through ρc (outN ids H.length) ρ' := by
      intro j i hji
      unfold outN at hji
      cases hb : Nat.blt j ids.length with
      | true =>
        rw [hb] at hji
        rw [hold i (hlt hji), hcs hji]
      | false =>
        rw [hb] at hji
        cases hji
        have hge : ids.length ≤ j := by
          rcases Nat.lt_or_ge j ids.length with h | h
          · have hb' : Nat.blt j ids.length = true := Nat.ble_eq_true_of_le h
            rw [hb] at hb'; cases hb'
          · exact h
        rw [hnew _ (by omega)]
        congr 1
        omega
    have hmono : ∀ i l, ρ i = some l → ρ' i = some l := fun i l hi => by rw [hold i (dom_lt hh hi)]; exact hi
    have src : ∀ {i B}, hget (putBack (outN ids H.length) H ids H2) i = some B →
        (i < H.length ∧ i ∉ ids ∧ hget H i = some B ∧ ρ' i = ρ i) ∨ (∃ j B2, hget H2 j = some B2 ∧ B = B2.ren (outN ids H.length) ∧ ρ' i = ρc j ∧ outN ids H.length j = some i) := by
      intro i B hi
      rcases Nat.lt_or_ge i H.length with h3 | h3
      · by_cases hm : i ∈ ids
        · obtain ⟨j, hj⟩ := mem_lget hm
          have hjl := lget_lt hj
          rw [putBack_at _ ids H H2 j i hnd hj h3 (by omega)] at hi
          cases hB : hget H2 j with
          | none => rw [hB] at hi; cases hi
          | some B2 =>
            rw [hB] at hi
            cases hi
            refine .inr ⟨j, B2, hB, rfl, by rw [hold i h3, hcs hj], ?_⟩
            unfold outN
            rw [show Nat.blt j ids.length = true from Nat.ble_eq_true_of_le hjl]
            exact hj
        · rw [putBack_other _ ids H H2 i h3 hm] at hi
          exact .inl ⟨h3, hm, hi, hold i h3⟩
      · rw [putBack_new _ ids H H2 i h3 hlen] at hi
        cases hB : hget H2 (ids.length + (i - H.length)) with
        | none => rw [hB] at hi; cases hi
        | some B2 =>
          rw [hB] at hi
          cases hi
          refine .inr ⟨_, B2, hB, rfl, hnew i h3, ?_⟩
          unfold outN
          rw [show Nat.blt (ids.length + (i - H.length)) ids.length = false from by
            cases hb : Nat.blt (ids.length + (i - H.length)) ids.length with
            | false => rfl
            | true => have := Nat.le_of_ble_eq_true hb; omega]
          simp only
          congr 1
          omega
    -- a block that was not handed in and one that the call left
    have apart : ∀ {i B l}, i < H.length → i ∉ ids → hget H i = some B → ρ i = some l → ∀ {j B2 m}, hget H2 j = some B2 → ρc j = some m → (B.wr = true ∨ B2.wr = true) → l.b ≠ m.b := by
      intro i B l hi hm hB hl j B2 m hj hmj hwr e
      obtain ⟨l', hl', hblk⟩ := hh.blk i B hB
      rw [hl] at hl'; cases hl'
      rcases hL.mine j B2 m hj hmj with ⟨hf, D, hD⟩ | hw | hge
      · rw [cut_get] at hD
        cases hn : lget ids j with
        | none => rw [hn] at hD; cases hD
        | some n =>
          simp only [hn] at hD
          cases hE : hget H n with
          | none => rw [hE] at hD; cases hD
          | some E =>
            have hwr' : B.wr = true := hwr.resolve_right (by rw [hf]; simp)
            exact hh.sep i n B E l m hB hE (fun e' => hm (e' ▸ lget_mem hn)) hwr' hl (by rw [← hcs hn]; exact hmj) e
      · obtain ⟨n, D, m', h5, h6, h7, h8, h9⟩ := wrOf_cut hw
        exact hh.sep n i D B m' l h6 hB (fun e' => hm (e' ▸ h5)) h7 h8 hl (h9.trans e.symm)
      · have := hblk.lt
        omega
    refine ⟨ρ', V.R_ren hth _ _ hr, ⟨⟨?_, ?_, ?_⟩, hL.ext.mono fun b _ hb => wrOf_of_cut hb, hold, ?_, ?_⟩⟩
    · intro i B hi
      rcases src hi with ⟨h3, h4, h5, h6⟩ | ⟨j, B2, h3, rfl, h5, h6⟩
      · obtain ⟨l, h7, h8⟩ := hh.blk i B h5
        refine ⟨l, h6.trans h7, (h8.mono hmono).world (hL.ext.old l.b h8.lt fun hb => ?_)⟩
        obtain ⟨n, D, m, h9, h10, h11, h12, h13⟩ := wrOf_cut hb
        exact hh.sep n i D B m l h10 h5 (fun e => h4 (e ▸ h9)) h11 h12 h7 h13
      · obtain ⟨l, h7, h8⟩ := hL.hp.blk j B2 h3
        exact ⟨l, h5.trans h7, h8.ren hth⟩
    · intro i j B D l m hi hj hij hw hl hm
      rcases src hi with ⟨h3, h4, h5, h6⟩ | ⟨p, B2, h3, rfl, h5, h6⟩
      · rcases src hj with ⟨k3, k4, k5, k6⟩ | ⟨q, D2, k3, rfl, k5, k6⟩
        · exact hh.sep i j B D l m h5 k5 hij hw (h6 ▸ hl) (k6 ▸ hm)
        · exact apart h3 h4 h5 (h6 ▸ hl) k3 (k5 ▸ hm) (.inl hw)
      · rcases src hj with ⟨k3, k4, k5, k6⟩ | ⟨q, D2, k3, rfl, k5, k6⟩
        · exact fun e => apart k3 k4 k5 (k6 ▸ hm) h3 (h5 ▸ hl) (.inr hw) e.symm
        · refine hL.hp.sep p q B2 D2 l m h3 k3 (fun e => hij ?_) hw (h5 ▸ hl) (k5 ▸ hm)
          subst e
          rw [h6] at k6
          cases k6
          rfl
    · intro i hi
      rw [putBack_length _ _ _ _ hlen] at hi
      rw [hnew i (by omega)]
      exact hL.hp.dom _ (by omega)
    · intro i B l hi hl
      rcases src hi with ⟨h3, h4, h5, h6⟩ | ⟨j, B2, h3, rfl, h5, h6⟩
      · cases hw : B.wr with
        | false => exact .inl ⟨rfl, B, h5⟩
        | true => exact .inr (.inl ⟨i, B, l, h5, hw, h6 ▸ hl, rfl⟩)
      · rcases hL.mine j B2 l h3 (h5 ▸ hl) with ⟨hf, D, hD⟩ | hw | hge
        · rw [cut_get] at hD
          cases hn : lget ids j with
          | none => rw [hn] at hD; cases hD
          | some n =>
            simp only [hn] at hD
            cases hE : hget H n with
            | none => rw [hE] at hD; cases hD
            | some E =>
              have : n = i := by
                unfold outN at h6
                rw [show Nat.blt j ids.length = true from Nat.ble_eq_true_of_le (lget_lt hn)] at h6
                rw [hn] at h6
                cases h6
                rfl
              subst this
              exact .inl ⟨hf, E, hE⟩
        · exact .inr (.inl (wrOf_of_cut hw))
        · exact .inr (.inr hge)
    · rw [putBack_length _ _ _ _ hlen]
      omega
  · cases h
end Go.Proofs.Ytkfpmiggolmabaa.Sx
