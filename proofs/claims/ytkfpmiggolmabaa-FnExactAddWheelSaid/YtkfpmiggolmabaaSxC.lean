/- The abstract execution is sound: code, loops, functions. -/
import Derived.Test.YtkfpmiggolmabaaSxB
namespace Go.Proofs.Ytkfpmiggolmabaa.Sx
open Go Go.RowKit
set_option linter.unusedVariables false
set_option linter.unusedSimpArgs false
variable {P : Program}

structure Gl where
  w0 : World
  ρ0 : Nat → Option Loc
  H0 : Hp
  n : Nat
structure StR (G : Gl) (ρ : Nat → Option Loc) (st : St) (a : Act) (w : World) : Prop where
  fr : FR ρ st.fr a.tmps
  hp : HpR ρ st.H w
  sz : a.tmps.size = G.n
  df : a.defers = []
  ext : WExt G.w0 (wrOf G.ρ0 G.H0) w
  ow : ∀ i B l, hget st.H i = some B → ρ i = some l → (B.wr = false ∧ ∃ D, hget G.H0 i = some D) ∨ wrOf G.ρ0 G.H0 l.b ∨ G.w0.heap.size ≤ l.b
  ag : ∀ i, i < G.H0.length → ρ i = G.ρ0 i
  len : G.H0.length ≤ st.H.length
section
variable {G : Gl} {ρ ρ' : Nat → Option Loc} {st : St} {a : Act} {w w' : World}
theorem fget_cons {t s : Nat} {v : V} {fr : List (Nat × V)} : fget ((t, v) :: fr) s = if t = s then some v else fget fr s := by
  show (match Nat.beq t s with | true => some v | false => fget fr s) = _
  by_cases h : t = s
  · subst h
    rw [Nat.beq_refl, if_pos rfl]
  · have : Nat.beq t s = false := by
      cases hb : Nat.beq t s with
      | false => rfl
      | true => exact absurd (Nat.eq_of_beq_eq_true hb) h
    rw [this, if_neg h]
theorem StR.know (h : StR G ρ st a w) {t : Nat} {g : Bool} (hg : fget st.fr t = some (.bo g)) : StR G ρ { st with fr := (t, .kb g) :: st.fr } a w :=
  ⟨fun s v hs => by
    rw [fget_cons] at hs
    split at hs
    · rename_i e
      subst e
      cases hs
      obtain ⟨c, h1, h2⟩ := h.fr t _ hg
      exact ⟨c, h1, by simpa only [V.R] using h2⟩
    · exact h.fr s v hs, h.hp, h.sz, h.df, h.ext, h.ow, h.ag, h.len⟩
theorem StR.step (h : StR G ρ st a w) {H' : Hp} (hL : Left ρ st.H w ρ' H' w') {d : Option Nat} {v : V} {c : Value} {fr : List (Nat × V)} {C : Ctx} (hn : C.n = G.n) (hp : putD C d v st.fr = some fr) (hr : V.R ρ' v c) :
    StR G ρ' { fr := fr, H := H' } (a.put d c) w' := by
  have hm := hL.mono h.hp
  refine ⟨?_, hL.hp, ?_, ?_, ?_, ?_, ?_, Nat.le_trans h.len hL.len⟩
  · cases d with
    | none =>
      cases hp
      intro s u hs
      obtain ⟨c', h1, h2⟩ := h.fr s u hs
      exact ⟨c', h1, V.R_mono hm _ _ h2⟩
    | some t =>
      unfold putD at hp
      dsimp only at hp
      split at hp
      · rename_i hb
        cases hp
        have hlt : t < a.tmps.size := by
          rw [h.sz, ← hn]
          exact Nat.le_of_ble_eq_true hb
        intro s u hs
        dsimp only at hs
        rw [fget_cons] at hs
        split at hs
        · rename_i e
          subst e
          cases hs
          exact ⟨c, by simp [Act.put, hlt], hr⟩
        · rename_i e
          obtain ⟨c', h1, h2⟩ := h.fr s u hs
          exact ⟨c', by simp only [Act.put, Array.getElem?_setIfInBounds, if_neg e]; exact h1, V.R_mono hm _ _ h2⟩
      · cases hp
  · cases d <;> simp [Act.put, h.sz]
  · cases d <;> exact h.df
  · refine h.ext.trans hL.ext fun b hb hw => ?_
    obtain ⟨i, B, l, h1, h2, h3, rfl⟩ := hw
    rcases h.ow i B l h1 h3 with ⟨h4, _⟩ | h4 | h4
    · rw [h2] at h4; cases h4
    · exact h4
    · omega
  · intro i B l h1 h2
    rcases hL.mine i B l h1 h2 with ⟨h3, D, h4⟩ | ⟨j, B', l', h3, h4, h5, h6⟩ | h3
    · have hi := hget_lt h4
      obtain ⟨m, h5, h6⟩ := h.hp.blk i D h4
      have h7 := hm i m h5
      rw [h2] at h7; cases h7
      rcases h.ow i D l h4 h5 with ⟨_, h8⟩ | h8
      · exact .inl ⟨h3, h8⟩
      · exact .inr h8
    · rcases h.ow j B' l' h3 h5 with ⟨h7, _⟩ | h7
      · rw [h4] at h7; cases h7
      · rw [h6] at h7; exact .inr h7
    · exact .inr (.inr (Nat.le_trans h.ext.size h3))
  · intro i hi
    rw [hL.same i (Nat.lt_of_lt_of_le hi h.len)]
    exact h.ag i hi
theorem below_get : ∀ (k i : Nat), i < k → lget (below k) i = some i := by
  intro k
  induction k with
  | zero => intro i hi; omega
  | succ k ih =>
    intro i hi
    have hl : (below k).length = k := by
      clear ih hi
      induction k with
      | zero => rfl
      | succ k ih => simp [below, ih]
    simp only [below, lget_eq]
    rcases Nat.lt_or_ge i k with h | h
    · rw [List.getElem?_append_left (by omega), ← lget_eq]
      exact ih i h
    · have : i = k := by omega
      subst this
      rw [List.getElem?_append_right (by omega), hl]
      simp
theorem below_length : ∀ k, (below k).length = k
  | 0 => rfl
  | k + 1 => by simp [below, below_length k]
theorem below_mem : ∀ {k n : Nat}, n ∈ below k ↔ n < k
  | 0, n => by simp [below]
  | k + 1, n => by
    simp only [below, List.mem_append, List.mem_singleton, below_mem (k := k)]
    omega
theorem below_nodup : ∀ k, (below k).Nodup
  | 0 => List.nodup_nil
  | k + 1 => List.nodup_append.2 ⟨below_nodup k, by simp, fun a ha b hb e => by
      simp at hb
      have := below_mem.1 ha
      omega⟩
theorem pickS_zip (g : Nat → Option Nat) {fr : List (Nat × V)} : ∀ {l : List Nat} {vs : List V}, pickS fr l = some vs → ∀ t u, fget (zipS l (V.renL g vs)) t = some u → ∃ v, u = v.ren g ∧ fget fr t = some v
  | [], vs, h, t, u, hu => by cases h; cases hu
  | s :: r, vs, h, t, u, hu => by
    simp only [pickS] at h
    split at h
    · rename_i v vs' h1 h2
      cases h
      simp only [V.renL, zipS] at hu
      rw [fget_cons] at hu
      split at hu
      · rename_i e
        subst e
        cases hu
        exact ⟨v, rfl, h1⟩
      · exact pickS_zip g h2 t u hu
    · cases h
theorem pickS_length {fr : List (Nat × V)} : ∀ {l : List Nat} {vs : List V}, pickS fr l = some vs → vs.length = l.length
  | [], vs, h => by cases h; rfl
  | s :: r, vs, h => by
    simp only [pickS] at h
    split at h
    · rename_i v vs' h1 h2
      cases h
      simp [pickS_length h2]
    · cases h
/-- What nothing leads to may be forgotten. -/
theorem pickO_zip (g : Nat → Option Nat) {fr : List (Nat × V)} : ∀ {l : List Nat}, ∀ t u, fget (zipO l (V.renL g (pickO fr l))) t = some u → ∃ v, u = v.ren g ∧ fget fr t = some v
  | [], t, u, hu => by cases hu
  | s :: r, t, u, hu => by
    have ih := @pickO_zip g fr r t u
    have key : ∀ v : V, (fget fr s = some v ∨ v = .unk) → fget (match v.ren g with
        | .unk => zipO r (V.renL g (pickO fr r))
        | v => (s, v) :: zipO r (V.renL g (pickO fr r))) t = some u → ∃ v, u = v.ren g ∧ fget fr t = some v := by
      intro v hv hq
      split at hq
      · exact ih hq
      · rename_i hne
        rw [fget_cons] at hq
        split at hq
        · rename_i e
          subst e
          cases hq
          rcases hv with hv | rfl
          · exact ⟨v, rfl, hv⟩
          · exact absurd rfl hne
        · exact ih hq
    simp only [pickO, V.renL, zipO] at hu
    cases hf : fget fr s with
    | some v => rw [hf] at hu; exact key v (.inl hf) hu
    | none => rw [hf] at hu; exact key .unk (.inr rfl) hu
theorem StR.gcG (z : List Nat → List V → List (Nat × V)) (h : StR G ρ st a w) (vs : List V) (l : List Nat) (hl : ∀ g t u, fget (z l (V.renL g vs)) t = some u → ∃ v, u = v.ren g ∧ fget st.fr t = some v) {k : Nat} (hk : G.H0.length = k) :
    ∃ ρ', StR G ρ' { fr := z l (gc k vs st.H).1, H := (gc k vs st.H).2 } a w ∧ (∀ us cs, V.Rs ρ us cs → V.Rs ρ' (V.renL (idxN (reach st.H (below k) (V.idsL vs))) us) cs) := by
  obtain ⟨ext, he, hext, hnd⟩ := reach_ext st.H (below k) (V.idsL vs)
  have hids : (reach st.H (below k) (V.idsL vs)).Nodup := by
    rw [he]
    exact List.nodup_append.2 ⟨below_nodup k, hnd, fun a ha b hb e => (hext b hb).1 (e ▸ ha)⟩
  have hlow : ∀ i, i < k → lget (reach st.H (below k) (V.idsL vs)) i = some i := by
    intro i hi
    rw [he, lget_eq, List.getElem?_append_left (by rw [below_length]; exact hi), ← lget_eq]
    exact below_get k i hi
  have hlen : k ≤ (reach st.H (below k) (V.idsL vs)).length := by
    rw [he, List.length_append, below_length]
    omega
  simp only [Sx.gc]
  generalize reach st.H (below k) (V.idsL vs) = ids at hids hlow hlen ⊢
  refine ⟨rhoIn ρ ids, ⟨?_, h.hp.cut hids, h.sz, h.df, h.ext, ?_, ?_, ?_⟩, fun us cs hr => V.Rs_ren (rhoIn_through ρ ids) us cs hr⟩
  · intro t u hu
    obtain ⟨v, rfl, h1⟩ := hl (idxN ids) t u hu
    obtain ⟨c, h2, h3⟩ := h.fr t v h1
    exact ⟨c, h2, V.R_ren (rhoIn_through ρ ids) _ _ h3⟩
  · intro j B m h1 h2
    dsimp only at h1
    rw [cut_get] at h1
    cases hn : lget ids j with
    | none => rw [hn] at h1; cases h1
    | some n =>
      simp only [hn] at h1
      cases hD : hget st.H n with
      | none => rw [hD] at h1; cases h1
      | some D =>
        rw [hD] at h1
        cases h1
        have h2' : ρ n = some m := by unfold rhoIn at h2; rw [hn] at h2; exact h2
        rcases h.ow n D m hD h2' with ⟨h3, E, h4⟩ | h3
        · have hlt := hget_lt h4
          have := lget_inj hids hn (hlow n (by omega))
          subst this
          exact .inl ⟨h3, E, h4⟩
        · exact .inr h3
  · intro i hi
    unfold rhoIn
    rw [hlow i (by omega)]
    exact h.ag i hi
  · dsimp only
    rw [cut_length]
    omega
theorem StR.gc (h : StR G ρ st a w) (vs : List V) (l : List Nat) (hl : pickS st.fr l = some vs) {k : Nat} (hk : G.H0.length = k) :
    ∃ ρ', StR G ρ' { fr := zipS l (gc k vs st.H).1, H := (gc k vs st.H).2 } a w ∧ (∀ us cs, V.Rs ρ us cs → V.Rs ρ' (V.renL (idxN (reach st.H (below k) (V.idsL vs))) us) cs) :=
  h.gcG zipS vs l (fun g t u hu => pickS_zip g hl t u hu) hk
theorem StR.gcO (h : StR G ρ st a w) (l : List Nat) {k : Nat} (hk : G.H0.length = k) :
    ∃ ρ', StR G ρ' { fr := zipO l (Sx.gc k (pickO st.fr l) st.H).1, H := (Sx.gc k (pickO st.fr l) st.H).2 } a w ∧ (∀ us cs, V.Rs ρ us cs → V.Rs ρ' (V.renL (idxN (reach st.H (below k) (V.idsL (pickO st.fr l)))) us) cs) :=
  h.gcG zipO (pickO st.fr l) l (fun g t u hu => pickO_zip g t u hu) hk
end
theorem dstOf_eq : ∀ (l : List Oper) (j : Nat), dstOf l j = (l[j]?).bind (·.dst)
  | [], j => by simp [dstOf]
  | o :: r, 0 => by simp [dstOf]
  | o :: r, j + 1 => by simp [dstOf, dstOf_eq r j]
theorem execOps_sound {α : Type} {C : Ctx} (hC : CtxOK P C) {G : Gl} (hn : C.n = G.n) {all : List Oper} {k : St → T α} {r : α} {Q : Exit → Act → World → Prop}
    (hk : ∀ st ρ a w, (k st).get = some r → StR G ρ st a w → Q .normal a w) : ∀ (ops : List Oper) (st : St) (ρ : Nat → Option Loc) (a : Act) (w : World), (execOps C all ops st k).get = some r → StR G ρ st a w → wpList P all.toArray Q ops a w
  | [], st, ρ, a, w, h, hs => hk st ρ a w h hs
  | o :: rest, st, ρ, a, w, h, hs => by
    have yes : ∀ st, StR G ρ st a w → Region.wanted o (yielded all.toArray a.tmps) = true → ((opE C st.fr st.H o.op).bind fun vH => match putD C o.dst vH.1 st.fr with
        | some fr => execOps C all rest { fr := fr, H := vH.2 } k
        | none => .bad).get = some r → wpList P all.toArray Q (o :: rest) a w := by
      intro st hs hw h
      unfold wpList
      rw [if_pos hw]
      obtain ⟨vH, h1, h2⟩ := T.get_bind _ _ _ h
      refine .inl (opE_sound hC hs.fr hs.hp h1 fun c ρ' w' hr hL => ?_)
      split at h2
      · rename_i fr hfr
        exact execOps_sound hC hn hk rest _ ρ' _ w' h2 (hs.step hL hn hfr hr)
      · cases h2
    have no : ∀ st, StR G ρ st a w → Region.wanted o (yielded all.toArray a.tmps) = false → (match putD C o.dst (.tup []) st.fr with
        | some fr => execOps C all rest { fr := fr, H := st.H } k
        | none => .bad).get = some r → wpList P all.toArray Q (o :: rest) a w := by
      intro st hs hw h
      unfold wpList
      rw [if_neg (by rw [hw]; simp)]
      split at h
      · rename_i fr hfr
        exact execOps_sound hC hn hk rest _ ρ _ w h (hs.step (Left.gr hs.hp (WExt.refl w _)) hn hfr (by simp only [V.R]; exact ⟨#[], rfl, by simp only [V.Rs]⟩))
      · cases h
    unfold execOps guardX at h
    split at h
    · rename_i hg
      exact yes st hs (by simp [Region.wanted, hg]) h
    · rename_i j want hg
      split at h
      · cases h
      · rename_i t ht
        have hyield : ∀ {v : V} {c : Value}, a.tmps[t]? = some c → yielded all.toArray a.tmps j = (match c with | .bool b => some b | _ => none) := by
          intro v c hc
          have hd : ((all.toArray)[j]?).bind (·.dst) = some t := by rw [← ht, dstOf_eq]; simp
          unfold yielded
          rw [hd]
          simp only [Option.bind_some, hc]
          cases c <;> rfl
        split at h
        · rename_i g hv
          obtain ⟨c, hc1, hc2⟩ := hs.fr t _ hv
          simp only [V.R] at hc2
          subst hc2
          have hy := hyield (v := .kb g) hc1
          split at h
          · rename_i heq
            refine yes st hs ?_ h
            simp only [Region.wanted, hg, hy]
            simpa using heq
          · rename_i heq
            refine no st hs ?_ h
            simp only [Region.wanted, hg, hy]
            simpa using heq
        · rename_i g hv
          obtain ⟨c, hc1, hc2⟩ := hs.fr t _ hv
          simp only [V.R] at hc2
          subst hc2
          have hy := hyield (v := .kb g) hc1
          have hkn := hs.know hv
          cases want <;> cases g
          · exact yes _ hkn (by simp only [Region.wanted, hg, hy]; rfl) h
          · exact no _ hkn (by simp only [Region.wanted, hg, hy]; rfl) h
          · exact no _ hkn (by simp only [Region.wanted, hg, hy]; rfl) h
          · exact yes _ hkn (by simp only [Region.wanted, hg, hy]; rfl) h
        · rename_i hv
          obtain ⟨c, hc1, hc2⟩ := hs.fr t _ hv
          simp only [V.R] at hc2
          obtain ⟨cs, rfl, _⟩ := hc2
          have hy := hyield (v := .tup []) hc1
          exact no st hs (by simp only [Region.wanted, hg, hy]; cases want <;> rfl) h
        · cases h
end Go.Proofs.Ytkfpmiggolmabaa.Sx
