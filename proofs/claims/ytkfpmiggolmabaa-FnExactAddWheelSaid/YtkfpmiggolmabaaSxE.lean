/- The abstract execution: typed trees, loops over typed states, how contracts are put together. -/
import Derived.Test.YtkfpmiggolmabaaSxD
namespace Go.Proofs.Ytkfpmiggolmabaa.Sx
open Go Go.RowKit
set_option linter.unusedVariables false
set_option linter.unusedSimpArgs false

/-! ### Trees -/
section
variable {α β : Type}
/-- No way ends in nothing. -/
def T.nb : T α → Bool
  | .leaf _ => true
  | .br _ t e => t.nb && e.nb
  | .bad => false
theorem T.ok_of_nb : ∀ {t : T α}, t.nb = true → t.ok = true
  | .leaf a, _ => rfl
  | .br true t e, h => T.ok_of_nb (t := t) (by simp only [T.nb, Bool.and_eq_true] at h; exact h.1)
  | .br false t e, h => T.ok_of_nb (t := e) (by simp only [T.nb, Bool.and_eq_true] at h; exact h.2)
  | .bad, h => by cases h
theorem T.get_map (t : T α) (f : α → β) : (t.map f).get = t.get.map f := by
  unfold T.map
  rw [T.get_bind_eq]
  cases t.get <;> rfl
def joinG {α : Type} : Option (Option α) → Option α → Option α
  | none, _ => none
  | some none, r => r
  | some (some v), _ => some v
theorem T.get_join {α : Type} (t : T (Option α)) (r : T α) : (t.join r).get = joinG t.get r.get := by
  unfold T.join
  rw [T.get_bind_eq]
  cases t.get with
  | none => rfl
  | some o => cases o <;> rfl
theorem joinG_none {α : Type} (r : Option α) : joinG none r = none := rfl
theorem joinG_go {α : Type} (r : Option α) : joinG (some none) r = r := rfl
theorem joinG_end {α : Type} (v : α) (r : Option α) : joinG (some (some v)) r = some v := rfl
theorem T.ok_iff : ∀ (t : T α), t.ok = t.get.isSome
  | .leaf _ => rfl
  | .br true t e => T.ok_iff t
  | .br false t e => T.ok_iff e
  | .bad => rfl
theorem T.get_of_ok [Inhabited α] {t : T α} (h : t.ok = true) : t.get = some t.val := T.get_val t h
theorem T.val_of_get [Inhabited α] : ∀ {t : T α} {a : α}, t.get = some a → t.val = a
  | .leaf b, a, h => by cases h; rfl
  | .br true t e, a, h => T.val_of_get (t := t) h
  | .br false t e, a, h => T.val_of_get (t := e) h
  | .bad, a, h => by cases h
theorem T.ok_of_get {t : T α} {a : α} (h : t.get = some a) : t.ok = true := by rw [T.ok_iff, h]; rfl
/-- The first of two trees that is one. -/
def T.alt : T α → T α → T α
  | .bad, y => y
  | .leaf a, _ => .leaf a
  | .br c t e, _ => .br c t e
theorem T.alt_get {x y : T α} {r : α} (h : (x.alt y).get = some r) : x.get = some r ∨ y.get = some r := by
  cases x with
  | leaf a => exact .inl h
  | br c t e => exact .inl h
  | bad => exact .inr h
def altQ (F G : List V → Hp → T V) : List V → Hp → T V := fun args H => (F args H).alt (G args H)
def altE (F G : List V → Hp → T (V × Hp)) : List V → Hp → T (V × Hp) := fun args H => (F args H).alt (G args H)
def altL (F G : List V → Hp → T (X × List V × Hp)) : List V → Hp → T (X × List V × Hp) := fun args H => (F args H).alt (G args H)
/-- A function that only computes, as one that may do more. -/
def qE (F : List V → Hp → T V) : List V → Hp → T (V × Hp) := fun args H => (F args H).bind fun v => .leaf (v, H)
end
section
variable {P : Program}
theorem OKq.alt {f : FuncId} {F G : List V → Hp → T V} (hF : OKq P f F) (hG : OKq P f G) : OKq P f (altQ F G) := by
  intro args H v h
  rcases T.alt_get h with h | h
  · exact hF args H v h
  · exact hG args H v h
theorem OKe.alt {f : FuncId} {F G : List V → Hp → T (V × Hp)} (hF : OKe P f F) (hG : OKe P f G) : OKe P f (altE F G) := by
  intro args H v h
  rcases T.alt_get h with h | h
  · exact hF args H v h
  · exact hG args H v h
theorem OKe.of_q {f : FuncId} {F : List V → Hp → T V} (hF : OKq P f F) : OKe P f (qE F) := by
  intro args H r h ρ w vs ha hh
  obtain ⟨v, h1, h2⟩ := T.get_bind _ _ _ h
  cases h2
  exact (hF args H v h1 ρ w vs ha hh).mono fun c w' ⟨h3, h4, h5⟩ => ⟨ρ, h3, Left.quiet hh h4 h5⟩
def TysOK (P : Program) (l : List (Nat × TI)) : Prop := ∀ p ∈ l, TyOK P p.1 p.2
def FnsOK (P : Program) (l : List (Nat × Con)) : Prop := ∀ p ∈ l, ConOK P p.1 p.2
theorem TysOK.nil : TysOK P [] := fun p hp => by cases hp
theorem TysOK.cons {t : Nat} {ti : TI} {l : List (Nat × TI)} (h : TyOK P t ti) (hl : TysOK P l) : TysOK P ((t, ti) :: l) := fun p hp => by
  cases hp with
  | head => exact h
  | tail _ hp => exact hl p hp
theorem FnsOK.nil : FnsOK P [] := fun p hp => by cases hp
theorem FnsOK.cons {t : Nat} {c : Con} {l : List (Nat × Con)} (h : ConOK P t c) (hl : FnsOK P l) : FnsOK P ((t, c) :: l) := fun p hp => by
  cases hp with
  | head => exact h
  | tail _ hp => exact hl p hp
theorem EqsOK.nil (P : Program) : ∀ t n, alook ([] : List (Nat × Nat)) t = some n → EqOK P t n := fun t n h => by cases h
theorem EqsOK.one {P : Program} {t n : Nat} (h : EqOK P t n) : ∀ t' n', alook [(t, n)] t' = some n' → EqOK P t' n' := fun t' n' h' => by
  have := alook_mem h'
  rw [List.mem_singleton] at this
  cases this
  exact h
theorem CtxOK.of {C : Ctx} (h0 : P.follows .mixedOrders = true) (h1 : TysOK P C.ty) (h2 : FnsOK P C.fn) (h3 : ∀ t n, alook C.eq t = some n → EqOK P t n := by exact EqsOK.nil _) : CtxOK P C := ⟨fun t ti h => h1 _ (alook_mem h), fun f c h => h2 _ (alook_mem h), h0, h3⟩
theorem LpOK.nil {C : Ctx} {c : Code} (h : loopsOf c = []) : LpOK P C c := fun b hb => by rw [h] at hb; cases hb
theorem LpOK.one {C : Ctx} {c b : Code} {k : Nat} {L : LoopS} (h : loopsOf c = [b]) (hk : keyO b = some k) (hL : alook C.lp k = some L) (hb : LoopOK P C L b) : LpOK P C c := by
  intro b' hb' key L' h1 h2
  rw [h, List.mem_singleton] at hb'
  subst hb'
  rw [hk] at h1
  cases h1
  rw [hL] at h2
  cases h2
  exact hb
theorem LpOK.more {C : Ctx} {c b : Code} {l : List Code} {k : Nat} {L : LoopS} (h : loopsOf c = b :: l) (hk : keyO b = some k) (hL : alook C.lp k = some L) (hb : LoopOK P C L b) (hr : ∀ b ∈ l, ∀ key L, keyO b = some key → alook C.lp key = some L → LoopOK P C L b) : LpOK P C c := by
  intro b' hb' key L' h1 h2
  rw [h] at hb'
  cases hb' with
  | head =>
    rw [hk] at h1
    cases h1
    rw [hL] at h2
    cases h2
    exact hb
  | tail _ hb' => exact hr b' hb' key L' h1 h2
theorem LpsOK.nil {C : Ctx} : ∀ b ∈ ([] : List Code), ∀ key L, keyO b = some key → alook C.lp key = some L → LoopOK P C L b := fun b hb => by cases hb
theorem LpsOK.cons {C : Ctx} {b : Code} {l : List Code} {k : Nat} {L : LoopS} (hk : keyO b = some k) (hL : alook C.lp k = some L) (hb : LoopOK P C L b) (hr : ∀ b ∈ l, ∀ key L, keyO b = some key → alook C.lp key = some L → LoopOK P C L b) :
    ∀ b' ∈ b :: l, ∀ key L, keyO b' = some key → alook C.lp key = some L → LoopOK P C L b' := by
  intro b' hb' key L' h1 h2
  cases hb' with
  | head =>
    rw [hk] at h1
    cases h1
    rw [hL] at h2
    cases h2
    exact hb
  | tail _ hb' => exact hr b' hb' key L' h1 h2
theorem LoopOK.alt {C : Ctx} {keep out : List Nat} {F G : List V → Hp → T (X × List V × Hp)} {body : Code} (hF : LoopOK P C { keep := keep, out := out, L := F } body) (hG : LoopOK P C { keep := keep, out := out, L := G } body) :
    LoopOK P C { keep := keep, out := out, L := altL F G } body := by
  intro A h1 h2 vs H r h
  rcases T.alt_get h with h | h
  · exact hF A h1 h2 vs H r h
  · exact hG A h1 h2 vs H r h
end

/-! ### Loops over typed states -/
def iterT {σ ε : Type} (step : σ → T (σ ⊕ ε)) : Nat → σ → Option ε
  | 0, _ => none
  | n + 1, s => match (step s).get with
    | some (.inl s') => iterT step n s'
    | some (.inr e) => some e
    | none => none
/-- A number of rounds that no loop comes to. -/
def manyRounds : Nat := 18446744073709551616
theorem iterT_mono {σ ε : Type} {step : σ → T (σ ⊕ ε)} : ∀ {n m : Nat} {s : σ} {e : ε}, iterT step n s = some e → n ≤ m → iterT step m s = some e
  | 0, m, s, e, h, _ => by cases h
  | n + 1, 0, s, e, h, hm => by omega
  | n + 1, m + 1, s, e, h, hm => by
    unfold iterT at h ⊢
    split at h
    · exact iterT_mono h (by omega)
    · exact h
    · cases h
theorem iterT_succ {σ ε : Type} (step : σ → T (σ ⊕ ε)) (n : Nat) (s : σ) : iterT step (n + 1) s = match (step s).get with
    | some (.inl s') => iterT step n s'
    | some (.inr e) => some e
    | none => none := rfl
def encSum {σ ε : Type} (encS : σ → List V × Hp) (encE : ε → X × List V × Hp) : σ ⊕ ε → (List V × Hp) ⊕ (X × List V × Hp)
  | .inl s => .inl (encS s)
  | .inr e => .inr (encE e)
theorem loop_one {P : Program} {C : Ctx} (hC : CtxOK P C) {keep out : List Nat} {body : Code} (hl : LpOK P C body) {σ ε : Type} (encS : σ → List V × Hp) (encE : ε → X × List V × Hp) (step : σ → T (σ ⊕ ε))
    (hround : ∀ s, roundL C keep out body (encS s).1 (encS s).2 = (step s).map (encSum encS encE)) (n : Nat) {s : σ} {e : ε} (h : iterT step n s = some e) {G : Gl} (hn : C.n = G.n) (hk : G.H0.length = C.k) (hlen : (encS s).1.length = keep.length)
    {ρ : Nat → Option Loc} {a : Act} {w : World} (hs : StR G ρ { fr := zipS keep (encS s).1, H := (encS s).2 } a w) {Q : Exit → Act → World → Prop} (hQ : ∀ ρ' a' w', StR G ρ' { fr := zipO out (encE e).2.1, H := (encE e).2.2 } a' w' → Q (encE e).1.toExit a' w') : (Code.loop body).wp P Q a w := by
  have key : ∀ n s e, iterT step n s = some e → (iterL (fun vs H => roundL C keep out body vs H) n (encS s).1 (encS s).2).get = some (encE e) := by
    intro n
    induction n with
    | zero => intro s e h; cases h
    | succ n ih =>
      intro s e h
      unfold iterT at h
      unfold iterL
      have h1 : (roundL C keep out body (encS s).1 (encS s).2).get = (step s).get.map (encSum encS encE) := by rw [hround, T.get_map]
      split at h
      · rename_i s' hs
        rw [hs] at h1
        exact T.bind_get _ _ _ _ h1 (ih s' e h)
      · rename_i e' hs
        cases h
        rw [hs] at h1
        exact T.bind_get _ _ _ _ h1 rfl
      · cases h
  exact loop_sound hC hl (step := fun vs H => roundL C keep out body vs H) (fun _ _ _ h => h) n G hn hk _ _ _ (key n s e h) hlen ρ a w hs Q hQ

/-! ### Contracts over typed trees -/
section
variable {P : Program} {f : FuncId} {fn : Func} {body : Code} {C : Ctx}
theorem con_q {α β : Type} {F : List V → Hp → T V} (hC : CtxOK P C) (hf : P.funcs[f]? = some fn) (hb : fn.body = some body) (hn : fn.ntmps = C.n) (hnm : (fn.name == "runtime.NumGoroutine") = false) (hl : LpOK P C body)
    (encA : α → List V × Hp) (encR : β → V) (tree : α → T β) (hlen : ∀ a, (encA a).2.length = C.k ∧ (encA a).1.length ≤ C.n)
    (hrun : ∀ a, runF C fn.results.toList body (encA a).1 (encA a).2 = (tree a).map fun r => (encR r, (encA a).2))
    (hc : ∀ args H v, (F args H).get = some v → ∃ a r, args = (encA a).1 ∧ H = (encA a).2 ∧ (tree a).get = some r ∧ v = encR r) : OKq P f F := by
  refine OKq.of_e (func_sound hC hf hb hn hnm hl fun args H r h => ?_)
  obtain ⟨v, h1, h2⟩ := T.get_bind _ _ _ h
  cases h2
  obtain ⟨a, r, rfl, rfl, h3, rfl⟩ := hc args H v h1
  exact ⟨(hlen a).1, (hlen a).2, by rw [hrun, T.get_map, h3]; rfl⟩
theorem con_e {α β : Type} {F : List V → Hp → T (V × Hp)} (hC : CtxOK P C) (hf : P.funcs[f]? = some fn) (hb : fn.body = some body) (hn : fn.ntmps = C.n) (hnm : (fn.name == "runtime.NumGoroutine") = false) (hl : LpOK P C body)
    (encA : α → List V × Hp) (encR : α → β → V × Hp) (tree : α → T β) (hlen : ∀ a, (encA a).2.length = C.k ∧ (encA a).1.length ≤ C.n)
    (hrun : ∀ a, runF C fn.results.toList body (encA a).1 (encA a).2 = (tree a).map (encR a))
    (hc : ∀ args H v, (F args H).get = some v → ∃ a r, args = (encA a).1 ∧ H = (encA a).2 ∧ (tree a).get = some r ∧ v = encR a r) : OKe P f F := by
  refine func_sound hC hf hb hn hnm hl fun args H v h => ?_
  obtain ⟨a, r, rfl, rfl, h3, rfl⟩ := hc args H v h
  exact ⟨(hlen a).1, (hlen a).2, by rw [hrun, T.get_map, h3]; rfl⟩
/-- A law that answers true: what its row asks of the walk. -/
theorem law_walk {args : List V} {H H' : Hp} (hC : CtxOK P C) (hf : P.funcs[f]? = some fn) (hb : fn.body = some body) (hn : fn.ntmps = C.n) (hl : LpOK P C body) (hk : H.length = C.k) (hle : args.length ≤ C.n)
    (hrun : (runF C fn.results.toList body args H).get = some (.bo true, H')) (hro : ∀ i B, hget H i = some B → B.wr = false) {ρ : Nat → Option Loc} {w : World} {vs : List Value} (hargs : V.Rs ρ args vs) (hh : HpR ρ H w) :
    Calls P f vs.toArray w fun e w' => e = .returned (.bool true) ∧ Below w.heap.size w w' := by
  refine (func_calls hC hf hb hn hl hk hle hrun hargs hh).mono ?_
  rintro e w' ⟨c, rfl, ρ', h1, h2⟩
  simp only [V.R] at h1
  subst h1
  refine ⟨rfl, h2.ext.os, h2.ext.tape, h2.ext.output, h2.ext.size, fun b hb => h2.ext.old b hb ?_⟩
  rintro ⟨i, B, l, h3, h4, _⟩
  rw [hro i B h3] at h4
  cases h4
end
end Go.Proofs.Ytkfpmiggolmabaa.Sx
