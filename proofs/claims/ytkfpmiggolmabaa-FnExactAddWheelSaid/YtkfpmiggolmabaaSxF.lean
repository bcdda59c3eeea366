/- The abstract execution: how values are read as typed tuples, and how contracts and loops are told over them. -/
import Derived.Test.YtkfpmiggolmabaaSxE
namespace Go.Proofs.Ytkfpmiggolmabaa.Sx
open Go Go.RowKit
set_option linter.unusedVariables false
set_option linter.unusedSimpArgs false

/-! ### Codes -/
structure Cd (α τ : Type) where
  dec : τ → Option α
  enc : α → τ
  ok : ∀ v a, dec v = some a → v = enc a
section
variable {α β τ υ : Type}
def Cd.iso (c : Cd α τ) (f : α → β) (g : β → α) (h : ∀ a, g (f a) = a) : Cd β τ where
  dec v := match c.dec v with
    | some a => some (f a)
    | none => none
  enc b := c.enc (g b)
  ok v b hb := by
    split at hb
    · rename_i a ha
      cases hb
      rw [h]
      exact c.ok v a ha
    · cases hb
def Cd.pair (c : Cd α τ) (d : Cd β υ) : Cd (α × β) (τ × υ) where
  dec v := match c.dec v.1, d.dec v.2 with
    | some a, some b => some (a, b)
    | _, _ => none
  enc a := (c.enc a.1, d.enc a.2)
  ok v a ha := by
    split at ha
    · rename_i x y h1 h2
      cases ha
      obtain ⟨v, w⟩ := v
      rw [← c.ok _ _ h1, ← d.ok _ _ h2]
    · cases ha
def Cd.nil : Cd Unit (List τ) where
  dec v := match v with
    | [] => some ()
    | _ :: _ => none
  enc _ := []
  ok v a h := by
    split at h
    · rfl
    · cases h
def Cd.cons (c : Cd α τ) (d : Cd β (List τ)) : Cd (α × β) (List τ) where
  dec v := match v with
    | [] => none
    | x :: r => match c.dec x, d.dec r with
      | some a, some b => some (a, b)
      | _, _ => none
  enc a := c.enc a.1 :: d.enc a.2
  ok v a h := by
    split at h
    · cases h
    · split at h
      · rename_i x y h1 h2
        cases h
        rw [c.ok _ _ h1, d.ok _ _ h2]
      · cases h
end

def Cd.nat : Cd Nat Nat := ⟨some, id, fun v a h => by cases h; rfl⟩
def Cd.natc (n : Nat) : Cd Unit Nat where
  dec v := match Nat.beq v n with
    | true => some ()
    | false => none
  enc _ := n
  ok v a h := by
    split at h
    · rename_i h1
      exact beqN h1
    · cases h
def Cd.bo : Cd Bool V where
  dec v := match v with
    | .bo x => some x
    | _ => none
  enc x := .bo x
  ok v a h := by
    split at h
    · cases h; rfl
    · cases h
theorem ikEq_eq' {a b : IntKind} (h : ikEq a b = true) : a = b := by cases a <;> cases b <;> first | rfl | cases h
theorem fkEq_eq' {a b : FloatKind} (h : fkEq a b = true) : a = b := by cases a <;> cases b <;> first | rfl | cases h
def Cd.it (k : IntKind) : Cd Int V where
  dec v := match v with
    | .it k' n => match ikEq k' k with
      | true => some n
      | false => none
    | _ => none
  enc n := .it k n
  ok v a h := by
    split at h
    · split at h
      · rename_i h1
        cases h
        rw [ikEq_eq' h1]
      · cases h
    · cases h
def Cd.fl (k : FloatKind) : Cd Nat V where
  dec v := match v with
    | .fl k' n => match fkEq k' k with
      | true => some n
      | false => none
    | _ => none
  enc n := .fl k n
  ok v a h := by
    split at h
    · split at h
      · rename_i h1
        cases h
        rw [fkEq_eq' h1]
      · cases h
    · cases h
def Cd.st : Cd ByteArray V where
  dec v := match v with
    | .st x => some x
    | _ => none
  enc x := .st x
  ok v a h := by
    split at h
    · cases h; rfl
    · cases h
def Cd.pt (id : Nat) {α : Type} (c : Cd α Nat) : Cd α V where
  dec v := match v with
    | .pt i o => match Nat.beq i id with
      | true => c.dec o
      | false => none
    | _ => none
  enc a := .pt id (c.enc a)
  ok v a h := by
    split at h
    · split at h
      · rename_i h1
        rw [beqN h1, c.ok _ _ h]
      · cases h
    · cases h
def Cd.pr (id sz col : Nat) : Cd Nat V where
  dec v := match v with
    | .pr i row s c => match Nat.beq i id, Nat.beq s sz && Nat.beq c col with
      | true, true => some row
      | _, _ => none
    | _ => none
  enc a := .pr id a sz col
  ok v a h := by
    split at h
    · split at h
      · rename_i h1 h2
        cases h
        simp only [Bool.and_eq_true] at h2
        rw [beqN h1, beqN h2.1, beqN h2.2]
      · cases h
    · cases h
def Cd.sl (id : Nat) {α : Type} (c : Cd α Nat) : Cd (α × Nat) V where
  dec v := match v with
    | .sl i o n => match Nat.beq i id, c.dec o with
      | true, some a => some (a, n)
      | _, _ => none
    | _ => none
  enc a := .sl id (c.enc a.1) a.2
  ok v a h := by
    split at h
    · split at h
      · rename_i h1 h2
        cases h
        rw [beqN h1, c.ok _ _ h2]
      · cases h
    · cases h
def Cd.own (id : Nat) : Cd Nat V where
  dec v := match v with
    | .own i n => match Nat.beq i id with
      | true => some n
      | false => none
    | _ => none
  enc a := .own id a
  ok v a h := by
    split at h
    · split at h
      · rename_i h1
        cases h
        rw [beqN h1]
      · cases h
    · cases h
def Cd.pn : Cd Unit V where
  dec v := match v with
    | .pn => some ()
    | _ => none
  enc _ := .pn
  ok v a h := by
    split at h
    · rfl
    · cases h
def Cd.sn : Cd Unit V where
  dec v := match v with
    | .sn => some ()
    | _ => none
  enc _ := .sn
  ok v a h := by
    split at h
    · rfl
    · cases h
def Cd.nf : Cd Unit V where
  dec v := match v with
    | .nf => some ()
    | _ => none
  enc _ := .nf
  ok v a h := by
    split at h
    · rfl
    · cases h
def Cd.qn : Cd Unit V where
  dec v := match v with
    | .qn => some ()
    | _ => none
  enc _ := .qn
  ok v a h := by
    split at h
    · rfl
    · cases h
def Cd.unk : Cd Unit V where
  dec v := match v with
    | .unk => some ()
    | _ => none
  enc _ := .unk
  ok v a h := by
    split at h
    · rfl
    · cases h
def Cd.er : Cd Unit V where
  dec v := match v with
    | .er => some ()
    | _ => none
  enc _ := .er
  ok v a h := by
    split at h
    · rfl
    · cases h
def Cd.fu (f : Nat) {α : Type} (c : Cd α (List V)) : Cd α V where
  dec v := match v with
    | .fu g cs => match Nat.beq g f with
      | true => c.dec cs
      | false => none
    | _ => none
  enc a := .fu f (c.enc a)
  ok v a h := by
    split at h
    · split at h
      · rename_i h1
        rw [beqN h1, c.ok _ _ h]
      · cases h
    · cases h
def Cd.agg {α : Type} (c : Cd α (List V)) : Cd α V where
  dec v := match v with
    | .agg cs => c.dec cs
    | _ => none
  enc a := .agg (c.enc a)
  ok v a h := by
    split at h
    · rw [c.ok _ _ h]
    · cases h
def Cd.tup {α : Type} (c : Cd α (List V)) : Cd α V where
  dec v := match v with
    | .tup cs => c.dec cs
    | _ => none
  enc a := .tup (c.enc a)
  ok v a h := by
    split at h
    · rw [c.ok _ _ h]
    · cases h
def Cd.vs {α : Type} (c : Cd α (List V)) : Cd α Cells where
  dec v := match v with
    | .vs cs => c.dec cs
    | _ => none
  enc a := .vs (c.enc a)
  ok v a h := by
    split at h
    · rw [c.ok _ _ h]
    · cases h
def Cd.fs (k : FloatKind) : Cd (List Nat) Cells where
  dec v := match v with
    | .fs k' n => match fkEq k' k with
      | true => some n
      | false => none
    | _ => none
  enc n := .fs k n
  ok v a h := by
    split at h
    · split at h
      · rename_i h1
        cases h
        rw [fkEq_eq' h1]
      · cases h
    · cases h
def Cd.is (k : IntKind) : Cd (List Int) Cells where
  dec v := match v with
    | .is k' n => match ikEq k' k with
      | true => some n
      | false => none
    | _ => none
  enc n := .is k n
  ok v a h := by
    split at h
    · split at h
      · rename_i h1
        cases h
        rw [ikEq_eq' h1]
      · cases h
    · cases h
def Cd.bs : Cd (List Bool) Cells where
  dec v := match v with
    | .bs x => some x
    | _ => none
  enc x := .bs x
  ok v a h := by
    split at h
    · cases h; rfl
    · cases h
def Cd.ss : Cd (List ByteArray) Cells where
  dec v := match v with
    | .ss x => some x
    | _ => none
  enc x := .ss x
  ok v a h := by
    split at h
    · cases h; rfl
    · cases h
def Cd.mx (ks : List SK) : Cd (List (List Sc)) Cells where
  dec v := match v with
    | .mx ks' x => match sksEq ks' ks with
      | true => some x
      | false => none
    | _ => none
  enc x := .mx ks x
  ok v a h := by
    split at h
    · split at h
      · rename_i h1
        cases h
        rw [sksEq_eq h1]
      · cases h
    · cases h
def Cd.no : Cd Unit (Option Blk) where
  dec v := match v with
    | none => some ()
    | some _ => none
  enc _ := none
  ok v a h := by
    split at h
    · rfl
    · cases h
/-- A block that may be written. -/
def Cd.rw (e sz : Nat) {α : Type} (c : Cd α Cells) : Cd α (Option Blk) where
  dec v := match v with
    | some ⟨true, e', sz', cs⟩ => match Nat.beq e' e, Nat.beq sz' sz with
      | true, true => c.dec cs
      | _, _ => none
    | _ => none
  enc a := some ⟨true, e, sz, c.enc a⟩
  ok v a h := by
    split at h
    · split at h
      · rename_i h1 h2
        rw [beqN h1, beqN h2, c.ok _ _ h]
      · cases h
    · cases h
/-- A block that is read alone. -/
def Cd.ro (e sz : Nat) {α : Type} (c : Cd α Cells) : Cd α (Option Blk) where
  dec v := match v with
    | some ⟨false, e', sz', cs⟩ => match Nat.beq e' e, Nat.beq sz' sz with
      | true, true => c.dec cs
      | _, _ => none
    | _ => none
  enc a := some ⟨false, e, sz, c.enc a⟩
  ok v a h := by
    split at h
    · split at h
      · rename_i h1 h2
        rw [beqN h1, beqN h2, c.ok _ _ h]
      · cases h
    · cases h

/-! ### Contracts -/
def cdQ {α : Type} (cd : Cd α (List V × Hp)) (g : α → T V) : List V → Hp → T V := fun args H => match cd.dec (args, H) with
  | some a => g a
  | none => .bad
def cdE {α : Type} (cd : Cd α (List V × Hp)) (g : α → T (V × Hp)) : List V → Hp → T (V × Hp) := fun args H => match cd.dec (args, H) with
  | some a => g a
  | none => .bad
def cdL {α : Type} (cd : Cd α (List V × Hp)) (g : α → T (X × List V × Hp)) : List V → Hp → T (X × List V × Hp) := fun args H => match cd.dec (args, H) with
  | some a => g a
  | none => .bad
/-- g tells what the tree tells. -/
def Tells {α β γ : Type} (tree : α → T β) (encR : α → β → γ) (g : α → T γ) : Prop := ∀ a v, (g a).get = some v → ∃ r, (tree a).get = some r ∧ v = encR a r
section
variable {α β γ : Type} {tree : α → T β} {encR : α → β → γ}
theorem Tells.same : Tells tree encR fun a => (tree a).map (encR a) := fun a v h => by
  rw [T.get_map] at h
  cases hr : (tree a).get with
  | none => rw [hr] at h; cases h
  | some r => rw [hr] at h; cases h; exact ⟨r, rfl, rfl⟩
theorem Tells.ok [Inhabited β] : Tells tree encR fun a => .br (tree a).ok (.leaf (encR a (tree a).val)) .bad := fun a v h => by
  dsimp only at h
  cases ho : (tree a).ok with
  | false => rw [ho] at h; cases h
  | true =>
    rw [ho] at h
    cases h
    exact ⟨_, T.get_of_ok ho, rfl⟩
theorem Tells.val [Inhabited β] (hn : ∀ a, (tree a).nb = true) : Tells tree encR fun a => .leaf (encR a (tree a).val) := fun a v h => by
  cases h
  exact ⟨_, T.get_of_ok (T.ok_of_nb (hn a)), rfl⟩
end
section
variable {P : Program} {f : FuncId} {fn : Func} {body : Code} {C : Ctx}
theorem con_q' {α β : Type} (cd : Cd α (List V × Hp)) {tree : α → T β} {encR : α → β → V} {g : α → T V} (hC : CtxOK P C) (hf : P.funcs[f]? = some fn) (hb : fn.body = some body) (hn : fn.ntmps = C.n) (hnm : (fn.name == "runtime.NumGoroutine") = false) (hl : LpOK P C body)
    (hlen : ∀ a, (Nat.beq (cd.enc a).2.length C.k && Nat.ble (cd.enc a).1.length C.n) = true)
    (hrun : ∀ a, runF C fn.results.toList body (cd.enc a).1 (cd.enc a).2 = (tree a).map fun r => (encR a r, (cd.enc a).2))
    (hg : Tells tree encR g) : OKq P f (cdQ cd g) := by
  have e : OKe P f fun args H => (cdQ cd g args H).bind fun v => .leaf (v, H) := by
    refine con_e hC hf hb hn hnm hl cd.enc (fun a r => (encR a r, (cd.enc a).2)) tree (fun a => ?_) hrun fun args H v h => ?_
    · have := hlen a
      rw [Bool.and_eq_true] at this
      exact ⟨beqN this.1, Nat.le_of_ble_eq_true this.2⟩
    · obtain ⟨u, h1, h2⟩ := T.get_bind _ _ _ h
      cases h2
      unfold cdQ at h1
      split at h1
      · rename_i a ha
        have e := cd.ok _ _ ha
        obtain ⟨r, h3, h4⟩ := hg a u h1
        refine ⟨a, r, congrArg Prod.fst e, congrArg Prod.snd e, h3, ?_⟩
        rw [h4, ← congrArg Prod.snd e]
      · cases h1
  exact OKq.of_e e
theorem con_e' {α β : Type} (cd : Cd α (List V × Hp)) {tree : α → T β} {encR : α → β → V × Hp} {g : α → T (V × Hp)} (hC : CtxOK P C) (hf : P.funcs[f]? = some fn) (hb : fn.body = some body) (hn : fn.ntmps = C.n) (hnm : (fn.name == "runtime.NumGoroutine") = false) (hl : LpOK P C body)
    (hlen : ∀ a, (Nat.beq (cd.enc a).2.length C.k && Nat.ble (cd.enc a).1.length C.n) = true)
    (hrun : ∀ a, runF C fn.results.toList body (cd.enc a).1 (cd.enc a).2 = (tree a).map (encR a))
    (hg : Tells tree encR g) : OKe P f (cdE cd g) := by
  refine con_e hC hf hb hn hnm hl cd.enc encR tree (fun a => ?_) hrun fun args H v h => ?_
  · have := hlen a
    rw [Bool.and_eq_true] at this
    exact ⟨beqN this.1, Nat.le_of_ble_eq_true this.2⟩
  · unfold cdE at h
    split at h
    · rename_i a ha
      have e := cd.ok _ _ ha
      obtain ⟨r, h1, h2⟩ := hg a v h
      exact ⟨a, r, congrArg Prod.fst e, congrArg Prod.snd e, h1, h2⟩
    · cases h
end

/-! ### Loops -/
instance sumInh {α β : Type} [Inhabited α] : Inhabited (α ⊕ β) := ⟨.inl default⟩
def getLeftD {α β : Type} [Inhabited α] : α ⊕ β → α
  | .inl a => a
  | .inr _ => default
def getRightD {α β : Type} [Inhabited β] : α ⊕ β → β
  | .inl _ => default
  | .inr b => b
def leafT {α γ : Type} (f : α → γ) (a : α) : T γ := .leaf (f a)
def sumT {α β γ : Type} [Inhabited α] [Inhabited β] (f : α → T γ) (g : β → T γ) (e : α ⊕ β) : T γ := .br (Sum.isLeft e) (f (getLeftD e)) (g (getRightD e))
def optT {ε γ : Type} [Inhabited ε] (r : Option ε) (f : ε → T γ) : T γ := .br (Option.isSome r) (f (Option.getD r default)) .bad
def sumO {α β γ : Type} (f : α → γ) (g : β → γ) : α ⊕ β → γ
  | .inl a => f a
  | .inr b => g b
def Gets {α γ : Type} (f : α → T γ) (f' : α → γ) : Prop := ∀ a, (f a).get = some (f' a)
theorem Gets.leaf {α γ : Type} {f : α → γ} : Gets (leafT f) f := fun _ => rfl
theorem Gets.sum {α β γ : Type} [Inhabited α] [Inhabited β] {f : α → T γ} {g : β → T γ} {f' : α → γ} {g' : β → γ} (hf : Gets f f') (hg : Gets g g') : Gets (sumT f g) (sumO f' g')
  | .inl a => hf a
  | .inr b => hg b
theorem Tells.okS {α β γ : Type} {tree : α → T β} {encR : α → β → γ} [Inhabited β] {ex : α → β → T γ} (hx : ∀ a, Gets (ex a) (encR a)) : Tells tree encR fun a => .br (tree a).ok (ex a (tree a).val) .bad := fun a v h => by
  dsimp only at h
  cases ho : (tree a).ok with
  | false => rw [ho] at h; cases h
  | true =>
    rw [ho] at h
    have h2 : (ex a (tree a).val).get = some v := h
    rw [hx a] at h2
    cases h2
    exact ⟨_, T.get_of_ok ho, rfl⟩
theorem Tells.valS {α β γ : Type} {tree : α → T β} {encR : α → β → γ} [Inhabited β] {ex : α → β → T γ} (hn : ∀ a, (tree a).nb = true) (hx : ∀ a, Gets (ex a) (encR a)) : Tells tree encR fun a => ex a (tree a).val := fun a v h => by
  have h2 : (ex a (tree a).val).get = some v := h
  rw [hx a] at h2
  cases h2
  exact ⟨_, T.get_of_ok (T.ok_of_nb (hn a)), rfl⟩
theorem loop_cd {P : Program} {C : Ctx} {keep out : List Nat} {body : Code} {Θ σ ε : Type} [Inhabited ε] (cd : Cd (Θ × σ) (List V × Hp)) {encE : Θ → ε → X × List V × Hp} {ex : Θ → ε → T (X × List V × Hp)} {step : Θ → σ → T (σ ⊕ ε)} {n : Nat} (hC : CtxOK P C) (hl : LpOK P C body)
    (hround : ∀ p s, roundL C keep out body (cd.enc (p, s)).1 (cd.enc (p, s)).2 = (step p s).map (encSum (fun s => cd.enc (p, s)) (encE p))) (hx : ∀ p, Gets (ex p) (encE p)) :
    LoopOK P C { keep := keep, out := out, L := cdL cd fun a => optT (iterT (step a.1) n a.2) (ex a.1) } body := by
  intro G hn hk vs H r h hlen ρ a w hs Q hQ
  dsimp only at h hlen hs hQ
  unfold cdL at h
  split at h
  · rename_i s hcd
    have e := cd.ok _ _ hcd
    obtain ⟨p, s⟩ := s
    unfold optT at h
    dsimp only at h
    cases hi : iterT (step p) n s with
    | none => rw [hi] at h; cases h
    | some x =>
      rw [hi] at h
      have h2 : (ex p x).get = some r := h
      rw [hx p] at h2
      cases h2
      have e1 : vs = (cd.enc (p, s)).1 := congrArg Prod.fst e
      have e2 : H = (cd.enc (p, s)).2 := congrArg Prod.snd e
      subst e1
      subst e2
      exact loop_one hC hl (fun s => cd.enc (p, s)) (encE p) (step p) (hround p) n hi hn hk hlen hs hQ
  · cases h
def nthC : List Code → Nat → Code
  | [], _ => .skip
  | c :: _, 0 => c
  | _ :: r, n + 1 => nthC r n
def bodyOf (f : Func) : Code := f.body.getD .skip
end Go.Proofs.Ytkfpmiggolmabaa.Sx
