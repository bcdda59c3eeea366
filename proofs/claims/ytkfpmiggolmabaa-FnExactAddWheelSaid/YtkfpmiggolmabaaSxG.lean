/- The abstract execution: types, loops and body-less functions, as a program's text gives them. -/
import Derived.Test.YtkfpmiggolmabaaSxF
import Derived.Laws.Externs
namespace Go.Proofs.Ytkfpmiggolmabaa.Sx
open Go Go.RowKit
set_option linter.unusedVariables false
set_option linter.unusedSimpArgs false
variable {P : Program}

theorem TyOK.of {t : Nat} {inf : TypeInfo} {ti : TI} (h1 : P.underlying t = some ti.d) (h2 : P.info? t = some inf) (h3 : Nat.beq inf.size ti.size = true) (h4 : Nat.beq inf.bytes ti.bytes = true)
    (h5 : (inf.zero.bind fun z => ofScs z.cells.toList) = some ti.zero) : TyOK P t ti := by
  cases hz : inf.zero with
  | none => rw [hz] at h5; cases h5
  | some z =>
    rw [hz] at h5
    exact ⟨h1, inf, z, h2, beqN h3, beqN h4, hz, h5⟩
theorem lp_of {C : Ctx} {c : Code} {l : List Code} (h : loopsOf c = l) (hr : ∀ b ∈ l, ∀ key L, keyO b = some key → alook C.lp key = some L → LoopOK P C L b) : LpOK P C c := by
  subst h
  exact hr

/-! ### Body-less functions -/
theorem CallOK.of_ext {f : FuncId} {fn : Func} {args : Array Value} {w w' : World} {v : Value} {R : Value → World → Prop} {e : Array Value → Sem Value} (hf : P.funcs[f]? = some fn) (hname : (fn.name == "runtime.NumGoroutine") = false)
    (hb : fn.body.isNone = true) (hn : (Extern.findNext fn).isNone = true) (he : Extern.find fn = some e) (hrun : (e args).run P w = .ok v w') (hR : R v w') : CallOK P f args w R := by
  intro o a K Q hK
  rw [run_callFunc_extern hf hname hb (by simpa using hn) he, hrun]
  exact hK _ _ hR
def f32bitsC : List V → Hp → T V := fun args _ => match args with
  | [.fl k c] => match fkEq k .f32 with
    | true => .br (isNaN .f32 c) (.leaf .qn) (.leaf (.it .u32 (c : Int)))
    | false => .bad
  | _ => .bad
def f32fromC : List V → Hp → T V := fun args _ => match args with
  | [.it k n] => match ikEq k .u32 with
    | true => .leaf (.fl .f32 (nz .f32 (Int.toNat n)))
    | false => .bad
  | _ => .bad
def f64fromC : List V → Hp → T V := fun args _ => match args with
  | [.it k n] => match ikEq k .u64 with
    | true => .leaf (.fl .f64 (nz .f64 (Int.toNat n)))
    | false => .bad
  | _ => .bad
def sqrtC : List V → Hp → T V := fun args _ => match args with
  | [.fl k c] => match fkEq k .f64 with
    | true => .leaf (.fl .f64 (fsqrt c))
    | false => .bad
  | _ => .bad
theorem Rs_one {ρ : Nat → Option Loc} {x : V} {vs : List Value} (h : V.Rs ρ [x] vs) : ∃ y, vs = [y] ∧ V.R ρ x y := by
  simp only [V.Rs] at h
  obtain ⟨y, ys, rfl, h1, rfl⟩ := h
  exact ⟨y, rfl, h1⟩
theorem f32bits_ok {f : FuncId} {fn : Func} (hf : P.funcs[f]? = some fn) (hname : (fn.name == "runtime.NumGoroutine") = false)
    (hb : fn.body.isNone = true) (hn : (Extern.findNext fn).isNone = true) (he : Extern.find fn = some Extern.MathFloatBits.float32bits) : OKq P f f32bitsC := by
  intro args H v h ρ w vs hargs hh
  unfold f32bitsC at h
  split at h
  · rename_i k c
    split at h
    · rename_i hk
      have := fkEq_eq' hk
      subst this
      obtain ⟨y, rfl, hy⟩ := Rs_one hargs
      simp only [V.R] at hy
      obtain ⟨b, rfl, rfl⟩ := hy
      refine CallOK.of_ext hf hname hb hn he (v := .int .u32 b) (w' := w) rfl ⟨?_, hh, WExt.refl w _⟩
      cases hnan : isNaN .f32 b with
      | true =>
        have e : isNaN .f32 (nz .f32 b) = true := by
          rw [nz_of_nan hnan]
          obtain ⟨s, t, h⟩ := decode_nanOf .f32
          exact isNaN_of_read h
        rw [e] at h
        cases h
        simp only [V.R]
        exact ⟨b, rfl, by simpa using hnan⟩
      | false =>
        rw [nz_of_not hnan] at h
        rw [hnan] at h
        cases h
        simp only [V.R]
    · cases h
  · cases h
theorem f32from_ok {f : FuncId} {fn : Func} (hf : P.funcs[f]? = some fn) (hname : (fn.name == "runtime.NumGoroutine") = false)
    (hb : fn.body.isNone = true) (hn : (Extern.findNext fn).isNone = true) (he : Extern.find fn = some Extern.MathFloatBits.float32frombits) : OKq P f f32fromC := by
  intro args H v h ρ w vs hargs hh
  unfold f32fromC at h
  split at h
  · rename_i k c
    split at h
    · rename_i hk
      have := ikEq_eq' hk
      subst this
      obtain ⟨y, rfl, hy⟩ := Rs_one hargs
      simp only [V.R] at hy
      subst hy
      cases h
      exact CallOK.of_ext hf hname hb hn he (v := .float .f32 c.toNat) (w' := w) rfl ⟨fl_R rfl, hh, WExt.refl w _⟩
    · cases h
  · cases h
theorem f64from_ok {f : FuncId} {fn : Func} (hf : P.funcs[f]? = some fn) (hname : (fn.name == "runtime.NumGoroutine") = false)
    (hb : fn.body.isNone = true) (hn : (Extern.findNext fn).isNone = true) (he : Extern.find fn = some Extern.MathFloatBits.float64frombits) : OKq P f f64fromC := by
  intro args H v h ρ w vs hargs hh
  unfold f64fromC at h
  split at h
  · rename_i k c
    split at h
    · rename_i hk
      have := ikEq_eq' hk
      subst this
      obtain ⟨y, rfl, hy⟩ := Rs_one hargs
      simp only [V.R] at hy
      subst hy
      cases h
      exact CallOK.of_ext hf hname hb hn he (v := .float .f64 c.toNat) (w' := w) rfl ⟨fl_R rfl, hh, WExt.refl w _⟩
    · cases h
  · cases h
theorem sqrt_nz (x : Nat) : FloatKind.f64.format.sqrt (nz .f64 x) = FloatKind.f64.format.sqrt x := by
  rcases nz_cases .f64 x with hx | ⟨⟨s, t, hx⟩, s', t', hx'⟩
  · rw [hx]
  · simp only [Ieee.Format.sqrt, hx, hx']
    rfl
theorem sqrt_ok {f : FuncId} {fn : Func} (hf : P.funcs[f]? = some fn) (hname : (fn.name == "runtime.NumGoroutine") = false)
    (hb : fn.body.isNone = true) (hn : (Extern.findNext fn).isNone = true) (he : Extern.find fn = some Extern.MathSqrt.sqrt) : OKq P f sqrtC := by
  intro args H v h ρ w vs hargs hh
  unfold sqrtC at h
  split at h
  · rename_i k c
    split at h
    · rename_i hk
      have := fkEq_eq' hk
      subst this
      obtain ⟨y, rfl, hy⟩ := Rs_one hargs
      simp only [V.R] at hy
      obtain ⟨b, rfl, rfl⟩ := hy
      cases h
      have e : fsqrt (nz .f64 b) = nz .f64 ((FloatKind.f64.format.sqrt b).getD (nanOf .f64)) := by
        unfold fsqrt
        rw [sqrt_nz]
      rw [e]
      have hr : Sem.run P (Extern.MathSqrt.sqrt #[.float .f64 b]) w = Sem.run P (match FloatKind.f64.format.sqrt b with
        | some r => Pure.pure (Value.float .f64 r)
        | none => do Pure.pure (Value.float .f64 (← choose (.nanBits .f64 b b)))) w := rfl
      cases hs : FloatKind.f64.format.sqrt b with
      | some r =>
        rw [hs] at hr
        exact CallOK.of_ext hf hname hb hn he (v := .float .f64 r) (w' := w) hr ⟨fl_R rfl, hh, WExt.refl w _⟩
      | none =>
        rw [hs] at hr
        refine CallOK.of_ext hf hname hb hn he (v := .float .f64 ((Question.nanBits .f64 b b).cut (w.tape w.drawn (.nanBits .f64 b b)))) (w' := { w with drawn := w.drawn + 1 }) ?_ ⟨fl_R ?_, ?_, ?_⟩
        · rw [hr]
          simp [Question.forced]
        · rw [cut_nanBits, Option.getD_none, nz_nanOf]
        · exact hh.gr (Gr.drew w)
        · exact (Gr.drew w).mono fun _ _ h => h.elim
    · cases h
  · cases h
end Go.Proofs.Ytkfpmiggolmabaa.Sx
