/- The abstract execution is sound: operations on numbers and strings, calls. -/
import Derived.Test.YtkfpmiggolmabaaSx3
namespace Go.Proofs.Ytkfpmiggolmabaa.Sx
open Go Go.RowKit
set_option linter.unusedVariables false
set_option linter.unusedSimpArgs false
variable {P : Program}

/-- The operation gives a value that the abstract one stands for; the world has at most drawn. -/
def Runs (P : Program) (s : Sem Value) (w : World) (ρ : Nat → Option Loc) (v : V) : Prop := ∃ c w', s.run P w = .ok c w' ∧ V.R ρ v c ∧ Gr w w'
theorem Runs.pure {s : Sem Value} {w : World} {ρ : Nat → Option Loc} {v : V} {c : Value} (h : s.run P w = .ok c w) (hr : V.R ρ v c) : Runs P s w ρ v := ⟨c, w, h, hr, WExt.refl w _⟩

theorem fl_R {ρ : Nat → Option Loc} {k : FloatKind} {b c : Nat} (h : nz k b = c) : V.R ρ (.fl k c) (.float k b) := by simp only [V.R]; exact ⟨b, rfl, h⟩
theorem bo_R {ρ : Nat → Option Loc} {x y : Bool} (h : x = y) : V.R ρ (.bo x) (.bool y) := by simp only [V.R]; rw [h]
theorem it_R {ρ : Nat → Option Loc} {k : IntKind} {x y : Int} (h : x = y) : V.R ρ (.it k x) (.int k y) := by simp only [V.R]; rw [h]

theorem floatArith_sound (op : BinOp) (f : Nat → Nat → Option Nat) (F : Nat → Nat → Nat) (k : FloatKind) (x y : Nat) (w : World) (ρ : Nat → Option Loc)
    (hop : Op.floatArith op k x y = (match f x y with | some r => Pure.pure (Value.float k r) | none => do Pure.pure (Value.float k (← choose (.nanBits k x y)))))
    (hF : ∀ a b, F a b = nz k ((f a b).getD (nanOf k))) (hf : f (nz k x) (nz k y) = f x y) : Runs P (Op.floatArith op k x y) w ρ (.fl k (F (nz k x) (nz k y))) := by
  rw [hop]
  have e := hF (nz k x) (nz k y)
  rw [hf] at e
  rw [e]
  cases f x y with
  | some r => exact Runs.pure rfl (fl_R rfl)
  | none =>
    refine ⟨.float k ((Question.nanBits k x y).cut (w.tape w.drawn (.nanBits k x y))), { w with drawn := w.drawn + 1 }, ?_, fl_R ?_, Gr.drew w⟩
    · simp [Question.forced]
    · rw [cut_nanBits, Option.getD_none, nz_nanOf]
theorem binF_sound {op : BinOp} {k : FloatKind} {x y : Nat} {v : V} (h : (binF op k (nz k x) (nz k y)).get = some v) (t : TypeId) (w : World) (ρ : Nat → Option Loc) :
    Runs P (binOp op t (.float k x) (.float k y)) w ρ v := by
  cases op <;> simp only [binF, T.get_leaf, T.get_bad, Option.some.injEq, reduceCtorEq] at h <;> subst h
  case add =>
    have e : binOp .add t (.float k x) (.float k y) = Op.floatArith .add k x y := by simp [binOp]
    rw [e]
    exact floatArith_sound .add k.format.add (fadd k) k x y w ρ rfl (fun _ _ => rfl) (add_nz k x y)
  case sub =>
    have e : binOp .sub t (.float k x) (.float k y) = Op.floatArith .sub k x y := by simp [binOp]
    rw [e]
    exact floatArith_sound .sub k.format.sub (fsub k) k x y w ρ rfl (fun _ _ => rfl) (sub_nz k x y)
  case mul =>
    have e : binOp .mul t (.float k x) (.float k y) = Op.floatArith .mul k x y := by simp [binOp]
    rw [e]
    exact floatArith_sound .mul k.format.mul (fmul k) k x y w ρ rfl (fun _ _ => rfl) (mul_nz k x y)
  case quo =>
    have e : binOp .quo t (.float k x) (.float k y) = Op.floatArith .quo k x y := by simp [binOp]
    rw [e]
    exact floatArith_sound .quo k.format.div (fdiv k) k x y w ρ rfl (fun _ _ => rfl) (div_nz k x y)
  case eql => rw [binOp_float_cmp_eql]; exact Runs.pure rfl (bo_R (by unfold feq; rw [order_nz]))
  case neq => rw [binOp_float_cmp_neq]; exact Runs.pure rfl (bo_R (by unfold fne; rw [order_nz]))
  case lss => rw [binOp_float_cmp_lss]; exact Runs.pure rfl (bo_R (by unfold flt; rw [order_nz]))
  case leq => rw [binOp_float_cmp_leq]; exact Runs.pure rfl (bo_R (by unfold fle; rw [order_nz]))
  case gtr => rw [binOp_float_cmp_gtr]; exact Runs.pure rfl (bo_R (by unfold fgt; rw [order_nz]))
  case geq => rw [binOp_float_cmp_geq]; exact Runs.pure rfl (bo_R (by unfold fge; rw [order_nz]))
theorem binI_sound {op : BinOp} {k : IntKind} {lit : Bool} {x y : Int} {v : V} (h : (binI op k lit x y).get = some v) (t : TypeId) (w : World) (ρ : Nat → Option Loc) :
    Runs P (binOp op t (.int k x) (.int k y)) w ρ v := by
  cases op <;> simp only [binI, T.get_leaf, T.get_bad, Option.some.injEq, reduceCtorEq] at h
  case add => subst h; rw [binOp_add]; exact Runs.pure rfl (it_R rfl)
  case sub => subst h; rw [binOp_sub]; exact Runs.pure rfl (it_R rfl)
  case mul => subst h; rw [binOp_mul]; exact Runs.pure rfl (it_R rfl)
  case quo =>
    rw [binOp_quo]
    have hy : (y == 0) = false ∧ v = .it k (k.wrap (x.tdiv y)) := by
      cases lit
      · simp only [T.get_br] at h
        cases hy : (y == 0) <;> rw [hy] at h <;> simp at h
        exact ⟨rfl, h.symm⟩
      · cases hy : (y == 0) <;> rw [hy] at h <;> simp at h
        exact ⟨rfl, h.symm⟩
    obtain ⟨h0, rfl⟩ := hy
    have h0' : ¬ y = 0 := by simpa using h0
    refine Runs.pure (c := .int k (k.wrap (x.tdiv y))) ?_ (it_R rfl)
    simp [Op.intDiv, h0']
  case rem =>
    rw [binOp_rem]
    have hy : (y == 0) = false ∧ v = .it k (x.tmod y) := by
      cases lit
      · simp only [T.get_br] at h
        cases hy : (y == 0) <;> rw [hy] at h <;> simp at h
        exact ⟨rfl, h.symm⟩
      · cases hy : (y == 0) <;> rw [hy] at h <;> simp at h
        exact ⟨rfl, h.symm⟩
    obtain ⟨h0, rfl⟩ := hy
    have h0' : ¬ y = 0 := by simpa using h0
    refine Runs.pure (c := .int k (x.tmod y)) ?_ (it_R rfl)
    simp [Op.intDiv, h0']
  case and => subst h; rw [binOp_and]; exact Runs.pure rfl (it_R rfl)
  case or => subst h; rw [binOp_or]; exact Runs.pure rfl (it_R rfl)
  case xor => subst h; rw [binOp_xor]; exact Runs.pure rfl (it_R rfl)
  case andNot => subst h; rw [binOp_andNot]; exact Runs.pure rfl (it_R rfl)
  case eql => subst h; rw [binOp_eql]; exact Runs.pure rfl (bo_R rfl)
  case neq => subst h; rw [binOp_neq]; exact Runs.pure rfl (bo_R rfl)
  case lss => subst h; rw [binOp_lss]; exact Runs.pure rfl (bo_R rfl)
  case leq => subst h; rw [binOp_leq]; exact Runs.pure rfl (bo_R rfl)
  case gtr => subst h; rw [binOp_gtr]; exact Runs.pure rfl (bo_R rfl)
  case geq => subst h; rw [binOp_geq]; exact Runs.pure rfl (bo_R rfl)
theorem shiftI_sound {op : BinOp} {k yk : IntKind} {lit : Bool} {x y : Int} {v : V} (h : (shiftI op k lit x y).get = some v) (w : World) (ρ : Nat → Option Loc) :
    Runs P (Op.shift op k x yk y) w ρ v := by
  have hy : ¬ y < 0 ∧ (match op with
    | .shl => (.leaf (.it k (k.wrap (x * 2 ^ min y.toNat k.bits))) : T V)
    | .shr => .leaf (.it k (x.fdiv (2 ^ min y.toNat k.bits)))
    | _ => .bad).get = some v := by
    unfold shiftI at h
    cases lit
    · simp only [T.get_br] at h
      cases hy : decide (y < 0) <;> rw [hy] at h
      · exact ⟨by simpa using hy, h⟩
      · cases h
    · cases hy : decide (y < 0) <;> rw [hy] at h
      · exact ⟨by simpa using hy, h⟩
      · cases h
  obtain ⟨h0, h1⟩ := hy
  cases op <;> simp only [T.get_leaf, T.get_bad, Option.some.injEq, reduceCtorEq] at h1
  case shl =>
    subst h1
    refine Runs.pure (c := .int k (k.wrap (x * 2 ^ min y.toNat k.bits))) ?_ (it_R rfl)
    simp [Op.shift, h0]
  case shr =>
    subst h1
    refine Runs.pure (c := .int k (x.fdiv (2 ^ min y.toNat k.bits))) ?_ (it_R rfl)
    simp [Op.shift, h0]
theorem binS_sound {op : BinOp} {x y : ByteArray} {v : V} (h : (binS op x y).get = some v) (t : TypeId) (w : World) (ρ : Nat → Option Loc) :
    Runs P (binOp op t (.string x) (.string y)) w ρ v := by
  have e : ∀ op, op ≠ .shl → op ≠ .shr → binOp op t (.string x) (.string y) = Op.stringOp op x y := by
    intro op h1 h2
    cases op <;> first | rfl | exact absurd rfl h1 | exact absurd rfl h2
  cases op <;> simp only [binS, T.get_leaf, T.get_bad, Option.some.injEq, reduceCtorEq] at h
  case add =>
    rcases T.get_br_some h with ⟨_, h⟩ | ⟨hc, h⟩
    · cases h
    · cases h
      rw [e _ (by simp) (by simp)]
      have hc' : ¬ ((x.size + y.size : Nat) : Int) > IntKind.i64.max := by simpa using hc
      refine Runs.pure (c := .string (x ++ y)) ?_ (by simp only [V.R])
      unfold Op.stringOp
      simp only [if_neg hc', Sem.run_pure]
  case eql =>
    subst h
    rw [e _ (by simp) (by simp)]
    exact Runs.pure rfl (bo_R rfl)
  case neq =>
    subst h
    rw [e _ (by simp) (by simp)]
    exact Runs.pure rfl (bo_R rfl)
theorem boolOf_R {ρ : Nat → Option Loc} {v : V} {x : Bool} {c : Value} (h : v.boolOf = some x) (hr : V.R ρ v c) : c = .bool x := by
  cases v <;> simp only [V.boolOf, Option.some.injEq, reduceCtorEq] at h
  all_goals
    subst h
    simpa only [V.R] using hr
theorem run_eqGuard_sc (op : BinOp) (t : TypeId) (x y : Operand) (u v : Value) (w : World) (h : eqGuard op t x y u v = pure ()) : (eqGuard op t x y u v).run P w = .ok () w := by rw [h]; rfl
theorem run_equalIn_bool (n : Nat) {t : TypeId} (hd : P.underlying t = some .bool) (a c : Bool) (w : World) : (Op.equalIn (n + 1) t (.bool a) (.bool c)).run P w = .ok (a == c) w := by
  simp [Op.equalIn, run_underlying hd]
theorem run_equal_bool {t : TypeId} (hd : P.underlying t = some .bool) (a c : Bool) (w : World) : (Op.equal t (.bool a) (.bool c)).run P w = .ok (a == c) w := by
  simp only [Op.equal, Op.maxDepth, run_equalIn_bool 9999 hd a c w]
theorem binB_sound {ρ : Nat → Option Loc} {op : BinOp} {t : TypeId} {d : TypeDesc} {a c : Bool} {v : V} {w : World} (hd : P.underlying t = some d) (h : (binB op d a c).get = some v) :
    Runs P (binOp op t (.bool a) (.bool c)) w ρ v := by
  unfold binB at h
  split at h
  · cases h
    refine Runs.pure (c := .bool (a == c)) ?_ (bo_R rfl)
    simp only [binOp, Sem.run_bind, run_equal_bool hd, Result.andThen_ok, Sem.run_pure]
  · cases h
    refine Runs.pure (c := .bool (!(a == c))) ?_ (bo_R rfl)
    simp only [binOp, Sem.run_bind, run_equal_bool hd, Result.andThen_ok, Sem.run_pure]
  · cases h
theorem binQn_sound {ρ : Nat → Option Loc} {op : BinOp} {d : TypeDesc} {lit : Bool} {n m x y : Int} {v : V} (hn : isNaN .f32 n.toNat = true) (hxy : (x = n ∧ y = m) ∨ (x = m ∧ y = n))
    (h : (binV op d lit .qn (.it .u32 m)).get = some v) (t : TypeId) (w : World) : Runs P (binOp op t (.int .u32 x) (.int .u32 y)) w ρ v := by
  have hne : isNaN .f32 m.toNat = false → x ≠ y := by
    intro hm e
    have : n = m := by
      rcases hxy with ⟨h1, h2⟩ | ⟨h1, h2⟩ <;> omega
    rw [this, hm] at hn
    cases hn
  cases op <;> simp only [binV, T.get_bad, reduceCtorEq] at h
  case eql =>
    rcases T.get_br_some h with ⟨_, h⟩ | ⟨hm, h⟩
    · cases h
    · cases h
      rw [binOp_eql]
      exact Runs.pure rfl (bo_R (by simp [hne hm]))
  case neq =>
    rcases T.get_br_some h with ⟨_, h⟩ | ⟨hm, h⟩
    · cases h
    · cases h
      rw [binOp_neq]
      exact Runs.pure rfl (bo_R (by simp [hne hm]))
theorem opBin_sound {fr : List (Nat × V)} {a : Act} {ρ : Nat → Option Loc} {op : BinOp} {t : TypeId} {d : TypeDesc} {x y : Operand} {v : V} {w : World} (hf : FR ρ fr a.tmps) (hd : P.underlying t = some d)
    (h : (opBin fr op d x y).get = some v) : Runs P (do eqGuard op t x y (a.eval x) (a.eval y); binOp op t (a.eval x) (a.eval y)) w ρ v := by
  have lift : ∀ {A : Value}, a.eval x = A → eqGuard op t x y A (a.eval y) = pure () → Runs P (binOp op t (a.eval x) (a.eval y)) w ρ v → Runs P (do eqGuard op t x y (a.eval x) (a.eval y); binOp op t (a.eval x) (a.eval y)) w ρ v := by
    intro A hA hg hr
    obtain ⟨c, w', h1, h2⟩ := hr
    refine ⟨c, w', ?_, h2⟩
    rw [← hA] at hg
    simp only [hg, pure_bind, h1]
  unfold opBin at h
  cases hx : ev fr x with
  | none => rw [hx] at h; cases h
  | some vx =>
    cases hy : ev fr y with
    | none => rw [hx, hy] at h; cases h
    | some vy =>
      simp only [hx, hy] at h
      have e1 := ev_R hf hx
      have e2 := ev_R hf hy
      generalize (lit0 y).isSome = lit at h
      cases vx <;> cases vy <;> first | (cases h; done) | skip
      · simp only [V.R] at e1 e2
        refine lift e1 (eqGuard_at_bool _ _ _ _ _ _) ?_
        rw [e1, e2]
        exact binB_sound hd h
      · simp only [V.R] at e1 e2
        refine lift e1 (eqGuard_at_bool _ _ _ _ _ _) ?_
        rw [e1, e2]
        exact binB_sound hd h
      · simp only [V.R] at e1 e2
        refine lift e1 (eqGuard_at_bool _ _ _ _ _ _) ?_
        rw [e1, e2]
        exact binB_sound hd h
      · simp only [V.R] at e1 e2
        refine lift e1 (eqGuard_at_bool _ _ _ _ _ _) ?_
        rw [e1, e2]
        exact binB_sound hd h
      · rename_i k n k' n'
        simp only [V.R] at e1 e2
        refine lift e1 (eqGuard_at_int _ _ _ _ _ _ _) ?_
        rw [e1, e2]
        simp only [binV] at h
        cases hs : isShift op with
        | true =>
          rw [hs] at h
          have : binOp op t (.int k n) (.int k' n') = Op.shift op k n k' n' := by cases op <;> first | rfl | cases hs
          rw [this]
          exact shiftI_sound h w ρ
        | false =>
          rw [hs] at h
          cases hk : ikEq k k' with
          | false => rw [hk] at h; cases h
          | true =>
            rw [hk] at h
            have := ikEq_eq hk
            subst this
            exact binI_sound h t w ρ
      · rename_i k n
        have hk : k = .u32 := by cases k <;> first | rfl | (cases h; done)
        subst hk
        simp only [V.R] at e1 e2
        obtain ⟨m, e2, hm⟩ := e2
        refine lift e1 (eqGuard_at_int _ _ _ _ _ _ _) ?_
        rw [e1, e2]
        exact binQn_sound (n := m) (m := n) (d := d) (lit := lit) hm (.inr ⟨rfl, rfl⟩) h t w
      · rename_i k n k' n'
        simp only [V.R] at e1 e2
        obtain ⟨b1, e1, rfl⟩ := e1
        obtain ⟨b2, e2, rfl⟩ := e2
        refine lift e1 (eqGuard_at_float _ _ _ _ _ _ _) ?_
        rw [e1, e2]
        simp only [binV] at h
        cases hk : fkEq k k' with
        | false => rw [hk] at h; cases h
        | true =>
          rw [hk] at h
          have := fkEq_eq hk
          subst this
          exact binF_sound h t w ρ
      · simp only [V.R] at e1 e2
        refine lift e1 (eqGuard_at_string _ _ _ _ _ _) ?_
        rw [e1, e2]
        exact binS_sound h t w ρ
      · rename_i k n
        have hk : k = .u32 := by cases k <;> first | rfl | (cases h; done)
        subst hk
        simp only [V.R] at e1 e2
        obtain ⟨m, e1, hm⟩ := e1
        refine lift e1 (eqGuard_at_int _ _ _ _ _ _ _) ?_
        rw [e1, e2]
        exact binQn_sound (n := m) (m := n) (d := d) (lit := lit) hm (.inl ⟨rfl, rfl⟩) h t w
/-- Structs of this type are compared number by number. -/
def EqOK (P : Program) (t : TypeId) (n : Nat) : Prop := ∀ (a b : List Int) (op : BinOp) (x y : Operand) (w : World), a.length = n → b.length = n →
  (eqGuard op t x y (.agg (a.map (Value.int .i64)).toArray) (.agg (b.map (Value.int .i64)).toArray)).run P w = .ok () w ∧
  (Op.equal t (.agg (a.map (Value.int .i64)).toArray) (.agg (b.map (Value.int .i64)).toArray)).run P w = .ok (eqInts a b) w
theorem run_equalIn_int (n : Nat) {t : TypeId} (hd : P.underlying t = some (.int .i64)) (a c : Int) (w : World) : (Op.equalIn (n + 1) t (.int .i64 a) (.int .i64 c)).run P w = .ok (a == c) w := by
  simp [Op.equalIn, run_underlying hd]
theorem run_equalIn_two (n : Nat) {t : TypeId} {f0 f1 : Field} (hu : P.underlying t = some (.struct #[f0, f1])) (h0 : f0.name ≠ "_") (h1 : f1.name ≠ "_") (ho0 : f0.offset = 0) (ho1 : f1.offset = 1)
    (hi0 : P.underlying f0.type = some (.int .i64)) (hi1 : P.underlying f1.type = some (.int .i64)) (ha0 : ∀ w, (isAgg f0.type).run P w = .ok false w) (ha1 : ∀ w, (isAgg f1.type).run P w = .ok false w)
    (hs : P.stoodInHeld t = false) (a0 a1 b0 b1 : Int) (w : World) : (Op.equalIn (n + 2) t (.agg #[.int .i64 a0, .int .i64 a1]) (.agg #[.int .i64 b0, .int .i64 b1])).run P w = .ok (eqInts [a0, a1] [b0, b1]) w := by
  have p0 : ∀ (u v : Int) (w : World), (part f0.type #[.int .i64 u, .int .i64 v] f0.offset).run P w = .ok (.int .i64 u) w := fun u v w => by
    simp [part, ha0, ho0]
  have p1 : ∀ (u v : Int) (w : World), (part f1.type #[.int .i64 u, .int .i64 v] f1.offset).run P w = .ok (.int .i64 v) w := fun u v w => by
    simp [part, ha1, ho1]
  have q0 := fun w => run_equalIn_int n hi0 a0 b0 w
  have q1 := fun w => run_equalIn_int n hi1 a1 b1 w
  have e : Op.equalIn (n + 2) t (.agg #[.int .i64 a0, .int .i64 a1]) (.agg #[.int .i64 b0, .int .i64 b1]) = Op.equalIn ((n + 1) + 1) t (.agg #[.int .i64 a0, .int .i64 a1]) (.agg #[.int .i64 b0, .int .i64 b1]) := rfl
  rw [e]
  generalize n + 1 = k at q0 q1
  unfold Op.equalIn
  simp [run_underlying hu, hs, h0, h1, p0, p1, q0, q1]
  unfold eqInts
  unfold eqInts
  unfold eqInts
  by_cases c0 : a0 = b0
  · by_cases c1 : a1 = b1
    · simp [c0, c1]
    · simp [c0, c1]
  · simp [c0]
theorem EqOK.two {t : TypeId} {f0 f1 : Field} (hu : P.underlying t = some (.struct #[f0, f1])) (h0 : f0.name ≠ "_") (h1 : f1.name ≠ "_") (ho0 : f0.offset = 0) (ho1 : f1.offset = 1)
    (hi0 : P.underlying f0.type = some (.int .i64)) (hi1 : P.underlying f1.type = some (.int .i64)) (ha0 : ∀ w, (isAgg f0.type).run P w = .ok false w) (ha1 : ∀ w, (isAgg f1.type).run P w = .ok false w)
    (hs : P.stoodInHeld t = false) (hg : P.eqGuardType P.depth t = false) : EqOK P t 2 := by
  intro a b op x y w ha hb
  match a, b, ha, hb with
  | [a0, a1], [b0, b1], _, _ =>
    refine ⟨?_, run_equalIn_two 9998 hu h0 h1 ho0 ho1 hi0 hi1 ha0 ha1 hs a0 a1 b0 b1 w⟩
    unfold eqGuard
    cases op <;> simp [hg]
theorem intsV_R {ρ : Nat → Option Loc} : ∀ {xs : List V} {l : List Int} {cs : List Value}, intsV xs = some l → V.Rs ρ xs cs → cs = l.map (Value.int .i64)
  | [], l, cs, h, hr => by
    cases h
    simpa only [V.Rs, List.map_nil] using hr
  | v :: r, l, cs, h, hr => by
    cases v <;> first | (cases h; done) | skip
    rename_i k n
    unfold intsV at h
    split at h
    · rename_i l' hk hl
      cases h
      simp only [V.Rs] at hr
      obtain ⟨y, ys, rfl, hy, hs⟩ := hr
      simp only [V.R] at hy
      have := ikEq_eq hk
      subst this
      subst hy
      rw [intsV_R hl hs]
      rfl
    · cases h
theorem intsV_len : ∀ {xs : List V} {l : List Int}, intsV xs = some l → l.length = xs.length
  | [], l, h => by cases h; rfl
  | v :: r, l, h => by
    cases v <;> first | (cases h; done) | skip
    unfold intsV at h
    split at h
    · rename_i l' hk hl
      cases h
      simp only [List.length_cons, intsV_len hl]
    · cases h
theorem eqV_sound {fr : List (Nat × V)} {a : Act} {ρ : Nat → Option Loc} {op : BinOp} {t : TypeId} {n : Nat} {x y : Operand} {xs ys : List V} {v : V} {w : World} (hf : FR ρ fr a.tmps) (he : EqOK P t n) (hx : ev fr x = some (.agg xs)) (hy : ev fr y = some (.agg ys))
    (h : (eqV n op xs ys).get = some v) : Runs P (do eqGuard op t x y (a.eval x) (a.eval y); binOp op t (a.eval x) (a.eval y)) w ρ v := by
  unfold eqV at h
  split at h
  · rename_i l m hl hm h1 h2
    have e1 := ev_R hf hx
    have e2 := ev_R hf hy
    simp only [V.R] at e1 e2
    obtain ⟨c1, e1, r1⟩ := e1
    obtain ⟨c2, e2, r2⟩ := e2
    have r1 := intsV_R h1 r1
    have r2 := intsV_R h2 r2
    have k1 : c1 = (l.map (Value.int .i64)).toArray := by rw [← r1]
    have k2 : c2 = (m.map (Value.int .i64)).toArray := by rw [← r2]
    have hl := Nat.eq_of_beq_eq_true hl
    have hm := Nat.eq_of_beq_eq_true hm
    obtain ⟨g1, g2⟩ := he l m op x y w (by rw [intsV_len h1, hl]) (by rw [intsV_len h2, hm])
    rw [e1, e2, k1, k2]
    split at h
    · cases h
      refine Runs.pure (c := .bool (eqInts l m)) ?_ (bo_R rfl)
      simp only [binOp, Sem.run_bind, g1, g2, Result.andThen_ok, Sem.run_pure]
    · cases h
      refine Runs.pure (c := .bool (!(eqInts l m))) ?_ (bo_R rfl)
      simp only [binOp, Sem.run_bind, g1, g2, Result.andThen_ok, Sem.run_pure]
    · cases h
  · cases h
theorem opUn_sound {ρ : Nat → Option Loc} {op : UnOp} {x v : V} {c : Value} {w : World} (hr : V.R ρ x c) (h : (opUn op x).get = some v) : Runs P (Op.unary op c) w ρ v := by
  cases x <;> simp only [opUn, T.get_bad, reduceCtorEq] at h
  case it k n =>
    simp only [V.R] at hr
    subst hr
    cases op <;> simp only [T.get_leaf, T.get_bad, reduceCtorEq, Option.some.injEq] at h
    subst h
    exact Runs.pure rfl (it_R rfl)
  case fl k n =>
    simp only [V.R] at hr
    obtain ⟨b, rfl, rfl⟩ := hr
    cases op <;> simp only [T.get_leaf, T.get_bad, reduceCtorEq, Option.some.injEq] at h
    subst h
    exact Runs.pure rfl (fl_R (fneg_nz k b))
  case kb b =>
    simp only [V.R] at hr
    subst hr
    cases op <;> simp only [T.get_leaf, T.get_bad, reduceCtorEq, Option.some.injEq] at h
    subst h
    exact Runs.pure rfl (by simp only [V.R])
  case bo b =>
    simp only [V.R] at hr
    subst hr
    cases op <;> simp only [T.get_leaf, T.get_bad, reduceCtorEq, Option.some.injEq] at h
    subst h
    exact Runs.pure rfl (bo_R rfl)
theorem read_nz (k : FloatKind) (b : Nat) : k.format.read (nz k b) = k.format.read b ∨ ((∃ s t, k.format.read b = .nan s t) ∧ ∃ s t, k.format.read (nz k b) = .nan s t) := by
  rcases nz_cases k b with h | h
  · exact .inl (by rw [h])
  · exact .inr h
theorem toInt_nz (k : FloatKind) (b : Nat) (i : IntKind) : floatToIntVal k (nz k b) i = floatToIntVal k b i := by
  unfold floatToIntVal FloatKind.decode
  rcases read_nz k b with h | ⟨⟨s, t, h⟩, s', t', h'⟩
  · rw [h]
  · rw [h, h']; rfl
theorem conv_ff_sound {s k : FloatKind} {b : Nat} (hk : fkEq s k = false) (ho : fcvOpen s k (nz s b) = false) (w : World) (ρ : Nat → Option Loc) :
    Runs P (Conv.floatToFloat s b k) w ρ (.fl k (fcv s k (nz s b))) := by
  have hne : ¬ s = k := by
    rintro rfl
    cases s <;> cases hk
  unfold Conv.floatToFloat
  rw [if_neg hne]
  have hnan : ∀ n m, s.decode b = .nan n m → fcv s k (nz s b) = nanOf k := by
    intro n m hd
    have : nz s b = nanOf s := nz_of_nan (isNaN_of_read hd)
    obtain ⟨n', m', hd'⟩ := decode_nanOf s
    unfold fcv
    rw [this]
    have hd'' : s.decode (nanOf s) = .nan n' m' := hd'
    rw [hd'']
    exact nz_nanOf k
  have hsame : (∀ n m, s.decode b ≠ .nan n m) → nz s b = b := by
    intro hn
    cases h : isNaN s b with
    | false => exact nz_of_not h
    | true =>
      obtain ⟨n, m, hd⟩ := isNaN_read h
      exact absurd hd (hn n m)
  cases hd : s.decode b with
  | nan n m =>
    rw [hnan n m hd]
    refine ⟨.float k ((Question.nanConv k b).cut (w.tape w.drawn (.nanConv k b))), { w with drawn := w.drawn + 1 }, ?_, fl_R ?_, Gr.drew w⟩
    · simp [Question.forced]
    · rw [cut_nanConv]
  | infinity n =>
    rw [hsame (fun _ _ => by rw [hd]; simp)]
    refine Runs.pure rfl (fl_R ?_)
    unfold fcv
    rw [hd]
  | number n m e =>
    rw [hsame (fun _ _ => by rw [hd]; simp)] at ho ⊢
    have ho' : (k.decode (k.encode (.number n m e))).isInfinity = false := by
      unfold fcvOpen at ho
      rw [hd] at ho
      exact ho
    refine Runs.pure (c := .float k (k.encode (.number n m e))) ?_ (fl_R ?_)
    · simp only [ho', Bool.false_eq_true, if_false, Sem.run_pure]
    · unfold fcv
      rw [hd]
theorem opConv_sound {ρ : Nat → Option Loc} {src dst : TypeId} {sd dd : TypeDesc} {x v : V} {c : Value} {w : World} (hs : P.underlying src = some sd) (hd : P.underlying dst = some dd) (hr : V.R ρ x c)
    (h : (opConv dd x).get = some v) : Runs P (convert src dst c) w ρ v := by
  cases x <;> simp only [opConv, T.get_bad, reduceCtorEq] at h
  case it k n =>
    simp only [V.R] at hr
    subst hr
    split at h
    · cases h
      refine Runs.pure ?_ (it_R rfl)
      cases sd <;> simp [convert, run_underlying hs, run_underlying hd, Conv.intToInt]
    · rename_i k'
      cases h
      refine Runs.pure (c := .float k' (k'.nearest n)) ?_ (fl_R rfl)
      cases sd <;> simp [convert, run_underlying hs, run_underlying hd, Conv.intToFloat]
    · cases h
  case fl k n =>
    simp only [V.R] at hr
    obtain ⟨b, rfl, rfl⟩ := hr
    split at h
    · rename_i k'
      rcases T.get_br_some h with ⟨ho, h⟩ | ⟨_, h⟩
      · cases h
        unfold ftoiOk at ho
        rw [toInt_nz] at ho
        obtain ⟨m, hm⟩ := Option.isSome_iff_exists.1 ho
        refine Runs.pure (run_convert_float_int w src dst k k' b m (by rw [hs]; rfl) hd hm) (it_R ?_)
        unfold ftoi
        rw [toInt_nz, hm]
        rfl
      · cases h
    · rename_i k'
      split at h
      · rename_i hk
        have := fkEq_eq hk
        subst this
        cases h
        refine Runs.pure (c := .float k b) ?_ (fl_R rfl)
        cases sd <;> simp [convert, run_underlying hs, run_underlying hd, Conv.floatToFloat]
      · rename_i hk
        rcases T.get_br_some h with ⟨_, h⟩ | ⟨ho, h⟩
        · cases h
        · cases h
          obtain ⟨c, w', h1, h2⟩ := conv_ff_sound (P := P) hk ho w ρ
          refine ⟨c, w', ?_, h2⟩
          cases sd <;> simp [convert, run_underlying hs, run_underlying hd, h1]
    · cases h
  case st s =>
    simp only [V.R] at hr
    subst hr
    split at h
    · cases h
      refine Runs.pure (c := .string s) ?_ (by simp only [V.R])
      cases sd <;> simp [convert, run_underlying hs, run_underlying hd]
    · cases h
theorem min2_sound {ρ : Nat → Option Loc} {x y v : V} {c d : Value} {w : World} (hx : V.R ρ x c) (hy : V.R ρ y d) (h : (min2 x y).get = some v) : Runs P (Builtin.min2 c d) w ρ v := by
  unfold min2 at h
  split at h
  · simp only [V.R] at hx hy
    subst hx; subst hy
    split at h
    · rename_i hk
      have := ikEq_eq hk
      subst this
      cases h
      exact Runs.pure rfl (it_R rfl)
    · cases h
  · rename_i k _ k' _
    simp only [V.R] at hx hy
    obtain ⟨a, rfl, rfl⟩ := hx
    obtain ⟨b, rfl, rfl⟩ := hy
    split at h
    · rename_i hk
      have := fkEq_eq hk
      subst this
      cases h
      have ho := order_nz k a b
      have hun : Builtin.min2 (.float k a) (.float k b) = (match k.format.order a b with
        | none => do Pure.pure (Value.float k (← choose (.nanMinMax k false a b)))
        | some .lt => Pure.pure (.float k a)
        | some .gt => Pure.pure (.float k b)
        | some .eq => Pure.pure (.float k (if (k.decode a).neg then a else b))) := rfl
      rw [hun]
      unfold fmin
      rw [ho]
      cases hab : k.format.order a b with
      | none =>
        refine ⟨.float k ((Question.nanMinMax k false a b).cut (w.tape w.drawn (.nanMinMax k false a b))), { w with drawn := w.drawn + 1 }, ?_, fl_R ?_, Gr.drew w⟩
        · simp [Question.forced]
        · rw [cut_nanMinMax]
      | some o =>
        have hna : nz k a = a := by
          rcases nz_cases k a with h | ⟨⟨s, t, h⟩, _⟩
          · exact h
          · unfold Ieee.Format.order at hab
            rw [h, order_nan_l] at hab
            cases hab
        have hnb : nz k b = b := by
          rcases nz_cases k b with h | ⟨⟨s, t, h⟩, _⟩
          · exact h
          · unfold Ieee.Format.order at hab
            rw [h, order_nan_r] at hab
            cases hab
        rw [hna, hnb]
        cases o
        · exact Runs.pure rfl (fl_R hna)
        · refine Runs.pure rfl (fl_R ?_)
          dsimp only
          cases (k.decode a).neg
          · exact hnb
          · exact hna
        · exact Runs.pure rfl (fl_R hnb)
    · cases h
  · cases h
theorem max2_sound {ρ : Nat → Option Loc} {x y v : V} {c d : Value} {w : World} (hx : V.R ρ x c) (hy : V.R ρ y d) (h : (max2 x y).get = some v) : Runs P (Builtin.max2 c d) w ρ v := by
  unfold max2 at h
  split at h
  · simp only [V.R] at hx hy
    subst hx; subst hy
    split at h
    · rename_i hk
      have := ikEq_eq hk
      subst this
      cases h
      exact Runs.pure rfl (it_R rfl)
    · cases h
  · rename_i k _ k' _
    simp only [V.R] at hx hy
    obtain ⟨a, rfl, rfl⟩ := hx
    obtain ⟨b, rfl, rfl⟩ := hy
    split at h
    · rename_i hk
      have := fkEq_eq hk
      subst this
      cases h
      have ho := order_nz k a b
      have hun : Builtin.max2 (.float k a) (.float k b) = (match k.format.order a b with
        | none => do Pure.pure (Value.float k (← choose (.nanMinMax k true a b)))
        | some .lt => Pure.pure (.float k b)
        | some .gt => Pure.pure (.float k a)
        | some .eq => Pure.pure (.float k (if (k.decode a).neg then b else a))) := rfl
      rw [hun]
      unfold fmax
      rw [ho]
      cases hab : k.format.order a b with
      | none =>
        refine ⟨.float k ((Question.nanMinMax k true a b).cut (w.tape w.drawn (.nanMinMax k true a b))), { w with drawn := w.drawn + 1 }, ?_, fl_R ?_, Gr.drew w⟩
        · simp [Question.forced]
        · rw [cut_nanMinMax]
      | some o =>
        have hna : nz k a = a := by
          rcases nz_cases k a with h | ⟨⟨s, t, h⟩, _⟩
          · exact h
          · unfold Ieee.Format.order at hab
            rw [h, order_nan_l] at hab
            cases hab
        have hnb : nz k b = b := by
          rcases nz_cases k b with h | ⟨⟨s, t, h⟩, _⟩
          · exact h
          · unfold Ieee.Format.order at hab
            rw [h, order_nan_r] at hab
            cases hab
        rw [hna, hnb]
        cases o
        · exact Runs.pure rfl (fl_R hnb)
        · refine Runs.pure rfl (fl_R ?_)
          dsimp only
          cases (k.decode a).neg
          · exact hna
          · exact hnb
        · exact Runs.pure rfl (fl_R hna)
    · cases h
  · cases h
theorem bounds_of {i : Int} {n : Nat} (h : bounds i n = true) : 0 ≤ i ∧ i < n := by
  unfold bounds at h
  simp only [Bool.and_eq_true, decide_eq_true_eq] at h
  exact h
end Go.Proofs.Ytkfpmiggolmabaa.Sx
