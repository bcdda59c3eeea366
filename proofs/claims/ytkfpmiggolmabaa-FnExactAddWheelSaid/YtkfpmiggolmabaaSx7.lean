/- The abstract execution is sound: every operation that changes no memory, in one statement. -/
import Derived.Test.YtkfpmiggolmabaaSx6
namespace Go.Proofs.Ytkfpmiggolmabaa.Sx
open Go Go.RowKit
set_option linter.unusedVariables false
set_option linter.unusedSimpArgs false
variable {P : Program}

theorem execOp_bin (a : Act) (o : Oper) (op : BinOp) (t : TypeId) (x y : Operand) (u : TypeId) (ho : o.op = .binOp op t x y u) :
    execOp a.eval o = (do pure (.value (← (do eqGuard op t x y (a.eval x) (a.eval y); binOp op t (a.eval x) (a.eval y))))) := by
  unfold execOp; rw [ho]
set_option maxHeartbeats 800000 in
theorem opQ_sound {C : Ctx} (hC : CtxOK P C) {fr : List (Nat × V)} {H : Hp} {a : Act} {w : World} {o : Oper} {v : V} {ρ : Nat → Option Loc} (hf : FR ρ fr a.tmps) (hh : HpR ρ H w)
    (h : (opQ C fr H o.op).get = some v) {K : Act → World → Prop} {Q : Exit → Act → World → Prop} (hK : ∀ c w', V.R ρ v c → Left ρ H w ρ H w' → K (a.put o.dst c) w') : o.wp P a w K Q := by
  cases ho : o.op with
  | move x =>
    rw [ho] at h
    simp only [opQ] at h
    split at h
    · rename_i v' hv
      cases h
      exact wp_pure (by unfold execOp; rw [ho]; rfl) (ev_R hf hv) hh hK
    · cases h
  | assign x =>
    rw [ho] at h
    simp only [opQ] at h
    split at h
    · rename_i v' hv
      cases h
      exact wp_pure (by unfold execOp; rw [ho]; rfl) (ev_R hf hv) hh hK
    · cases h
  | pick c x y =>
    rw [ho] at h
    simp only [opQ] at h
    have go : ∀ t : Bool, a.eval c = .bool t → V.R ρ v (if t then a.eval x else a.eval y) → o.wp P a w K Q := by
      intro t hc hr
      refine wp_pure (c := if t then a.eval x else a.eval y) ?_ hr hh hK
      unfold execOp
      rw [ho]
      simp [hc, asBool]
    split at h
    · rename_i hc
      have e := ev_R hf hc
      simp only [V.R] at e
      split at h
      · rename_i v' hv
        cases h
        exact go true e (ev_R hf hv)
      · cases h
    · rename_i hc
      have e := ev_R hf hc
      simp only [V.R] at e
      split at h
      · rename_i v' hv
        cases h
        exact go false e (ev_R hf hv)
      · cases h
    · rename_i t hc
      have e := ev_R hf hc
      simp only [V.R] at e
      split at h
      · rename_i v1 v2 h1 h2
        cases t
        · cases h
          exact go false e (ev_R hf h2)
        · cases h
          exact go true e (ev_R hf h1)
      · cases h
    · cases h
  | load t x =>
    rw [ho] at h
    simp only [opQ] at h
    split at h
    · rename_i ti id off hti hx
      have e := ev_R hf hx
      simp only [V.R] at e
      obtain ⟨l, hl, e⟩ := e
      obtain ⟨c, h1, h2⟩ := loadQ_sound (hC.ty t ti hti) hh h hl
      refine wp_pure (c := c) ?_ h2 hh hK
      unfold execOp
      rw [ho]
      simp only [e, Instr.loadAt, Instr.sureAddr, Sem.run_bind, Sem.run_pure, Result.andThen_ok, h1]
    · rename_i ti id row sz col hti hx
      have e := ev_R hf hx
      simp only [V.R] at e
      obtain ⟨l, hl, e⟩ := e
      obtain ⟨c, h1, h2⟩ := loadP_sound (hC.ty t ti hti) hh h hl
      refine wp_pure (c := c) ?_ h2 hh hK
      unfold execOp
      rw [ho]
      simp only [e, Instr.loadAt, Instr.sureAddr, Sem.run_bind, Sem.run_pure, Result.andThen_ok, h1]
    · cases h
  | nilCheck x =>
    rw [ho] at h
    simp only [opQ] at h
    split at h
    · rename_i id off hx
      cases h
      have hr := ev_R hf hx
      have e := hr
      simp only [V.R] at e
      obtain ⟨l, hl, e⟩ := e
      refine wp_pure (c := a.eval x) ?_ hr hh hK
      unfold execOp
      rw [ho]
      simp only [e]
      rfl
    · rename_i id row sz col hx
      cases h
      have hr := ev_R hf hx
      have e := hr
      simp only [V.R] at e
      obtain ⟨l, hl, e⟩ := e
      refine wp_pure (c := a.eval x) ?_ hr hh hK
      unfold execOp
      rw [ho]
      simp only [e]
      rfl
    · rename_i f cap hx
      cases h
      have hr := ev_R hf hx
      have e := hr
      simp only [V.R] at e
      obtain ⟨cs, e, _⟩ := e
      refine wp_pure (c := a.eval x) ?_ hr hh hK
      unfold execOp
      rw [ho]
      simp only [e]
      rfl
    · cases h
  | binOp op t x y u =>
    rw [ho] at h
    simp only [opQ] at h
    split at h
    · rename_i ti hti
      split at h
      · exact wp_runs (execOp_bin a o op t x y u ho) (opBin_sound hf (hC.ty t ti hti).1 h) hh hK
      · rename_i n hn
        split at h
        · rename_i xs ys hx hy
          exact wp_runs (execOp_bin a o op t x y u ho) (eqV_sound hf (hC.eq t n hn) hx hy h) hh hK
        · cases h
    · cases h
  | unOp op t x =>
    rw [ho] at h
    simp only [opQ] at h
    split at h
    · rename_i vx hx
      exact wp_runs (s := Op.unary op (a.eval x)) (by unfold execOp; rw [ho]) (opUn_sound (ev_R hf hx) h) hh hK
    · cases h
  | convert s d x =>
    rw [ho] at h
    simp only [opQ] at h
    split at h
    · rename_i si di vx hs hd hx
      exact wp_runs (s := convert s d (a.eval x)) (by unfold execOp; rw [ho]) (opConv_sound (hC.ty s si hs).1 (hC.ty d di hd).1 (ev_R hf hx) h) hh hK
    · cases h
  | makeFunc fn first captured =>
    rw [ho] at h
    cases fn <;> simp only [opQ] at h <;> first | (cases h; done) | skip
    rename_i f
    split at h
    · rename_i vs h1 h2
      cases h
      have hfirst : first = #[] := by
        cases first; simp at h1; subst h1; rfl
      subst hfirst
      have hr := evs_R hf h2
      refine wp_pure (c := .func (.func f) #[] (captured.map a.eval)) ?_ ?_ hh hK
      · unfold execOp
        rw [ho]
        simp [Instr.makeFunc]
      · simp only [V.R]
        exact ⟨_, rfl, by simpa using hr⟩
    · cases h
  | slice t x lo hi mx =>
    rw [ho] at h
    cases mx with
    | some m => cases h
    | none =>
      simp only [opQ] at h
      split at h
      · rename_i ti vx l hh' hti hx hlo hhi
        refine wp_runs (s := Instr.sliceAt t (a.eval x) (lo.map a.eval) (hi.map a.eval) none) (by unfold execOp; rw [ho]; rfl) (sliceQ_sound hC (hC.ty t ti hti) (ev_R hf hx) ?_ ?_ h) hh hK
        · rcases optInt_sound hf hlo with ⟨h1, h2⟩ | h1
          · exact .inl ⟨by rw [h1]; rfl, h2⟩
          · exact .inr h1
        · rcases optInt_sound hf hhi with ⟨h1, h2⟩ | h1
          · exact .inl ⟨by rw [h1]; rfl, h2⟩
          · exact .inr h1
      · cases h
  | fieldAddr t x f =>
    rw [ho] at h
    simp only [opQ] at h
    split at h
    · rename_i ti id off hti hx
      split at h
      · rename_i ft oo hfo
        split at h
        · rename_i fi hfi
          split at h
          · cases h
          · rename_i n hsz
            cases h
            obtain ⟨fs, y, hd, hy, rfl, rfl⟩ := fieldOff_sound hfo
            have hu := (hC.ty t ti hti).1
            rw [hd] at hu
            have e := ev_R hf hx
            simp only [V.R] at e
            obtain ⟨l, hl, e⟩ := e
            refine wp_pure (c := .pointer (some ⟨l.b, l.o + (off + y.offset), none⟩)) ?_ (by simp only [V.R]; exact ⟨l, hl, rfl⟩) hh hK
            unfold execOp
            rw [ho]
            simp [Instr.fieldAt, run_underlying hu, hy, e, Instr.sureAddr, fieldPlace, run_sizeOf_sx (hC.ty _ fi hfi), hsz, Addr.add_lit, Nat.add_assoc]
        · cases h
      · cases h
    · rename_i ti id row sz col hti hx
      split at h
      · rename_i ft oo hfo
        split at h
        · rename_i fi hfi
          split at h
          · cases h
          · rename_i n hsz
            cases h
            obtain ⟨fs, y, hd, hy, rfl, rfl⟩ := fieldOff_sound hfo
            have hu := (hC.ty t ti hti).1
            rw [hd] at hu
            have e := ev_R hf hx
            simp only [V.R] at e
            obtain ⟨l, hl, e⟩ := e
            refine wp_pure (c := .pointer (some ⟨l.b, l.o + (row * sz + (col + y.offset)), none⟩)) ?_ (by simp only [V.R]; exact ⟨l, hl, rfl⟩) hh hK
            unfold execOp
            rw [ho]
            simp [Instr.fieldAt, run_underlying hu, hy, e, Instr.sureAddr, fieldPlace, run_sizeOf_sx (hC.ty _ fi hfi), hsz, Addr.add_lit, Nat.add_assoc]
        · cases h
      · cases h
    · cases h
  | field t x f =>
    rw [ho] at h
    simp only [opQ] at h
    split at h
    · rename_i ti xs hti hx
      split at h
      · rename_i ft oo hfo
        obtain ⟨fs, y, hd, hy, rfl, rfl⟩ := fieldOff_sound hfo
        have hu := (hC.ty t ti hti).1
        rw [hd] at hu
        have e := ev_R hf hx
        simp only [V.R] at e
        obtain ⟨cs, e, hcs⟩ := e
        obtain ⟨c, h1, h2⟩ := partQ_sound hC (w := w) hcs h
        refine wp_pure (c := c) ?_ h2 hh hK
        unfold execOp
        rw [ho]
        simp [Instr.field, run_underlying hu, hy, e, asAgg, h1]
      · cases h
    · cases h
  | indexAddr t x y =>
    rw [ho] at h
    simp only [opQ] at h
    split at h
    · rename_i ti vx k n hti hx hy
      have e := ev_R hf hy
      simp only [V.R] at e
      exact wp_runs (s := Instr.indexAt t (a.eval x) (.int k n)) (by unfold execOp; rw [ho]; simp only [e]) (idxQ_sound hC (hC.ty t ti hti) (ev_R hf hx) h) hh hK
    · cases h
  | index t x y =>
    rw [ho] at h
    simp only [opQ] at h
    split at h
    · rename_i ti vx k n hti hx hy
      have e := ev_R hf hy
      simp only [V.R] at e
      exact wp_runs (s := Instr.index t (a.eval x) (.int k n)) (by unfold execOp; rw [ho]; simp only [e]) (indexQ_sound hC (hC.ty t ti hti) (ev_R hf hx) h) hh hK
    · cases h
  | extract x n =>
    rw [ho] at h
    simp only [opQ] at h
    split at h
    · rename_i xs hx
      split at h
      · rename_i vn hn
        cases h
        have e := ev_R hf hx
        simp only [V.R] at e
        obtain ⟨cs, e, hcs⟩ := e
        obtain ⟨c, h1, h2⟩ := V.Rs_lget hcs hn
        refine wp_pure (c := c) ?_ h2 hh hK
        have h1' : cs[n]? = some c := by simpa using h1
        unfold execOp
        rw [ho]
        simp [Instr.extract, e, h1']
      · cases h
    · cases h
  | call c =>
    rw [ho] at h
    simp only [opQ] at h
    split at h
    · rename_i hc
      split at h
      · rename_i t ts v0 hts hvs
        split at h
        · rename_i ti hti
          have hr := evs_R hf hvs
          simp only [V.Rs] at hr
          obtain ⟨y, ys, hmap, hv, hnil⟩ := hr
          subst hnil
          have hargs : c.args.map a.eval = #[y] := by
            cases hcq : c.args with
            | mk l => rw [hcq] at hmap; simp at hmap ⊢; exact hmap
          have hlen : ∀ c' : Value, (∀ ty, (Builtin.len_ c.argTypes ty #[y]).run P w = .ok c' w) → V.R ρ v c' → o.wp P a w K Q := by
            intro c' h1 h2
            refine wp_pure (c := c') ?_ h2 hh hK
            unfold execOp
            rw [ho]
            simp [resolve, hc, invoke, builtin, hargs, h1]
          have hat : c.argTypes[0]? = some t := by
            have : c.argTypes.toList[0]? = some t := by rw [hts]; rfl
            simpa using this
          have hu := (hC.ty t ti hti).1
          split at h
          · rename_i hd
            rw [hd] at hu
            unfold lenS at h
            split at h
            · cases h
              simp only [V.R] at hv
              subst hv
              rename_i s
              exact hlen (goInt s.size) (fun ty => by simp [Builtin.len_, hat, run_underlying hu]) (it_R rfl)
            · cases h
          · rename_i e hd
            rw [hd] at hu
            unfold lenL at h
            split at h
            · cases h
              simp only [V.R] at hv
              obtain ⟨ad, cap, rfl, _⟩ := hv
              exact hlen (goInt _) (fun ty => by simp [Builtin.len_, hat, run_underlying hu]) (it_R rfl)
            · cases h
              simp only [V.R] at hv
              obtain ⟨l, _, rfl, _⟩ := hv
              exact hlen (goInt _) (fun ty => by simp [Builtin.len_, hat, run_underlying hu]) (it_R rfl)
            · cases h
              simp only [V.R] at hv
              subst hv
              exact hlen (goInt 0) (fun ty => by simp [Builtin.len_, hat, run_underlying hu]) (it_R rfl)
            · cases h
          · rename_i n e hd
            rw [hd] at hu
            cases h
            exact hlen (goInt n) (fun ty => by simp [Builtin.len_, hat, run_underlying hu]) (it_R rfl)
          · cases h
        · cases h
      · cases h
    · rename_i hc
      split at h
      · rename_i va vb hvs
        have hr := evs_R hf hvs
        simp only [V.Rs] at hr
        obtain ⟨y, ys, hmap, hv1, z, zs, rfl, hv2, rfl⟩ := hr
        have hargs : c.args.map a.eval = #[y, z] := by
          cases hcq : c.args with
          | mk l => rw [hcq] at hmap; simp at hmap ⊢; exact hmap
        refine wp_runs (s := Builtin.min2 y z) ?_ (min2_sound hv1 hv2 h) hh hK
        unfold execOp
        rw [ho]
        simp [resolve, hc, invoke, builtin, hargs, Builtin.min_]
      · cases h
    · rename_i hc
      split at h
      · rename_i va vb hvs
        have hr := evs_R hf hvs
        simp only [V.Rs] at hr
        obtain ⟨y, ys, hmap, hv1, z, zs, rfl, hv2, rfl⟩ := hr
        have hargs : c.args.map a.eval = #[y, z] := by
          cases hcq : c.args with
          | mk l => rw [hcq] at hmap; simp at hmap ⊢; exact hmap
        refine wp_runs (s := Builtin.max2 y z) ?_ (max2_sound hv1 hv2 h) hh hK
        unfold execOp
        rw [ho]
        simp [resolve, hc, invoke, builtin, hargs, Builtin.max_]
      · cases h
    · rename_i f hc
      split at h
      · rename_i args hvs
        have hr := evs_R hf hvs
        refine wp_call_const ho hc ?_
        have hok := callQ_sound hC hh hr h
        have e : (c.args.toList.map a.eval).toArray = c.args.map a.eval := by
          cases c.args; simp
        rw [e] at hok
        exact hok o a K Q fun c' w' ⟨h1, h2, h3⟩ => hK c' w' h1 (Left.quiet hh h2 h3)
      · cases h
    · cases h
  | _ => rw [ho] at h; cases h
end Go.Proofs.Ytkfpmiggolmabaa.Sx
