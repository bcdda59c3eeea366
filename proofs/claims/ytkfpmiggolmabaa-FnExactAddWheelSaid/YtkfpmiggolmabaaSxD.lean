/- The abstract execution is sound: functions. -/
import Derived.Test.YtkfpmiggolmabaaSxL
namespace Go.Proofs.Ytkfpmiggolmabaa.Sx
open Go Go.RowKit
set_option linter.unusedVariables false
set_option linter.unusedSimpArgs false
variable {P : Program}

def resOf (tmps : Array Value) : ResultVar → Sem Value
  | .tmp t => Pure.pure (tmps.getD t undef)
  | .cell a t => do loadVar t (← asAddr (tmps.getD a undef))
theorem retV_sound {C : Ctx} (hC : CtxOK P C) {ρ : Nat → Option Loc} {st : St} {tmps : Array Value} {w : World} (hf : FR ρ st.fr tmps) (hh : HpR ρ st.H w) : ∀ {rs : List ResultVar} {vs : List V}, (retV C st rs).get = some vs →
    ∃ us, (rs.mapM (resOf tmps)).run P w = .ok us w ∧ V.Rs ρ vs us
  | [], vs, h => by
    cases h
    exact ⟨[], by simp, by simp only [V.Rs]⟩
  | .tmp t :: r, vs, h => by
    simp only [retV] at h
    split at h
    · rename_i v hv
      obtain ⟨vs', h1, h2⟩ := T.get_bind _ _ _ h
      cases h2
      obtain ⟨us, h3, h4⟩ := retV_sound hC hf hh h1
      obtain ⟨c, h5, h6⟩ := hf t v hv
      refine ⟨c :: us, ?_, by simp only [V.Rs]; exact ⟨c, us, rfl, h6, h4⟩⟩
      simp [List.mapM_cons, resOf, Array.getD_eq_getD_getElem?, h5, h3]
    · cases h
  | .cell a t :: r, vs, h => by
    simp only [retV] at h
    split at h
    · rename_i ti id off hti hv
      obtain ⟨v, h1, h2⟩ := T.get_bind _ _ _ h
      obtain ⟨vs', h3, h4⟩ := T.get_bind _ _ _ h2
      cases h4
      obtain ⟨us, h5, h6⟩ := retV_sound hC hf hh h3
      obtain ⟨c, h7, h8⟩ := hf a _ hv
      simp only [V.R] at h8
      obtain ⟨l, hl, rfl⟩ := h8
      obtain ⟨u, h9, h10⟩ := loadQ_sound (hC.ty t ti hti) hh h1 hl
      refine ⟨u :: us, ?_, by simp only [V.Rs]; exact ⟨u, us, rfl, h10, h6⟩⟩
      simp [List.mapM_cons, resOf, Array.getD_eq_getD_getElem?, h7, asAddr, h9, h5]
    · cases h
theorem oneV_sound {ρ : Nat → Option Loc} {vs : List V} {us : List Value} (h : V.Rs ρ vs us) : V.R ρ (oneV vs) (if h : us.toArray.size = 1 then us.toArray[0] else .tuple us.toArray) := by
  have hl := V.Rs_length h
  match vs, us, h, hl with
  | [], us, h, hl =>
    simp only [V.Rs] at h
    subst h
    simp only [oneV]
    rw [dif_neg (by simp)]
    simp only [V.R]
    exact ⟨_, rfl, by simp only [V.Rs]⟩
  | [v], us, h, hl =>
    simp only [V.Rs] at h
    obtain ⟨y, ys, rfl, h1, rfl⟩ := h
    simp only [oneV]
    rw [dif_pos (by simp)]
    exact h1
  | v :: v' :: r, us, h, hl =>
    simp only [oneV]
    rw [dif_neg (by simp at hl ⊢; omega)]
    simp only [V.R]
    exact ⟨_, rfl, by simpa using h⟩
theorem initFr_get : ∀ (args : List V) (n t : Nat) (v : V), fget (initFr n args) t = some v → n ≤ t ∧ lget args (t - n) = some v
  | [], n, t, v, h => by cases h
  | x :: r, n, t, v, h => by
    simp only [initFr] at h
    rw [fget_cons] at h
    split at h
    · rename_i e
      subst e
      cases h
      exact ⟨Nat.le_refl _, by rw [Nat.sub_self]; rfl⟩
    · rename_i e
      obtain ⟨h1, h2⟩ := initFr_get r (n + 1) t v h
      refine ⟨by omega, ?_⟩
      rw [show t - n = (t - (n + 1)) + 1 by omega]
      exact h2
/-- A function does what the abstract execution of its text tells. -/
theorem func_calls {f : FuncId} {fn : Func} {body : Code} {C : Ctx} (hC : CtxOK P C) (hf : P.funcs[f]? = some fn) (hb : fn.body = some body) (hn : fn.ntmps = C.n)
    (hl : LpOK P C body) {args : List V} {H : Hp} {r : V × Hp} (hk : H.length = C.k) (hle : args.length ≤ C.n) (hrun : (runF C fn.results.toList body args H).get = some r)
    {ρ : Nat → Option Loc} {w : World} {vs : List Value} (hargs : V.Rs ρ args vs) (hh : HpR ρ H w) : Calls P f vs.toArray w fun e w' => ∃ c, e = .returned c ∧ ∃ ρ', V.R ρ' r.1 c ∧ Left ρ H w ρ' r.2 w' := by
  refine calls_of_wp hf hb ?_
  have hlen := V.Rs_length hargs
  let G : Gl := ⟨w, ρ, H, C.n⟩
  have hs : StR G ρ { fr := initFr 0 args, H := H } { tmps := vs.toArray ++ Array.replicate (fn.ntmps - vs.toArray.size) undef, defers := [] } w := by
    refine ⟨?_, hh, ?_, rfl, WExt.refl w _, ?_, fun _ _ => rfl, Nat.le_refl _⟩
    · intro t v hv
      obtain ⟨_, h2⟩ := initFr_get args 0 t v hv
      rw [Nat.sub_zero] at h2
      obtain ⟨c, h3, h4⟩ := V.Rs_lget hargs h2
      refine ⟨c, ?_, h4⟩
      have hlt : t < vs.length := by
        rcases Nat.lt_or_ge t vs.length with h5 | h5
        · exact h5
        · rw [List.getElem?_eq_none h5] at h3; cases h3
      rw [Array.getElem?_append_left (by simpa using hlt)]
      simpa using h3
    · show (vs.toArray ++ Array.replicate (fn.ntmps - vs.toArray.size) undef).size = C.n
      simp
      omega
    · intro i B l h1 h2
      cases hw : B.wr with
      | false => exact .inl ⟨rfl, B, h1⟩
      | true => exact .inr (.inl ⟨i, B, l, h1, hw, h2, rfl⟩)
  unfold runF at hrun
  refine exec_sound hC (G := G) rfl hk body hl _ _ ρ _ w _ hrun hs fun x st ρ' a w' h1 h2 => ?_
  have fin : ∀ {vs : List V}, (retV C st fn.results.toList).get = some vs → r = (oneV (gc C.k vs st.H).1, (gc C.k vs st.H).2) →
      a.defers = [] ∧ ∃ v, (results fn a.tmps).run P w' = .ok v w' ∧ ∃ c, Ending.returned v = .returned c ∧ ∃ ρ', V.R ρ' r.1 c ∧ Left ρ H w ρ' r.2 w' := by
    rintro vs h3 rfl
    obtain ⟨us, h4, h5⟩ := retV_sound hC h2.fr h2.hp h3
    refine ⟨h2.df, if h : us.toArray.size = 1 then us.toArray[0] else .tuple us.toArray, ?_, _, rfl, ?_⟩
    · have e : results fn a.tmps = (do
          let vs ← fn.results.mapM (resOf a.tmps)
          pure (if h : vs.size = 1 then vs[0] else .tuple vs)) := by
        rfl
      rw [e, Sem.run_bind, Array.mapM_eq_mapM_toList]
      simp only [Sem.run_map, h4, Result.andThen_ok, Sem.run_pure]
    · -- forget what nothing leads to
      obtain ⟨ρ'', h6, h7⟩ := h2.gcG zipS vs [] (fun g t u hu => by (cases hu)) hk
      exact ⟨ρ'', oneV_sound (h7 _ _ h5), ⟨h6.hp, h6.ext, h6.ag, h6.ow, h6.len⟩⟩
  cases x with
  | nrm =>
    obtain ⟨vs, h3, h4⟩ := T.get_bind _ _ _ h1
    split at h4
    · cases h4
      exact fin h3 rfl
    · cases h4
  | ret =>
    obtain ⟨vs, h3, h4⟩ := T.get_bind _ _ _ h1
    split at h4
    · cases h4
      exact fin h3 rfl
    · cases h4
  | ex id => cases h1
theorem func_sound {f : FuncId} {fn : Func} {body : Code} {C : Ctx} {F : List V → Hp → T (V × Hp)} (hC : CtxOK P C) (hf : P.funcs[f]? = some fn) (hb : fn.body = some body) (hn : fn.ntmps = C.n) (hnm : (fn.name == "runtime.NumGoroutine") = false)
    (hl : LpOK P C body) (hF : ∀ args H r, (F args H).get = some r → H.length = C.k ∧ args.length ≤ C.n ∧ (runF C fn.results.toList body args H).get = some r) : OKe P f F := by
  intro args H r h ρ w vs hargs hh
  obtain ⟨hk, hle, hrun⟩ := hF args H r h
  exact CallOK.of_calls hf (by rw [hb]; rfl) hnm (func_calls hC hf hb hn hl hk hle hrun hargs hh)
/-- The same for a function that leaves the memory that was handed in as it was. -/
theorem OKq.of_e {f : FuncId} {F : List V → Hp → T V} (h : OKe P f fun args H => (F args H).bind fun v => .leaf (v, H)) : OKq P f F := by
  intro args H v hv ρ w vs hargs hh
  refine (h args H (v, H) (T.bind_get _ _ v _ hv rfl) ρ w vs hargs hh).mono ?_
  rintro c w' ⟨ρ', h1, h2⟩
  have : ρ' = ρ := by
    funext i
    rcases Nat.lt_or_ge i H.length with h3 | h3
    · exact h2.same i h3
    · rw [h2.hp.dom i h3, hh.dom i h3]
  subst this
  exact ⟨h1, h2.hp, h2.ext⟩
end Go.Proofs.Ytkfpmiggolmabaa.Sx
