/- The abstract execution is sound: each operation that changes no memory. -/
import Derived.Test.YtkfpmiggolmabaaSx5
namespace Go.Proofs.Ytkfpmiggolmabaa.Sx
open Go Go.RowKit
set_option linter.unusedVariables false
set_option linter.unusedSimpArgs false
variable {P : Program}

theorem wp_runs {o : Oper} {a : Act} {K : Act → World → Prop} {Q : Exit → Act → World → Prop} {w : World} {ρ : Nat → Option Loc} {H : Hp} {v : V} {s : Sem Value}
    (he : execOp a.eval o = (do pure (.value (← s)))) (hr : Runs P s w ρ v) (hh : HpR ρ H w) (hK : ∀ c w', V.R ρ v c → Left ρ H w ρ H w' → K (a.put o.dst c) w') : o.wp P a w K Q := by
  obtain ⟨c, w', h1, h2, h3⟩ := hr
  unfold Oper.wp
  rw [he]
  simp only [Sem.run_bind, h1, Result.andThen_ok, Sem.run_pure, Oper.upon_value]
  exact hK c w' h2 (Left.gr hh h3)
theorem wp_pure {o : Oper} {a : Act} {K : Act → World → Prop} {Q : Exit → Act → World → Prop} {w : World} {ρ : Nat → Option Loc} {H : Hp} {v : V} {c : Value}
    (he : (execOp a.eval o).run P w = .ok (.value c) w) (hr : V.R ρ v c) (hh : HpR ρ H w) (hK : ∀ c w', V.R ρ v c → Left ρ H w ρ H w' → K (a.put o.dst c) w') : o.wp P a w K Q := by
  unfold Oper.wp
  rw [he, Oper.upon_value]
  exact hK c w hr (Left.gr hh (WExt.refl w _))
theorem wp_call_const {o : Oper} {a : Act} {K : Act → World → Prop} {Q : Exit → Act → World → Prop} {w : World} {f : FuncId} {c : Call} (ho : o.op = .call c) (hc : c.callee = .value (.func f))
    (h : o.upon P a K Q ((callFunc f (c.args.map a.eval)).run P w)) : o.wp P a w K Q := by
  have e : execOp a.eval o = callFunc f (c.args.map a.eval) := by
    unfold execOp
    rw [ho]
    simp [resolve, hc, Act.eval, Deferred.ofValue, invoke]
  unfold Oper.wp
  rw [e]
  exact h
theorem wp_call_value {o : Oper} {a : Act} {K : Act → World → Prop} {Q : Exit → Act → World → Prop} {w : World} {x : Operand} {f : FuncId} {cs : Array Value} {c : Call} (ho : o.op = .call c) (hc : c.callee = .value x)
    (hx : a.eval x = .func (.func f) #[] cs) (h : o.upon P a K Q ((callFunc f (c.args.map a.eval ++ cs)).run P w)) : o.wp P a w K Q := by
  have e : execOp a.eval o = callFunc f (c.args.map a.eval ++ cs) := by
    unfold execOp
    rw [ho]
    simp [resolve, hc, hx, Deferred.ofValue, invoke]
  unfold Oper.wp
  rw [e]
  exact h
theorem partQ_sound {C : Ctx} (hC : CtxOK P C) {ρ : Nat → Option Loc} {t : TypeId} {xs : List V} {off : Nat} {v : V} {cs : Array Value} {w : World} (hx : V.Rs ρ xs cs.toList) (h : (partQ C t xs off).get = some v) :
    ∃ c, (part t cs off).run P w = .ok c w ∧ V.R ρ v c := by
  unfold partQ at h
  split at h
  · rename_i te hte
    have ht := hC.ty t te hte
    split at h
    · rename_i hagg
      split at h
      · rename_i hn
        have hn' := Nat.le_of_ble_eq_true hn
        cases h
        refine ⟨.agg (cs.extract off (off + te.size)), ?_, ?_⟩
        · simp [part, run_isAgg_sx ht, hagg, run_sizeOf_sx ht]
        · simp only [V.R]
          refine ⟨_, rfl, ?_⟩
          have hl := V.Rs_length hx
          have key : ∀ n off, off + n ≤ xs.length → V.Rs ρ (sub? xs off n) ((cs.toList.drop off).take n) := by
            intro n
            induction n with
            | zero => intro off _; simp only [sub?, V.Rs, List.take_zero]
            | succ n ih =>
              intro off ho
              obtain ⟨c, h1, h2⟩ := V.Rs_get hx off (by omega)
              have e : (cs.toList.drop off).take (n + 1) = c :: (cs.toList.drop (off + 1)).take n := by
                have hlt : off < cs.toList.length := by omega
                have hc : cs.toList[off] = c := by
                  rw [List.getElem?_eq_getElem hlt] at h1
                  exact Option.some.inj h1
                rw [List.drop_eq_getElem_cons hlt, List.take_succ_cons, hc]
              simp only [sub?, V.Rs]
              exact ⟨c, _, e, h2, ih (off + 1) (by omega)⟩
          have := key te.size off hn'
          rw [Array.toList_extract]
          simpa using this
      · cases h
    · rename_i hagg
      split at h
      · rename_i hn
        have hn' := Nat.le_of_ble_eq_true hn
        cases h
        obtain ⟨c, h1, h2⟩ := V.Rs_get hx off (by omega)
        refine ⟨c, ?_, h2⟩
        have h1' : cs[off]? = some c := by simpa using h1
        simp [part, run_isAgg_sx ht, hagg, h1']
      · cases h
  · cases h
theorem run_sliceBound_sx {k : IntKind} {i : Int} {y : Nat} {code : BoundsCode} {w : World} (h0 : 0 ≤ i) (h1 : i ≤ y) : (Instr.sliceBound (.int k i) y code).run P w = .ok i.toNat w := by
  simp [Instr.sliceBound, asIntOf, h0, h1]
theorem run_sliceBounds_sx {isS : Bool} {len cap : Nat} {lo hi : Option Value} {l h : Int} {w : World} (hlo : (lo = none ∧ l = 0) ∨ ∃ k, lo = some (.int k l)) (hhi : (hi = none ∧ h = len) ∨ ∃ k, hi = some (.int k h))
    (h0 : 0 ≤ l) (h1 : l ≤ h) (h2 : h ≤ cap) : (Instr.sliceBounds isS len cap lo hi none).run P w = .ok (l.toNat, h.toNat, cap) w := by
  have hh : (h.toNat : Int) = h := by omega
  rcases hlo with ⟨rfl, rfl⟩ | ⟨k, rfl⟩ <;> rcases hhi with ⟨rfl, rfl⟩ | ⟨k', rfl⟩
  · simp [Instr.sliceBounds]
  · simp [Instr.sliceBounds, run_sliceBound_sx (P := P) (k := k') (w := w) (code := if isS = true then .sliceAcap else .sliceAlen) (show 0 ≤ h by omega) h2]
  · simp [Instr.sliceBounds, run_sliceBound_sx (P := P) (k := k) (w := w) (code := .sliceB) h0 h1]
  · simp [Instr.sliceBounds, run_sliceBound_sx (P := P) (k := k') (w := w) (code := if isS = true then .sliceAcap else .sliceAlen) (show 0 ≤ h by omega) h2,
      run_sliceBound_sx (P := P) (k := k) (w := w) (y := h.toNat) (code := .sliceB) h0 (by omega)]
theorem optInt_sound {fr : List (Nat × V)} {a : Act} {ρ : Nat → Option Loc} (hf : FR ρ fr a.tmps) {x : Option Operand} {i : Option Int} (h : optInt fr x = some i) :
    (x = none ∧ i = none) ∨ ∃ k n, i = some n ∧ x.map a.eval = some (.int k n) := by
  unfold optInt at h
  split at h
  · cases h; exact .inl ⟨rfl, rfl⟩
  · split at h
    · rename_i k n hn
      cases h
      have := ev_R hf hn
      simp only [V.R] at this
      exact .inr ⟨k, n, rfl, by simp [this]⟩
    · cases h
theorem sliceQ_sound {C : Ctx} (hC : CtxOK P C) {ρ : Nat → Option Loc} {t : TypeId} {ti : TI} {x v : V} {c : Value} {lo hi : Option Int} {lo' hi' : Option Value} {w : World} (ht : TyOK P t ti) (hx : V.R ρ x c)
    (hlo : (lo' = none ∧ lo = none) ∨ ∃ k n, lo = some n ∧ lo' = some (.int k n)) (hhi : (hi' = none ∧ hi = none) ∨ ∃ k n, hi = some n ∧ hi' = some (.int k n))
    (h : (sliceQ C ti x lo hi).get = some v) : Runs P (Instr.sliceAt t c lo' hi' none) w ρ v := by
  have hlo' : (lo' = none ∧ lo.getD 0 = 0) ∨ ∃ k, lo' = some (.int k (lo.getD 0)) := by
    rcases hlo with ⟨h1, h2⟩ | ⟨k, n, h1, h2⟩
    · exact .inl ⟨h1, by rw [h2]; rfl⟩
    · exact .inr ⟨k, by rw [h1, h2]; rfl⟩
  have hhi' : ∀ m : Nat, (hi' = none ∧ hi.getD (m : Int) = m) ∨ ∃ k, hi' = some (.int k (hi.getD m)) := by
    intro m
    rcases hhi with ⟨h1, h2⟩ | ⟨k, n, h1, h2⟩
    · exact .inl ⟨h1, by rw [h2]; rfl⟩
    · exact .inr ⟨k, by rw [h1, h2]; rfl⟩
  have conds : ∀ {l m : Int} {n : Nat}, (decide (0 ≤ l) && decide (l ≤ m) && decide (m ≤ n)) = true → 0 ≤ l ∧ l ≤ m ∧ m ≤ n := by
    intro l m n h
    simp only [Bool.and_eq_true, decide_eq_true_eq] at h
    exact ⟨h.1.1, h.1.2, h.2⟩
  have hsl : (Instr.sliceAt t c lo' hi' none).run P w = (Instr.slice t c lo' hi' none).run P w ∨ ∃ n e, ti.d = .array n e := by
    unfold Instr.sliceAt
    rw [Sem.run_bind, run_underlying ht.1, Result.andThen_ok]
    cases hd : ti.d <;> first | exact .inl rfl | exact .inr ⟨_, _, rfl⟩
  unfold sliceQ at h
  split at h
  · rename_i s hd
    rcases T.get_br_some h with ⟨hc, h⟩ | ⟨_, h⟩
    · cases h
      obtain ⟨h0, h1, h2⟩ := conds hc
      simp only [V.R] at hx
      subst hx
      rcases hsl with hsl | ⟨n, e, hd'⟩
      · refine Runs.pure (c := .string (s.extract (lo.getD 0).toNat (hi.getD s.size).toNat)) (hsl.trans ?_) (by simp only [V.R])
        have hb := run_sliceBounds_sx (P := P) (isS := false) (len := s.size) (w := w) hlo' (hhi' s.size) h0 h1 h2
        have hu := ht.1
        rw [hd] at hu
        simp [Instr.slice, run_underlying hu, hb]
      · rw [hd] at hd'; cases hd'
    · cases h
  · rename_i e id off len hd
    split at h
    · rename_i te hte
      rcases T.get_br_some h with ⟨hc, h⟩ | ⟨_, h⟩
      · cases h
        obtain ⟨h0, h1, h2⟩ := conds hc
        simp only [V.R] at hx
        obtain ⟨ad, cap, rfl, hcap, hadr⟩ := hx
        rcases hsl with hsl | ⟨n, e', hd'⟩
        · have hb := run_sliceBounds_sx (P := P) (isS := true) (len := len) (cap := cap) (w := w) hlo' (hhi' len) h0 h1 (by omega)
          have hu := ht.1
          rw [hd] at hu
          refine Runs.pure (c := .slice (if cap = (lo.getD 0).toNat then ad else ad.map (·.add ((lo.getD 0).toNat * te.size))) ((hi.getD len).toNat - (lo.getD 0).toNat) (cap - (lo.getD 0).toNat)) (hsl.trans ?_) ?_
          · simp [Instr.slice, run_underlying hu, hb, run_sizeOf_sx (hC.ty e te hte)]
          · simp only [V.R]
            refine ⟨_, _, rfl, by omega, fun hne => ?_⟩
            obtain ⟨l, hl, ha⟩ := hadr (by omega)
            refine ⟨l, hl, ?_⟩
            rw [if_neg (by omega), ha]
            simp [Addr.add_lit, Nat.add_assoc]
        · rw [hd] at hd'; cases hd'
      · cases h
    · cases h
  · rename_i e id len hd
    split at h
    · rename_i te hte
      rcases T.get_br_some h with ⟨hc, h⟩ | ⟨_, h⟩
      · cases h
        obtain ⟨h0, h1, h2⟩ := conds hc
        simp only [V.R] at hx
        obtain ⟨l, hl, rfl, hcap, ho⟩ := hx
        rcases hsl with hsl | ⟨n, e', hd'⟩
        · have hb := run_sliceBounds_sx (P := P) (isS := true) (len := len) (cap := l.cap) (w := w) hlo' (hhi' len) h0 h1 (by omega)
          have hu := ht.1
          rw [hd] at hu
          refine Runs.pure (c := .slice (if l.cap = (lo.getD 0).toNat then some ⟨l.b, 0, none⟩ else (some (⟨l.b, 0, none⟩ : Addr)).map (·.add ((lo.getD 0).toNat * te.size))) ((hi.getD len).toNat - (lo.getD 0).toNat) (l.cap - (lo.getD 0).toNat)) (hsl.trans ?_) ?_
          · simp [Instr.slice, run_underlying hu, hb, run_sizeOf_sx (hC.ty e te hte)]
          · simp only [V.R]
            refine ⟨_, _, rfl, by omega, fun hne => ?_⟩
            refine ⟨l, hl, ?_⟩
            rw [if_neg (by omega)]
            simp [Addr.add_lit, ho]
        · rw [hd] at hd'; cases hd'
      · cases h
    · cases h
  · cases h
theorem fieldOff_sound {d : TypeDesc} {f : Nat} {ft o : Nat} (h : fieldOff d f = some (ft, o)) : ∃ fs x, d = .struct fs ∧ fs[f]? = some x ∧ x.type = ft ∧ x.offset = o := by
  unfold fieldOff at h
  split at h
  · rename_i fs
    split at h
    · rename_i x hx
      cases h
      exact ⟨fs, x, rfl, by simpa using hx, rfl, rfl⟩
    · cases h
  · cases h
theorem idxQ_sound {C : Ctx} (hC : CtxOK P C) {ρ : Nat → Option Loc} {t : TypeId} {ti : TI} {x v : V} {c : Value} {k : IntKind} {i : Int} {lit : Bool} {w : World} (ht : TyOK P t ti) (hx : V.R ρ x c)
    (h : (idxQ C ti x i lit).get = some v) : Runs P (Instr.indexAt t c (.int k i)) w ρ v := by
  unfold idxQ at h
  split at h
  · rename_i e id off len hd
    have hu := ht.1
    rw [hd] at hu
    split at h
    · rename_i te hte
      rcases T.get_br_some h with ⟨hc, h⟩ | ⟨_, h⟩
      · cases h
        obtain ⟨h0, h1⟩ := bounds_of hc
        simp only [V.R] at hx
        obtain ⟨ad, cap, rfl, hcap, hadr⟩ := hx
        obtain ⟨l, hl, rfl⟩ := hadr (by omega)
        refine Runs.pure (c := .pointer (some ⟨l.b, l.o + (off + i.toNat * te.size), none⟩)) ?_ (by simp only [V.R]; exact ⟨l, hl, rfl⟩)
        simp [Instr.indexAt, asIntOf, run_underlying hu, h0, h1, run_sizeOf_sx (hC.ty e te hte), Addr.add_lit, Nat.add_assoc]
      · cases h
    · cases h
  · rename_i e id len hd
    have hu := ht.1
    rw [hd] at hu
    split at h
    · rename_i te hte
      split at h
      · rcases T.get_br_some h with ⟨hc, h⟩ | ⟨_, h⟩
        · cases h
          obtain ⟨h0, h1⟩ := bounds_of hc
          simp only [V.R] at hx
          obtain ⟨l, hl, rfl, hcap, ho⟩ := hx
          refine Runs.pure (c := .pointer (some ⟨l.b, 0 + i.toNat * te.size, none⟩)) ?_ (by simp only [V.R]; exact ⟨l, hl, by rw [ho, Nat.add_zero]⟩)
          simp [Instr.indexAt, asIntOf, run_underlying hu, h0, h1, run_sizeOf_sx (hC.ty e te hte), Addr.add_lit]
        · cases h
      · rcases T.get_br_some h with ⟨hc, h⟩ | ⟨_, h⟩
        · cases h
          obtain ⟨h0, h1⟩ := bounds_of hc
          simp only [V.R] at hx
          obtain ⟨l, hl, rfl, hcap, ho⟩ := hx
          refine Runs.pure (c := .pointer (some ⟨l.b, 0 + i.toNat * te.size, none⟩)) ?_ (by simp only [V.R]; exact ⟨l, hl, by rw [ho]⟩)
          simp [Instr.indexAt, asIntOf, run_underlying hu, h0, h1, run_sizeOf_sx (hC.ty e te hte), Addr.add_lit]
        · cases h
    · cases h
  · rename_i n e id off hd
    have hu := ht.1
    rw [hd] at hu
    have fin : ∀ te, alook C.ty e = some te → bounds i n = true → v = .pt id (off + i.toNat * te.size) → Runs P (Instr.indexAt t c (.int k i)) w ρ v := by
      intro te hte hc hv
      subst hv
      obtain ⟨h0, h1⟩ := bounds_of hc
      simp only [V.R] at hx
      obtain ⟨l, hl, rfl⟩ := hx
      refine Runs.pure (c := .pointer (some ⟨l.b, l.o + (off + i.toNat * te.size), none⟩)) ?_ (by simp only [V.R]; exact ⟨l, hl, rfl⟩)
      simp [Instr.indexAt, asIntOf, run_underlying hu, Instr.sureAddr, h0, h1, run_sizeOf_sx (hC.ty e te hte), Addr.add_lit, Nat.add_assoc]
    split at h
    · rename_i te hte
      split at h
      · rename_i hc
        exact fin te hte hc (by cases h; rfl)
      · cases h
    · rename_i te hte
      rcases T.get_br_some h with ⟨hc, h⟩ | ⟨_, h⟩
      · exact fin te hte hc (by cases h; rfl)
      · cases h
    · cases h
  · cases h
theorem indexQ_sound {C : Ctx} (hC : CtxOK P C) {ρ : Nat → Option Loc} {t : TypeId} {ti : TI} {x v : V} {c : Value} {k : IntKind} {i : Int} {lit : Bool} {w : World} (ht : TyOK P t ti) (hx : V.R ρ x c)
    (h : (indexQ C ti x i lit).get = some v) : Runs P (Instr.index t c (.int k i)) w ρ v := by
  unfold indexQ at h
  split at h
  · rename_i s hd
    have hu := ht.1
    rw [hd] at hu
    rcases T.get_br_some h with ⟨hc, h⟩ | ⟨_, h⟩
    · cases h
      obtain ⟨h0, h1⟩ := bounds_of hc
      simp only [V.R] at hx
      subst hx
      have hlt : i.toNat < s.size := by omega
      refine Runs.pure (c := .int .u8 (s[i.toNat]'hlt).toNat) ?_ (it_R ?_)
      · have : s[i.toNat]? = some s[i.toNat] := by simp [hlt]
        simp [Instr.index, asIntOf, run_underlying hu, h0, this]
      · unfold byteAt
        congr 2
        have : i.toNat < s.data.toList.length := by simpa using hlt
        simp only [List.getD, List.getElem?_eq_getElem this, Option.getD_some]
        rfl
    · cases h
  · rename_i n e xs hd
    have hu := ht.1
    rw [hd] at hu
    split at h
    · rename_i te hte
      split at h
      · rename_i hc
        obtain ⟨h0, h1⟩ := bounds_of hc
        simp only [V.R] at hx
        obtain ⟨cs, rfl, hx⟩ := hx
        obtain ⟨c, h2, h3⟩ := partQ_sound hC (w := w) hx h
        refine Runs.pure (c := c) ?_ h3
        simp [Instr.index, asIntOf, run_underlying hu, h0, h1, run_sizeOf_sx (hC.ty e te hte), h2]
      · cases h
    · cases h
  · cases h
end Go.Proofs.Ytkfpmiggolmabaa.Sx
