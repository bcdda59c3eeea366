/- The abstract execution is sound: code, loops. -/
import Derived.Test.YtkfpmiggolmabaaSxN
namespace Go.Proofs.Ytkfpmiggolmabaa.Sx
open Go Go.RowKit
set_option linter.unusedVariables false
set_option linter.unusedSimpArgs false
variable {P : Program}
/-- What a loop was shown to do. -/
def LoopOK (P : Program) (C : Ctx) (L : LoopS) (body : Code) : Prop :=
  ∀ G : Gl, C.n = G.n → G.H0.length = C.k → ∀ vs H r, (L.L vs H).get = some r → vs.length = L.keep.length → ∀ ρ a w, StR G ρ { fr := zipS L.keep vs, H := H } a w → ∀ Q : Exit → Act → World → Prop,
    (∀ ρ' a' w', StR G ρ' { fr := zipO L.out r.2.1, H := r.2.2 } a' w' → Q r.1.toExit a' w') → (Code.loop body).wp P Q a w
def LpOK (P : Program) (C : Ctx) (c : Code) : Prop := ∀ b ∈ loopsOf c, ∀ key L, keyO b = some key → alook C.lp key = some L → LoopOK P C L b
theorem exec_sound {α : Type} {C : Ctx} (hC : CtxOK P C) {G : Gl} (hn : C.n = G.n) (hk0 : G.H0.length = C.k) {r : α} : ∀ (c : Code), LpOK P C c → ∀ (st : St) (k : X → St → T α) (ρ : Nat → Option Loc) (a : Act) (w : World) (Q : Exit → Act → World → Prop),
    (exec C c st k).get = some r → StR G ρ st a w → (∀ x st ρ a w, (k x st).get = some r → StR G ρ st a w → Q x.toExit a w) → c.wp P Q a w := by
  intro c
  induction c with
  | skip => intro _ st k ρ a w Q h hs hk; exact wp_skip (hk .nrm st ρ a w h hs)
  | label l => intro _ st k ρ a w Q h hs hk; exact wp_label (hk .nrm st ρ a w h hs)
  | ret => intro _ st k ρ a w Q h hs hk; exact wp_ret (hk .ret st ρ a w h hs)
  | exit id => intro _ st k ρ a w Q h hs hk; exact wp_exit (hk (.ex id) st ρ a w h hs)
  | region id ops draw =>
    intro _ st k ρ a w Q h hs hk
    unfold exec at h
    split at h
    · refine wp_region_list ?_
      have := execOps_sound hC hn (all := ops.toList) (k := k .nrm) (r := r) (Q := Q) (fun st ρ a w h1 h2 => hk .nrm st ρ a w h1 h2) ops.toList st ρ a w h hs
      simpa using this
    · split at h
      · rename_i hd
        exact draw_sound hC hn hd h hs fun st ρ a w h1 h2 => hk .nrm st ρ a w h1 h2
      · cases h
  | seq x y ihx ihy =>
    intro hl st k ρ a w Q h hs hk
    unfold exec at h
    refine wp_seq (ihx (fun b hb => hl b (by simp [loopsOf, hb])) st _ ρ a w _ h hs fun e st' ρ' a' w' h1 h2 => ?_)
    cases e with
    | nrm => exact ihy (fun b hb => hl b (by simp [loopsOf, hb])) st' k ρ' a' w' Q h1 h2 hk
    | ex id => exact hk (.ex id) st' ρ' a' w' h1 h2
    | ret => exact hk .ret st' ρ' a' w' h1 h2
  | cond x c1 c2 ih1 ih2 =>
    intro hl st k ρ a w Q h hs hk
    have hl1 : LpOK P C c1 := fun b hb => hl b (by simp [loopsOf, hb])
    have hl2 : LpOK P C c2 := fun b hb => hl b (by simp [loopsOf, hb])
    unfold exec at h
    split at h
    · rename_i hv
      have e := ev_R hs.fr hv
      simp only [V.R] at e
      exact wp_cond_true e (ih1 hl1 st k ρ a w Q h hs hk)
    · rename_i hv
      have e := ev_R hs.fr hv
      simp only [V.R] at e
      exact wp_cond_false e (ih2 hl2 st k ρ a w Q h hs hk)
    · rename_i g hv
      have e := ev_R hs.fr hv
      simp only [V.R] at e
      split at h
      · rename_i t
        have hkn := hs.know hv
        cases g
        · exact wp_cond_false e (ih2 hl2 _ k ρ a w Q h hkn hk)
        · exact wp_cond_true e (ih1 hl1 _ k ρ a w Q h hkn hk)
      · cases g
        · exact wp_cond_false e (ih2 hl2 _ k ρ a w Q h hs hk)
        · exact wp_cond_true e (ih1 hl1 _ k ρ a w Q h hs hk)
    · cases h
  | block id c ih =>
    intro hl st k ρ a w Q h hs hk
    unfold exec at h
    refine wp_block (ih (fun b hb => hl b (by simp [loopsOf, hb])) st _ ρ a w _ h hs fun e st' ρ' a' w' h1 h2 => ?_)
    cases e with
    | nrm => exact hk .nrm st' ρ' a' w' h1 h2
    | ret => exact hk .ret st' ρ' a' w' h1 h2
    | ex j =>
      simp only at h1
      split at h1
      · rename_i hb
        have := Nat.eq_of_beq_eq_true hb
        subst this
        simp only [X.toExit, Exit.inBlock, if_true]
        exact hk .nrm st' ρ' a' w' h1 h2
      · rename_i hb
        have hne : j ≠ id := Nat.ne_of_beq_eq_false hb
        simp only [X.toExit, Exit.inBlock, if_neg hne]
        exact hk (.ex j) st' ρ' a' w' h1 h2
  | loop c ih =>
    intro hl st k ρ a w Q h hs hk
    unfold exec at h
    split at h
    · rename_i key hkey
      split at h
      · rename_i L hL
        split at h
        · rename_i vs hvs
          obtain ⟨r', h1, h2⟩ := T.get_bind _ _ _ h
          obtain ⟨ρ', hs', _⟩ := hs.gc vs L.keep hvs hk0
          have hlen : (gc C.k vs st.H).1.length = L.keep.length := by
            simp only [gc, renL_length]
            exact pickS_length hvs
          exact hl c (by simp [loopsOf]) key L hkey hL G hn hk0 _ _ r' h1 hlen ρ' a w hs' Q fun ρ'' a' w' h3 => hk r'.1 _ ρ'' a' w' h2 h3
        · cases h
      · cases h
    · cases h
  | scope c ih =>
    intro hl st k ρ a w Q h hs hk
    unfold exec at h
    refine wp_scope_straight (ih (fun b hb => hl b (by simp [loopsOf, hb])) st k ρ a w _ h hs fun e st' ρ' a' w' h1 h2 => ?_)
    have := hk e st' ρ' a' w' h1 h2
    cases e <;> exact this
  | rangeFunc f ps x y _ _ => intro _ st k ρ a w Q h hs hk; cases h
  | goto l => intro _ st k ρ a w Q h hs hk; cases h
  | refuse why => intro _ st k ρ a w Q h hs hk; cases h
/-- A loop goes round. -/
theorem wp_loop_step {c : Code} {Q : Exit → Act → World → Prop} {a : Act} {w : World}
    (h : ∀ (b : Frame) (k : List Item) (cs : List Frame), ∃ e a' w', Q e a' w' ∧ Arrives P (lone (b.at a (.code c :: .inLoop c :: k)) cs w) b k cs e a' w') : (Code.loop c).wp P Q a w :=
  fun b k cs => let ⟨e, a', w', q, r⟩ := h b k cs; ⟨e, a', w', q, .of_steps (.one step_loop) r⟩
theorem loop_once {c : Code} {Q : Exit → Act → World → Prop} {a : Act} {w : World}
    (h : c.wp P (Exit.then (fun a w => ∀ (b : Frame) (k : List Item) (cs : List Frame), ∃ e a' w', Q e a' w' ∧ Arrives P (lone (b.at a (.code c :: .inLoop c :: k)) cs w) b k cs e a' w') Q) a w) :
    ∀ (b : Frame) (k : List Item) (cs : List Frame), ∃ e a' w', Q e a' w' ∧ Arrives P (lone (b.at a (.code c :: .inLoop c :: k)) cs w) b k cs e a' w' := by
  intro b k cs
  obtain ⟨e, a₁, w₁, hq, harr⟩ := h b (.inLoop c :: k) cs
  cases e with
  | normal =>
    obtain ⟨e₂, a₂, w₂, hq₂, harr₂⟩ := hq b k cs
    exact ⟨e₂, a₂, w₂, hq₂, .of_steps (Steps.trans harr (.one step_inLoop)) harr₂⟩
  | exit id => exact ⟨_, a₁, w₁, hq, .pass (x := .inLoop c) rfl (fun _ _ => .inl (by simp)) harr⟩
  | goto l => exact ⟨_, a₁, w₁, hq, .pass (x := .inLoop c) rfl (fun _ _ => .inl (by simp)) harr⟩
  | ret => exact ⟨_, a₁, w₁, hq, .pass (x := .inLoop c) rfl (fun _ _ => .inl (by simp)) harr⟩
  | panic ch => exact ⟨_, a₁, w₁, hq, .pass (x := .inLoop c) rfl (fun _ _ => .inl (by simp)) harr⟩
  | outgrown => exact ⟨_, a₁, w₁, hq, .pass (x := .inLoop c) rfl (fun _ _ => .inl (by simp)) harr⟩
theorem loop_sound {C : Ctx} (hC : CtxOK P C) {keep out : List Nat} {body : Code} (hl : LpOK P C body) {step : List V → Hp → T ((List V × Hp) ⊕ (X × List V × Hp))}
    (hstep : ∀ vs H r, (step vs H).get = some r → (roundL C keep out body vs H).get = some r) (n : Nat) : LoopOK P C { keep := keep, out := out, L := iterL step n } body := by
  intro G hn hk0 vs H r h _ ρ a w hs Q hQ
  refine wp_loop_step ?_
  dsimp only at h hs hQ
  induction n generalizing vs H ρ a w with
  | zero => cases h
  | succ n ih =>
    unfold iterL at h
    obtain ⟨s, h1, h2⟩ := T.get_bind _ _ _ h
    refine loop_once ?_
    have h3 := hstep vs H s h1
    unfold roundL at h3
    refine exec_sound hC hn hk0 body hl _ _ ρ a w _ h3 hs fun x st ρ' a' w' h4 h5 => ?_
    cases x with
    | nrm =>
      simp only at h4
      split at h4
      · rename_i vs' hvs
        cases h4
        obtain ⟨ρ'', h6, _⟩ := h5.gc vs' keep hvs hk0
        exact ih _ _ h2 (by simp only [gc, renL_length]; exact pickS_length hvs) ρ'' a' w' h6
      · cases h4
    | ret =>
      simp only at h4
      cases h4
      cases h2
      obtain ⟨ρ'', h6, _⟩ := h5.gcO out hk0
      exact hQ ρ'' a' w' h6
    | ex id =>
      simp only at h4
      cases h4
      cases h2
      obtain ⟨ρ'', h6, _⟩ := h5.gcO out hk0
      exact hQ ρ'' a' w' h6
end Go.Proofs.Ytkfpmiggolmabaa.Sx
