/- The abstract execution is sound: regions whose order is drawn, joined. -/
import Derived.Test.YtkfpmiggolmabaaSxM
namespace Go.Proofs.Ytkfpmiggolmabaa.Sx
open Go Go.RowKit
set_option linter.unusedVariables false
set_option linter.unusedSimpArgs false
variable {P : Program} {C : Ctx} {G : Gl} {all : List Oper} {evs : List Ev} {st stE : St}

theorem maskH_get (ids : List Nat) (H : Hp) (b : Nat) {B : Blk} (h : hget (maskH ids 0 H) b = some B) : b ∈ ids ∧ hget H b = some B := by
  rw [hget_maskH, Nat.zero_add] at h
  cases hm : memN ids b with
  | true => rw [hm] at h; exact ⟨memN_iff.1 hm, h⟩
  | false => rw [hm] at h; cases h
/-- One operation that comes up. -/
theorem draw_step (hC : CtxOK P C) (hn : C.n = G.n) (hmap : evs.map (·.o) = all) (hrun : Run C all evs st.fr st.H stE.fr stE.H) (hB : edgesBack 0 all = true) (hP : pairsOk all (closFrom [] all) [] all = true)
    (hlog : logOk (closFrom [] all) [] (evs.map recOf) = true) (hG0 : G.H0.length ≤ st.H.length) {S S' : Nat → Bool} (hS : Closed all S) {i : Nat} {e : Ev} (he : evs[i]? = some e) (hun : S i = false)
    (hr : ∀ x ∈ e.o.after.toList, Region.binds .any x = true → S x.on = true) (hS' : ∀ j, S' j = (S j || Nat.beq j i)) {ρ : Nat → Option Loc} {a : Act} {w : World} (hv : DInv G evs st.fr st.H stE.H.length S ρ a w) {K : Act → World → Prop} {Q : Exit → Act → World → Prop}
    (hK : ∀ ρ' a' w', DInv G evs st.fr st.H stE.H.length S' ρ' a' w' → K a' w') : wpOp P all.toArray Q i K a w := by
  obtain ⟨fri, Hi, fr2, H2, h1, h2, h3⟩ := hrun.at i e he
  have hlens := hrun.lens he
  have hilt : i < evs.length := (List.getElem?_eq_some_iff.1 he).1
  obtain ⟨d1, d2, d3⟩ := Run.done h1 0 (fget st.fr) fun t v' ht => ⟨v', ht, .inl rfl⟩
  -- the slots that it looks at
  have hslot : ∀ t ∈ looks all e.o, ∀ v', fget e.fr t = some v' → ∃ c, a.tmps[t]? = some c ∧ V.R ρ v' c := by
    intro t ht v' hv'
    obtain ⟨v1, q1, q2⟩ := h2.up t v' hv'
    obtain ⟨v, q3, q4⟩ := d1 t v1 q1
    rw [← foldL_take (by omega), ← ready_slot hmap hB hP hS he hun hr ht] at q3
    obtain ⟨c, q5, q6⟩ := hv.fr t v q3
    exact ⟨c, q5, (q4.trans q2).R q6⟩
  have hgslot : ∀ j want t, e.o.guard = some (j, want) → dstOf all j = some t → t ∈ looks all e.o := by
    intro j want t hg ht
    unfold looks
    rw [hg]
    dsimp only
    rw [ht]
    simp
  have hops : (all.toArray)[i]? = some e.o := by
    have := all_of hmap he
    simpa using this
  -- what stands behind
  have after : ∀ (c : Value) (ρ' : Nat → Option Loc) (w' : World), (e.ran = true → Left (fun b => if b < e.H.length then ρ b else none) (maskH e.ids 0 e.H) w ρ' e.H' w') → (e.ran = false → ρ' = ρ ∧ w' = w) → V.R ρ' e.v c → K (a.put e.o.dst c) w' := by
    intro c ρ' w' hL0 hL1 hrc
    -- memory
    have hmem : ∀ b, b ∈ (recOf e).fp → b < e.H.length → hget (HSl evs st.H stE.H.length S) b = hget e.H b := by
      intro b hb hlt
      rw [hget_HSl, if_pos (by omega), ready_mem hmap hrun hB hlog hS he hun hr hb, foldL_take (by omega), ← d2 b, h2.hp]
    have hgS : ∀ b, foldL (gH b) evs 0 S' (hget st.H b) = match gH b e with | some x => x | none => foldL (gH b) evs 0 S (hget st.H b) := fun b => by
      rw [foldL_set (g := gH b) he hun hS' fun j x hij hj g1 g2 => later_mem hmap hrun hB hlog hS he hun j x hij hj g1 g2]
      cases gH b e <;> rfl
    have hgetS : ∀ b, hget (HSl evs st.H stE.H.length S') b = match (e.noisy && touches b e) with | true => hget e.H' b | false => hget (HSl evs st.H stE.H.length S) b := by
      intro b
      rw [hget_HSl, hget_HSl, hgS b]
      unfold gH
      cases hx : (e.noisy && touches b e) with
      | false => rfl
      | true =>
        by_cases hb : b < stE.H.length
        · rw [if_pos hb]
        · rw [if_neg hb]
          dsimp only
          cases hy : hget e.H' b with
          | none => rfl
          | some B => exact absurd (hget_lt hy) (by omega)
    have hfr : ∀ ρn : Nat → Option Loc, (∀ i l, ρ i = some l → ρn i = some l) → (∀ i l, ρ' i = some l → ρn i = some l) → ∀ t v, foldL (gF t) evs 0 S' (fget st.fr t) = some v → ∃ c', (a.put e.o.dst c).tmps[t]? = some c' ∧ V.R ρn v c' := by
      intro ρn m1 m2 t v htv
      rw [foldL_set he hun hS' fun j x hij hj g1 g2 => later_slot hmap hB hP hS he hun j x hij hj g1 g2] at htv
      have old : foldL (gF t) evs 0 S (fget st.fr t) = some v → (∀ s, e.o.dst = some s → s ≠ t) → ∃ c', (a.put e.o.dst c).tmps[t]? = some c' ∧ V.R ρn v c' := by
        intro ho hne
        obtain ⟨c', q1, q2⟩ := hv.fr t v ho
        refine ⟨c', ?_, V.R_mono m1 _ _ q2⟩
        cases hd : e.o.dst with
        | none => simpa [Act.put] using q1
        | some s =>
          have := hne s hd
          simp only [Act.put, Array.getElem?_setIfInBounds, if_neg this]
          exact q1
      unfold gF at htv
      cases hd : e.o.dst with
      | none =>
        rw [hd] at htv
        have := old htv (fun s hs => by rw [hd] at hs; cases hs)
        rwa [hd] at this
      | some s =>
        rw [hd] at htv
        dsimp only at htv
        cases hb : Nat.beq s t with
        | false =>
          rw [hb] at htv
          have := old htv (fun s' hs hst => by
            rw [hd] at hs
            cases hs
            rw [hst, Nat.beq_refl] at hb
            cases hb)
          rwa [hd] at this
        | true =>
          rw [hb] at htv
          cases htv
          have := beqN hb
          subst this
          have hlt : s < a.tmps.size := by
            rw [hv.st.sz, ← hn]
            have := h2.put
            rw [hd] at this
            unfold putD at this
            dsimp only at this
            split at this
            · rename_i hbl
              exact Nat.le_of_ble_eq_true hbl
            · cases this
          exact ⟨c, by simp [Act.put, hlt], V.R_mono m2 _ _ hrc⟩
    have hnw : ∀ ρn : Nat → Option Loc, (∀ b, ¬ (e.H.length ≤ b ∧ b < e.H'.length) → ρn b = ρ b) → ∀ (j : Nat) (x : Ev), evs[j]? = some x → S' j = false → ∀ b, x.H.length ≤ b → b < x.H'.length → ρn b = none := by
      intro ρn hout j x hj hsj b hb1 hb2
      rw [hS' j, Bool.or_eq_false_iff] at hsj
      have hji : j ≠ i := fun e => by rw [e, Nat.beq_refl] at hsj; cases hsj.2
      rw [hout b]
      · exact hv.nw j x hj hsj.1 b hb1 hb2
      · intro hb
        rcases Nat.lt_or_gt_of_ne hji with h | h
        · have := hrun.apart hj he h
          omega
        · have := hrun.apart he hj h
          omega
    cases hran : e.ran with
    | false =>
      obtain ⟨rfl, rfl⟩ := hL1 hran
      obtain ⟨_, _, hnoisy, hH2, hH', _⟩ := h2.no hran
      refine hK ρ' _ w' ⟨?_, hfr ρ' (fun _ _ h => h) (fun _ _ h => h), hnw ρ' fun _ _ => rfl⟩
      have hs := hv.st
      refine ⟨fun t v hv => (by cases hv), hs.hp.same (fun b => ?_) (by rw [HSl_length, HSl_length]; exact Nat.le_refl _), ?_, ?_, hs.ext, ?_, hs.ag, ?_⟩
      · dsimp only
        rw [hgetS b, hnoisy]
        rfl
      · cases e.o.dst <;> simp [Act.put, hs.sz]
      · cases e.o.dst <;> exact hs.df
      · intro i B l hB hl
        dsimp only at hB
        rw [hgetS i, hnoisy] at hB
        exact hs.ow i B l hB hl
      · have := hs.len
        dsimp only at this ⊢
        rw [HSl_length] at this ⊢
        exact this
    | true =>
      have hL := hL0 hran
      have hfp : ∀ b, b ∈ e.ids → b ∈ (recOf e).fp := fun b hb => by
        unfold recOf
        cases e.noisy with
        | true => simp [hb]
        | false => exact hb
      -- whether the operation touches it, quiet or not
      obtain ⟨ρn, k1, k2, k3, k4⟩ := StR.frame (HS' := HSl evs st.H stE.H.length S') (d := e.o.dst) (c := c) (T := fun b => touches b e) hv.st (maskH_length _ _ _) (by omega : G.H0.length ≤ e.H.length) (by
          intro b B hB
          obtain ⟨q1, q2⟩ := maskH_get _ _ _ hB
          refine ⟨by unfold touches; rw [memN_iff.2 q1]; rfl, ?_⟩
          rw [hmem b (hfp b q1) (hget_lt q2)]
          exact q2) hL (by
          intro b hb1 hb2
          refine ⟨?_, hv.nw i e he hun b hb1 hb2⟩
          rw [hget_HSl]
          split
          · have hnz : e.noisy = true := by
              cases hz : e.noisy with
              | true => rfl
              | false =>
                obtain ⟨_, _, _, q | q⟩ := h2.yes hran
                · rw [q.2.2.1, maskH_length] at hb2
                  rw [h2.hp] at hb1
                  omega
                · rw [hz] at q; cases q.1
            have htc : touches b e = true := by
              unfold touches
              rw [Nat.ble_eq_true_of_le hb1, show Nat.blt b e.H'.length = true from Nat.ble_eq_true_of_le hb2]
              simp
            rw [ready_mem hmap hrun hB hlog hS he hun hr (fp_of htc hnz hlens.2.2), foldL_take (by omega), ← d2 b, ← h2.hp]
            cases hx : hget e.H b with
            | none => rfl
            | some B => exact absurd (hget_lt hx) (by omega)
          · rfl) (by
          intro b hb1 hb2
          unfold touches
          rw [Nat.ble_eq_true_of_le hb1, show Nat.blt b e.H'.length = true from Nat.ble_eq_true_of_le hb2]
          simp) (by rw [HSl_length, HSl_length]) (by rw [HSl_length]; exact hlens.2.1) (by
          intro b
          rw [hgetS b]
          cases hz : e.noisy with
          | true => rfl
          | false =>
            rw [Bool.false_and]
            dsimp only
            cases ht : touches b e with
            | false => rfl
            | true =>
              obtain ⟨_, _, _, q | q⟩ := h2.yes hran
              · have hH' := q.2.2.1
                unfold touches at ht
                rw [hH', maskH_length, ← h2.hp] at ht
                have hm : memN e.ids b = true := by
                  cases hm : memN e.ids b with
                  | true => rfl
                  | false =>
                    rw [hm, Bool.false_or, Bool.and_eq_true] at ht
                    have q1 := Nat.le_of_ble_eq_true ht.1
                    have q2 : b + 1 ≤ e.H.length := Nat.le_of_ble_eq_true ht.2
                    omega
                dsimp only
                rw [hH', hget_maskH, Nat.zero_add, hm]
                dsimp only
                rw [← h2.hp]
                by_cases hb : b < e.H.length
                · exact hmem b (hfp b (memN_iff.1 hm)) hb
                · have e1 : hget e.H b = none := by
                    cases hx : hget e.H b with
                    | none => rfl
                    | some B => exact absurd (hget_lt hx) hb
                  rw [e1, hget_HSl]
                  split
                  · rw [ready_mem hmap hrun hB hlog hS he hun hr (hfp b (memN_iff.1 hm)), foldL_take (by omega), ← d2 b, ← h2.hp, e1]
                  · rfl
              · rw [hz] at q; cases q.1)
      exact hK ρn _ w' ⟨k1, hfr ρn k2 k3, hnw ρn k4⟩
  unfold wpOp
  rw [hops]
  dsimp only
  cases hran : e.ran with
  | false =>
    obtain ⟨⟨j, want, t, g1, g2, g3⟩, hv0, _⟩ := h2.no hran
    have hw : Region.wanted e.o (yielded all.toArray a.tmps) = false := by
      rcases g3 with g3 | g3
      · obtain ⟨c, q1, q2⟩ := hslot t (hgslot j want t g1 g2) _ g3
        simp only [V.R] at q2
        subst q2
        rw [wanted_of g1 g2 q1]
        cases want <;> rfl
      · obtain ⟨c, q1, q2⟩ := hslot t (hgslot j want t g1 g2) _ g3
        simp only [V.R] at q2
        obtain ⟨cs, rfl, _⟩ := q2
        rw [wanted_of g1 g2 q1]
        rfl
    rw [hw]
    simp only [Bool.false_eq_true, if_false]
    exact after undef ρ w (fun h => by rw [hran] at h; cases h) (fun _ => ⟨rfl, rfl⟩) (by rw [hv0]; simp only [V.R]; exact ⟨#[], rfl, by simp only [V.Rs]⟩)
  | true =>
    obtain ⟨g0, l1, l2, hx⟩ := h2.yes hran
    have hw : Region.wanted e.o (yielded all.toArray a.tmps) = true := by
      rcases g0 with g0 | ⟨j, want, t, g1, g2, g3⟩
      · simp [Region.wanted, g0]
      · obtain ⟨c, q1, q2⟩ := hslot t (hgslot j want t g1 g2) _ g3
        simp only [V.R] at q2
        subst q2
        rw [wanted_of g1 g2 q1]
        cases want <;> rfl
    rw [hw]
    simp only [if_true]
    have hfm : FR (fun b => if b < e.H.length then ρ b else none) (fmOf all e) a.tmps := by
      intro t v ht
      obtain ⟨q1, q2⟩ := fget_maskF ht
      obtain ⟨c, q3, q4⟩ := hslot t q1 v q2
      refine ⟨c, q3, V.R_ids _ _ (fun n hn' => ?_) q4⟩
      have := ltAll_spec l1 n (ids_valsF ht n hn')
      rw [h2.hp]
      simp [this]
    have hhm : HpR (fun b => if b < e.H.length then ρ b else none) (maskH e.ids 0 Hi) w := by
      have hfp : ∀ b, b ∈ e.ids → b ∈ (recOf e).fp := fun b hb => by
        unfold recOf
        cases e.noisy with
        | true => simp [hb]
        | false => exact hb
      have hmem : ∀ b B, hget (maskH e.ids 0 Hi) b = some B → hget (HSl evs st.H stE.H.length S) b = some B ∧ b < e.H.length ∧ b ∈ e.ids ∧ hget Hi b = some B := by
        intro b B hB'
        obtain ⟨q1, q2⟩ := maskH_get _ _ _ hB'
        have hlt := hget_lt q2
        have hlt' : b < e.H.length := h2.hp ▸ hlt
        refine ⟨?_, hlt', q1, q2⟩
        rw [hget_HSl, if_pos (by omega), ready_mem hmap hrun hB hlog hS he hun hr (hfp b q1), foldL_take (by omega), ← d2 b]
        exact q2
      refine ⟨fun b B hB' => ?_, fun x y B D l m hx hy hxy hwr hl hm => ?_, fun b hb => ?_⟩
      · obtain ⟨q1, q2, q3, q4⟩ := hmem b B hB'
        obtain ⟨l, q5, q6⟩ := hv.st.hp.blk b B q1
        refine ⟨l, by simp [q2, q5], q6.congrIds fun n hn' => ?_⟩
        have := ltAll_spec l2 n (idsOf_mem q3 q4 hn')
        rw [h2.hp]
        simp [this]
      · obtain ⟨q1, q2, _, _⟩ := hmem x B hx
        obtain ⟨q3, q4, _, _⟩ := hmem y D hy
        simp only [q2, if_true] at hl
        simp only [q4, if_true] at hm
        exact hv.st.hp.sep x y B D l m q1 q3 hxy hwr hl hm
      · rw [maskH_length] at hb
        have : ¬ b < e.H.length := by rw [h2.hp]; omega
        simp [this]
    refine .inl ?_
    rcases hx with ⟨_, q1, q2, _⟩ | ⟨_, q1, _, _⟩
    · exact opQ_sound hC hfm hhm q1 fun c w' hr' hL => after c _ w' (fun _ => by rw [q2, h2.hp] at *; exact hL) (fun h => by rw [hran] at h; cases h) hr'
    · exact opE_sound hC hfm hhm q1 fun c ρ' w' hr' hL => after c ρ' w' (fun _ => by rw [h2.hp]; rw [h2.hp] at hL; exact hL) (fun h => by rw [hran] at h; cases h) hr'
theorem draw_all (hrun : Run C all evs st.fr st.H stE.fr stE.H) {S : Nat → Bool} {ρ : Nat → Option Loc} {a : Act} {w : World} (hall : ∀ j, j < evs.length → S j = true) (hv : DInv G evs st.fr st.H stE.H.length S ρ a w) : StR G ρ stE a w := by
  obtain ⟨d1, d2, d3⟩ := Run.done hrun 0 (fget st.fr) fun t v' ht => ⟨v', ht, .inl rfl⟩
  have hS : ∀ {γ : Type} (g : Ev → Option γ) (d : γ), foldL g evs 0 S d = foldL g evs 0 (fun _ => true) d := fun g d => foldL_congr fun j e hj _ => by
    rw [Nat.zero_add]
    exact hall j (List.getElem?_eq_some_iff.1 hj).1
  have hg : ∀ b, hget stE.H b = hget (HSl evs st.H stE.H.length S) b := by
    intro b
    rw [hget_HSl, hS, ← d2 b]
    split
    · rfl
    · cases hx : hget stE.H b with
      | none => rfl
      | some B => exact absurd (hget_lt hx) (by assumption)
  have hs := hv.st
  refine ⟨fun t v' ht => ?_, hs.hp.same hg (by rw [HSl_length]; exact Nat.le_refl _), hs.sz, hs.df, hs.ext, fun i B l hB hl => ?_, hs.ag, ?_⟩
  · obtain ⟨v, q1, q2⟩ := d1 t v' ht
    rw [← hS] at q1
    obtain ⟨c, q3, q4⟩ := hv.fr t v q1
    exact ⟨c, q3, q2.R q4⟩
  · rw [hg i] at hB
    exact hs.ow i B l hB hl
  · have := hs.len
    dsimp only at this
    rwa [HSl_length] at this
theorem draw_start (hrun : Run C all evs st.fr st.H stE.fr stE.H) {S : Nat → Bool} {ρ : Nat → Option Loc} {a : Act} {w : World} (hno : ∀ j, S j = false) (hs : StR G ρ st a w) : DInv G evs st.fr st.H stE.H.length S ρ a { w with drawn := w.drawn + 1 } := by
  have hf : ∀ {γ : Type} (g : Ev → Option γ) (d : γ), foldL g evs 0 S d = d := fun g d => foldL_none fun j e _ _ => by rw [Nat.zero_add]; exact hno j
  have hle := hrun.len
  have hg : ∀ b, hget (HSl evs st.H stE.H.length S) b = hget st.H b := by
    intro b
    rw [hget_HSl, hf]
    split
    · rfl
    · cases hx : hget st.H b with
      | none => rfl
      | some B =>
        have := hget_lt hx
        omega
  refine ⟨⟨fun t v hv => (by cases hv), (hs.hp.gr (Gr.drew w)).same hg (by rw [HSl_length]; exact hle), hs.sz, hs.df, hs.ext.trans (Gr.drew w) (fun _ _ h => h.elim), fun i B l hB hl => ?_, hs.ag, ?_⟩, fun t v h => ?_, fun i e he _ b hb _ => ?_⟩
  · dsimp only at hB
    rw [hg i] at hB
    exact hs.ow i B l hB hl
  · dsimp only
    rw [HSl_length]
    exact Nat.le_trans hs.len hle
  · rw [hf] at h
    exact hs.fr t v h
  · have := (hrun.lens he).1
    exact hs.hp.dom b (by omega)
theorem draw_any (hC : CtxOK P C) (hn : C.n = G.n) (hmap : evs.map (·.o) = all) (hrun : Run C all evs st.fr st.H stE.fr stE.H) (hB : edgesBack 0 all = true) (hP : pairsOk all (closFrom [] all) [] all = true)
    (hlog : logOk (closFrom [] all) [] (evs.map recOf) = true) (hG0 : G.H0.length ≤ st.H.length) {Q : Exit → Act → World → Prop} (hQ : ∀ ρ a w, StR G ρ stE a w → Q .normal a w) :
    ∀ (fuel : Nat) (listed : Array Bool) (l : List Nat) (ρ : Nat → Option Loc) (a : Act) (w : World), listed.size = all.length → l.length ≤ fuel → (∀ j, j < all.length → listed.getD j false = false → j ∈ l) → Closed all (fun j => listed.getD j false) →
      DInv G evs st.fr st.H stE.H.length (fun j => listed.getD j false) ρ a w → wpAny P .any all.toArray Q fuel listed a w := by
  have hlen : evs.length = all.length := by rw [← hmap]; simp
  have fin : ∀ (listed : Array Bool) (ρ : Nat → Option Loc) (a : Act) (w : World), listed.size = all.length → (∀ j, j < all.length → listed.getD j false = true) → DInv G evs st.fr st.H stE.H.length (fun j => listed.getD j false) ρ a w → Q .normal a w := fun listed ρ a w _ h hv =>
    hQ ρ a w (draw_all hrun (fun j hj => h j (by omega)) hv)
  have agree : ∀ (listed : Array Bool), listed.size = all.length → ∀ j, j < all.length → listed.getD j true = listed.getD j false := fun listed hs j hj => by
    have : j < listed.size := by omega
    simp [this]
  intro fuel
  induction fuel with
  | zero =>
    intro listed l ρ a w hs hl hm hcl hv
    have hnil : l = [] := List.length_eq_zero_iff.1 (by omega)
    have hall : ∀ j, j < all.length → listed.getD j false = true := fun j hj => by
      cases hx : listed.getD j false with
      | true => rfl
      | false =>
        have := hm j hj hx
        rw [hnil] at this
        cases this
    refine ⟨?_, fin listed ρ a w hs hall hv⟩
    refine List.eq_nil_iff_forall_not_mem.2 fun j hj => ?_
    obtain ⟨h1, o, h2, _⟩ := mem_ready.1 hj
    have hjl : j < all.length := by
      have := (Array.getElem?_eq_some_iff.1 h2).1
      simpa using this
    rw [agree listed hs j hjl, hall j hjl] at h1
    cases h1
  | succ fuel ih =>
    intro listed l ρ a w hs hl hm hcl hv
    refine ⟨fun hnil => ?_, fun i hi => ?_⟩
    · refine fin listed ρ a w hs ?_ hv
      intro j
      induction j using Nat.strongRecOn with
      | ind j ihj =>
        intro hj
        cases hx : listed.getD j false with
        | true => rfl
        | false =>
          have : j ∈ Region.ready .any all.toArray listed := by
            refine mem_ready.2 ⟨by rw [agree listed hs j hj]; exact hx, all[j], by simp [hj], fun e he hb => ?_⟩
            have hlt : e.on < j := by simpa using edgesBack_spec hB j all[j] (List.getElem?_eq_getElem hj) e (by simpa using he) hb
            exact ihj e.on hlt (by omega)
          rw [hnil] at this
          cases this
    · obtain ⟨h1, o, h2, h3⟩ := mem_ready.1 hi
      have hil : i < all.length := by
        have := (Array.getElem?_eq_some_iff.1 h2).1
        simpa using this
      have hio : all[i]? = some o := by simpa using h2
      have hun : listed.getD i false = false := by rw [← agree listed hs i hil]; exact h1
      obtain ⟨e, he⟩ : ∃ e, evs[i]? = some e := ⟨evs[i]'(by omega), List.getElem?_eq_getElem (by omega)⟩
      have heo : e.o = o := by
        have := all_of hmap he
        rw [hio] at this
        exact (Option.some.inj this).symm
      have hset : ∀ j, (listed.setIfInBounds i true).getD j false = (listed.getD j false || Nat.beq j i) := by
        intro j
        have hil' : i < listed.size := by omega
        rcases Nat.decEq j i with hne | rfl
        · have hb : Nat.beq j i = false := by
            cases hb : Nat.beq j i with
            | false => rfl
            | true => exact absurd (beqN hb) hne
          rw [hb, Bool.or_false]
          simp only [Array.getD_eq_getD_getElem?, Array.getElem?_setIfInBounds_ne (Ne.symm hne)]
        · rw [Nat.beq_refl, Bool.or_true]
          simp [hil']
      refine draw_step hC hn hmap hrun hB hP hlog hG0 hcl he hun (fun x hx hb => h3 x (by rw [← heo]; simpa using hx) hb) hset hv fun ρ' a' w' hv' => ?_
      have hil2 : i ∈ l := hm i hil hun
      refine ih _ (l.erase i) ρ' a' w' (by simp [hs]) (by rw [List.length_erase_of_mem hil2]; omega) (fun j hj hx => ?_) (fun j oj hj hsj x hx hb => ?_) hv'
      · rw [hset j, Bool.or_eq_false_iff] at hx
        refine (List.mem_erase_of_ne fun e => ?_).2 (hm j hj hx.1)
        rw [e, Nat.beq_refl] at hx
        cases hx.2
      · dsimp only at hsj ⊢
        rw [hset, Bool.or_eq_true] at hsj ⊢
        rcases hsj with hsj | hsj
        · exact .inl (hcl j oj hj hsj x hx hb)
        · have := beqN hsj
          subst this
          rw [hio] at hj
          cases hj
          exact .inl (h3 x (by simpa using hx) hb)
/-- A region whose order is drawn does what it does in the text's order. -/
theorem draw_sound {α : Type} (hC : CtxOK P C) (hn : C.n = G.n) {id : Nat} {ops : Array Oper} (hd : drawOk ops.toList = true) {k : St → T α} {r : α} {ρ : Nat → Option Loc} {a : Act} {w : World} {Q : Exit → Act → World → Prop}
    (h : (execD C ops.toList ops.toList st [] fun st log => match logOk (closFrom [] ops.toList) [] log with
      | true => k st
      | false => .bad).get = some r) (hs : StR G ρ st a w) (hQ : ∀ st ρ a w, (k st).get = some r → StR G ρ st a w → Q .normal a w) : (Code.region id ops true).wp P Q a w := by
  obtain ⟨evs, stE, h1, h2, h3⟩ := execD_run _ _ _ h
  rw [List.nil_append] at h3
  split at h3
  · rename_i hlog
    unfold drawOk at hd
    rw [Bool.and_eq_true] at hd
    refine wp_region_any hC.mo ?_
    have e : ops = ops.toList.toArray := by simp
    have hrep : ∀ j, (Array.replicate ops.toList.toArray.size false).getD j false = false := fun j => by
      rw [Array.getD_eq_getD_getElem?, Array.getElem?_replicate]
      split <;> rfl
    rw [e]
    refine draw_any hC hn h1 h2 hd.1 hd.2 hlog hs.len (fun ρ a w hE => hQ stE ρ a w h3 hE) _ _ (List.range ops.size) ρ a _ (by simp) (by simp) (fun j hj _ => by simpa using hj) (fun j o _ hx => ?_) (draw_start h2 (fun j => ?_) hs)
    · exfalso
      dsimp only at hx
      rw [hrep] at hx
      cases hx
    · exact hrep j
  · cases h3
end Go.Proofs.Ytkfpmiggolmabaa.Sx
