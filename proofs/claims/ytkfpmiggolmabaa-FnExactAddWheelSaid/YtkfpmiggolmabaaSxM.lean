/- The abstract execution is sound: regions whose order is drawn: any order does what the text's order does. -/
import Derived.Test.YtkfpmiggolmabaaSxK
import Derived.Orders
namespace Go.Proofs.Ytkfpmiggolmabaa.Sx
open Go Go.RowKit
set_option linter.unusedVariables false
set_option linter.unusedSimpArgs false
variable {P : Program}

def fmOf (all : List Oper) (e : Ev) : List (Nat × V) := maskF e.fr (looks all e.o)
def GuardYes (all : List Oper) (e : Ev) : Prop := e.o.guard = none ∨ ∃ j want t, e.o.guard = some (j, want) ∧ dstOf all j = some t ∧ fget e.fr t = some (.kb want)
def GuardNo (all : List Oper) (e : Ev) : Prop := ∃ j want t, e.o.guard = some (j, want) ∧ dstOf all j = some t ∧ (fget e.fr t = some (.kb (!want)) ∨ fget e.fr t = some (.tup []))
structure StepOK (C : Ctx) (all : List Oper) (e : Ev) (fr : List (Nat × V)) (H : Hp) (fr' : List (Nat × V)) (H2 : Hp) : Prop where
  up : ∀ t v', fget e.fr t = some v' → ∃ v, fget fr t = some v ∧ Upv v v'
  hp : e.H = H
  put : putD C e.o.dst e.v e.fr = some fr'
  yes : e.ran = true → GuardYes all e ∧ ltAll H.length (V.idsL (valsF (fmOf all e))) = true ∧ ltAll H.length (idsOf H e.ids) = true ∧
    ((e.noisy = false ∧ (opQ C (fmOf all e) (maskH e.ids 0 H) e.o.op).get = some e.v ∧ e.H' = maskH e.ids 0 H ∧ H2 = H) ∨
     (e.noisy = true ∧ (opE C (fmOf all e) (maskH e.ids 0 H) e.o.op).get = some (e.v, e.H') ∧ H.length ≤ e.H'.length ∧ H2 = mergeH e.ids 0 H e.H'))
  no : e.ran = false → GuardNo all e ∧ e.v = .tup [] ∧ e.noisy = false ∧ H2 = H ∧ e.H' = H ∧ e.ids = []
def Run (C : Ctx) (all : List Oper) : List Ev → List (Nat × V) → Hp → List (Nat × V) → Hp → Prop
  | [], fr, H, frE, HE => frE = fr ∧ HE = H
  | e :: r, fr, H, frE, HE => ∃ fr' H', StepOK C all e fr H fr' H' ∧ Run C all r fr' H' frE HE
def recOf (e : Ev) : Rec := match e.noisy with
  | true => ⟨e.ids ++ upto e.H.length (e.H'.length - e.H.length), true⟩
  | false => ⟨e.ids, false⟩
theorem execD_run {α : Type} {C : Ctx} {all : List Oper} {k : St → List Rec → T α} {r : α} : ∀ (ops : List Oper) (st : St) (log : List Rec), (execD C all ops st log k).get = some r →
    ∃ evs stE, evs.map (·.o) = ops ∧ Run C all evs st.fr st.H stE.fr stE.H ∧ (k stE (log ++ evs.map recOf)).get = some r
  | [], st, log, h => ⟨[], st, rfl, ⟨rfl, rfl⟩, by simpa [execD] using h⟩
  | o :: rest, st, log, h => by
    have yes : ∀ fr1 : List (Nat × V), (∀ t v', fget fr1 t = some v' → ∃ v, fget st.fr t = some v ∧ Upv v v') → (o.guard = none ∨ ∃ j want t, o.guard = some (j, want) ∧ dstOf all j = some t ∧ fget fr1 t = some (.kb want)) →
        ((stepD C (maskF fr1 (looks all o)) st.H o.op).bind fun x => match putD C o.dst x.1 fr1 with
        | some fr => execD C all rest { fr := fr, H := nextH st.H (footD C (maskF fr1 (looks all o)) st.H o.op) x.2.2.noisy x.2.1 } (log ++ [x.2.2]) k
        | none => .bad).get = some r → ∃ evs stE, evs.map (·.o) = o :: rest ∧ Run C all evs st.fr st.H stE.fr stE.H ∧ (k stE (log ++ evs.map recOf)).get = some r := by
      intro fr1 hup hg h
      obtain ⟨x, h1, h2⟩ := T.get_bind _ _ _ h
      split at h2
      · rename_i fr hfr
        unfold stepD at h1
        split at h1
        · cases h1
        · rename_i hlt
          rw [Bool.and_eq_true] at hlt
          split at h1
          · rename_i hk
            obtain ⟨v, h3, h4⟩ := T.get_bind _ _ _ h1
            cases h4
            obtain ⟨evs, stE, h5, h6, h7⟩ := execD_run rest _ _ h2
            refine ⟨⟨o, fr1, st.H, true, footD C (maskF fr1 (looks all o)) st.H o.op, false, v, maskH (footD C (maskF fr1 (looks all o)) st.H o.op) 0 st.H⟩ :: evs, stE, by simp [h5], ⟨fr, st.H, ⟨hup, rfl, hfr, fun _ => ?_, fun h => (by cases h)⟩, ?_⟩, ?_⟩
            · exact ⟨hg, hlt.1, hlt.2, .inl ⟨rfl, h3, rfl, rfl⟩⟩
            · exact h6
            · simpa [recOf] using h7
          · rename_i hk
            obtain ⟨v, h3, h4⟩ := T.get_bind _ _ _ h1
            split at h4
            · rename_i hble
              cases h4
              obtain ⟨evs, stE, h5, h6, h7⟩ := execD_run rest _ _ h2
              refine ⟨⟨o, fr1, st.H, true, footD C (maskF fr1 (looks all o)) st.H o.op, true, v.1, v.2⟩ :: evs, stE, by simp [h5], ⟨fr, mergeH (footD C (maskF fr1 (looks all o)) st.H o.op) 0 st.H v.2, ⟨hup, rfl, hfr, fun _ => ?_, fun h => (by cases h)⟩, ?_⟩, ?_⟩
              · exact ⟨hg, hlt.1, hlt.2, .inr ⟨rfl, h3, Nat.le_of_ble_eq_true hble, rfl⟩⟩
              · exact h6
              · simpa [recOf] using h7
            · cases h4
      · cases h2
    have no : ∀ fr1 : List (Nat × V), (∀ t v', fget fr1 t = some v' → ∃ v, fget st.fr t = some v ∧ Upv v v') → (∃ j want t, o.guard = some (j, want) ∧ dstOf all j = some t ∧ (fget fr1 t = some (.kb (!want)) ∨ fget fr1 t = some (.tup []))) →
        (match putD C o.dst (.tup []) fr1 with
        | some fr => execD C all rest { fr := fr, H := st.H } (log ++ [(⟨[], false⟩ : Rec)]) k
        | none => .bad).get = some r → ∃ evs stE, evs.map (·.o) = o :: rest ∧ Run C all evs st.fr st.H stE.fr stE.H ∧ (k stE (log ++ evs.map recOf)).get = some r := by
      intro fr1 hup hg h2
      split at h2
      · rename_i fr hfr
        obtain ⟨evs, stE, h5, h6, h7⟩ := execD_run rest _ _ h2
        refine ⟨⟨o, fr1, st.H, false, [], false, .tup [], st.H⟩ :: evs, stE, by simp [h5], ⟨fr, st.H, ⟨hup, rfl, hfr, fun h => (by cases h), fun _ => ⟨hg, rfl, rfl, rfl, rfl, rfl⟩⟩, h6⟩, ?_⟩
        simpa [recOf] using h7
      · cases h2
    have same : ∀ t v', fget st.fr t = some v' → ∃ v, fget st.fr t = some v ∧ Upv v v' := fun t v' h => ⟨v', h, .inl rfl⟩
    have know : ∀ t g, fget st.fr t = some (.bo g) → ∀ s v', fget ((t, V.kb g) :: st.fr) s = some v' → ∃ v, fget st.fr s = some v ∧ Upv v v' := fun t g hg s v' h => by
      rw [fget_cons] at h
      split at h
      · rename_i e
        subst e
        cases h
        exact ⟨_, hg, .inr ⟨g, rfl, rfl⟩⟩
      · exact same s v' h
    have here : ∀ (t : Nat) (v : V), fget ((t, v) :: st.fr) t = some v := fun t v => by rw [fget_cons, if_pos rfl]
    unfold execD guardX at h
    split at h
    · rename_i hg
      exact yes st.fr same (.inl hg) h
    · rename_i j want hg
      split at h
      · cases h
      · rename_i t ht
        split at h
        · rename_i g hv
          split at h
          · rename_i heq
            have : g = want := by simpa using heq
            subst this
            exact yes st.fr same (.inr ⟨j, g, t, hg, ht, hv⟩) h
          · rename_i heq
            have : g = !want := by cases g <;> cases want <;> simp_all
            subst this
            exact no st.fr same ⟨j, want, t, hg, ht, .inl hv⟩ h
        · rename_i g hv
          cases want <;> cases g
          · exact yes ((t, .kb false) :: st.fr) (know t false hv) (.inr ⟨j, false, t, hg, ht, here t _⟩) h
          · exact no ((t, .kb true) :: st.fr) (know t true hv) ⟨j, false, t, hg, ht, .inl (here t _)⟩ h
          · exact no ((t, .kb false) :: st.fr) (know t false hv) ⟨j, true, t, hg, ht, .inl (here t _)⟩ h
          · exact yes ((t, .kb true) :: st.fr) (know t true hv) (.inr ⟨j, true, t, hg, ht, here t _⟩) h
        · rename_i hv
          exact no st.fr same ⟨j, want, t, hg, ht, .inr hv⟩ h
        · cases h
theorem putD_get {C : Ctx} (d : Option Nat) {v : V} {fr fr' : List (Nat × V)} (t : Nat) : putD C d v fr = some fr' → fget fr' t = (match d with
    | some s => match Nat.beq s t with
      | true => some v
      | false => fget fr t
    | none => fget fr t) := by
  intro h
  cases d with
  | none => cases h; rfl
  | some s =>
    unfold putD at h
    dsimp only at h
    split at h
    · cases h
      rfl
    · cases h
/-- What the text's order leaves, told by what came up last. -/
theorem Run.done {C : Ctx} {all : List Oper} : ∀ {evs : List Ev} {fr : List (Nat × V)} {H : Hp} {frE : List (Nat × V)} {HE : Hp}, Run C all evs fr H frE HE → ∀ (k : Nat) (d : Nat → Option V), (∀ t v', fget fr t = some v' → ∃ v, d t = some v ∧ Upv v v') →
    (∀ t v', fget frE t = some v' → ∃ v, foldL (gF t) evs k (fun _ => true) (d t) = some v ∧ Upv v v') ∧ (∀ b, hget HE b = foldL (gH b) evs k (fun _ => true) (hget H b)) ∧ H.length ≤ HE.length
  | [], fr, H, frE, HE, h, k, d, hd => by
    obtain ⟨rfl, rfl⟩ := h
    exact ⟨hd, fun b => rfl, Nat.le_refl _⟩
  | e :: r, fr, H, frE, HE, h, k, d, hd => by
    obtain ⟨fr', H', hs, hr⟩ := h
    have hd' : ∀ t v', fget fr' t = some v' → ∃ v, (match gF t e with | some x => x | none => d t) = some v ∧ Upv v v' := by
      intro t v' ht
      rw [putD_get _ t hs.put] at ht
      unfold gF
      cases hdst : e.o.dst with
      | none =>
        rw [hdst] at ht
        obtain ⟨v, h1, h2⟩ := hs.up t v' ht
        obtain ⟨u, h3, h4⟩ := hd t v h1
        exact ⟨u, h3, h4.trans h2⟩
      | some s =>
        rw [hdst] at ht
        dsimp only at ht ⊢
        cases hb : Nat.beq s t with
        | true =>
          rw [hb] at ht
          cases ht
          exact ⟨_, rfl, .inl rfl⟩
        | false =>
          rw [hb] at ht
          obtain ⟨v, h1, h2⟩ := hs.up t v' ht
          obtain ⟨u, h3, h4⟩ := hd t v h1
          exact ⟨u, h3, h4.trans h2⟩
    have hH : (∀ b, hget H' b = (match gH b e with | some x => x | none => hget H b)) ∧ H.length ≤ H'.length := by
      cases hran : e.ran with
      | false =>
        obtain ⟨_, _, hn, rfl, _⟩ := hs.no hran
        refine ⟨fun b => ?_, Nat.le_refl _⟩
        unfold gH
        rw [hn]
        rfl
      | true =>
        obtain ⟨_, _, _, h | h⟩ := hs.yes hran
        · obtain ⟨hn, _, _, rfl⟩ := h
          refine ⟨fun b => ?_, Nat.le_refl _⟩
          unfold gH
          rw [hn]
          rfl
        · obtain ⟨hn, _, hle, rfl⟩ := h
          refine ⟨fun b => ?_, by rw [mergeH_length _ _ _ _ hle]; exact hle⟩
          rw [mergeH_get _ _ _ _ _ hle, Nat.zero_add]
          unfold gH touches
          rw [hn, hs.hp, Bool.true_and]
          cases hm : memN e.ids b with
          | true =>
            simp only [Bool.true_or]
            split <;> rfl
          | false =>
            simp only [Bool.false_or]
            by_cases hb : b < H.length
            · rw [if_pos hb]
              have : Nat.ble H.length b = false := by
                cases hq : Nat.ble H.length b with
                | false => rfl
                | true => exact absurd (Nat.le_of_ble_eq_true hq) (by omega)
              rw [this]
              rfl
            · rw [if_neg hb]
              have h1 : Nat.ble H.length b = true := Nat.ble_eq_true_of_le (by omega)
              rw [h1, Bool.true_and]
              cases hq : Nat.blt b e.H'.length with
              | true => rfl
              | false =>
                have h2 : hget H b = none := by
                  cases hx : hget H b with
                  | none => rfl
                  | some B => exact absurd (hget_lt hx) hb
                have h3 : hget e.H' b = none := by
                  cases hx : hget e.H' b with
                  | none => rfl
                  | some B =>
                    have : Nat.blt b e.H'.length = true := Nat.ble_eq_true_of_le (hget_lt hx)
                    rw [hq] at this
                    cases this
                rw [h3]
                exact h2.symm
    obtain ⟨h1, h2, h3⟩ := Run.done hr (k + 1) (fun t => match gF t e with | some x => x | none => d t) hd'
    refine ⟨fun t v' ht => ?_, fun b => ?_, Nat.le_trans hH.2 h3⟩
    · obtain ⟨v, h4, h5⟩ := h1 t v' ht
      refine ⟨v, ?_, h5⟩
      unfold foldL
      rw [← h4]
      congr 1
      cases gF t e <;> rfl
    · rw [h2 b]
      conv => rhs; unfold foldL
      rw [hH.1 b]
      congr 1
      cases gH b e <;> rfl
theorem Run.at {C : Ctx} {all : List Oper} : ∀ {evs : List Ev} {fr : List (Nat × V)} {H : Hp} {frE : List (Nat × V)} {HE : Hp}, Run C all evs fr H frE HE → ∀ (i : Nat) (e : Ev), evs[i]? = some e →
    ∃ fri Hi fr' H', Run C all (evs.take i) fr H fri Hi ∧ StepOK C all e fri Hi fr' H' ∧ Run C all (evs.drop (i + 1)) fr' H' frE HE
  | [], fr, H, frE, HE, h, i, e, hi => by simp at hi
  | x :: r, fr, H, frE, HE, h, 0, e, hi => by
    simp at hi
    subst hi
    obtain ⟨fr', H', hs, hr⟩ := h
    exact ⟨fr, H, fr', H', ⟨rfl, rfl⟩, hs, hr⟩
  | x :: r, fr, H, frE, HE, h, i + 1, e, hi => by
    obtain ⟨fr', H', hs, hr⟩ := h
    obtain ⟨fri, Hi, fr2, H2, h1, h2, h3⟩ := Run.at hr i e (by simpa using hi)
    exact ⟨fri, Hi, fr2, H2, ⟨fr', H', hs, h1⟩, h2, h3⟩
theorem StepOK.len {C : Ctx} {all : List Oper} {e : Ev} {fr fr' : List (Nat × V)} {H H2 : Hp} (h : StepOK C all e fr H fr' H2) : e.H'.length = H2.length ∧ H.length ≤ H2.length := by
  cases hran : e.ran with
  | false =>
    obtain ⟨_, _, _, h1, h2, _⟩ := h.no hran
    rw [h1, h2]
    exact ⟨rfl, Nat.le_refl _⟩
  | true =>
    obtain ⟨_, _, _, h1 | h1⟩ := h.yes hran
    · obtain ⟨_, _, h2, h3⟩ := h1
      rw [h2, h3, maskH_length]
      exact ⟨rfl, Nat.le_refl _⟩
    · obtain ⟨_, _, h2, h3⟩ := h1
      rw [h3, mergeH_length _ _ _ _ h2]
      exact ⟨rfl, h2⟩
theorem Run.len {C : Ctx} {all : List Oper} {evs : List Ev} {fr : List (Nat × V)} {H : Hp} {frE : List (Nat × V)} {HE : Hp} (h : Run C all evs fr H frE HE) : H.length ≤ HE.length :=
  (Run.done h 0 (fget fr) fun t v' ht => ⟨v', ht, .inl rfl⟩).2.2
theorem Run.lens {C : Ctx} {all : List Oper} {evs : List Ev} {fr : List (Nat × V)} {H : Hp} {frE : List (Nat × V)} {HE : Hp} (h : Run C all evs fr H frE HE) {i : Nat} {e : Ev} (hi : evs[i]? = some e) :
    H.length ≤ e.H.length ∧ e.H'.length ≤ HE.length ∧ e.H.length ≤ e.H'.length := by
  obtain ⟨fri, Hi, fr', H', h1, h2, h3⟩ := h.at i e hi
  have h4 := h1.len
  have h5 := h3.len
  have h6 := h2.len
  rw [h2.hp]
  omega
theorem Run.apart {C : Ctx} {all : List Oper} {evs : List Ev} {fr : List (Nat × V)} {H : Hp} {frE : List (Nat × V)} {HE : Hp} (h : Run C all evs fr H frE HE) {i j : Nat} {e x : Ev} (hi : evs[i]? = some e) (hj : evs[j]? = some x) (hij : i < j) : e.H'.length ≤ x.H.length := by
  obtain ⟨fri, Hi, fr', H', h1, h2, h3⟩ := h.at i e hi
  have hj' : (evs.drop (i + 1))[j - (i + 1)]? = some x := by
    rw [List.getElem?_drop, show i + 1 + (j - (i + 1)) = j by omega]
    exact hj
  have := (h3.lens hj').1
  have h6 := h2.len
  omega
/-- What is known of memory when some have come up. -/
def HSl (evs : List Ev) (H0 : Hp) (L : Nat) (S : Nat → Bool) : Hp := (List.range L).map fun b => foldL (gH b) evs 0 S (hget H0 b)
theorem hget_map_range (f : Nat → Option Blk) : ∀ (L k b : Nat), hget ((List.range' k L).map f) b = if b < L then f (k + b) else none
  | 0, k, b => by cases b <;> rfl
  | L + 1, k, 0 => by simp [List.range', hget]
  | L + 1, k, b + 1 => by
    simp only [List.range', List.map_cons, hget, Nat.add_lt_add_iff_right]
    rw [hget_map_range f L (k + 1) b, show k + 1 + b = k + (b + 1) by omega]
theorem hget_HSl (evs : List Ev) (H0 : Hp) (L : Nat) (S : Nat → Bool) (b : Nat) : hget (HSl evs H0 L S) b = if b < L then foldL (gH b) evs 0 S (hget H0 b) else none := by
  unfold HSl
  rw [List.range_eq_range', hget_map_range, Nat.zero_add]
theorem HSl_length (evs : List Ev) (H0 : Hp) (L : Nat) (S : Nat → Bool) : (HSl evs H0 L S).length = L := by simp [HSl]
structure DInv (G : Gl) (evs : List Ev) (fr0 : List (Nat × V)) (H0 : Hp) (L : Nat) (S : Nat → Bool) (ρ : Nat → Option Loc) (a : Act) (w : World) : Prop where
  st : StR G ρ ⟨[], HSl evs H0 L S⟩ a w
  fr : ∀ t v, foldL (gF t) evs 0 S (fget fr0 t) = some v → ∃ c, a.tmps[t]? = some c ∧ V.R ρ v c
  nw : ∀ (i : Nat) (e : Ev), evs[i]? = some e → S i = false → ∀ b, e.H.length ≤ b → b < e.H'.length → ρ b = none
def boolOf : Value → Option Bool
  | .bool b => some b
  | _ => none
theorem wanted_of {all : List Oper} {o : Oper} {j t : Nat} {want : Bool} {a : Act} {c : Value} (hg : o.guard = some (j, want)) (ht : dstOf all j = some t) (hc : a.tmps[t]? = some c) :
    Region.wanted o (yielded all.toArray a.tmps) = (boolOf c == some want) := by
  have hd : ((all.toArray)[j]?).bind (·.dst) = some t := by rw [← ht, dstOf_eq]; simp
  have hy : yielded all.toArray a.tmps j = boolOf c := by
    unfold yielded
    rw [hd]
    simp only [Option.bind_some, hc]
    cases c <;> rfl
  unfold Region.wanted
  rw [hg]
  simp only [hy]
section
variable {C : Ctx} {G : Gl} {all : List Oper} {evs : List Ev} {st stE : St}
theorem all_of (hmap : evs.map (·.o) = all) {i : Nat} {e : Ev} (he : evs[i]? = some e) : all[i]? = some e.o := by
  rw [← hmap, List.getElem?_map, he]
  rfl
/-- What an operation that is ready looks at is what it looks at in the text's order. -/
theorem ready_slot (hmap : evs.map (·.o) = all) (hB : edgesBack 0 all = true) (hP : pairsOk all (closFrom [] all) [] all = true) {S : Nat → Bool} (hS : Closed all S) {i : Nat} {e : Ev} (he : evs[i]? = some e) (hun : S i = false)
    (hr : ∀ x ∈ e.o.after.toList, Region.binds .any x = true → S x.on = true) {t : Nat} (ht : t ∈ looks all e.o) (d : Option V) : foldL (gF t) evs 0 S d = foldL (gF t) evs 0 (fun j => Nat.blt j i) d := by
  refine foldL_congr fun j x hj hg => ?_
  rw [Nat.zero_add]
  have hd : x.o.dst = some t := by
    unfold gF at hg
    cases hx : x.o.dst with
    | none => rw [hx] at hg; cases hg
    | some s =>
      rw [hx] at hg
      dsimp only at hg
      cases hb : Nat.beq s t with
      | true => rw [beqN hb]
      | false => rw [hb] at hg; cases hg
  have hai := all_of hmap he
  have haj := all_of hmap hj
  rcases Nat.lt_trichotomy j i with hlt | rfl | hgt
  · have hb : Nat.blt j i = true := Nat.ble_eq_true_of_le hlt
    rw [hb]
    rcases pairsOk_spec hP i e.o hai j x.o (by simpa using hlt) (by simpa using haj) with h | h
    · exact clos_ready hS hB hai hr (by simpa using h)
    · unfold apartS at h
      rw [hd] at h
      have : memN (looks all e.o) t = true := memN_iff.2 ht
      simp [this] at h
  · have hb : Nat.blt j j = false := by
      cases hb : Nat.blt j j with
      | false => rfl
      | true => exact absurd (Nat.le_of_ble_eq_true hb) (by omega)
    rw [hb, hun]
  · have hb : Nat.blt j i = false := by
      cases hb : Nat.blt j i with
      | false => rfl
      | true => exact absurd (Nat.le_of_ble_eq_true hb) (by omega)
    rw [hb]
    rcases pairsOk_spec hP j x.o haj i e.o (by simpa using hgt) (by simpa using hai) with h | h
    · cases hs : S j with
      | false => rfl
      | true =>
        have := clos_in hS hB j i x.o haj hs (by simpa using h)
        rw [hun] at this
        cases this
    · unfold apartS at h
      rw [hd] at h
      have : memN (looks all e.o) t = true := memN_iff.2 ht
      simp [this] at h
/-- What writes the same slot later has not come up. -/
theorem later_slot (hmap : evs.map (·.o) = all) (hB : edgesBack 0 all = true) (hP : pairsOk all (closFrom [] all) [] all = true) {S : Nat → Bool} (hS : Closed all S) {i : Nat} {e : Ev} (he : evs[i]? = some e) (hun : S i = false) {t : Nat}
    (j : Nat) (x : Ev) (hij : i < j) (hj : evs[j]? = some x) (h1 : (gF t e).isSome = true) (h2 : (gF t x).isSome = true) : S j = false := by
  have key : ∀ y : Ev, (gF t y).isSome = true → y.o.dst = some t := by
    intro y hg
    unfold gF at hg
    cases hx : y.o.dst with
    | none => rw [hx] at hg; cases hg
    | some s =>
      rw [hx] at hg
      dsimp only at hg
      cases hb : Nat.beq s t with
      | true => rw [beqN hb]
      | false => rw [hb] at hg; cases hg
  have hai := all_of hmap he
  have haj := all_of hmap hj
  rcases pairsOk_spec hP j x.o haj i e.o (by simpa using hij) (by simpa using hai) with h | h
  · cases hs : S j with
    | false => rfl
    | true =>
      have := clos_in hS hB j i x.o haj hs (by simpa using h)
      rw [hun] at this
      cases this
  · unfold apartS at h
    rw [key e h1, key x h2] at h
    simp at h
theorem fp_of {e : Ev} {b : Nat} (h : touches b e = true) (hn : e.noisy = true) (hl : e.H.length ≤ e.H'.length) : b ∈ (recOf e).fp := by
  unfold recOf
  rw [hn]
  unfold touches at h
  simp only [Bool.or_eq_true, Bool.and_eq_true] at h
  rcases h with h | ⟨h1, h2⟩
  · simp [memN_iff.1 h]
  · have := Nat.le_of_ble_eq_true h1
    have h3 : b + 1 ≤ e.H'.length := Nat.le_of_ble_eq_true h2
    simp only [List.mem_append]
    exact .inr (mem_upto.2 ⟨this, by omega⟩)
theorem gH_some {e : Ev} {b : Nat} (h : (gH b e).isSome = true) : e.noisy = true ∧ touches b e = true := by
  unfold gH at h
  cases hn : e.noisy <;> cases ht : touches b e <;> rw [hn, ht] at h <;> first | exact ⟨rfl, rfl⟩ | cases h
theorem clash_of {e x : Ev} {b : Nat} (hb : b ∈ (recOf e).fp) (hb' : b ∈ (recOf x).fp) (h : e.noisy = true ∨ x.noisy = true) : clash (recOf e) (recOf x) = true := by
  unfold clash
  have h1 : ∀ y : Ev, (recOf y).noisy = y.noisy := fun y => by unfold recOf; cases y.noisy <;> rfl
  rw [h1, h1, overlap_of hb hb']
  rcases h with h | h <;> simp [h]
/-- The memory that an operation that is ready touches is as it is in the text's order. -/
theorem ready_mem (hmap : evs.map (·.o) = all) (hrun : Run C all evs st.fr st.H stE.fr stE.H) (hB : edgesBack 0 all = true) (hlog : logOk (closFrom [] all) [] (evs.map recOf) = true) {S : Nat → Bool} (hS : Closed all S) {i : Nat} {e : Ev} (he : evs[i]? = some e) (hun : S i = false)
    (hr : ∀ x ∈ e.o.after.toList, Region.binds .any x = true → S x.on = true) {b : Nat} (hb : b ∈ (recOf e).fp) (d : Option Blk) : foldL (gH b) evs 0 S d = foldL (gH b) evs 0 (fun j => Nat.blt j i) d := by
  refine foldL_congr fun j x hj hg => ?_
  rw [Nat.zero_add]
  obtain ⟨hn, ht⟩ := gH_some hg
  have hbx := fp_of ht hn (hrun.lens hj).2.2
  have hai := all_of hmap he
  have haj := all_of hmap hj
  have hri : (evs.map recOf)[i]? = some (recOf e) := by rw [List.getElem?_map, he]; rfl
  have hrj : (evs.map recOf)[j]? = some (recOf x) := by rw [List.getElem?_map, hj]; rfl
  rcases Nat.lt_trichotomy j i with hlt | rfl | hgt
  · have hb' : Nat.blt j i = true := Nat.ble_eq_true_of_le hlt
    rw [hb']
    rcases logOk_spec hlog i _ hri j _ (by simpa using hlt) (by simpa using hrj) with h | h
    · exact clos_ready hS hB hai hr (by simpa using h)
    · rw [clash_of hbx hb (.inl hn)] at h
      cases h
  · have hb' : Nat.blt j j = false := by
      cases hb : Nat.blt j j with
      | false => rfl
      | true => exact absurd (Nat.le_of_ble_eq_true hb) (by omega)
    rw [hb', hun]
  · have hb' : Nat.blt j i = false := by
      cases hb : Nat.blt j i with
      | false => rfl
      | true => exact absurd (Nat.le_of_ble_eq_true hb) (by omega)
    rw [hb']
    rcases logOk_spec hlog j _ hrj i _ (by simpa using hgt) (by simpa using hri) with h | h
    · cases hs : S j with
      | false => rfl
      | true =>
        have := clos_in hS hB j i x.o haj hs (by simpa using h)
        rw [hun] at this
        cases this
    · rw [clash_of hb hbx (.inr hn)] at h
      cases h
theorem later_mem (hmap : evs.map (·.o) = all) (hrun : Run C all evs st.fr st.H stE.fr stE.H) (hB : edgesBack 0 all = true) (hlog : logOk (closFrom [] all) [] (evs.map recOf) = true) {S : Nat → Bool} (hS : Closed all S) {i : Nat} {e : Ev} (he : evs[i]? = some e) (hun : S i = false) {b : Nat}
    (j : Nat) (x : Ev) (hij : i < j) (hj : evs[j]? = some x) (h1 : (gH b e).isSome = true) (h2 : (gH b x).isSome = true) : S j = false := by
  obtain ⟨hn, ht⟩ := gH_some h1
  obtain ⟨hn', ht'⟩ := gH_some h2
  have hb := fp_of ht hn (hrun.lens he).2.2
  have hbx := fp_of ht' hn' (hrun.lens hj).2.2
  have hai := all_of hmap he
  have haj := all_of hmap hj
  have hri : (evs.map recOf)[i]? = some (recOf e) := by rw [List.getElem?_map, he]; rfl
  have hrj : (evs.map recOf)[j]? = some (recOf x) := by rw [List.getElem?_map, hj]; rfl
  rcases logOk_spec hlog j _ hrj i _ (by simpa using hij) (by simpa using hri) with h | h
  · cases hs : S j with
    | false => rfl
    | true =>
      have := clos_in hS hB j i x.o haj hs (by simpa using h)
      rw [hun] at this
      cases this
  · rw [clash_of hb hbx (.inl hn)] at h
    cases h
end
end Go.Proofs.Ytkfpmiggolmabaa.Sx
