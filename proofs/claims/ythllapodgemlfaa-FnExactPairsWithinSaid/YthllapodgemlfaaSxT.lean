/- The abstract execution: a law's argument that is a slice of structs of floats. -/
import Derived.Test.YthllapodgemlfaaSxH
import Derived.ChangeArms
import Derived.DataElems
namespace Go.Proofs.Ythllapodgemlfaa.Sx
open Go Go.RowKit Go.ChangeShapes Go.WideShapes
set_option linter.unusedVariables false
set_option linter.unusedSimpArgs false
variable {P : Program} {w : World} {b0 : Nat}
variable {H : Type} {enc : TypeId × Value → H} {spare : Nat → Bool} {t e : TypeId}
/-- What lies in one of two forms. -/
def Cd.sum {α β τ : Type} (c : Cd α τ) (d : Cd β τ) : Cd (α ⊕ β) τ where
  dec v := match c.dec v with
    | some a => some (.inl a)
    | none => match d.dec v with
      | some b => some (.inr b)
      | none => none
  enc
    | .inl a => c.enc a
    | .inr b => d.enc b
  ok v x hx := by
    split at hx
    · rename_i a ha
      cases hx
      exact c.ok v a ha
    · split at hx
      · rename_i b hb
        cases hx
        exact d.ok v b hb
      · cases hx
theorem slice_cellsN (ht : P.underlying t = some (.slice e)) {v : Value} {d : DataW H} {p : List MemPlace} (hval : Value.okWide P w .any b0 t v) (h : DataW.Trod enc P w 0 spare true t v d p) :
    ∃ a len cap, v = .slice a len cap ∧ len ≤ cap ∧ cap ≤ maxLen ∧ ∀ i, i < len → ∃ x cs fuel y, a = some x ∧ cs.length = P.cellsOf e ∧ (∀ j, j < P.cellsOf e → w.cell? (x.add (i * P.cellsOf e + j)) = cs[j]?) ∧ DataW.trod enc P w 0 spare true fuel e cs = some y := by
  obtain ⟨a, len, cap, rfl⟩ := okWide_slice ht hval
  obtain ⟨fuel, hf⟩ := h
  simp only [Value.cells] at hf
  rcases DataW.trod_slice ht hf with ⟨h1, _⟩ | ⟨x, len', cap', elems, rest, n, _, h1, _, _, hl, hm, hlen, hel, _⟩
  · simp at h1
    obtain ⟨rfl, rfl, rfl⟩ := h1
    exact ⟨_, 0, 0, rfl, Nat.le_refl _, Nat.zero_le _, fun i hi => absurd hi (Nat.not_lt_zero _)⟩
  · simp at h1
    obtain ⟨rfl, rfl, rfl⟩ := h1
    refine ⟨_, len, cap, rfl, hl, hm, fun i hi => ?_⟩
    have h2 := hel i hi
    rw [List.getElem?_eq_getElem (by omega), Option.bind_eq_some_iff] at h2
    obtain ⟨cs, h3, h4⟩ := h2
    obtain ⟨_, h5, h6⟩ := World.cells?_some h3
    exact ⟨x, cs, n, _, rfl, h5, fun j hj => by rw [← h6 j hj, Go.Addr.add_add], h4⟩
/-- The first fields are floats of one cell each, one behind the other. -/
def flFields (P : Program) (k : FloatKind) (fs : Array Field) (m : Nat) : Bool :=
  (List.range m).all fun j => match fs[j]? with
    | some f => Nat.beq f.offset j && Nat.beq (P.cellsOf f.type) 1 && (match P.underlying f.type, k with
      | some (.float .f32), .f32 => true
      | some (.float .f64), .f64 => true
      | _, _ => false)
    | none => false
theorem flFields_ok {k : FloatKind} {fs : Array Field} {m : Nat} (h : flFields P k fs m = true) {j : Nat} (hj : j < m) :
    ∃ f, fs[j]? = some f ∧ f.offset = j ∧ P.cellsOf f.type = 1 ∧ P.underlying f.type = some (.float k) := by
  unfold flFields at h
  rw [List.all_eq_true] at h
  have h1 := h j (by simpa using hj)
  cases hf : fs[j]? with
  | none => rw [hf] at h1; cases h1
  | some f =>
    rw [hf] at h1
    simp only [Bool.and_eq_true] at h1
    obtain ⟨⟨h2, h3⟩, h4⟩ := h1
    refine ⟨f, rfl, Nat.eq_of_beq_eq_true h2, Nat.eq_of_beq_eq_true h3, ?_⟩
    split at h4
    · rename_i hu; exact hu
    · rename_i hu; exact hu
    · cases h4
theorem open_flm {k : FloatKind} {fs : Array Field} {m : Nat} (ht : P.underlying t = some (.slice e)) (he : P.underlying e = some (.struct fs)) (hc : P.cellsOf e = m) (hm0 : 0 < m) (hf : flFields P k fs m = true) (hG : Ground w) {v : Value} {d : DataW H} {p : List MemPlace} (hval : Value.okWide P w .any b0 t v) (h : DataW.Trod enc P w 0 spare true t v d p) :
    ∃ (l : Loc) (n : Nat) (xs : List Nat), xs.length = n * m ∧ RowIn w l (.fs k xs) ∧ (∀ ρ id, ρ id = some l → V.R ρ (.sl id 0 n) v) ∧ (∀ x ∈ xs, flHas k x) ∧ n ≤ maxLen := by
  obtain ⟨a, len, cap, rfl, hl, hm, hcell⟩ := slice_cellsN ht hval h
  rcases Nat.eq_zero_or_pos len with rfl | hpos
  · obtain ⟨l, hl'⟩ := RowIn.none (c := .fs k []) hG rfl
    exact ⟨l, 0, [], by simp, hl', fun ρ id hρ => sl_R (l := l) (Nat.zero_le _) (fun h => absurd rfl h), by simp, Nat.zero_le _⟩
  · have each : ∀ i, i < len * m → ∃ x b, a = some x ∧ w.cell? (x.add i) = some (.float k b) ∧ k.has b := by
      intro i hi
      have hi1 : i / m < len := Nat.div_lt_of_lt_mul (by rw [Nat.mul_comm]; exact hi)
      have hj : i % m < m := Nat.mod_lt _ hm0
      obtain ⟨x, cs, fuel, y, hx, hcl, hcs, hy⟩ := hcell (i / m) hi1
      obtain ⟨xs, n, rfl, rfl, _, hxl, hfl⟩ := DataW.trod_struct he hy
      obtain ⟨f, hf1, hf2, hf3, hf4⟩ := flFields_ok hf hj
      have h1 := hfl _ f hf1
      have hlt : i % m < xs.length := by rw [hxl]; exact (Array.getElem?_eq_some_iff.1 hf1).1
      rw [hf2, hf3, List.getElem?_eq_getElem hlt] at h1
      obtain ⟨b, hb, hw⟩ := trod_flt hf4 h1
      have h2 := hcs (i % m) (by rw [hc]; exact hj)
      have h3 : cs[i % m]? = some (.float k b) := by
        have : ((cs.drop (i % m)).take 1)[0]? = some (.float k b) := by rw [hb]; rfl
        simpa [List.getElem?_take, List.getElem?_drop] using this
      have e1 : i / m * P.cellsOf e + i % m = i := by rw [hc, Nat.mul_comm]; exact Nat.div_add_mod i m
      rw [e1, h3] at h2
      exact ⟨x, b, hx, h2, by cases k <;> simpa [Lit.wf, FloatKind.has] using hw⟩
    have hp : 0 < len * m := Nat.mul_pos hpos hm0
    obtain ⟨x, b0', rfl, hu0, _⟩ := each 0 hp
    have hs : x.spot = none := World.cell?_spot (by simpa [Addr.add] using hu0)
    have each : ∀ i, i < len * m → ∃ b, w.cell? (x.add i) = some (.float k b) ∧ k.has b := by
      intro i hi
      obtain ⟨x', b, hx, h⟩ := each i hi
      cases hx
      exact ⟨b, h⟩
    refine ⟨⟨x.block, x.off, 0⟩, len, flsOf w k x 0 (len * m), flsOf_length _ _ _ _ _, ?_, ?_, ?_, ?_⟩
    · obtain ⟨b, hb, _⟩ := each 0 hp
      obtain ⟨cs, e', fr, hh, _⟩ := cell_heap hs hb
      refine fun ρ => ⟨cs, e', fr, hh, fun j hj => ?_, fun h => by cases h⟩
      have hj' : j < len * m := by simpa [Cells.len, flsOf_length] using hj
      obtain ⟨b, hb, hk⟩ := each j hj'
      obtain ⟨cs', e'', fr', hh', hj2⟩ := cell_heap hs hb
      rw [hh] at hh'
      cases hh'
      refine ⟨_, hj2, rfl, ?_⟩
      have e3 : (Cells.fs k (flsOf w k x 0 (len * m))).at j = .fl k (nz k b) := by
        show V.fl k _ = _
        rw [flsOf_get w k x (len * m) 0 j hj', Nat.zero_add, hb]
      show V.R ρ ((Cells.fs k (flsOf w k x 0 (len * m))).at j) _
      rw [e3]
      exact fl_R rfl
    · intro ρ id hρ
      refine sl_R (l := ⟨x.block, x.off, 0⟩) hl fun _ => ⟨hρ, ?_⟩
      cases x
      simp at hs
      subst hs
      rfl
    · intro y hy
      obtain ⟨j, hj⟩ := List.getElem?_of_mem hy
      have hj' : j < len * m := by
        have := (List.getElem?_eq_some_iff.1 hj).1
        simpa [flsOf_length] using this
      obtain ⟨b, hb, hk⟩ := each j hj'
      have := flsOf_get w k x (len * m) 0 j hj'
      rw [Nat.zero_add, hb, List.getD_eq_getElem?_getD, hj] at this
      simp at this
      subst this
      exact nz_has hk
    · omega
end Go.Proofs.Ythllapodgemlfaa.Sx
