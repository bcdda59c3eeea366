/- The abstract execution: a law's arguments, read as typed values. -/
import Derived.Test.YtkfpmiggolmabaaSxG
import Derived.Laws.Cover2
import Derived.ChangeSlices
import Derived.WideShapes
namespace Go.Proofs.Ytkfpmiggolmabaa.Sx
open Go Go.RowKit Go.ChangeShapes Go.WideShapes
set_option linter.unusedVariables false
set_option linter.unusedSimpArgs false
variable {P : Program} {w : World} {b0 : Nat}

def Cell' (P : Program) (w : World) (b0 : Nat) (t : TypeId) (v : Value) : Prop := Cell.okWide P w .any b0 t v
theorem cell_of {t : TypeId} {d : TypeDesc} {v : Value} (ht : P.underlying t = some d) (hd : isAggD d = false) (h : Value.okWide P w .any b0 t v) : Cell' P w b0 t v := by
  unfold Value.okWide at h
  rw [ht] at h
  cases d <;> first | exact h | (cases hd)
def flHas (k : FloatKind) (c : Nat) : Prop := c < (match k with | .f32 => 2 ^ 32 | .f64 => 2 ^ 64)
theorem nz_has {k : FloatKind} {b : Nat} (h : k.has b) : flHas k (nz k b) := by
  unfold nz
  cases isNaN k b with
  | false => cases k <;> exact h
  | true => cases k <;> (show _ < _; simp only [nanOf, cond_true]; decide)
theorem sc_fl {t : TypeId} {k : FloatKind} {v : Value} (ht : P.underlying t = some (.float k)) (h : Cell' P w b0 t v) : ∃ c, (∀ ρ, V.R ρ (.fl k c) v) ∧ flHas k c := by
  simp only [Cell', Cell.okWide, ht] at h
  cases v <;> simp [Cell.ok, ht] at h
  obtain ⟨rfl, h⟩ := h
  exact ⟨_, fun ρ => fl_R rfl, nz_has h⟩
theorem sc_it {t : TypeId} {k : IntKind} {v : Value} (ht : P.underlying t = some (.int k)) (h : Cell' P w b0 t v) : ∃ n, (∀ ρ, V.R ρ (.it k n) v) ∧ (k.min ≤ n ∧ n ≤ k.max) := by
  simp only [Cell', Cell.okWide, ht] at h
  cases v <;> simp [Cell.ok, ht] at h
  obtain ⟨rfl, h⟩ := h
  exact ⟨_, fun ρ => it_R rfl, h⟩
theorem sc_bo {t : TypeId} {v : Value} (ht : P.underlying t = some .bool) (h : Cell' P w b0 t v) : ∃ n, (∀ ρ, V.R ρ (.bo n) v) ∧ True := by
  simp only [Cell', Cell.okWide, ht] at h
  cases v <;> simp [Cell.ok, ht] at h
  exact ⟨_, fun ρ => bo_R rfl, trivial⟩
theorem sc_st {t : TypeId} {v : Value} (ht : P.underlying t = some .string) (h : Cell' P w b0 t v) : ∃ n, (∀ ρ, V.R ρ (.st n) v) ∧ (n.size : Int) ≤ IntKind.i64.max := by
  simp only [Cell', Cell.okWide, ht] at h
  cases v <;> simp [Cell.ok, ht] at h
  exact ⟨_, fun ρ => by simp only [V.R], h⟩
def CellsW (P : Program) (w : World) (b0 : Nat) : List TypeId → List Value → Prop
  | [], l => l = []
  | t :: ts, l => ∃ c r, l = c :: r ∧ Cell' P w b0 t c ∧ CellsW P w b0 ts r
theorem cellsW_of : ∀ {ts : List TypeId} {l : List Value}, l.length = ts.length → (∀ (i : Nat) (v : Value), l[i]? = some v → ∃ u, ts[i]? = some u ∧ Cell' P w b0 u v) → CellsW P w b0 ts l
  | [], l, h, _ => List.length_eq_zero_iff.1 h
  | t :: ts, [], h, _ => by simp at h
  | t :: ts, c :: r, h, hc => by
    refine ⟨c, r, rfl, ?_, cellsW_of (by simpa using h) fun i v hv => ?_⟩
    · obtain ⟨u, h1, h2⟩ := hc 0 c (by simp)
      simp at h1
      subst h1
      exact h2
    · obtain ⟨u, h1, h2⟩ := hc (i + 1) v (by simpa using hv)
      exact ⟨u, by simpa using h1, h2⟩
theorem open_row {t : TypeId} {d : TypeDesc} {ts : List TypeId} {v : Value} (ht : P.underlying t = some d) (hd : isAggD d = true) (hts : P.cellTypes P.depth t = some ts) (hn : Nat.beq (P.cellsOf t) ts.length = true) (h : Value.okWide P w .any b0 t v) :
    ∃ cs, v = .agg cs ∧ CellsW P w b0 ts cs.toList := by
  unfold Value.okWide at h
  rw [ht] at h
  have key : ∃ cs, v = .agg cs ∧ cs.size = P.cellsOf t ∧ Row.okWide P w .any b0 t cs := by cases d <;> first | exact h | (cases hd)
  obtain ⟨cs, rfl, hsz, ts', h1, _, h2⟩ := key
  rw [hts] at h1
  cases h1
  have hn' := beqN hn
  refine ⟨cs, rfl, cellsW_of (by simp [hsz, hn']) fun i v hv => ?_⟩
  obtain ⟨u, h3, h4⟩ := h2 i v (by simpa using hv)
  have hi : i < ts.length := by
    have := (List.getElem?_eq_some_iff.1 hv).1
    simp [hsz, hn'] at this
    exact this
  rw [Nat.mod_eq_of_lt hi] at h3
  exact ⟨u, h3, h4⟩
theorem Rs_nil' {ρ : Nat → Option Loc} : V.Rs ρ [] [] := by simp only [V.Rs]
theorem Rs_cons' {ρ : Nat → Option Loc} {x : V} {xs : List V} {y : Value} {ys : List Value} (h : V.R ρ x y) (hs : V.Rs ρ xs ys) : V.Rs ρ (x :: xs) (y :: ys) := by
  simp only [V.Rs]
  exact ⟨y, ys, rfl, h, hs⟩
theorem agg_R {ρ : Nat → Option Loc} {xs : List V} {cs : Array Value} (h : V.Rs ρ xs cs.toList) : V.R ρ (.agg xs) (.agg cs) := by
  simp only [V.R]
  exact ⟨cs, rfl, h⟩

/-! ### Slices of one-cell elements -/
/-- Where a slice's elements lie, and what they are. -/
def RowIn (w : World) (l : Loc) (c : Cells) : Prop := ∀ ρ, BlkR ρ l ⟨false, 0, 0, c⟩ w
theorem HpR.ofRo (l : List (Loc × Cells)) (h : ∀ p ∈ l, RowIn w p.1 p.2) : HpR (fun i => (lget l i).map (·.1)) (l.map fun p => some ⟨false, 0, 0, p.2⟩) w := by
  have hg : ∀ (l : List (Loc × Cells)) i, hget (l.map fun p => some (⟨false, 0, 0, p.2⟩ : Blk)) i = (lget l i).map fun p => ⟨false, 0, 0, p.2⟩ := by
    intro l
    induction l with
    | nil => intro i; rfl
    | cons p r ih =>
      intro i
      cases i with
      | zero => rfl
      | succ i => exact ih i
  refine ⟨?_, ?_, ?_⟩
  · intro i B hB
    rw [hg] at hB
    cases hl : lget l i with
    | none => rw [hl] at hB; cases hB
    | some p =>
      rw [hl] at hB
      cases hB
      refine ⟨p.1, by simp [hl], h p ?_ _⟩
      rw [lget_eq] at hl
      exact List.mem_of_getElem? hl
  · intro i j B D l1 m hB hD hij hwr
    rw [hg] at hB
    cases hl : lget l i with
    | none => rw [hl] at hB; cases hB
    | some p =>
      rw [hl] at hB
      cases hB
      cases hwr
  · intro i hi
    have : lget l i = none := by
      rw [lget_eq]
      simpa using hi
    simp [this]
/-- The numbers of a row of floats, NaN alike. -/
def flsOf (w : World) (k : FloatKind) (a : Addr) : Nat → Nat → List Nat
  | _, 0 => []
  | i, n + 1 => (match w.cell? (a.add i) with
    | some (.float _ b) => nz k b
    | _ => 0) :: flsOf w k a (i + 1) n
def intsOf (w : World) (a : Addr) : Nat → Nat → List Int
  | _, 0 => []
  | i, n + 1 => (match w.cell? (a.add i) with
    | some (.int _ b) => b
    | _ => 0) :: intsOf w a (i + 1) n
theorem flsOf_length (w : World) (k : FloatKind) (a : Addr) : ∀ n i, (flsOf w k a i n).length = n
  | 0, i => rfl
  | n + 1, i => by simp [flsOf, flsOf_length w k a n (i + 1)]
theorem intsOf_length (w : World) (a : Addr) : ∀ n i, (intsOf w a i n).length = n
  | 0, i => rfl
  | n + 1, i => by simp [intsOf, intsOf_length w a n (i + 1)]
theorem flsOf_get (w : World) (k : FloatKind) (a : Addr) : ∀ n i j, j < n → (flsOf w k a i n).getD j 0 = (match w.cell? (a.add (i + j)) with
    | some (.float _ b) => nz k b
    | _ => 0)
  | 0, i, j, h => by omega
  | n + 1, i, 0, h => by simp [flsOf]
  | n + 1, i, j + 1, h => by
    have := flsOf_get w k a n (i + 1) j (by omega)
    simp only [flsOf, List.getD_cons_succ, this]
    rw [show i + 1 + j = i + (j + 1) by omega]
theorem intsOf_get (w : World) (a : Addr) : ∀ n i j, j < n → (intsOf w a i n).getD j 0 = (match w.cell? (a.add (i + j)) with
    | some (.int _ b) => b
    | _ => 0)
  | 0, i, j, h => by omega
  | n + 1, i, 0, h => by simp [intsOf]
  | n + 1, i, j + 1, h => by
    have := intsOf_get w a n (i + 1) j (by omega)
    simp only [intsOf, List.getD_cons_succ, this]
    rw [show i + 1 + j = i + (j + 1) by omega]
/-- Some block of cells. -/
def Ground (w : World) : Prop := ∃ (b : Nat) (cs : Array Value) (e : TypeId) (fr : Nat × Nat), w.heap[b]? = some (Obj.cells cs e fr)
theorem ground_of (hz : (Nat.blt 0 P.globals.size && (((begin P (fun _ _ => 0) default).world.heap[0]?).bind Obj.row?).isSome) = true) {W : World} (h : W.ShapedOpen P) : Ground W := by
  rw [Bool.and_eq_true] at hz
  obtain ⟨h1, h2⟩ := hz
  obtain ⟨⟨zero, t⟩, h3⟩ := Option.isSome_iff_exists.1 h2
  obtain ⟨cs, h4, _⟩ := h.1 0 zero t (Nat.le_of_ble_eq_true h1) h3
  exact ⟨0, cs, t, _, h4⟩
theorem RowIn.none {c : Cells} (h : Ground w) (hc : c.len = 0) : ∃ l, RowIn w l c := by
  obtain ⟨b, cs, e, fr, h⟩ := h
  exact ⟨⟨b, 0, 0⟩, fun ρ => ⟨cs, e, fr, h, fun j hj => by (dsimp only at hj; omega), fun h => (by cases h), fun _ h => absurd rfl h⟩⟩
theorem sl_R {ρ : Nat → Option Loc} {id : Nat} {l : Loc} {a : Option Addr} {len cap : Nat} (hc : len ≤ cap) (h : len ≠ 0 → ρ id = some l ∧ a = some ⟨l.b, l.o, none⟩) : V.R ρ (.sl id 0 len) (.slice a len cap) := by
  simp only [V.R]
  exact ⟨a, cap, rfl, hc, fun hn => ⟨l, (h hn).1, by simpa using (h hn).2⟩⟩
section
variable {H : Type} {enc : TypeId × Value → H} {spare : Nat → Bool} {t e : TypeId}
theorem trod_flt {k : FloatKind} (ht : P.underlying t = some (.float k)) {fuel : Nat} {cs : List Value} {x : DataW H × List MemPlace} (h : DataW.trod enc P w 0 spare true fuel t cs = some x) : ∃ n, cs = [.float k n] ∧ (Lit.float k n).wf = true := by
  cases fuel with
  | zero => simp [DataW.trod] at h
  | succ n =>
    unfold DataW.trod at h
    rw [ht] at h
    split at h <;> simp_all
theorem slice_cells (ht : P.underlying t = some (.slice e)) (hc : P.cellsOf e = 1) {v : Value} {d : DataW H} {p : List MemPlace} (hval : Value.okWide P w .any b0 t v) (h : DataW.Trod enc P w 0 spare true t v d p) :
    ∃ a len cap, v = .slice a len cap ∧ len ≤ cap ∧ cap ≤ maxLen ∧ ∀ i, i < len → ∃ x u fuel y, a = some x ∧ w.cell? (x.add i) = some u ∧ DataW.trod enc P w 0 spare true fuel e [u] = some y := by
  obtain ⟨a, len, cap, rfl⟩ := okWide_slice ht hval
  obtain ⟨fuel, hf⟩ := h
  simp only [Value.cells] at hf
  rcases DataW.trod_slice ht hf with ⟨h1, _⟩ | ⟨x, len', cap', elems, rest, n, _, h1, _, _, hl, hm, hlen, hel, _⟩
  · simp at h1
    obtain ⟨rfl, rfl, rfl⟩ := h1
    exact ⟨_, 0, 0, rfl, Nat.le_refl _, Nat.zero_le _, fun i hi => absurd hi (Nat.not_lt_zero _)⟩
  · simp at h1
    obtain ⟨rfl, rfl, rfl⟩ := h1
    refine ⟨_, len, cap, rfl, hl, hm, fun i hi => ?_⟩
    have h2 := hel i hi
    rw [hc, Nat.mul_one, List.getElem?_eq_getElem (by omega), Option.bind_eq_some_iff] at h2
    obtain ⟨cs, h3, h4⟩ := h2
    have h5 : ∃ u, cs = [u] := by
      unfold World.cells? at h3
      split at h3
      · rw [show List.range 1 = [0] from rfl] at h3
        simp only [List.mapM_cons, List.mapM_nil] at h3
        cases hq : w.cell? ((x.add i).add 0) with
        | none => rw [hq] at h3; cases h3
        | some u => rw [hq] at h3; cases h3; exact ⟨u, rfl⟩
      · cases h3
    obtain ⟨u, rfl⟩ := h5
    exact ⟨x, u, n, _, rfl, cell_of_cells?_one h3, h4⟩
theorem cell_heap {x : Addr} {i : Nat} {u : Value} (hs : x.spot = none) (h : w.cell? (x.add i) = some u) : ∃ cs e fr, w.heap[x.block]? = some (.cells cs e fr) ∧ cs[x.off + i]? = some u := by
  have e : x.add i = ⟨x.block, x.off + i, none⟩ := by
    unfold Addr.add
    split
    · rename_i h0
      subst h0
      cases x
      simp at hs
      subst hs
      rfl
    · rfl
  rw [e] at h
  unfold World.cell? at h
  split at h
  · rename_i c t fr hh
    simp at h
    exact ⟨c, t, fr, hh, h⟩
  · cases h
theorem open_fls {k : FloatKind} (ht : P.underlying t = some (.slice e)) (he : P.underlying e = some (.float k)) (hc : P.cellsOf e = 1) (hG : Ground w) {v : Value} {d : DataW H} {p : List MemPlace} (hval : Value.okWide P w .any b0 t v) (h : DataW.Trod enc P w 0 spare true t v d p) :
    ∃ (l : Loc) (xs : List Nat), RowIn w l (.fs k xs) ∧ (∀ ρ id, ρ id = some l → V.R ρ (.sl id 0 xs.length) v) ∧ (∀ x ∈ xs, flHas k x) ∧ xs.length ≤ maxLen := by
  obtain ⟨a, len, cap, rfl, hl, hm, hcell⟩ := slice_cells ht hc hval h
  rcases Nat.eq_zero_or_pos len with rfl | hpos
  · obtain ⟨l, hl'⟩ := RowIn.none (c := .fs k []) hG rfl
    exact ⟨l, [], hl', fun ρ id hρ => sl_R (l := l) (Nat.zero_le _) (fun h => absurd rfl h), by simp, Nat.zero_le _⟩
  · obtain ⟨x, u0, _, _, rfl, hu0, _⟩ := hcell 0 hpos
    have hs : x.spot = none := World.cell?_spot (by simpa [Addr.add] using hu0)
    have each : ∀ i, i < len → ∃ b, w.cell? (x.add i) = some (.float k b) ∧ k.has b := by
      intro i hi
      obtain ⟨x', u, fuel, y, hx, hu, hy⟩ := hcell i hi
      cases hx
      obtain ⟨b, hb, hw⟩ := trod_flt he hy
      cases hb
      exact ⟨b, hu, by cases k <;> simpa [Lit.wf, FloatKind.has] using hw⟩
    refine ⟨⟨x.block, x.off, 0⟩, flsOf w k x 0 len, ?_, ?_, ?_, ?_⟩
    · obtain ⟨b, hb, _⟩ := each 0 hpos
      obtain ⟨cs, e', fr, hh, _⟩ := cell_heap hs hb
      refine fun ρ => ⟨cs, e', fr, hh, fun j hj => ?_, fun h => (by cases h), fun _ h => absurd rfl h⟩
      have hj' : j < len := by simpa [Cells.len, flsOf_length] using hj
      obtain ⟨b, hb, hk⟩ := each j hj'
      obtain ⟨cs', e'', fr', hh', hj2⟩ := cell_heap hs hb
      rw [hh] at hh'
      cases hh'
      refine ⟨_, hj2, rfl, ?_⟩
      have e3 : (Cells.fs k (flsOf w k x 0 len)).at j = .fl k (nz k b) := by
        show V.fl k _ = _
        rw [flsOf_get w k x len 0 j hj', Nat.zero_add, hb]
      show V.R ρ ((Cells.fs k (flsOf w k x 0 len)).at j) _
      rw [e3]
      exact fl_R rfl
    · intro ρ id hρ
      rw [flsOf_length]
      refine sl_R (l := ⟨x.block, x.off, 0⟩) hl fun _ => ⟨hρ, ?_⟩
      cases x
      simp at hs
      subst hs
      rfl
    · intro y hy
      obtain ⟨j, hj⟩ := List.getElem?_of_mem hy
      have hj' : j < len := by
        have := (List.getElem?_eq_some_iff.1 hj).1
        simpa [flsOf_length] using this
      obtain ⟨b, hb, hk⟩ := each j hj'
      have := flsOf_get w k x len 0 j hj'
      rw [Nat.zero_add, hb, List.getD_eq_getElem?_getD, hj] at this
      simp at this
      subst this
      exact nz_has hk
    · rw [flsOf_length]
      omega
theorem open_its {k : IntKind} (ht : P.underlying t = some (.slice e)) (he : P.underlying e = some (.int k)) (hc : P.cellsOf e = 1) (hG : Ground w) {v : Value} {d : DataW H} {p : List MemPlace} (hval : Value.okWide P w .any b0 t v) (h : DataW.Trod enc P w 0 spare true t v d p) :
    ∃ (l : Loc) (xs : List Int), RowIn w l (.is k xs) ∧ (∀ ρ id, ρ id = some l → V.R ρ (.sl id 0 xs.length) v) ∧ (∀ x ∈ xs, k.min ≤ x ∧ x ≤ k.max) ∧ xs.length ≤ maxLen := by
  obtain ⟨a, len, cap, rfl, hl, hm, hcell⟩ := slice_cells ht hc hval h
  rcases Nat.eq_zero_or_pos len with rfl | hpos
  · obtain ⟨l, hl'⟩ := RowIn.none (c := .is k []) hG rfl
    exact ⟨l, [], hl', fun ρ id hρ => sl_R (l := l) (Nat.zero_le _) (fun h => absurd rfl h), by simp, Nat.zero_le _⟩
  · obtain ⟨x, u0, _, _, rfl, hu0, _⟩ := hcell 0 hpos
    have hs : x.spot = none := World.cell?_spot (by simpa [Addr.add] using hu0)
    have each : ∀ i, i < len → ∃ b, w.cell? (x.add i) = some (.int k b) ∧ (k.min ≤ b ∧ b ≤ k.max) := by
      intro i hi
      obtain ⟨x', u, fuel, y, hx, hu, hy⟩ := hcell i hi
      cases hx
      obtain ⟨b, hb, _, hw⟩ := DataW.trod_int he hy
      cases hb
      exact ⟨b, hu, by simpa [Lit.wf] using hw⟩
    refine ⟨⟨x.block, x.off, 0⟩, intsOf w x 0 len, ?_, ?_, ?_, ?_⟩
    · obtain ⟨b, hb, _⟩ := each 0 hpos
      obtain ⟨cs, e', fr, hh, _⟩ := cell_heap hs hb
      refine fun ρ => ⟨cs, e', fr, hh, fun j hj => ?_, fun h => (by cases h), fun _ h => absurd rfl h⟩
      have hj' : j < len := by simpa [Cells.len, intsOf_length] using hj
      obtain ⟨b, hb, hk⟩ := each j hj'
      obtain ⟨cs', e'', fr', hh', hj2⟩ := cell_heap hs hb
      rw [hh] at hh'
      cases hh'
      refine ⟨_, hj2, rfl, ?_⟩
      have e3 : (Cells.is k (intsOf w x 0 len)).at j = .it k b := by
        show V.it k _ = _
        rw [intsOf_get w x len 0 j hj', Nat.zero_add, hb]
      show V.R ρ ((Cells.is k (intsOf w x 0 len)).at j) _
      rw [e3]
      exact it_R rfl
    · intro ρ id hρ
      rw [intsOf_length]
      refine sl_R (l := ⟨x.block, x.off, 0⟩) hl fun _ => ⟨hρ, ?_⟩
      cases x
      simp at hs
      subst hs
      rfl
    · intro y hy
      obtain ⟨j, hj⟩ := List.getElem?_of_mem hy
      have hj' : j < len := by
        have := (List.getElem?_eq_some_iff.1 hj).1
        simpa [intsOf_length] using this
      obtain ⟨b, hb, hk⟩ := each j hj'
      have := intsOf_get w x len 0 j hj'
      rw [Nat.zero_add, hb, List.getD_eq_getElem?_getD, hj] at this
      simp at this
      subst this
      exact hk
    · rw [intsOf_length]
      omega
end
/-- No block of it may be written. -/
def roH : Hp → Bool
  | [] => true
  | some B :: r => !B.wr && roH r
  | none :: r => roH r
theorem roH_ok : ∀ {H : Hp}, roH H = true → ∀ i B, hget H i = some B → B.wr = false
  | [], _, i, B, hB => by cases hB
  | none :: r, h, 0, B, hB => by cases hB
  | none :: r, h, i + 1, B, hB => roH_ok (H := r) h i B hB
  | some D :: r, h, 0, B, hB => by
    cases hB
    simp only [roH, Bool.and_eq_true] at h
    simpa using h.1
  | some D :: r, h, i + 1, B, hB => by
    simp only [roH, Bool.and_eq_true] at h
    exact roH_ok (H := r) h.2 i B hB
theorem law_cd {α : Type} (cd : Cd α (List V × Hp)) {tree : α → T Bool} {encR : α → Bool → V} {f : FuncId} {fn : Func} {body : Code} {C : Ctx} (hC : CtxOK P C) (hf : P.funcs[f]? = some fn) (hb : fn.body = some body) (hn : fn.ntmps = C.n) (hl : LpOK P C body)
    (hlen : ∀ a, (Nat.beq (cd.enc a).2.length C.k && Nat.ble (cd.enc a).1.length C.n) = true)
    (hrun : ∀ a, runF C fn.results.toList body (cd.enc a).1 (cd.enc a).2 = (tree a).map fun r => (encR a r, (cd.enc a).2)) (henc : ∀ a, encR a true = .bo true) (a : α) (hro : roH (cd.enc a).2 = true)
    (h : (tree a).get = some true) {ρ : Nat → Option Loc} {w : World} {vs : List Value} (hargs : V.Rs ρ (cd.enc a).1 vs) (hh : HpR ρ (cd.enc a).2 w) :
    Calls P f vs.toArray w fun e w' => e = .returned (.bool true) ∧ Below w.heap.size w w' := by
  have hq := hlen a
  rw [Bool.and_eq_true] at hq
  refine law_walk hC hf hb hn hl (beqN hq.1) (Nat.le_of_ble_eq_true hq.2) (H' := (cd.enc a).2) ?_ (roH_ok hro) hargs hh
  rw [hrun, T.get_map, h, Option.map_some, henc]
end Go.Proofs.Ytkfpmiggolmabaa.Sx
