/- The abstract execution is sound: operations that make or change memory. -/
import Derived.Test.YtkfpmiggolmabaaSx7
import Derived.Great.BuildSlice
import Derived.Laws.BytesString
namespace Go.Proofs.Ytkfpmiggolmabaa.Sx
open Go Go.RowKit
set_option linter.unusedVariables false
set_option linter.unusedSimpArgs false
variable {P : Program}

/-- Cells of one form mean what a list of values means. -/
def Reads (ρ : Nat → Option Loc) (c : Cells) (l : List Value) : Prop := c.len = l.length ∧ ∀ j, j < c.len → ∃ v, l[j]? = some v ∧ V.R ρ (c.at j) v
theorem Reads.vs {ρ : Nat → Option Loc} {xs : List V} {l : List Value} (h : V.Rs ρ xs l) : Reads ρ (.vs xs) l :=
  ⟨V.Rs_length h, fun j hj => V.Rs_get h j hj⟩
theorem rowFs_sound {ρ : Nat → Option Loc} {k : FloatKind} : ∀ {xs : List V} {ys : List Nat} {l : List Value}, rowFs k xs = some ys → V.Rs ρ xs l → Reads ρ (.fs k ys) l
  | [], ys, l, h, hr => by
    cases h
    simp only [V.Rs] at hr
    subst hr
    exact ⟨rfl, fun j hj => by simp [Cells.len] at hj⟩
  | x :: r, ys, l, h, hr => by
    simp only [V.Rs] at hr
    obtain ⟨y, l', rfl, h1, h2⟩ := hr
    cases x <;> simp only [rowFs, reduceCtorEq] at h
    rename_i k' c
    split at h
    · rename_i ys' hk hys
      cases h
      have := fkEq_eq hk
      subst this
      obtain ⟨h3, h4⟩ := rowFs_sound hys h2
      refine ⟨by simp only [Cells.len] at h3 ⊢; simp [h3], fun j hj => ?_⟩
      cases j with
      | zero => exact ⟨y, rfl, by simpa [Cells.at] using h1⟩
      | succ j =>
        obtain ⟨v, h5, h6⟩ := h4 j (by simpa [Cells.len] using hj)
        exact ⟨v, by simpa using h5, by simpa [Cells.at] using h6⟩
    · cases h
theorem rowIs_sound {ρ : Nat → Option Loc} {k : IntKind} : ∀ {xs : List V} {ys : List Int} {l : List Value}, rowIs k xs = some ys → V.Rs ρ xs l → Reads ρ (.is k ys) l
  | [], ys, l, h, hr => by
    cases h
    simp only [V.Rs] at hr
    subst hr
    exact ⟨rfl, fun j hj => by simp [Cells.len] at hj⟩
  | x :: r, ys, l, h, hr => by
    simp only [V.Rs] at hr
    obtain ⟨y, l', rfl, h1, h2⟩ := hr
    cases x <;> simp only [rowIs, reduceCtorEq] at h
    rename_i k' c
    split at h
    · rename_i ys' hk hys
      cases h
      have := ikEq_eq hk
      subst this
      obtain ⟨h3, h4⟩ := rowIs_sound hys h2
      refine ⟨by simp only [Cells.len] at h3 ⊢; simp [h3], fun j hj => ?_⟩
      cases j with
      | zero => exact ⟨y, rfl, by simpa [Cells.at] using h1⟩
      | succ j =>
        obtain ⟨v, h5, h6⟩ := h4 j (by simpa [Cells.len] using hj)
        exact ⟨v, by simpa using h5, by simpa [Cells.at] using h6⟩
    · cases h
theorem rowBs_sound {ρ : Nat → Option Loc} : ∀ {xs : List V} {ys : List Bool} {l : List Value}, rowBs xs = some ys → V.Rs ρ xs l → Reads ρ (.bs ys) l
  | [], ys, l, h, hr => by
    cases h
    simp only [V.Rs] at hr
    subst hr
    exact ⟨rfl, fun j hj => by simp [Cells.len] at hj⟩
  | x :: r, ys, l, h, hr => by
    simp only [V.Rs] at hr
    obtain ⟨y, l', rfl, h1, h2⟩ := hr
    have step : ∀ (b : Bool) (ys' : List Bool), ys = b :: ys' → y = .bool b → rowBs r = some ys' → Reads ρ (.bs ys) (y :: l') := by
      rintro b ys' rfl hy hys
      obtain ⟨h3, h4⟩ := rowBs_sound hys h2
      refine ⟨by simp only [Cells.len] at h3 ⊢; simp [h3], fun j hj => ?_⟩
      cases j with
      | zero => exact ⟨y, rfl, by simp [Cells.at, V.R, hy]⟩
      | succ j =>
        obtain ⟨v, h5, h6⟩ := h4 j (by simpa [Cells.len] using hj)
        exact ⟨v, by simpa using h5, by simpa [Cells.at] using h6⟩
    cases x <;> simp only [rowBs, reduceCtorEq, Option.map_eq_some_iff] at h
    · obtain ⟨ys', h3, h4⟩ := h
      simp only [V.R] at h1
      exact step _ ys' h4.symm h1 h3
    · obtain ⟨ys', h3, h4⟩ := h
      simp only [V.R] at h1
      exact step _ ys' h4.symm h1 h3
theorem rowSs_sound {ρ : Nat → Option Loc} : ∀ {xs : List V} {ys : List ByteArray} {l : List Value}, rowSs xs = some ys → V.Rs ρ xs l → Reads ρ (.ss ys) l
  | [], ys, l, h, hr => by
    cases h
    simp only [V.Rs] at hr
    subst hr
    exact ⟨rfl, fun j hj => by simp [Cells.len] at hj⟩
  | x :: r, ys, l, h, hr => by
    simp only [V.Rs] at hr
    obtain ⟨y, l', rfl, h1, h2⟩ := hr
    cases x <;> simp only [rowSs, reduceCtorEq, Option.map_eq_some_iff] at h
    obtain ⟨ys', h3, rfl⟩ := h
    obtain ⟨h5, h6⟩ := rowSs_sound h3 h2
    refine ⟨by simp only [Cells.len] at h5 ⊢; simp [h5], fun j hj => ?_⟩
    cases j with
    | zero => exact ⟨y, rfl, by simpa [Cells.at] using h1⟩
    | succ j =>
      obtain ⟨v, h7, h8⟩ := h6 j (by simpa [Cells.len] using hj)
      exact ⟨v, by simpa using h7, by simpa [Cells.at] using h8⟩
theorem SK.of_sound {ρ : Nat → Option Loc} {k : SK} {v : V} {x : Sc} {u : Value} (h : k.of v = some x) (hr : V.R ρ v u) : V.R ρ (k.val x) u := by
  unfold SK.of at h
  split at h
  · rename_i k k' c
    cases hk : fkEq k k' with
    | false => rw [hk] at h; cases h
    | true =>
      rw [hk] at h
      cases h
      have := fkEq_eq hk
      subst this
      exact hr
  · rename_i k k' c
    cases hk : ikEq k k' with
    | false => rw [hk] at h; cases h
    | true =>
      rw [hk] at h
      cases h
      have := ikEq_eq hk
      subst this
      exact hr
  · cases h; exact hr
  · cases h
    simp only [V.R] at hr
    simp only [SK.val, Sc.boo, V.R]
    exact hr
  · cases h; exact hr
  · cases h
/-- What a column of one row stands for. -/
def colOf (ks : List SK) (x : List Sc) (col : Nat) : V :=
  match lget ks col with
  | some k => k.val (List.getD x col (.n 0))
  | none => .unk
theorem scsOf_sound {ρ : Nat → Option Loc} : ∀ {ks : List SK} {xs r : List V} {x : List Sc} {l : List Value}, scsOf ks xs = some (x, r) → V.Rs ρ xs l →
    ∃ l1 l2, l = l1 ++ l2 ∧ l1.length = ks.length ∧ V.Rs ρ r l2 ∧ ∀ col, col < ks.length → ∃ v, l1[col]? = some v ∧ V.R ρ (colOf ks x col) v
  | [], xs, r, x, l, h, hr => by
    simp only [scsOf] at h
    cases h
    exact ⟨[], l, rfl, rfl, hr, fun col hc => by simp at hc⟩
  | k :: ks, [], r, x, l, h, hr => by simp only [scsOf] at h; cases h
  | k :: ks, v :: xs, r, x, l, h, hr => by
    simp only [scsOf] at h
    split at h
    · rename_i y ys l' h1 h2
      cases h
      simp only [V.Rs] at hr
      obtain ⟨u, us, rfl, h3, h4⟩ := hr
      obtain ⟨l1, l2, rfl, h5, h6, h7⟩ := scsOf_sound h2 h4
      refine ⟨u :: l1, l2, rfl, by simp [h5], h6, fun col hc => ?_⟩
      cases col with
      | zero => exact ⟨u, rfl, SK.of_sound h1 h3⟩
      | succ col =>
        obtain ⟨w, h8, h9⟩ := h7 col (by simpa using hc)
        exact ⟨w, by simpa using h8, h9⟩
    · cases h
theorem rowMx_sound {ρ : Nat → Option Loc} {ks : List SK} (hk : 0 < ks.length) : ∀ {n : Nat} {xs : List V} {rows : List (List Sc)} {l : List Value}, rowMx ks n xs = some rows → V.Rs ρ xs l → Reads ρ (.mx ks rows) l
  | n, [], rows, l, h, hr => by
    have : rows = [] := by cases n <;> (simp only [rowMx] at h; cases h; rfl)
    subst this
    simp only [V.Rs] at hr
    subst hr
    exact ⟨by simp [Cells.len], fun j hj => by simp [Cells.len] at hj⟩
  | 0, x :: xs, rows, l, h, hr => by simp only [rowMx] at h; cases h
  | n + 1, x :: xs, rows, l, h, hr => by
    simp only [rowMx] at h
    split at h
    · rename_i y r h1
      split at h
      · rename_i rows' h2
        cases h
        obtain ⟨l1, l2, rfl, h5, h6, h7⟩ := scsOf_sound h1 hr
        obtain ⟨h8, h9⟩ := rowMx_sound hk h2 h6
        simp only [Cells.len] at h8 h9
        refine ⟨by simp only [Cells.len, List.length_cons, List.length_append, Nat.add_mul, Nat.one_mul, h8, h5]; omega, fun j hj => ?_⟩
        simp only [Cells.len, List.length_cons, Nat.add_mul, Nat.one_mul] at hj
        simp only [Cells.at]
        rcases Nat.lt_or_ge j ks.length with hlt | hge
        · rw [Nat.div_eq_of_lt hlt, Nat.mod_eq_of_lt hlt]
          obtain ⟨v, p1, p2⟩ := h7 j hlt
          exact ⟨v, by rw [List.getElem?_append_left (by omega)]; exact p1, p2⟩
        · obtain ⟨i, rfl⟩ : ∃ i, j = i + ks.length := ⟨j - ks.length, by omega⟩
          rw [Nat.add_div_right _ hk, Nat.add_mod_right]
          obtain ⟨v, p1, p2⟩ := h9 i (by omega)
          refine ⟨v, ?_, p2⟩
          rw [List.getElem?_append_right (by omega), h5, Nat.add_sub_cancel]
          exact p1
      · cases h
    · cases h
theorem mixK_pos {zero : List V} {ks : List SK} (h : mixK zero = some ks) : 0 < ks.length := by
  unfold mixK at h
  split at h
  · split at h
    · cases h
    · cases h; simp
  · cases h
theorem rowOf_sound {ρ : Nat → Option Loc} {zero xs : List V} {c : Cells} {l : List Value} (h : rowOf zero xs = some c) (hr : V.Rs ρ xs l) : Reads ρ c l := by
  unfold rowOf at h
  split at h
  · rename_i ks hks
    obtain ⟨ys, h1, rfl⟩ := Option.map_eq_some_iff.1 h
    exact rowMx_sound (mixK_pos hks) h1 hr
  split at h
  · split at h
    · obtain ⟨ys, h1, rfl⟩ := Option.map_eq_some_iff.1 h
      exact rowFs_sound h1 hr
    · cases h; exact Reads.vs hr
  · split at h
    · obtain ⟨ys, h1, rfl⟩ := Option.map_eq_some_iff.1 h
      exact rowIs_sound h1 hr
    · cases h; exact Reads.vs hr
  · obtain ⟨ys, h1, rfl⟩ := Option.map_eq_some_iff.1 h
    exact rowBs_sound h1 hr
  · obtain ⟨ys, h1, rfl⟩ := Option.map_eq_some_iff.1 h
    exact rowSs_sound h1 hr
  · cases h; exact Reads.vs hr
theorem Reads.mono {ρ ρ' : Nat → Option Loc} (h : ∀ i l, ρ i = some l → ρ' i = some l) {c : Cells} {l : List Value} (hr : Reads ρ c l) : Reads ρ' c l :=
  ⟨hr.1, fun j hj => let ⟨v, a, b⟩ := hr.2 j hj; ⟨v, a, V.R_mono h _ _ b⟩⟩
/-- A block whose first cells read so. -/
theorem blk_of_reads {ρ : Nat → Option Loc} {e : TypeId} {sz cap g : Nat} {c : Cells} {cs : Array Value} {w : World} (hg : w.heap[g]? = some (.cells cs e (0, 0))) (hr : Reads ρ c (cs.toList.take c.len))
    (h1 : ∀ u ∈ cs.toList.take c.len, u.oneCell' = true) (hs : cs.size = cap * sz) (hc : cap ≤ maxLen) : BlkR ρ ⟨g, 0, cap⟩ (newB e sz c) w := by
  refine ⟨cs, e, (0, 0), hg, fun j hj => ?_, fun _ => ⟨rfl, rfl, rfl, hs, hc⟩, fun h => by cases h⟩
  obtain ⟨v, h2, h3⟩ := hr.2 j hj
  have hm := List.mem_of_getElem? h2
  rw [List.getElem?_take] at h2
  split at h2
  · exact ⟨v, by simpa using h2, h1 v hm, h3⟩
  · cases h2
/-- A new block with these cells. -/
theorem Left.alloc {ρ : Nat → Option Loc} {H : Hp} {w : World} (hh : HpR ρ H w) {e : TypeId} {sz cap : Nat} {c : Cells} {cs : Array Value} {w1 : World} (hw1 : Gr w w1) (hsz : w1.heap.size = w.heap.size) (hr : Reads ρ c (cs.toList.take c.len))
    (h1 : ∀ u ∈ cs.toList.take c.len, u.oneCell' = true) (hs : cs.size = cap * sz) (hc : cap ≤ maxLen) :
    Left ρ H w (upd ρ H.length ⟨w.heap.size, 0, cap⟩) (H ++ [some (newB e sz c)]) (w1.alloc (.cells cs e)) := by
  refine Left.new hh ?_ (blk_of_reads (cs := cs) ?_ (hr.mono (upd_mono hh _)) h1 hs hc) (Nat.le_refl _)
  · refine ⟨hw1.os, hw1.tape, hw1.output, by simp [hsz], fun b hb hn => ?_⟩
    rw [heap_alloc_old w1 _ b (by omega)]
    exact hw1.old b hb hn
  · have := heap_alloc_new w1 (.cells cs e)
    rw [hsz] at this
    exact this
theorem upd_at (ρ : Nat → Option Loc) (n : Nat) (l : Loc) : upd ρ n l n = some l := by unfold upd; rw [if_pos rfl]
theorem maxLen_one : 1 ≤ maxLen := by unfold maxLen; omega
theorem varRow_sound {ρ : Nat → Option Loc} {d : Option TI} {xs : List V} {l : List Value} (hr : V.Rs ρ xs l) : Reads ρ (varRow d xs) l := by
  unfold varRow
  split
  · split
    · split
      · split
        · rename_i h; exact rowIs_sound h hr
        · exact Reads.vs hr
      · split
        · rename_i h; exact rowFs_sound h hr
        · exact Reads.vs hr
      · exact Reads.vs hr
    · exact Reads.vs hr
  · exact Reads.vs hr
theorem newVar_sound {ρ : Nat → Option Loc} {H : Hp} {w : World} (hh : HpR ρ H w) {e : TypeId} {d : Option TI} {xs : List V} {v : Value} (hr : V.Rs ρ xs v.cells.toList) (hok : allCellOk xs = true) :
    ∃ w', (newVar e v).run P w = .ok ⟨w.heap.size, 0, none⟩ w' ∧ Left ρ H w (upd ρ H.length ⟨w.heap.size, 0, 1⟩) (H ++ [some (newB e xs.length (varRow d xs))]) w' := by
  refine ⟨w.alloc (.cells v.cells e), by simp [newVar, newRow], ?_⟩
  have hl := V.Rs_length hr
  have hv := varRow_sound (d := d) hr
  have htake : v.cells.toList.take (varRow d xs).len = v.cells.toList := List.take_of_length_le (by have := hv.1; omega)
  refine Left.alloc hh (WExt.refl w _) rfl ?_ ?_ ?_ maxLen_one
  · rw [htake]; exact hv
  · rw [htake]; exact allCellOk_one hok hr
  · simp at hl ⊢; omega
theorem fillV_setV_sound {ρ : Nat → Option Loc} : ∀ (vs : List V) (ds : List Value) (off j : Nat) (xs : List V) (cs : Array Value), V.Rs ρ vs ds → V.Rs ρ xs cs.toList → off + j + vs.length ≤ xs.length →
    V.Rs ρ (fillV.setV xs (off + j) vs) ((ds.zipIdx j).foldl (fun cs (c, j) => cs.setIfInBounds (off + j) c) cs).toList
  | [], ds, off, j, xs, cs, h, hx, _ => by
    simp only [V.Rs] at h
    subst h
    simpa [fillV.setV] using hx
  | v :: vs, ds, off, j, xs, cs, h, hx, hl => by
    simp only [V.Rs] at h
    obtain ⟨y, ys, rfl, h1, h2⟩ := h
    simp only [fillV.setV, List.zipIdx_cons, List.foldl_cons]
    have hlen := V.Rs_length hx
    have hx' : V.Rs ρ (lset xs (off + j) v) (cs.setIfInBounds (off + j) y).toList := by
      refine V.Rs_of_get (by rw [lset_length]; simp; simpa using hlen) fun i hi => ?_
      rw [lset_length] at hi
      by_cases hij : i = off + j
      · subst hij
        refine ⟨y, ?_, by rw [lgetD_lset_same hi]; exact h1⟩
        have : off + j < cs.size := by simp at hlen; omega
        simp [this]
      · obtain ⟨c, h3, h4⟩ := V.Rs_get hx i hi
        refine ⟨c, ?_, by rw [lgetD_lset_ne hij]; exact h4⟩
        have h3' : cs[i]? = some c := by simpa using h3
        simp [Array.getElem?_setIfInBounds, Ne.symm hij, h3']
    have := fillV_setV_sound vs ys off (j + 1) (lset xs (off + j) v) (cs.setIfInBounds (off + j) y) h2 hx' (by rw [lset_length]; simp at hl; omega)
    rw [Nat.add_assoc]
    exact this
theorem setV_length : ∀ (vs : List V) (xs : List V) (off : Nat), (fillV.setV xs off vs).length = xs.length
  | [], _, _ => rfl
  | v :: r, xs, off => by simp only [fillV.setV]; rw [setV_length r, lset_length]
/-- Parts of a literal. -/
def PartsR (ρ : Nat → Option Loc) : List (Nat × List V) → List (Nat × Value) → Prop
  | [], l => l = []
  | (i, vs) :: r, l => ∃ v l', l = (i, v) :: l' ∧ V.Rs ρ vs v.cells.toList ∧ PartsR ρ r l'
theorem fillV_sound {ρ : Nat → Option Loc} {place : Nat → Option (Nat × Nat)} : ∀ {ps : List (Nat × List V)} {parts : List (Nat × Value)} {xs ys : List V} {cs : Array Value},
    PartsR ρ ps parts → V.Rs ρ xs cs.toList → fillV place xs ps = some ys → ∃ ds, Instr.fill place cs parts = some ds ∧ V.Rs ρ ys ds.toList
  | [], parts, xs, ys, cs, hp, hx, h => by
    simp only [PartsR] at hp
    subst hp
    cases h
    exact ⟨cs, rfl, hx⟩
  | (i, vs) :: r, parts, xs, ys, cs, hp, hx, h => by
    simp only [PartsR] at hp
    obtain ⟨v, l', rfl, hv, hp'⟩ := hp
    simp only [fillV] at h
    cases hpl : place i with
    | none => rw [hpl] at h; cases h
    | some os =>
      obtain ⟨off, size⟩ := os
      simp only [hpl] at h
      split at h
      · rename_i hc
        simp only [Bool.and_eq_true] at hc
        have h1 : vs.length = size := Nat.eq_of_beq_eq_true hc.1
        have h2 := Nat.le_of_ble_eq_true hc.2
        have hl := V.Rs_length hv
        have hlx := V.Rs_length hx
        have hvs : v.cells.size = size := by simp at hl; omega
        have hcs : xs.length = cs.size := by simpa using hlx
        have hst := fillV_setV_sound vs v.cells.toList off 0 xs cs hv hx (by omega)
        obtain ⟨ds, h3, h4⟩ := fillV_sound (place := place) hp' hst (by simpa using h)
        refine ⟨ds, ?_, h4⟩
        simp only [Instr.fill, hpl]
        have hno : ¬ (v.cells.size ≠ size ∨ off + v.cells.size > cs.size) := by omega
        have hno' : (decide (v.cells.size ≠ size) || decide (off + v.cells.size > cs.size)) = false := by simp; omega
        rw [if_neg (by simp; omega)]
        rw [← h3]
        congr 1
        rw [← Array.foldl_toList]
        simp
      · cases h
theorem partsV_sound {fr : List (Nat × V)} {a : Act} {ρ : Nat → Option Loc} (hf : FR ρ fr a.tmps) : ∀ {parts : List (Nat × Operand)} {ps : List (Nat × List V)}, partsV fr parts = some ps →
    PartsR ρ ps (parts.map fun (i, x) => (i, a.eval x)) ∧ ∀ p ∈ ps, allCellOk p.2 = true
  | [], ps, h => by cases h; exact ⟨rfl, fun p hp => by cases hp⟩
  | (i, o) :: r, ps, h => by
    simp only [partsV] at h
    split at h
    · rename_i v ps' hv hps
      split at h
      · rename_i cs hcs
        split at h
        · rename_i hok
          cases h
          obtain ⟨h1, h2⟩ := partsV_sound hf hps
          refine ⟨⟨a.eval o, _, rfl, V.cells_R hcs (ev_R hf hv), h1⟩, fun p hp => ?_⟩
          cases hp with
          | head => exact hok
          | tail _ hp => exact h2 p hp
        · cases h
      · cases h
    · cases h
theorem placesOf_sound {C : Ctx} (hC : CtxOK P C) : ∀ {fs : List Field} {ps : List (Nat × Nat)}, placesOf C fs = some ps → fs.mapM (fun f => (P.info? f.type).map fun i => (f.offset, i.size)) = some ps
  | [], ps, h => by cases h; rfl
  | f :: r, ps, h => by
    simp only [placesOf] at h
    split at h
    · rename_i ti ps' hti hps
      cases h
      obtain ⟨_, inf, z, h1, h2, _⟩ := hC.ty _ _ hti
      have ih := placesOf_sound hC hps
      simp only [List.mapM_cons, ih, h1, Option.map_some, Option.bind_eq_bind, Option.bind_some, Option.pure_def, h2]
    · cases h
theorem buildE_sound {C : Ctx} (hC : CtxOK P C) {fr : List (Nat × V)} {a : Act} {ρ : Nat → Option Loc} {t : TypeId} {ti : TI} {parts : Array (Nat × Operand)} {v : V} {w : World} (hf : FR ρ fr a.tmps) (ht : TyOK P t ti)
    (h : (buildE C fr ti parts.toList).get = some v) : ∃ c, (Instr.build t (parts.map fun (i, x) => (i, a.eval x))).run P w = .ok c w ∧ V.R ρ v c := by
  obtain ⟨hu, inf, z, h1, h2, h3, h4, h5⟩ := ht
  have hz : V.Rs ρ ti.zero z.cells.toList := ofScs_R h5
  have fin : ∀ (place : Nat → Option (Nat × Nat)) (ps : List (Nat × List V)) (cs : List V), partsV fr parts.toList = some ps → fillV place ti.zero ps = some cs → v = .agg cs →
      (∀ ds, Instr.fill place z.cells (parts.map fun (i, x) => (i, a.eval x)).toList = some ds → P.built t (parts.map fun (i, x) => (i, a.eval x)).toList = some ds) →
      ∃ c, (Instr.build t (parts.map fun (i, x) => (i, a.eval x))).run P w = .ok c w ∧ V.R ρ v c := by
    intro place ps cs hps hfill hv hb
    obtain ⟨hp, _⟩ := partsV_sound hf hps
    obtain ⟨ds, h6, h7⟩ := fillV_sound hp hz hfill
    refine ⟨.agg ds, run_build w t _ ds (hb ds (by simpa using h6)), ?_⟩
    subst hv
    simp only [V.R]
    exact ⟨ds, rfl, h7⟩
  unfold buildE at h
  split at h
  · rename_i fs hd
    rw [hd] at hu
    split at h
    · rename_i pl ps hpl hps
      split at h
      · rename_i cs hcs
        cases h
        refine fin _ ps cs hps hcs rfl fun ds hds => ?_
        unfold Program.built
        simp only [h1, hu, h4, placesOf_sound hC hpl]
        rw [← hds]
        congr 1
        funext i
        simp [lget_eq]
      · cases h
    · cases h
  · rename_i n e hd
    rw [hd] at hu
    split at h
    · rename_i te ps hte hps
      split at h
      · rename_i cs hcs
        cases h
        obtain ⟨_, inf', z', h1', h2', _⟩ := hC.ty _ _ hte
        refine fin _ ps cs hps hcs rfl fun ds hds => ?_
        unfold Program.built
        simp only [h1, hu, h4, h1', h2']
        exact hds
      · cases h
    · cases h
  · cases h
end Go.Proofs.Ytkfpmiggolmabaa.Sx
