/- The abstract execution is sound: every operation, in one statement. -/
import Derived.Test.YtkfpmiggolmabaaSxA
namespace Go.Proofs.Ytkfpmiggolmabaa.Sx
open Go Go.RowKit
set_option linter.unusedVariables false
set_option linter.unusedSimpArgs false
variable {P : Program}

theorem ofSc_one {v : Value} {x : V} (h : ofSc v = some x) : v.oneCell' = true := by
  unfold ofSc at h
  split at h <;> first | rfl | (cases h; done)
theorem ofScs_one : ∀ {l : List Value} {xs : List V}, ofScs l = some xs → ∀ v ∈ l, v.oneCell' = true
  | [], xs, h, v, hv => by cases hv
  | u :: r, xs, h, v, hv => by
    simp only [ofScs] at h
    split at h
    · rename_i x xs' h1 h2
      cases hv with
      | head => exact ofSc_one h1
      | tail _ hv => exact ofScs_one h2 v hv
    · cases h
theorem setCol_same : ∀ (l : List Sc) (c : Nat) (x : Sc), List.getD (setCol l c x) c (.n 0) = x
  | [], 0, x => rfl
  | [], n + 1, x => by
    simp only [setCol, List.getD_cons_succ]
    exact setCol_same [] n x
  | _ :: r, 0, x => rfl
  | y :: r, n + 1, x => by
    simp only [setCol, List.getD_cons_succ]
    exact setCol_same r n x
theorem setCol_ne : ∀ (l : List Sc) (c d : Nat) (x : Sc), c ≠ d → List.getD (setCol l c x) d (.n 0) = List.getD l d (.n 0)
  | [], 0, 0, x, h => absurd rfl h
  | [], 0, d + 1, x, h => rfl
  | [], n + 1, 0, x, h => rfl
  | [], n + 1, d + 1, x, h => by
    simp only [setCol, List.getD_cons_succ]
    rw [setCol_ne [] n d x (by omega)]
    rfl
  | _ :: r, 0, 0, x, h => absurd rfl h
  | _ :: r, 0, d + 1, x, h => rfl
  | y :: r, n + 1, 0, x, h => rfl
  | y :: r, n + 1, d + 1, x, h => by
    simp only [setCol, List.getD_cons_succ]
    exact setCol_ne r n d x (by omega)
theorem colAt_set_ne {ks : List SK} {xs : List (List Sc)} {row col r c : Nat} {x : Sc} (h : r = row → c = col → False) : colAt ks (List.set xs row (setCol (List.getD xs row []) col x)) r c = colAt ks xs r c := by
  unfold colAt
  cases lget ks c with
  | none => rfl
  | some k =>
    simp only
    congr 1
    by_cases hr : r = row
    · subst hr
      have hc : col ≠ c := fun e => h rfl e.symm
      by_cases hlt : r < xs.length
      · have e : (List.set xs r (setCol (List.getD xs r []) col x)).getD r [] = setCol (List.getD xs r []) col x := by
          simp [List.getD, List.getElem?_set, hlt]
        rw [e, setCol_ne _ _ _ _ hc]
      · have e : (List.set xs r (setCol (List.getD xs r []) col x)).getD r [] = xs.getD r [] := by
          rw [List.set_eq_of_length_le (by omega)]
        rw [e]
    · have e : (List.set xs row (setCol (List.getD xs row []) col x)).getD r [] = xs.getD r [] := by
        simp [List.getD, List.getElem?_set, Ne.symm hr]
      rw [e]
theorem colAt_set_same {ρ : Nat → Option Loc} {ks : List SK} {xs : List (List Sc)} {row col : Nat} {k : SK} {v : V} {x : Sc} {u : Value} (hk : lget ks col = some k) (hx : k.of v = some x) (hrow : row + 1 ≤ xs.length) (hr : V.R ρ (lgetD .unk [v] 0) u) :
    V.R ρ (colAt ks (List.set xs row (setCol (List.getD xs row []) col x)) row col) u := by
  unfold colAt
  rw [hk]
  simp only
  have e : (List.set xs row (setCol (List.getD xs row []) col x)).getD row [] = setCol (List.getD xs row []) col x := by
    simp [List.getD, List.getElem?_set, show row < xs.length by omega]
  rw [e, setCol_same]
  exact SK.of_sound hx hr
theorem opE_buildSlice {C : Ctx} (hC : CtxOK P C) {ρ : Nat → Option Loc} {H : Hp} {w : World} {t e : TypeId} {ti te : TI} {n : Nat} {parts : Array (Nat × Value)} {ps : List (Nat × List V)} {cs : List V} {c : Cells}
    (hh : HpR ρ H w) (ht : TyOK P t ti) (hd : ti.d = .slice e) (hte : TyOK P e te) (hp : PartsR ρ ps parts.toList) (hbig : (Nat.ble (n * te.size) 16777216 && Nat.ble n 16777216) = true)
    (hfill : fillV (fun i => some (i * te.size, te.size)) (repV te.zero n) ps = some cs) (hrow : rowOf te.zero cs = some c) (hok : allCellOk cs = true) (hz : Nat.beq te.zero.length te.size = true) :
    ∃ w', (Instr.buildSlice t n parts).run P w = .ok (.slice (some ⟨w.heap.size, 0, none⟩) n n) w' ∧ Left ρ H w (upd ρ H.length ⟨w.heap.size, 0, n⟩) (H ++ [some (newB e te.size c)]) w' := by
  have hu := ht.1
  rw [hd] at hu
  have hsz := run_sizeOf_sx (P := P) (w := w) hte
  obtain ⟨_, inf, z, hi, hisz, hib, hiz, hofz⟩ := hte
  have hzl := Nat.eq_of_beq_eq_true hz
  rw [Bool.and_eq_true] at hbig
  have hn2 := Nat.le_of_ble_eq_true hbig.2
  have hbig := Nat.le_of_ble_eq_true hbig.1
  have hzR : V.Rs ρ te.zero z.cells.toList := ofScs_R hofz
  have hn : ¬ (n * te.size > 2 ^ 24) := by omega
  have fin : ∀ init : Array Value, V.Rs ρ (repV te.zero n) init.toList → (∀ ds, Instr.fill (fun i => some (i * te.size, te.size)) init parts.toList = some ds →
      (Instr.buildSlice t n parts).run P w = .ok (.slice (some ⟨w.heap.size, 0, none⟩) n n) (w.alloc (.cells ds e))) →
      ∃ w', (Instr.buildSlice t n parts).run P w = .ok (.slice (some ⟨w.heap.size, 0, none⟩) n n) w' ∧ Left ρ H w (upd ρ H.length ⟨w.heap.size, 0, n⟩) (H ++ [some (newB e te.size c)]) w' := by
    intro init hinit hrun
    obtain ⟨ds, h1, h2⟩ := fillV_sound hp hinit hfill
    have hlen := V.Rs_length h2
    have hcs : cs.length = n * te.size := by
      have key : ∀ {ps : List (Nat × List V)} {xs ys : List V}, fillV (fun i => some (i * te.size, te.size)) xs ps = some ys → ys.length = xs.length := by
        intro ps
        induction ps with
        | nil => intro xs ys h; cases h; rfl
        | cons p r ih =>
          intro xs ys h
          obtain ⟨i, v⟩ := p
          simp only [fillV] at h
          split at h
          · rw [ih h, setV_length]
          · cases h
      rw [key hfill, repV_length, hzl]
    have hreads := rowOf_sound hrow h2
    have htake : ds.toList.take c.len = ds.toList := List.take_of_length_le (by rw [hreads.1]; exact Nat.le_refl _)
    refine ⟨_, hrun ds h1, Left.alloc hh (WExt.refl w _) rfl ?_ ?_ ?_ ?_⟩
    · rw [htake]; exact hreads
    · rw [htake]; exact allCellOk_one hok h2
    · simp at hlen; omega
    · unfold maxLen; omega
  by_cases h0 : n * te.size = 0
  · refine fin #[] ?_ fun ds hds => ?_
    · have : repV te.zero n = [] := List.eq_nil_of_length_eq_zero (by rw [repV_length, hzl]; exact h0)
      rw [this]
      simp only [V.Rs]
    · have hn' : ¬ n * inf.size > 2 ^ 24 := by rw [hisz]; exact hn
      rw [← hisz] at hds h0
      simp [Instr.buildSlice, run_underlying hu, sizeOf, typeInfo, hi, h0, hds, newRow, Array.range_zero']
  · refine fin _ (zeros_R hzR n (n * te.size) (by rw [hzl])) fun ds hds => ?_
    rw [← hisz] at hds h0 hn
    exact run_buildSlice w t e n parts ds inf z hu hi hiz hn h0 hds
theorem opE_makeSlice {C : Ctx} (hC : CtxOK P C) {ρ : Nat → Option Loc} {H : Hp} {w : World} {t e : TypeId} {ti te : TI} {n m : Int} {cs : Cells} (hh : HpR ρ H w) (ht : TyOK P t ti) (hd : ti.d = .slice e) (hte : TyOK P e te)
    (hrow : zeroRow te.zero n.toNat = some cs) (hz : Nat.beq te.zero.length te.size = true) (h0 : 0 ≤ n) (h1 : n ≤ m) (h2 : m ≤ 35184372088832) (h3 : te.bytes * m ≤ 35184372088832) :
    ∃ w', (Instr.makeSlice t (.int .i64 n) (.int .i64 m)).run P w = .ok (.slice (some ⟨w.heap.size, 0, none⟩) n.toNat m.toNat) w' ∧
      Left ρ H w (upd ρ H.length ⟨w.heap.size, 0, m.toNat⟩) (H ++ [some (newB e te.size cs)]) w' := by
  have hu := ht.1
  rw [hd] at hu
  obtain ⟨_, inf, z, hi, hisz, hib, hiz, hofz⟩ := hte
  have hzl := Nat.eq_of_beq_eq_true hz
  have hzR : V.Rs ρ te.zero z.cells.toList := ofScs_R hofz
  have hrun := run_make (P := P) w t e inf z hu hi hiz .i64 .i64 n m h0 h1 (by rw [hib]; omega) (by omega)
  refine ⟨_, hrun, ?_⟩
  have hnm : n.toNat * te.size ≤ m.toNat * te.size := Nat.mul_le_mul_right _ (by omega)
  have htk : (madeCells z.cells (m.toNat * inf.size)).toList.take (n.toNat * te.size) = ((Array.range (n.toNat * te.size)).map (z.cells[· % z.cells.size]!)).toList := by
    unfold madeCells
    rw [hisz, Array.toList_map, ← List.map_take, Array.toList_range, List.take_range, Nat.min_eq_left hnm, Array.toList_map, Array.toList_range]
  have hzs := zeros_R hzR n.toNat (n.toNat * te.size) (by rw [hzl])
  have hreads := zeroRow_sound hrow hzs
  have hlen : cs.len = n.toNat * te.size := by rw [hreads.1]; simp
  refine Left.alloc hh (WExt.refl w _) rfl ?_ ?_ ?_ ?_
  · rw [hlen, htk]; exact hreads
  · rw [hlen, htk]
    intro u hu'
    simp only [Array.toList_map, List.mem_map] at hu'
    obtain ⟨j, hj, rfl⟩ := hu'
    have hj' : j < n.toNat * te.size := by simpa using hj
    have hzlen := V.Rs_length hzR
    have hpos : 0 < z.cells.size := by
      simp at hzlen
      rcases Nat.eq_zero_or_pos te.size with h | h
      · rw [h] at hj'; omega
      · omega
    have hlt := Nat.mod_lt j hpos
    rw [getElem!_pos z.cells _ hlt]
    exact ofScs_one hofz _ (by simp)
  · rw [size_madeCells, hisz]
  · unfold maxLen; omega
theorem reads_u8 {ρ : Nat → Option Loc} {xs : List Int} {l : List Value} (h : Reads ρ (.is .u8 xs) l) : l = xs.map (Value.int .u8) := by
  obtain ⟨h1, h2⟩ := h
  simp only [Cells.len] at h1 h2
  apply List.ext_getElem?
  intro j
  rcases Nat.lt_or_ge j xs.length with h3 | h3
  · obtain ⟨v, h4, h5⟩ := h2 j h3
    simp only [Cells.at, V.R, List.getD, List.getElem?_eq_getElem h3, Option.getD_some] at h5
    rw [h4, List.getElem?_map, List.getElem?_eq_getElem h3, h5]
    rfl
  · rw [List.getElem?_eq_none (by omega), List.getElem?_eq_none (by simpa using h3)]
theorem opE_bytes {C : Ctx} (hC : CtxOK P C) {ρ : Nat → Option Loc} {H : Hp} {w : World} {s d e : TypeId} {si di te : TI} {x : V} {u : Value} {id off n : Nat} {B : Blk} {xs : List Int} (hh : HpR ρ H w) (hs : TyOK P s si) (hd : TyOK P d di)
    (hsd : si.d = .slice e) (hdd : di.d = .string) (hte : TyOK P e te) (hted : te.d = .int .u8) (hx : x = .sl id off n ∨ x = .own id n ∧ off = 0) (hr : V.R ρ x u) (hB : hget H id = some B) (hc : B.c = .is .u8 xs) (hfit : off + n ≤ xs.length) :
    (convert s d u).run P w = .ok (.string (strOf ((xs.drop off).take n))) w := by
  have hu1 := hs.1
  have hu2 := hd.1
  have hu3 := hte.1
  rw [hsd] at hu1
  rw [hdd] at hu2
  rw [hted] at hu3
  obtain ⟨l, hl, hb⟩ := hh.blk id B hB
  obtain ⟨news, h1, h2, h3, h4⟩ := cells_at hb off n (by rw [hc]; exact hfit)
  rw [hc] at h3
  have hnews := reads_u8 h3
  have key : ∀ ad cap, (n ≠ 0 → ad = ⟨l.b, l.o + off, none⟩) → (convert s d (.slice (some ad) n cap)).run P w = .ok (.string (strOf ((xs.drop off).take n))) w := by
    intro ad cap hn
    rw [run_convert_bytes_string w s d e (some ad) n cap hu1 hu3 hu2]
    refine run_bytesToString w ad n cap _ ?_
    by_cases h0 : n = 0
    · subst h0
      simp [loadCells, loadCellsFrom]
    · rw [hn h0, ← hnews]
      have := run_loadCells_list (P := P) w _ news h2
      rw [h1] at this
      exact this
  rcases hx with rfl | ⟨rfl, rfl⟩
  · simp only [V.R] at hr
    obtain ⟨a, cap, rfl, _, ha⟩ := hr
    cases a with
    | some ad =>
      refine key ad cap fun h0 => ?_
      obtain ⟨l', hl', he⟩ := ha h0
      rw [hl] at hl'; cases hl'
      exact Option.some.inj he
    | none =>
      have h0 : n = 0 := by
        rcases Nat.eq_zero_or_pos n with h | h
        · exact h
        · obtain ⟨_, _, he⟩ := ha (by omega)
          cases he
      subst h0
      rw [run_convert_bytes_string w s d e none 0 cap hu1 hu3 hu2]
      simp [Conv.bytesToString, strOf]
  · simp only [V.R] at hr
    obtain ⟨l', hl', rfl, _, ho⟩ := hr
    rw [hl] at hl'; cases hl'
    exact key _ _ fun _ => by rw [ho]
set_option maxHeartbeats 800000 in
theorem opE_sound {C : Ctx} (hC : CtxOK P C) {fr : List (Nat × V)} {H : Hp} {a : Act} {w : World} {o : Oper} {r : V × Hp} {ρ : Nat → Option Loc} (hf : FR ρ fr a.tmps) (hh : HpR ρ H w)
    (h : (opE C fr H o.op).get = some r) {K : Act → World → Prop} {Q : Exit → Act → World → Prop} (hK : ∀ c ρ' w', V.R ρ' r.1 c → Left ρ H w ρ' r.2 w' → K (a.put o.dst c) w') : o.wp P a w K Q := by
  have viaQ : ((opQ C fr H o.op).bind fun v => T.leaf (v, H)).get = some r → o.wp P a w K Q := by
    intro hq
    obtain ⟨v, h1, h2⟩ := T.get_bind _ _ _ hq
    cases h2
    exact opQ_sound hC hf hh h1 fun c w' h3 h4 => hK c ρ w' h3 h4
  have val : ∀ {c : Value} {w' : World} {ρ' : Nat → Option Loc}, (execOp a.eval o).run P w = .ok (.value c) w' → V.R ρ' r.1 c → Left ρ H w ρ' r.2 w' → o.wp P a w K Q := by
    intro c w' ρ' h1 h2 h3
    unfold Oper.wp
    rw [h1, Oper.upon_value]
    exact hK c ρ' w' h2 h3
  cases ho : o.op with
  | alloc e =>
    rw [ho] at h
    simp only [opE] at h
    split at h
    · rename_i ti hti
      split at h
      · rename_i hok
        cases h
        obtain ⟨hu, inf, z, hi, hisz, hib, hiz, hofz⟩ := hC.ty e ti hti
        obtain ⟨w', h1, h2⟩ := newVar_sound (P := P) hh (e := e) (v := z) (ofScs_R hofz) hok
        refine val (c := .pointer (some ⟨w.heap.size, 0, none⟩)) ?_ (by simp only [V.R]; exact ⟨_, upd_at .., rfl⟩) h2
        unfold execOp
        rw [ho]
        simp [Instr.alloc, zeroValue, typeInfo, hi, hiz, h1]
      · cases h
    · cases h
  | box e x =>
    rw [ho] at h
    simp only [opE] at h
    split at h
    · rename_i v hv
      split at h
      · rename_i cs hcs
        split at h
        · rename_i hok
          cases h
          obtain ⟨w', h1, h2⟩ := newVar_sound (P := P) hh (e := e) (V.cells_R hcs (ev_R hf hv)) hok
          refine val (c := .pointer (some ⟨w.heap.size, 0, none⟩)) ?_ (by simp only [V.R]; exact ⟨_, upd_at .., rfl⟩) h2
          unfold execOp
          rw [ho]
          simp [Instr.box, h1]
        · cases h
      · cases h
    · cases h
  | build t parts =>
    rw [ho] at h
    simp only [opE] at h
    split at h
    · rename_i ti hti
      obtain ⟨v, h1, h2⟩ := T.get_bind _ _ _ h
      cases h2
      obtain ⟨c, h3, h4⟩ := buildE_sound hC (w := w) hf (hC.ty t ti hti) h1
      refine val (c := c) ?_ h4 (Left.gr hh (WExt.refl w _))
      unfold execOp
      rw [ho]
      simp only [Sem.run_bind, h3, Result.andThen_ok, Sem.run_pure]
    · cases h
  | buildSlice t n parts =>
    rw [ho] at h
    simp only [opE] at h
    split at h
    · rename_i ti hti
      split at h
      · rename_i e hd
        split at h
        · rename_i te ps hte hps
          split at h
          · rename_i cs hbig hfill
            split at h
            · rename_i c hrow hcond
              cases h
              simp only [Bool.and_eq_true] at hcond
              obtain ⟨hp, _⟩ := partsV_sound hf hps
              obtain ⟨w', h1, h2⟩ := opE_buildSlice hC hh (hC.ty t ti hti) hd (hC.ty e te hte) (parts := parts.map fun (i, x) => (i, a.eval x)) (by simpa using hp) hbig hfill hrow hcond.1 hcond.2
              refine val (c := .slice (some ⟨w.heap.size, 0, none⟩) n n) ?_ (by simp only [V.R]; exact ⟨_, upd_at .., rfl, Nat.le_refl _, rfl⟩) h2
              unfold execOp
              rw [ho]
              simp only [Sem.run_bind, h1, Result.andThen_ok, Sem.run_pure]
            · cases h
          · cases h
        · cases h
      · cases h
    · cases h
  | makeSlice t l c =>
    rw [ho] at h
    simp only [opE] at h
    split at h
    · rename_i ti n m hti hl hc
      split at h
      · rename_i e hd
        split at h
        · rename_i te hte
          split at h
          · rename_i cs sz hrow hz hts
            rcases T.get_br_some h with ⟨hcond, h⟩ | ⟨_, h⟩
            · cases h
              simp only [Bool.and_eq_true, decide_eq_true_eq] at hcond
              obtain ⟨⟨⟨h0, h1⟩, h2⟩, h3⟩ := hcond
              have e1 := ev_R hf hl
              have e2 := ev_R hf hc
              simp only [V.R] at e1 e2
              obtain ⟨w', h4, h5⟩ := opE_makeSlice hC hh (hC.ty t ti hti) hd (hC.ty e te hte) hrow hz h0 h1 h2 h3
              refine val (c := .slice (some ⟨w.heap.size, 0, none⟩) n.toNat m.toNat) ?_ (by simp only [V.R]; exact ⟨_, upd_at .., rfl, by dsimp only; omega, rfl⟩) h5
              unfold execOp
              rw [ho]
              simp only [e1, e2, Sem.run_bind, h4, Result.andThen_ok, Sem.run_pure]
            · cases h
          · cases h
        · cases h
      · cases h
    · cases h
  | store t x y =>
    rw [ho] at h
    simp only [opE] at h
    split at h
    · rename_i ti id off v hti hx hv
      split at h
      · rename_i B cs hB hcs
        split at h
        · rename_i hwr hcond
          simp only [Bool.and_eq_true] at hcond
          split at h
          · rename_i c' hsr
            have e := ev_R hf hx
            simp only [V.R] at e
            obtain ⟨l, hl, e⟩ := e
            have fin : off + cs.length ≤ B.c.len → r = (.tup [], hset H id (some { B with c := c' })) → o.wp P a w K Q := by
              rintro hfit rfl
              obtain ⟨w', h1, h2⟩ := store_sound hh (hC.ty t ti hti) hB hwr hl (V.cells_R hcs (ev_R hf hv)) hcond.1 (Nat.eq_of_beq_eq_true hcond.2) (let q := setRange_sound hsr (V.cells_R hcs (ev_R hf hv)) hfit; ⟨q.1, q.2.1, fun i _ => q.2.2 i⟩) hfit
              unfold Oper.wp
              have he : (execOp a.eval o).run P w = .ok .skip w' := by
                unfold execOp
                rw [ho]
                simp only [e, Instr.storeAt, Instr.sureAddr, Sem.run_bind, Sem.run_pure, Result.andThen_ok, h1]
              rw [he, Oper.upon_skip]
              exact hK undef ρ w' (by simp only [V.R]; exact ⟨#[], rfl, by simp only [V.Rs]⟩) h2
            split at h
            · rename_i xs hxs
              split at h
              · rename_i hn
                refine fin ?_ (by cases h; rfl)
                rw [hxs]
                exact Nat.le_of_ble_eq_true hn
              · cases h
            · rcases T.get_br_some h with ⟨hn, h⟩ | ⟨_, h⟩
              · exact fin (Nat.le_of_ble_eq_true hn) (by cases h; rfl)
              · cases h
          · cases h
        · cases h
      · cases h
    · rename_i ti id row sz col v hti hx hv
      split at h
      · rename_i B hB hagg
        split at h
        · rename_i ks xs hwr hmx
          split at h
          · rename_i k hk hcond
            simp only [Bool.and_eq_true] at hcond
            split at h
            · rename_i sc hsc
              rcases T.get_br_some h with ⟨hn, h⟩ | ⟨_, h⟩
              · cases h
                have hsz : sz = ks.length := Nat.eq_of_beq_eq_true hcond.1
                subst hsz
                have hrow := Nat.le_of_ble_eq_true hn
                have e := ev_R hf hx
                simp only [V.R] at e
                obtain ⟨l, hl, e⟩ := e
                have ev := ev_R hf hv
                have hcell : v.cells = some [v] := by
                  have h0 := hcond.2.1
                  cases v <;> first | rfl | cases h0
                have hcol := lget_lt hk
                have hbig : (row + 1) * ks.length ≤ xs.length * ks.length := Nat.mul_le_mul_right _ hrow
                rw [Nat.add_mul, Nat.one_mul] at hbig
                have hlen : B.c.len = xs.length * ks.length := by rw [hmx]; rfl
                have hset : Cells.len (.mx ks (List.set xs row (setCol (List.getD xs row []) col sc))) = B.c.len ∧ (∀ j, j < [v].length → ∃ u, (a.eval y).cells.toList[j]? = some u ∧ V.R ρ (Cells.at (.mx ks (List.set xs row (setCol (List.getD xs row []) col sc))) (row * ks.length + col + j)) u) ∧ ∀ i, i < B.c.len → (i < row * ks.length + col ∨ row * ks.length + col + [v].length ≤ i) → Cells.at (.mx ks (List.set xs row (setCol (List.getD xs row []) col sc))) i = B.c.at i := by
                  refine ⟨by rw [hlen]; simp only [Cells.len, List.length_set], fun j hj => ?_, fun i hi h2 => ?_⟩
                  · have : j = 0 := by simpa using hj
                    subst this
                    obtain ⟨u, h3, h4⟩ := V.Rs_get (V.cells_R hcell ev) 0 (by simp)
                    refine ⟨u, h3, ?_⟩
                    obtain ⟨q1, q2⟩ := rowcol (n := ks.length) (row := row) (col := col) hcol
                    rw [Nat.add_zero]
                    simp only [Cells.at, q1, q2]
                    exact colAt_set_same hk hsc hrow h4
                  · rw [hmx]
                    simp only [Cells.at]
                    refine colAt_set_ne fun h3 h4 => ?_
                    have := Nat.div_add_mod i ks.length
                    rw [h3, h4, Nat.mul_comm] at this
                    simp only [List.length_cons, List.length_nil] at h2
                    omega
                obtain ⟨w', h1, h2⟩ := store_sound hh (hC.ty t ti hti) hB hwr hl (V.cells_R hcell ev) (by simp [allCellOk, hcond.2.1]) (Nat.eq_of_beq_eq_true hcond.2.2) hset (by rw [hlen]; simp only [List.length_cons, List.length_nil]; omega)
                unfold Oper.wp
                have he : (execOp a.eval o).run P w = .ok .skip w' := by
                  unfold execOp
                  rw [ho]
                  simp only [e, Instr.storeAt, Instr.sureAddr, Sem.run_bind, Sem.run_pure, Result.andThen_ok, h1]
                rw [he, Oper.upon_skip]
                exact hK undef ρ w' (by simp only [V.R]; exact ⟨#[], rfl, by simp only [V.Rs]⟩) h2
              · cases h
            · cases h
          · cases h
        · cases h
      · cases h
    · cases h
  | convert s d x =>
    have h' := h
    rw [ho] at h
    simp only [opE] at h
    split at h
    · rename_i si di v hsi hdi hv
      have hvR := ev_R hf hv
      split at h
      · rename_i e id n hsd hdd
        split at h
        · rename_i B te hB hte
          split at h
          · rename_i xs hted hc
            rcases T.get_br_some h with ⟨hn, h⟩ | ⟨_, h⟩
            · cases h
              have hr := opE_bytes hC hh (hC.ty s si hsi) (hC.ty d di hdi) hsd hdd (hC.ty e te hte) hted (off := 0) (.inr ⟨rfl, rfl⟩) hvR hB hc (by rw [Nat.zero_add]; exact Nat.le_of_ble_eq_true hn)
              rw [List.drop_zero] at hr
              refine val (c := .string (strOf (xs.take n))) ?_ (by simp only [V.R]) (Left.gr hh (WExt.refl w _))
              unfold execOp
              rw [ho]
              simp only [Sem.run_bind, hr, Result.andThen_ok, Sem.run_pure]
            · cases h
          · cases h
        · cases h
      · rename_i e id off n hsd hdd
        split at h
        · rename_i B te hB hte
          split at h
          · rename_i xs hted hc
            rcases T.get_br_some h with ⟨hn, h⟩ | ⟨_, h⟩
            · cases h
              have hr := opE_bytes hC hh (hC.ty s si hsi) (hC.ty d di hdi) hsd hdd (hC.ty e te hte) hted (.inl rfl) hvR hB hc (Nat.le_of_ble_eq_true hn)
              refine val (c := .string (strOf ((xs.drop off).take n))) ?_ (by simp only [V.R]) (Left.gr hh (WExt.refl w _))
              unfold execOp
              rw [ho]
              simp only [Sem.run_bind, hr, Result.andThen_ok, Sem.run_pure]
            · cases h
          · cases h
        · cases h
      · obtain ⟨v', h1, h2⟩ := T.get_bind _ _ _ h
        cases h2
        refine viaQ ?_
        rw [ho]
        refine T.bind_get _ _ v' _ ?_ rfl
        simp only [opQ, hsi, hdi, hv]
        exact h1
    · cases h
  | call c =>
    rw [ho] at h
    simp only [opE] at h
    split at h
    · rename_i hc
      split at h
      · rename_i t u x y hts hvs
        split at h
        · rename_i ti hti hbeq
          have : t = u := Nat.eq_of_beq_eq_true hbeq
          subst this
          have hr := evs_R hf hvs
          simp only [V.Rs] at hr
          obtain ⟨y1, ys, hmap, hv1, z1, zs, rfl, hv2, rfl⟩ := hr
          have hargs : c.args.map a.eval = #[y1, z1] := by
            cases hcq : c.args with
            | mk l => rw [hcq] at hmap; simp at hmap ⊢; exact hmap
          have hat : c.argTypes = #[t, t] := by
            cases hcq : c.argTypes with
            | mk l => rw [hcq] at hts; simp at hts ⊢; exact hts
          obtain ⟨c', w', ρ', h1, h2, h3⟩ := appendE_sound (ty := o.type) hC hh (hC.ty t ti hti) hv1 hv2 h
          refine val (c := c') ?_ h2 h3
          unfold execOp
          rw [ho]
          simp [resolve, hc, invoke, builtin, hargs, hat, h1]
        · cases h
      · cases h
    · rename_i x hc
      split at h
      · rename_i f cap args hx hvs
        have hr := evs_R hf hvs
        have e := ev_R hf hx
        simp only [V.R] at e
        obtain ⟨cs, e, hcap⟩ := e
        refine wp_call_value ho hc e ?_
        have hok := callE_sound hC hh (V.Rs_append hr hcap) h
        have e2 : (c.args.toList.map a.eval ++ cs.toList).toArray = c.args.map a.eval ++ cs := by
          cases c.args; simp
        rw [e2] at hok
        exact hok o a K Q fun c' w' ⟨ρ', h1, h2⟩ => hK c' ρ' w' h1 h2
      · cases h
    · exact viaQ (by rw [ho]; exact h)
  | _ => exact viaQ (by rw [ho] at h ⊢; exact h)
end Go.Proofs.Ytkfpmiggolmabaa.Sx
