/- The abstract execution is sound: append. -/
import Derived.Test.YtkfpmiggolmabaaSx9
namespace Go.Proofs.Ytkfpmiggolmabaa.Sx
open Go Go.RowKit
set_option linter.unusedVariables false
set_option linter.unusedSimpArgs false
variable {P : Program}

theorem Cells.sub_sound (c : Cells) (off n : Nat) (h : off + n ≤ c.len) : (c.sub off n).len = n ∧ ∀ j, j < n → (c.sub off n).at j = c.at (off + j) := by
  by_cases hmx : ∃ ks xs, c = .mx ks xs
  · obtain ⟨ks, xs, rfl⟩ := hmx
    refine ⟨by simp only [Cells.sub, Cells.len, atRange_length], fun j hj => ?_⟩
    simp only [Cells.sub]
    exact atRange_get (.mx ks xs) n off j hj
  cases c
  case mx ks xs => exact absurd ⟨ks, xs, rfl⟩ hmx
  all_goals simp only [Cells.len] at h
  all_goals refine ⟨by simp only [Cells.sub, Cells.len, List.length_take, List.length_drop]; omega, fun j hj => ?_⟩
  · simp only [Cells.sub, Cells.at, lgetD_eq, List.getD, List.getElem?_take, hj, if_true, List.getElem?_drop]
  all_goals simp only [Cells.sub, Cells.at, List.getD, List.getElem?_take, hj, if_true, List.getElem?_drop]
theorem skEq_eq {x y : SK} (h : skEq x y = true) : x = y := by
  cases x <;> cases y <;> simp only [skEq, reduceCtorEq, Bool.false_eq_true] at h
  · rw [fkEq_eq h]
  · rw [ikEq_eq h]
  · rfl
  · rfl
theorem sksEq_eq : ∀ {xs ys : List SK}, sksEq xs ys = true → xs = ys
  | [], [], _ => rfl
  | [], y :: s, h => by cases h
  | x :: r, [], h => by cases h
  | x :: r, y :: s, h => by
    simp only [sksEq, Bool.and_eq_true] at h
    rw [skEq_eq h.1, sksEq_eq h.2]
theorem Cells.app_sound {ρ : Nat → Option Loc} {a b c : Cells} {l m : List Value} (h : a.app b = some c) (ha : Reads ρ a l) (hb : Reads ρ b m) : Reads ρ c (l ++ m) := by
  have key : c.len = a.len + b.len ∧ (∀ j, j < a.len → V.R ρ (a.at j) (l.getD j undef) → V.R ρ (c.at j) (l.getD j undef)) ∧ (∀ j, j < b.len → V.R ρ (b.at j) (m.getD j undef) → V.R ρ (c.at (a.len + j)) (m.getD j undef)) := by
    unfold Cells.app at h
    split at h
    · cases h
      refine ⟨by simp [Cells.len], fun j hj hr => ?_, fun j hj hr => ?_⟩
      · simp only [Cells.len] at hj
        simp only [Cells.at, lgetD_eq, List.getD, List.getElem?_append_left hj] at hr ⊢
        exact hr
      · simp only [Cells.len] at hj ⊢
        simp only [Cells.at, lgetD_eq, List.getD, List.getElem?_append_right (Nat.le_add_right _ _), Nat.add_sub_cancel_left] at hr ⊢
        exact hr
    · rename_i ks xs ks' ys
      cases hk : sksEq ks ks' with
      | false => rw [hk] at h; cases h
      | true =>
        rw [hk] at h
        cases h
        have := sksEq_eq hk
        subst this
        refine ⟨by simp only [Cells.len, List.length_append, Nat.add_mul], fun j hj hr => ?_, fun j hj hr => ?_⟩
        · simp only [Cells.len] at hj
          have hks : 0 < ks.length := by
            rcases Nat.eq_zero_or_pos ks.length with h0 | h0
            · rw [h0, Nat.mul_zero] at hj; omega
            · exact h0
          have hd : j / ks.length < xs.length := (Nat.div_lt_iff_lt_mul hks).2 hj
          simp only [Cells.at, colAt, List.getD, List.getElem?_append_left hd] at hr ⊢
          exact hr
        · simp only [Cells.len] at hj ⊢
          have hks : 0 < ks.length := by
            rcases Nat.eq_zero_or_pos ks.length with h0 | h0
            · rw [h0, Nat.mul_zero] at hj; omega
            · exact h0
          have e1 : (xs.length * ks.length + j) / ks.length = xs.length + j / ks.length := by
            rw [Nat.mul_comm, Nat.mul_add_div hks]
          have e2 : (xs.length * ks.length + j) % ks.length = j % ks.length := by
            rw [Nat.mul_comm, Nat.mul_add_mod]
          simp only [Cells.at, e1, e2, colAt, List.getD, List.getElem?_append_right (Nat.le_add_right _ _), Nat.add_sub_cancel_left] at hr ⊢
          exact hr
    · rename_i k xs k' ys
      cases hk : fkEq k k' with
      | false => rw [hk] at h; cases h
      | true =>
        rw [hk] at h
        cases h
        have := fkEq_eq hk
        subst this
        refine ⟨by simp [Cells.len], fun j hj hr => ?_, fun j hj hr => ?_⟩
        · simp only [Cells.len] at hj
          simp only [Cells.at, List.getD, List.getElem?_append_left hj] at hr ⊢
          exact hr
        · simp only [Cells.len] at hj ⊢
          simp only [Cells.at, List.getD, List.getElem?_append_right (Nat.le_add_right _ _), Nat.add_sub_cancel_left] at hr ⊢
          exact hr
    · rename_i k xs k' ys
      cases hk : ikEq k k' with
      | false => rw [hk] at h; cases h
      | true =>
        rw [hk] at h
        cases h
        have := ikEq_eq hk
        subst this
        refine ⟨by simp [Cells.len], fun j hj hr => ?_, fun j hj hr => ?_⟩
        · simp only [Cells.len] at hj
          simp only [Cells.at, List.getD, List.getElem?_append_left hj] at hr ⊢
          exact hr
        · simp only [Cells.len] at hj ⊢
          simp only [Cells.at, List.getD, List.getElem?_append_right (Nat.le_add_right _ _), Nat.add_sub_cancel_left] at hr ⊢
          exact hr
    · cases h
      refine ⟨by simp [Cells.len], fun j hj hr => ?_, fun j hj hr => ?_⟩
      · simp only [Cells.len] at hj
        simp only [Cells.at, List.getD, List.getElem?_append_left hj] at hr ⊢
        exact hr
      · simp only [Cells.len] at hj ⊢
        simp only [Cells.at, List.getD, List.getElem?_append_right (Nat.le_add_right _ _), Nat.add_sub_cancel_left] at hr ⊢
        exact hr
    · cases h
      refine ⟨by simp [Cells.len], fun j hj hr => ?_, fun j hj hr => ?_⟩
      · simp only [Cells.len] at hj
        simp only [Cells.at, List.getD, List.getElem?_append_left hj] at hr ⊢
        exact hr
      · simp only [Cells.len] at hj ⊢
        simp only [Cells.at, List.getD, List.getElem?_append_right (Nat.le_add_right _ _), Nat.add_sub_cancel_left] at hr ⊢
        exact hr
    · cases h
  obtain ⟨h1, h2, h3⟩ := key
  have hgd : ∀ (l : List Value) j v, l[j]? = some v → l.getD j undef = v := fun l j v h => by simp [List.getD, h]
  refine ⟨by rw [h1, ha.1, hb.1]; simp, fun j hj => ?_⟩
  rcases Nat.lt_or_ge j a.len with h4 | h4
  · obtain ⟨v, h5, h6⟩ := ha.2 j h4
    refine ⟨v, by rw [List.getElem?_append_left (by rw [← ha.1]; exact h4)]; exact h5, ?_⟩
    have := h2 j h4 (by rw [hgd l j v h5]; exact h6)
    rwa [hgd l j v h5] at this
  · obtain ⟨v, h5, h6⟩ := hb.2 (j - a.len) (by omega)
    refine ⟨v, by rw [List.getElem?_append_right (by rw [← ha.1]; exact h4), ← ha.1]; exact h5, ?_⟩
    have := h3 (j - a.len) (by omega) (by rw [hgd m _ v h5]; exact h6)
    rw [hgd m _ v h5, show a.len + (j - a.len) = j by omega] at this
    exact this
/-- The cells that a slice's elements lie in. -/
theorem cells_at {ρ : Nat → Option Loc} {w : World} {l : Loc} {B : Blk} (hb : BlkR ρ l B w) (off m : Nat) (h : off + m ≤ B.c.len) :
    ∃ news : List Value, news.length = m ∧ (∀ j u, news[j]? = some u → w.cell? ((⟨l.b, l.o + off, none⟩ : Addr).add j) = some u) ∧ Reads ρ (B.c.sub off m) news ∧ ∀ u ∈ news, u.oneCell' = true := by
  obtain ⟨cs, h1, h2, _, h3, h4⟩ := run_loadCells_sx (P := default) hb off m h
  obtain ⟨h5, h6⟩ := Cells.sub_sound B.c off m h
  refine ⟨cs, h1, h2, ⟨h5.trans h1.symm, fun j hj => ?_⟩, h4⟩
  rw [h5] at hj
  obtain ⟨u, h7, h8⟩ := V.Rs_get h3 j (by rw [atRange_length]; exact hj)
  refine ⟨u, h7, ?_⟩
  rw [h6 j hj, ← atRange_get B.c m off j hj]
  exact h8
theorem srcOf_sound {ρ : Nat → Option Loc} {H : Hp} {w : World} {te : TI} {y : V} {c : Cells} {n : Nat} {u : Value} (hh : HpR ρ H w) (hy : V.R ρ y u) (h : srcOf te H y = some (c, n, true)) :
    ∃ a cap, u = .slice a n cap ∧ ∃ news : List Value, news.length = n * te.size ∧ Reads ρ c news ∧ (∀ v ∈ news, v.oneCell' = true) ∧
      (n ≠ 0 → ∃ ad, a = some ad ∧ ∀ j v, news[j]? = some v → w.cell? (ad.add j) = some v) := by
  unfold srcOf at h
  split at h
  · rename_i id off n'
    obtain ⟨B, hB, h1⟩ := Option.map_eq_some_iff.1 h
    simp only [Prod.mk.injEq] at h1
    obtain ⟨rfl, rfl, h2⟩ := h1
    simp only [V.R] at hy
    obtain ⟨a, cap, rfl, _, ha⟩ := hy
    obtain ⟨l, hl, hb⟩ := hh.blk id B hB
    obtain ⟨news, h3, h4, h5, h6⟩ := cells_at hb off (n' * te.size) (Nat.le_of_ble_eq_true h2)
    refine ⟨a, cap, rfl, news, h3, h5, h6, fun hn => ?_⟩
    obtain ⟨l', hl', rfl⟩ := ha hn
    rw [hl] at hl'; cases hl'
    exact ⟨_, rfl, h4⟩
  · rename_i id n'
    obtain ⟨B, hB, h1⟩ := Option.map_eq_some_iff.1 h
    simp only [V.R] at hy
    obtain ⟨l, hl, rfl, _, ho⟩ := hy
    obtain ⟨l', hl', hb⟩ := hh.blk id B hB
    rw [hl] at hl'; cases hl'
    split at h1
    · rename_i ks xs hmx
      simp only [Prod.mk.injEq] at h1
      obtain ⟨rfl, rfl, h2⟩ := h1
      have hlen : n' * te.size = B.c.len := by rw [hmx]; exact Nat.eq_of_beq_eq_true h2
      obtain ⟨cs, p1, p2, _, p3, p4⟩ := run_loadCells_sx (P := default) hb 0 (n' * te.size) (by omega)
      refine ⟨_, _, rfl, cs, p1, ⟨by rw [p1, hlen, hmx], fun j hj => ?_⟩, p4, fun hn => ⟨_, rfl, ?_⟩⟩
      · have hj' : j < n' * te.size := by rw [hlen, hmx]; exact hj
        obtain ⟨u, h7, h8⟩ := V.Rs_get p3 j (by rw [atRange_length]; exact hj')
        rw [atRange_get B.c _ 0 j hj', Nat.zero_add, hmx] at h8
        exact ⟨u, h7, h8⟩
      · rw [ho] at p2
        exact p2
    · simp only [Prod.mk.injEq] at h1
      obtain ⟨rfl, rfl, h2⟩ := h1
      obtain ⟨news, h3, h4, h5, h6⟩ := cells_at hb 0 (n' * te.size) (by rw [Nat.zero_add]; exact Nat.le_of_ble_eq_true h2)
      refine ⟨_, _, rfl, news, h3, h5, h6, fun hn => ⟨_, rfl, ?_⟩⟩
      rw [ho] at h4
      exact h4
  · obtain ⟨c', hc', h1⟩ := Option.map_eq_some_iff.1 h
    simp only [Prod.mk.injEq] at h1
    obtain ⟨rfl, rfl, _⟩ := h1
    simp only [V.R] at hy
    subst hy
    exact ⟨none, 0, rfl, [], by simp, rowOf_sound hc' (by simp only [V.Rs]), fun v hv => by (cases hv), fun hn => absurd rfl hn⟩
  · cases h
theorem run_append_zero {t e ty : TypeId} {w : World} {te : TI} (hu : P.underlying t = some (.slice e)) (he : TyOK P e te) (g : Addr) (len cap : Nat) (a : Option Addr) (c : Nat) (h : len ≤ cap) :
    (Builtin.append_ #[t, t] ty #[.slice (some g) len cap, .slice a 0 c]).run P w = .ok (.slice (some g) len cap) w := by
  cases a <;> simp [Builtin.append_, run_underlying hu, run_sizeOf_sx he, Builtin.lenOf, h, Builtin.firstCells, loadCells, loadCellsFrom, storeCells]
theorem appendE_sound {C : Ctx} (hC : CtxOK P C) {ρ : Nat → Option Loc} {H : Hp} {w : World} {t ty : TypeId} {ti : TI} {x y : V} {a b : Value} {r : V × Hp} (hh : HpR ρ H w) (ht : TyOK P t ti) (hx : V.R ρ x a) (hy : V.R ρ y b)
    (h : (appendE C H ti x y).get = some r) : ∃ c w' ρ', (Builtin.append_ #[t, t] ty #[a, b]).run P w = .ok c w' ∧ V.R ρ' r.1 c ∧ Left ρ H w ρ' r.2 w' := by
  unfold appendE at h
  split at h
  · rename_i e hd
    have hu := ht.1
    rw [hd] at hu
    split at h
    · rename_i te hte
      have he := hC.ty e te hte
      split at h
      · rename_i c n fits s hsrc hts hz
        obtain ⟨_, inf, z, hi, hisz, hib, hiz, hofz⟩ := he
        have hzs : z.cells.size = te.size := by
          have h1 := V.Rs_length (ofScs_R (ρ := ρ) hofz)
          have h2 := Nat.eq_of_beq_eq_true hz
          simp at h1
          omega
        have hpos : 0 < te.size := by omega
        split at h
        · split at h
          · rename_i c0 hc0
            split at h
            · rename_i c' hc'
              rcases T.get_br_some h with ⟨hc, h⟩ | ⟨_, h⟩
              · cases h
                simp only [Bool.and_eq_true] at hc
                obtain ⟨rfl, ⟨h1, h2⟩, h3⟩ := hc
                have h1 := Nat.le_of_ble_eq_true h1
                have h2 := Nat.le_of_ble_eq_true h2
                have h3 := Nat.le_of_ble_eq_true h3
                simp only [V.R] at hx
                subst hx
                obtain ⟨ad, cap, rfl, news, hn1, hn2, hn3, hn4⟩ := srcOf_sound hh hy hsrc
                obtain ⟨ad, rfl, hn5⟩ := hn4 (by omega)
                have hrun := run_append_nil (P := P) w t ty e inf z hu hi hiz ad n cap news (by rw [hisz]; exact hn1) hn5 (by omega) (by omega) (by rw [hib]; omega)
                have hreads : Reads ρ c' ([] ++ news) := Cells.app_sound hc' (rowOf_sound hc0 (by simp only [V.Rs])) hn2
                rw [List.nil_append] at hreads
                have hcap := grownCap_le_maxLen w n 0 e (by unfold maxLen; omega)
                have hge := grownCap_ge w n 0 e
                have htake : (news.toArray ++ Builtin.zeroCells z.cells (grownCap w n 0 e - n)).toList.take c'.len = news := by
                  rw [hreads.1]; simp
                refine ⟨_, _, upd ρ H.length ⟨w.heap.size, 0, grownCap w n 0 e⟩, hrun, ?_, Left.alloc hh (Gr.drew' w) rfl ?_ ?_ ?_ hcap⟩
                · simp only [V.R]
                  exact ⟨_, upd_at .., rfl, hge, rfl⟩
                · rw [htake]; exact hreads
                · rw [htake]; exact hn3
                · simp only [Array.size_append, List.size_toArray, size_zeroCells, hzs, hn1, ← Nat.add_mul]
                  congr 1
                  omega
              · cases h
            · cases h
          · cases h
        · rename_i id len
          split at h
          · rename_i B hB
            split at h
            · rename_i c' hc' hwr hbe
              rcases T.get_br_some h with ⟨hc, h⟩ | ⟨_, h⟩
              · cases h
                simp only [Bool.and_eq_true] at hc hbe
                obtain ⟨rfl, ⟨h1, h2⟩, h3⟩ := hc
                have h1 := Nat.eq_of_beq_eq_true h1
                have h2 := Nat.le_of_ble_eq_true h2
                have h3 := Nat.le_of_ble_eq_true h3
                have hsz := Nat.eq_of_beq_eq_true hbe.1
                have hbe := Nat.eq_of_beq_eq_true hbe.2
                simp only [V.R] at hx
                obtain ⟨l, hl, rfl, hlc, ho⟩ := hx
                obtain ⟨l', hl', hb⟩ := hh.blk id B hB
                rw [hl] at hl'; cases hl'
                obtain ⟨ad, cap, rfl, news, hn1, hn2, hn3, hn4⟩ := srcOf_sound hh hy hsrc
                obtain ⟨olds, ho1, ho2, ho3, ho4⟩ := cells_at hb 0 B.c.len (by omega)
                have ho3' : Reads ρ B.c olds := by
                  obtain ⟨s1, s2⟩ := Cells.sub_sound B.c 0 B.c.len (by omega)
                  refine ⟨ho1.symm, fun j hj => ?_⟩
                  obtain ⟨u, u1, u2⟩ := ho3.2 j (by omega)
                  rw [s2 j hj, Nat.zero_add] at u2
                  exact ⟨u, u1, u2⟩
                have hreads : Reads ρ c' (olds ++ news) := Cells.app_sound hc' ho3' hn2
                have hlen : c'.len = (len + n) * te.size := by rw [hreads.1, List.length_append, ho1, h1, hn1, Nat.add_mul]
                have hone : ∀ u ∈ olds ++ news, u.oneCell' = true := fun u hu => (List.mem_append.1 hu).elim (ho4 u) (hn3 u)
                obtain ⟨cur, e', fr, hcur, hcells, hw⟩ := hb
                obtain ⟨rfl, _, rfl, hcs, hcm⟩ := hw.1 hwr
                have hcurtake : cur.toList.take (len * te.size) = olds := by
                  have hsize : len * te.size ≤ cur.size := by rw [hcs, hsz]; exact Nat.mul_le_mul_right _ hlc
                  apply List.ext_getElem?
                  intro j
                  rw [List.getElem?_take]
                  split
                  · rename_i hj
                    obtain ⟨u, hu⟩ : ∃ u, olds[j]? = some u := ⟨olds[j]'(by omega), List.getElem?_eq_getElem (by omega)⟩
                    have := ho2 j u hu
                    rw [Addr.add_lit, cell_of_row w _ _ cur B.e (0, 0) hcur, ho] at this
                    rw [hu]
                    simpa using this
                  · rename_i hj
                    exact (List.getElem?_eq_none (by omega)).symm
                have fin : ∀ (l' : Loc) (w' : World) (cs : Array Value), w'.heap[l'.b]? = some (.cells cs e (0, 0)) → cs.toList.take c'.len = olds ++ news → cs.size = l'.cap * te.size → l'.cap ≤ maxLen → l'.o = 0 →
                    BlkR (upd ρ H.length l') l' (newB e te.size c') w' := by
                  intro l' w' cs g1 g2 g3 g4 g5
                  have := blk_of_reads (ρ := upd ρ H.length l') (sz := te.size) (cap := l'.cap) (c := c') g1 (by rw [g2]; exact hreads.mono (upd_mono hh l')) (by rw [g2]; exact hone) g3 g4
                  have e1 : (⟨l'.b, 0, l'.cap⟩ : Loc) = l' := by cases l'; simp only at g5; subst g5; rfl
                  rw [e1] at this
                  exact this
                by_cases hn0 : n = 0
                · subst hn0
                  have hnews : news = [] := List.eq_nil_of_length_eq_zero (by simpa using hn1)
                  refine ⟨_, w, upd ρ H.length l, run_append_zero hu (hC.ty e te hte) _ _ _ _ _ hlc, ?_, Left.move hh hB hwr hl (WExt.refl w _) (fin l w cur (by rw [← hbe]; exact hcur) ?_ ?_ hcm ho) (.inl rfl)⟩
                  · simp only [V.R]
                    exact ⟨l, upd_at .., by simp, by omega, ho⟩
                  · rw [hlen, hnews]; simpa using hcurtake
                  · rw [hcs, hsz]
                · obtain ⟨ad, rfl, hn5⟩ := hn4 hn0
                  by_cases hroom : len + n ≤ l.cap
                  · have hrun := run_append_room (P := P) w t ty e inf hu hi l.b len l.cap cur (by rw [← hbe]; exact hcur) ad n cap news (by rw [hisz]; exact hn1) hn5 hn3 hroom
                      (by rw [hisz, hn1, hcs, hsz, ← Nat.add_mul]; exact Nat.mul_le_mul_right _ hroom)
                    have hfit : (len + n) * te.size ≤ cur.size := by rw [hcs, hsz]; exact Nat.mul_le_mul_right _ hroom
                    rw [Nat.add_mul] at hfit
                    refine ⟨_, _, upd ρ H.length l, hrun, ?_, Left.move hh hB hwr hl setRow_gr (fin l _ _ (setRow_heap w l.b cur _ e (0, 0) (by rw [← hbe]; exact hcur)) ?_ ?_ hcm ho) (.inl rfl)⟩
                    · simp only [V.R]
                      exact ⟨l, upd_at .., rfl, hroom, ho⟩
                    · rw [hisz, hcurtake, hlen]
                      simp only [List.append_assoc]
                      rw [← List.append_assoc, List.take_append_of_le_length (by simp [ho1, h1, hn1, Nat.add_mul])]
                      exact List.take_of_length_le (by simp [ho1, h1, hn1, Nat.add_mul])
                    · rw [hisz]
                      simp [hn1]
                      rw [← hsz, ← hcs]
                      rw [hsz]
                      omega
                  · have hrun := run_append_grow (P := P) w t ty e inf z hu hi hiz ⟨l.b, 0, none⟩ len l.cap olds (by rw [hisz, ho1, h1]) (by intro j v hj; have := ho2 j v hj; rw [ho] at this; exact this) ad n cap news
                      (by rw [hisz]; exact hn1) hn5 (by omega) (by omega) (growslice_fits (by omega) (by rw [hib]; omega))
                    have hcap := grownCap_le_maxLen w (len + n) l.cap e (by unfold maxLen; omega)
                    have hge := grownCap_ge w (len + n) l.cap e
                    refine ⟨_, _, upd ρ H.length ⟨w.heap.size, 0, grownCap w (len + n) l.cap e⟩, hrun, ?_, Left.move hh hB hwr hl ?_ (fin _ _ _ (heap_alloc_new w.drew _) ?_ ?_ hcap rfl) (.inr (Nat.le_refl _))⟩
                    · simp only [V.R]
                      exact ⟨_, upd_at .., rfl, hge, rfl⟩
                    · exact ⟨rfl, rfl, rfl, by simp, fun b hb _ => heap_alloc_old w.drew _ b hb⟩
                    · rw [hlen]
                      simp only [Array.toList_append, List.append_assoc]
                      rw [← List.append_assoc, List.take_append_of_le_length (by simp [ho1, h1, hn1, Nat.add_mul])]
                      exact List.take_of_length_le (by simp [ho1, h1, hn1, Nat.add_mul])
                    · simp only [Array.size_append, List.size_toArray, size_zeroCells, hzs, hn1, ho1, h1, ← Nat.add_mul]
                      congr 1
                      omega
              · cases h
            · cases h
          · cases h
        · cases h
      · cases h
    · cases h
  · cases h
end Go.Proofs.Ytkfpmiggolmabaa.Sx
