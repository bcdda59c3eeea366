/- The abstract execution is sound: stores, slices made, append, conversions to strings. -/
import Derived.Test.YtkfpmiggolmabaaSx8
namespace Go.Proofs.Ytkfpmiggolmabaa.Sx
open Go Go.RowKit
set_option linter.unusedVariables false
set_option linter.unusedSimpArgs false
variable {P : Program}

/-- A block is written. -/
theorem Left.put {ρ : Nat → Option Loc} {H : Hp} {w w' : World} (hh : HpR ρ H w) {id : Nat} {B B' : Blk} {l : Loc} (hB : hget H id = some B) (hwr : B.wr = true) (hl : ρ id = some l) (hw : WExt w (fun b => b = l.b) w')
    (hb : BlkR ρ l B' w') (hwr' : B'.wr = true) : Left ρ H w ρ (hset H id (some B')) w' := by
  have hlt := hget_lt hB
  have hin : ∀ {i D}, hget (hset H id (some B')) i = some D → (i = id ∧ D = B') ∨ (i ≠ id ∧ hget H i = some D) := by
    intro i D hi
    by_cases e : i = id
    · subst e
      rw [hget_hset_same hlt] at hi
      cases hi
      exact .inl ⟨rfl, rfl⟩
    · rw [hget_hset_ne e] at hi
      exact .inr ⟨e, hi⟩
  refine ⟨⟨?_, ?_, ?_⟩, hw.mono fun b _ e => ⟨id, B, l, hB, hwr, hl, e.symm⟩, fun _ _ => rfl, ?_, by rw [hset_length]; exact Nat.le_refl _⟩
  · intro i D hi
    rcases hin hi with ⟨rfl, rfl⟩ | ⟨hne, hi⟩
    · exact ⟨l, hl, hb⟩
    · obtain ⟨m, h1, h2⟩ := hh.blk i D hi
      exact ⟨m, h1, h2.world (hw.old m.b h2.lt fun e => hh.sep id i B D l m hB hi (Ne.symm hne) hwr hl h1 e.symm)⟩
  · intro i j D E a b hi hj hij hd ha hb'
    rcases hin hi with ⟨rfl, rfl⟩ | ⟨hne, hio⟩
    · rcases hin hj with ⟨rfl, rfl⟩ | ⟨hne', hj⟩
      · exact absurd rfl hij
      · exact hh.sep i j B E a b hB hj hij hwr ha hb'
    · rcases hin hj with ⟨rfl, rfl⟩ | ⟨hne', hj⟩
      · exact hh.sep i j D B a b hio hB hij hd ha hb'
      · exact hh.sep i j D E a b hio hj hij hd ha hb'
  · intro i hi
    rw [hset_length] at hi
    exact hh.dom i hi
  · intro i D a hi ha
    rcases hin hi with ⟨rfl, rfl⟩ | ⟨hne, hi⟩
    · exact .inr (.inl ⟨i, B, a, hB, hwr, ha, rfl⟩)
    · cases hd : D.wr with
      | false => exact .inl ⟨rfl, D, hi⟩
      | true => exact .inr (.inl ⟨i, D, a, hi, hd, ha, rfl⟩)
/-- A block is given up for a new one, at its place or elsewhere. -/
theorem Left.move {ρ : Nat → Option Loc} {H : Hp} {w w' : World} (hh : HpR ρ H w) {id : Nat} {B B' : Blk} {l l' : Loc} (hB : hget H id = some B) (hwr : B.wr = true) (hl : ρ id = some l) (hw : WExt w (fun b => b = l.b) w')
    (hb : BlkR (upd ρ H.length l') l' B' w') (hl' : l'.b = l.b ∨ w.heap.size ≤ l'.b) : Left ρ H w (upd ρ H.length l') (hset H id none ++ [some B']) w' := by
  have hlt := hget_lt hB
  have hm := upd_mono hh l'
  have hlen : (hset H id none).length = H.length := hset_length ..
  have hlast : hget (hset H id none ++ [some B']) H.length = some B' := by
    rw [hget_app_ge (by rw [hlen]; exact Nat.le_refl _), hlen, Nat.sub_self]
    rfl
  have hin : ∀ {i D}, hget (hset H id none ++ [some B']) i = some D → (i = H.length ∧ D = B') ∨ (i < H.length ∧ i ≠ id ∧ hget H i = some D) := by
    intro i D hi
    rcases Nat.lt_or_ge i H.length with h1 | h1
    · rw [hget_app_lt (by rw [hlen]; exact h1)] at hi
      by_cases e : i = id
      · subst e
        rw [hget_hset_same hlt] at hi
        cases hi
      · rw [hget_hset_ne e] at hi
        exact .inr ⟨h1, e, hi⟩
    · have := hget_lt hi
      simp [hlen] at this
      have e : i = H.length := by omega
      subst e
      rw [hlast] at hi
      cases hi
      exact .inl ⟨rfl, rfl⟩
  have old : ∀ {i D a}, hget H i = some D → upd ρ H.length l' i = some a → ρ i = some a ∧ a.b < w.heap.size := by
    intro i D a h1 h3
    obtain ⟨m, h4, h5⟩ := hh.blk i D h1
    have := hm i m h4
    rw [h3] at this
    cases this
    exact ⟨h4, h5.lt⟩
  refine ⟨⟨?_, ?_, ?_⟩, hw.mono fun b _ e => ⟨id, B, l, hB, hwr, hl, e.symm⟩, ?_, ?_, by simp [hlen]⟩
  · intro i D hi
    rcases hin hi with ⟨rfl, rfl⟩ | ⟨h1, hne, hi⟩
    · exact ⟨l', upd_at .., hb⟩
    · obtain ⟨m, h2, h3⟩ := hh.blk i D hi
      exact ⟨m, hm i m h2, (h3.mono hm).world (hw.old m.b h3.lt fun e => hh.sep id i B D l m hB hi (Ne.symm hne) hwr hl h2 e.symm)⟩
  · intro i j D E a b hi hj hij hd ha hb'
    have far : ∀ {j E b}, j ≠ id → hget H j = some E → ρ j = some b → b.b < w.heap.size → l'.b ≠ b.b := by
      intro j E b h1 h2 h3 h4 e
      rcases hl' with h5 | h5
      · exact hh.sep id j B E l b hB h2 (Ne.symm h1) hwr hl h3 (h5.symm.trans e)
      · omega
    rcases hin hi with ⟨rfl, rfl⟩ | ⟨h1, hne, hio⟩
    · rw [upd_at] at ha; cases ha
      rcases hin hj with ⟨rfl, rfl⟩ | ⟨h1', hne', hj⟩
      · exact absurd rfl hij
      · obtain ⟨p1, p2⟩ := old hj hb'
        exact far hne' hj p1 p2
    · obtain ⟨q1, q2⟩ := old hio ha
      rcases hin hj with ⟨rfl, rfl⟩ | ⟨h1', hne', hj⟩
      · rw [upd_at] at hb'; cases hb'
        exact fun e => far hne hio q1 q2 e.symm
      · obtain ⟨p1, p2⟩ := old hj hb'
        exact hh.sep i j D E a b hio hj hij hd q1 p1
  · intro i hi
    simp [hlen] at hi
    unfold upd
    rw [if_neg (by omega)]
    exact hh.dom i (by omega)
  · intro i hi
    unfold upd
    rw [if_neg (by omega)]
  · intro i D a hi ha
    rcases hin hi with ⟨rfl, rfl⟩ | ⟨h1, hne, hi⟩
    · rw [upd_at] at ha; cases ha
      rcases hl' with h2 | h2
      · exact .inr (.inl ⟨id, B, l, hB, hwr, hl, h2.symm⟩)
      · exact .inr (.inr h2)
    · cases hd : D.wr with
      | false => exact .inl ⟨rfl, D, hi⟩
      | true => exact .inr (.inl ⟨i, D, a, hi, hd, (old hi ha).1, rfl⟩)
theorem Cells.set_sound {ρ : Nat → Option Loc} {c c' : Cells} {j : Nat} {v : V} {u : Value} (h : c.set j v = some c') (hr : V.R ρ v u) (hj : j < c.len) :
    c'.len = c.len ∧ V.R ρ (c'.at j) u ∧ ∀ i, i ≠ j → c'.at i = c.at i := by
  unfold Cells.set at h
  split at h
  · rename_i xs
    cases hc : v.cellOk with
    | false => rw [hc] at h; cases h
    | true =>
      rw [hc] at h
      cases h
      exact ⟨by simp [Cells.len, lset_length], by simp only [Cells.at]; rw [lgetD_lset_same hj]; exact hr, fun i hi => by simp only [Cells.at]; exact lgetD_lset_ne hi⟩
  · rename_i k xs k' c0
    cases hc : fkEq k k' with
    | false => rw [hc] at h; cases h
    | true =>
      rw [hc] at h
      cases h
      have := fkEq_eq hc
      subst this
      simp only [Cells.len] at hj
      refine ⟨by simp [Cells.len], ?_, fun i hi => ?_⟩
      · simp only [Cells.at]
        simpa [List.getD, List.getElem?_set, hj] using hr
      · simp only [Cells.at]
        simp [List.getD, List.getElem?_set, Ne.symm hi]
  · rename_i k xs k' c0
    cases hc : ikEq k k' with
    | false => rw [hc] at h; cases h
    | true =>
      rw [hc] at h
      cases h
      have := ikEq_eq hc
      subst this
      simp only [Cells.len] at hj
      refine ⟨by simp [Cells.len], ?_, fun i hi => ?_⟩
      · simp only [Cells.at]
        simpa [List.getD, List.getElem?_set, hj] using hr
      · simp only [Cells.at]
        simp [List.getD, List.getElem?_set, Ne.symm hi]
  · cases h
    simp only [Cells.len] at hj
    refine ⟨by simp [Cells.len], ?_, fun i hi => ?_⟩
    · simp only [Cells.at]
      simpa [List.getD, List.getElem?_set, hj] using hr
    · simp only [Cells.at]
      simp [List.getD, List.getElem?_set, Ne.symm hi]
  · cases h
    simp only [Cells.len] at hj
    refine ⟨by simp [Cells.len], ?_, fun i hi => ?_⟩
    · simp only [Cells.at]
      simp only [V.R] at hr ⊢
      simpa [List.getD, List.getElem?_set, hj] using hr
    · simp only [Cells.at]
      simp [List.getD, List.getElem?_set, Ne.symm hi]
  · cases h
    simp only [Cells.len] at hj
    refine ⟨by simp [Cells.len], ?_, fun i hi => ?_⟩
    · simp only [Cells.at]
      simpa [List.getD, List.getElem?_set, hj] using hr
    · simp only [Cells.at]
      simp [List.getD, List.getElem?_set, Ne.symm hi]
  · cases h
theorem setRange_sound {ρ : Nat → Option Loc} : ∀ {vs : List V} {us : List Value} {c c' : Cells} {off : Nat}, setRange c off vs = some c' → V.Rs ρ vs us → off + vs.length ≤ c.len →
    c'.len = c.len ∧ (∀ j, j < vs.length → ∃ u, us[j]? = some u ∧ V.R ρ (c'.at (off + j)) u) ∧ ∀ i, (i < off ∨ off + vs.length ≤ i) → c'.at i = c.at i
  | [], us, c, c', off, h, hr, hl => by
    cases h
    exact ⟨rfl, fun j hj => by simp at hj, fun i _ => rfl⟩
  | v :: vs, us, c, c', off, h, hr, hl => by
    simp only [V.Rs] at hr
    obtain ⟨u, us', rfl, h1, h2⟩ := hr
    simp only [setRange] at h
    cases hs : c.set off v with
    | none => rw [hs] at h; cases h
    | some c1 =>
      rw [hs] at h
      simp only [List.length_cons] at hl
      obtain ⟨p1, p2, p3⟩ := Cells.set_sound hs h1 (by omega)
      obtain ⟨q1, q2, q3⟩ := setRange_sound (off := off + 1) h h2 (by omega)
      refine ⟨q1.trans p1, fun j hj => ?_, fun i hi => ?_⟩
      · cases j with
        | zero => exact ⟨u, rfl, by rw [Nat.add_zero, q3 off (.inl (by omega))]; exact p2⟩
        | succ j =>
          obtain ⟨u', h3, h4⟩ := q2 j (by simpa using hj)
          refine ⟨u', by simpa using h3, ?_⟩
          rw [show off + (j + 1) = off + 1 + j by omega]
          exact h4
      · simp only [List.length_cons] at hi
        rw [q3 i (by omega), p3 i (by omega)]
theorem setRow_gr {w : World} {g : Nat} {cs : Array Value} : WExt w (fun b => b = g) (w.setRow g cs) :=
  ⟨rfl, rfl, rfl, by simp, fun b _ hn => setRow_other w g b cs hn⟩
theorem store_sound {ρ : Nat → Option Loc} {H : Hp} {w : World} (hh : HpR ρ H w) {t : TypeId} {ti : TI} (ht : TyOK P t ti) {id off : Nat} {B : Blk} {l : Loc} {cs : List V} {c' : Cells} {x : Value} (hB : hget H id = some B) (hwr : B.wr = true)
    (hl : ρ id = some l) (hx : V.Rs ρ cs x.cells.toList) (hok : allCellOk cs = true) (hsz : cs.length = ti.size)
    (hcells : c'.len = B.c.len ∧ (∀ j, j < cs.length → ∃ u, x.cells.toList[j]? = some u ∧ V.R ρ (c'.at (off + j)) u) ∧ ∀ i, i < B.c.len → (i < off ∨ off + cs.length ≤ i) → c'.at i = B.c.at i) (hfit : off + cs.length ≤ B.c.len) :
    ∃ w', (storeVar t ⟨l.b, l.o + off, none⟩ x).run P w = .ok () w' ∧ Left ρ H w ρ (hset H id (some { B with c := c' })) w' := by
  obtain ⟨l', hl', hb⟩ := hh.blk id B hB
  rw [hl] at hl'; cases hl'
  obtain ⟨cur, e, fr, h1, h2, h3⟩ := hb
  obtain ⟨rfl, ho, rfl, hcs, hcap⟩ := h3.1 hwr
  have hlx := V.Rs_length hx
  have hlen : B.c.len ≤ cur.size := by
    rcases Nat.eq_zero_or_pos B.c.len with h0 | h0
    · omega
    · obtain ⟨v, hv, _⟩ := h2 (B.c.len - 1) (by omega)
      rw [ho] at hv
      have := (Array.getElem?_eq_some_iff.1 hv).1
      omega
  have hst := run_storeCells_at P l.b off B.e x.cells.toList 0 cur w h1 (by simp at hlx ⊢; omega) (allCellOk_one hok hx)
  simp only [Nat.add_zero] at hst
  refine ⟨w.setRow l.b (cur.toList.take off ++ x.cells.toList ++ cur.toList.drop (off + x.cells.toList.length)).toArray, ?_, Left.put hh hB hwr hl setRow_gr ?_ hwr⟩
  · have hsize : x.cells.size = ti.size := by simp at hlx; omega
    unfold storeVar
    rw [Sem.run_bind, run_sizeOf_sx ht, Result.andThen_ok, if_neg (by simp [hsize]), ho, Nat.zero_add]
    exact hst
  · obtain ⟨p1, p2, p3⟩ := hcells
    have hall : (cur.toList.take off ++ x.cells.toList ++ cur.toList.drop (off + x.cells.toList.length)).length = cur.size := by
      simp at hlx ⊢; omega
    refine ⟨_, B.e, (0, 0), setRow_heap w l.b cur _ B.e (0, 0) h1, fun j hj => ?_, fun _ => ⟨rfl, ho, rfl, by rw [← hcs]; simpa using hall, hcap⟩, fun h => (by have h' : B.wr = false := h; rw [hwr] at h'; cases h')⟩
    have hj' : j < B.c.len := by rw [← p1]; exact hj
    rw [ho, Nat.zero_add]
    by_cases h4 : off ≤ j ∧ j < off + cs.length
    · obtain ⟨u, h5, h6⟩ := p2 (j - off) (by omega)
      refine ⟨u, ?_, allCellOk_one hok hx u (List.mem_of_getElem? h5), by rw [show off + (j - off) = j by omega] at h6; exact h6⟩
      have h7 : (cur.toList.take off ++ x.cells.toList ++ cur.toList.drop (off + x.cells.toList.length))[j]? = some u := by
        rw [List.append_assoc, List.getElem?_append_right (by simp; omega), List.getElem?_append_left (by simp at hlx ⊢; omega)]
        rw [← h5]
        congr 1
        simp; omega
      simpa using h7
    · obtain ⟨v, h5, h6, h7⟩ := h2 j hj'
      rw [ho, Nat.zero_add] at h5
      refine ⟨v, ?_, h6, by rw [p3 j hj' (by omega)]; exact h7⟩
      have h5' : cur.toList[j]? = some v := by simpa using h5
      have h8 : (cur.toList.take off ++ x.cells.toList ++ cur.toList.drop (off + x.cells.toList.length))[j]? = some v := by
        rcases Nat.lt_or_ge j off with h9 | h9
        · rw [List.append_assoc, List.getElem?_append_left (by simp; omega), List.getElem?_take, if_pos h9]
          exact h5'
        · rw [List.getElem?_append_right (by simp at hlx ⊢; omega), List.getElem?_drop]
          rw [← h5']
          congr 1
          simp at hlx ⊢; omega
      simpa using h8
theorem lgetD_repV (zero : List V) (hz : 0 < zero.length) : ∀ (n j : Nat), j < n * zero.length → lgetD .unk (repV zero n) j = lgetD .unk zero (j % zero.length)
  | 0, j, h => by omega
  | n + 1, j, h => by
    simp only [repV]
    rcases Nat.lt_or_ge j zero.length with h1 | h1
    · rw [lgetD_eq, lgetD_eq, Nat.mod_eq_of_lt h1, List.getD, List.getElem?_append_left h1]
      rfl
    · have ih := lgetD_repV zero hz n (j - zero.length) (by rw [Nat.add_mul] at h; omega)
      rw [lgetD_eq, List.getD, List.getElem?_append_right h1, ← List.getD, ← lgetD_eq, ih]
      congr 1
      exact (Nat.mod_eq_sub_mod h1).symm
theorem repV_length (zero : List V) : ∀ n, (repV zero n).length = n * zero.length
  | 0 => by simp [repV]
  | n + 1 => by simp [repV, repV_length zero n, Nat.add_mul]; omega
theorem zeros_R {ρ : Nat → Option Loc} {zero : List V} {z : Array Value} (hz : V.Rs ρ zero z.toList) (n : Nat) (m : Nat) (hm : m = n * zero.length) :
    V.Rs ρ (repV zero n) ((Array.range m).map (z[· % z.size]!)).toList := by
  subst hm
  have hl := V.Rs_length hz
  refine V.Rs_of_get (by rw [repV_length]; simp) fun j hj => ?_
  rw [repV_length] at hj
  have hz0 : 0 < zero.length := by
    rcases Nat.eq_zero_or_pos zero.length with h | h
    · rw [h] at hj; simp at hj
    · exact h
  rw [lgetD_repV zero hz0 n j hj]
  obtain ⟨c, h1, h2⟩ := V.Rs_get hz (j % zero.length) (Nat.mod_lt _ hz0)
  refine ⟨c, ?_, h2⟩
  have hzs : z.size = zero.length := by simpa using hl.symm
  have h1' : z[j % zero.length]? = some c := by simpa using h1
  have hzlt : j % zero.length < z.size := by rw [hzs]; exact Nat.mod_lt _ hz0
  have h1'' : z[j % zero.length] = c := by
    rw [Array.getElem?_eq_getElem hzlt] at h1'
    exact Option.some.inj h1'
  have hbang : z[j % z.size]! = c := by
    rw [hzs, getElem!_pos z _ hzlt]
    exact h1''
  rw [← hbang]
  simp [hj]
theorem zeroRow_sound {ρ : Nat → Option Loc} {zero : List V} {n : Nat} {c : Cells} {l : List Value} (h : zeroRow zero n = some c) (hr : V.Rs ρ (repV zero n) l) : Reads ρ c l := by
  have hlen := V.Rs_length hr
  have get : ∀ j, j < n * zero.length → ∃ u, l[j]? = some u ∧ V.R ρ (lgetD .unk zero (j % zero.length)) u := by
    intro j hj
    obtain ⟨u, h1, h2⟩ := V.Rs_get hr j (by rw [repV_length]; exact hj)
    have hz0 : 0 < zero.length := by
      rcases Nat.eq_zero_or_pos zero.length with h | h
      · rw [h] at hj; simp at hj
      · exact h
    rw [lgetD_repV zero hz0 n j hj] at h2
    exact ⟨u, h1, h2⟩
  rw [repV_length] at hlen
  unfold zeroRow at h
  split at h
  · rename_i k c0 r
    split at h
    · rename_i cs hcs
      cases hall : cs.all (Nat.beq c0) with
      | false => rw [hall] at h; cases h
      | true =>
        rw [hall] at h
        cases h
        have hfs : rowFs k (.fl k c0 :: r) = some (c0 :: cs) := by simp only [rowFs, hcs]; cases k <;> rfl
        have hlr : r.length = cs.length := by
          have key : ∀ (r : List V) (cs : List Nat), rowFs k r = some cs → r.length = cs.length := by
            intro r
            induction r with
            | nil => intro cs h; cases h; rfl
            | cons x r ih =>
              intro cs h
              cases x <;> simp only [rowFs, reduceCtorEq] at h
              split at h
              · rename_i ys _ hys
                cases h
                simp [ih _ hys]
              · cases h
          exact key r cs hcs
        refine ⟨by simp only [Cells.len, List.length_replicate]; simp [← hlr] at hlen ⊢; exact hlen, fun j hj => ?_⟩
        simp only [Cells.len, List.length_replicate] at hj
        obtain ⟨u, h1, h2⟩ := get j (by simp [hlr]; exact hj)
        refine ⟨u, h1, ?_⟩
        have hval : lgetD .unk (V.fl k c0 :: r) (j % (V.fl k c0 :: r).length) = .fl k c0 := by
          have key : ∀ (r : List V) (cs : List Nat), rowFs k r = some cs → cs.all (Nat.beq c0) = true → ∀ i, i < r.length → lgetD .unk r i = .fl k c0 := by
            intro r
            induction r with
            | nil => intro cs _ _ i hi; simp at hi
            | cons x r ih =>
              intro cs h ha i hi
              cases x <;> simp only [rowFs, reduceCtorEq] at h
              rename_i k' c'
              split at h
              · rename_i ys hk hys
                cases h
                simp only [List.all_cons, Bool.and_eq_true] at ha
                cases i with
                | zero =>
                  have h1 := fkEq_eq hk
                  have h2 : c0 = c' := Nat.eq_of_beq_eq_true ha.1
                  simp only [lgetD, h1, h2]
                | succ i => exact ih ys hys ha.2 i (by simpa using hi)
              · cases h
          exact key _ _ hfs (by simp only [List.all_cons, Bool.and_eq_true]; exact ⟨Nat.beq_refl c0, hall⟩) _ (Nat.mod_lt _ (by simp))
        rw [hval] at h2
        simp only [Cells.at, List.getD, List.getElem?_replicate, hj, if_true, Option.getD_some]
        exact h2
    · cases h
  · rename_i k c0 r
    split at h
    · rename_i cs hcs
      cases hall : cs.all (· == c0) with
      | false => rw [hall] at h; cases h
      | true =>
        rw [hall] at h
        cases h
        have hfs : rowIs k (.it k c0 :: r) = some (c0 :: cs) := by simp only [rowIs, hcs]; cases k <;> rfl
        have hlr : r.length = cs.length := by
          have key : ∀ (r : List V) (cs : List Int), rowIs k r = some cs → r.length = cs.length := by
            intro r
            induction r with
            | nil => intro cs h; cases h; rfl
            | cons x r ih =>
              intro cs h
              cases x <;> simp only [rowIs, reduceCtorEq] at h
              split at h
              · rename_i ys _ hys
                cases h
                simp [ih _ hys]
              · cases h
          exact key r cs hcs
        refine ⟨by simp only [Cells.len, List.length_replicate]; simp [← hlr] at hlen ⊢; exact hlen, fun j hj => ?_⟩
        simp only [Cells.len, List.length_replicate] at hj
        obtain ⟨u, h1, h2⟩ := get j (by simp [hlr]; exact hj)
        refine ⟨u, h1, ?_⟩
        have hval : lgetD .unk (V.it k c0 :: r) (j % (V.it k c0 :: r).length) = .it k c0 := by
          have key : ∀ (r : List V) (cs : List Int), rowIs k r = some cs → cs.all (· == c0) = true → ∀ i, i < r.length → lgetD .unk r i = .it k c0 := by
            intro r
            induction r with
            | nil => intro cs _ _ i hi; simp at hi
            | cons x r ih =>
              intro cs h ha i hi
              cases x <;> simp only [rowIs, reduceCtorEq] at h
              rename_i k' c'
              split at h
              · rename_i ys hk hys
                cases h
                simp only [List.all_cons, Bool.and_eq_true] at ha
                cases i with
                | zero =>
                  have h1 := ikEq_eq hk
                  have h2 : c' = c0 := by simpa using ha.1
                  simp only [lgetD, h1, h2]
                | succ i => exact ih ys hys ha.2 i (by simpa using hi)
              · cases h
          exact key _ _ hfs (by simp only [List.all_cons, Bool.and_eq_true]; exact ⟨by simp, hall⟩) _ (Nat.mod_lt _ (by simp))
        rw [hval] at h2
        simp only [Cells.at, List.getD, List.getElem?_replicate, hj, if_true, Option.getD_some]
        exact h2
    · cases h
  · rename_i x
    cases h
    simp only [List.length_cons, List.length_nil, Nat.zero_add, Nat.mul_one] at hlen get
    refine ⟨by simp only [Cells.len, List.length_replicate]; exact hlen, fun j hj => ?_⟩
    simp only [Cells.len, List.length_replicate] at hj
    obtain ⟨u, h1, h2⟩ := get j hj
    refine ⟨u, h1, ?_⟩
    rw [Nat.mod_one] at h2
    simp only [Cells.at, List.getD, List.getElem?_replicate, hj, if_true, Option.getD_some]
    simpa only [lgetD, V.R] using h2
  · rename_i x
    cases h
    simp only [List.length_cons, List.length_nil, Nat.zero_add, Nat.mul_one] at hlen get
    refine ⟨by simp only [Cells.len, List.length_replicate]; exact hlen, fun j hj => ?_⟩
    simp only [Cells.len, List.length_replicate] at hj
    obtain ⟨u, h1, h2⟩ := get j hj
    refine ⟨u, h1, ?_⟩
    rw [Nat.mod_one] at h2
    simp only [Cells.at, List.getD, List.getElem?_replicate, hj, if_true, Option.getD_some]
    exact h2
  · cases h
end Go.Proofs.Ytkfpmiggolmabaa.Sx
