/- The abstract execution: slices.Clone and slices.Insert (of one number) at []int16, by their contracts. -/
import Derived.Test.YtkfpmiggolmabaaSxH
import Derived.Test.YtkfpmiggolmabaaIns
namespace Go.Proofs.Ytkfpmiggolmabaa.Sx
open Go Go.RowKit
set_option linter.unusedVariables false
set_option linter.unusedSimpArgs false
theorem setCells_row (b : Nat) (t : TypeId) (fr : Nat × Nat) : ∀ (vs : List Value) (o : Nat) (w : World) (cur : Array Value), w.heap[b]? = some (.cells cur t fr) → o + vs.length ≤ cur.size →
    w.setCells b o vs = w.setRow b (cur.toList.take o ++ vs ++ cur.toList.drop (o + vs.length)).toArray
  | [], o, w, cur, hg, hl => by
    have e : (cur.toList.take o ++ [] ++ cur.toList.drop (o + ([] : List Value).length)).toArray = cur := by simp
    rw [e, setRow_self w b cur t fr hg]
    rfl
  | v :: r, o, w, cur, hg, hl => by
    have hl' : o + 1 + r.length ≤ cur.size := by simp at hl; omega
    rw [World.setCells, setCell_eq_setRow w b o cur t fr v hg, setCells_row b t fr r (o + 1) _ _ (setRow_heap w b cur _ t fr hg) (by simpa using hl'), setRow_setRow]
    have e : cur.toList.set o v = cur.toList.take o ++ v :: cur.toList.drop (o + 1) := by
      rw [List.set_eq_take_append_cons_drop, if_pos (by simp; omega)]
    have ho : (cur.toList.take o).length = o := by simp; omega
    congr 2
    rw [Array.toList_setIfInBounds, e, List.take_append, List.drop_append, ho]
    have e1 : o + 1 - o = 1 := by omega
    have e2 : o + 1 + r.length - o = r.length + 1 := by omega
    rw [e1, e2, List.take_of_length_le (by omega : (cur.toList.take o).length ≤ o + 1), List.drop_of_length_le (by omega : (cur.toList.take o).length ≤ o + 1 + r.length)]
    simp only [List.take_succ_cons, List.take_zero, List.drop_succ_cons, List.drop_drop, List.nil_append, List.length_cons, List.append_assoc, List.cons_append]
    congr 4
    omega
/-- The numbers as they lie. -/
def i16s (xs : List Int) : List Value := xs.map (Value.int .i16)
theorem i16s_one {xs : List Int} : ∀ v ∈ i16s xs, v.oneCell' = true := by
  intro v hv
  obtain ⟨x, _, rfl⟩ := List.mem_map.1 hv
  rfl
theorem reads_i16s {ρ : Nat → Option Loc} (xs : List Int) : Reads ρ (.is .i16 xs) (i16s xs) := by
  refine ⟨by simp [Cells.len, i16s], fun j hj => ?_⟩
  have hj' : j < xs.length := hj
  refine ⟨.int .i16 xs[j], by simp [i16s, List.getElem?_eq_getElem hj'], ?_⟩
  have e2 : (Cells.is .i16 xs).at j = .it .i16 xs[j] := by
    show V.it .i16 (xs.getD j _) = _
    rw [List.getD_eq_getElem?_getD, List.getElem?_eq_getElem hj']
    rfl
  rw [e2]
  simp only [V.R]
theorem of_reads {ρ : Nat → Option Loc} {xs : List Int} {l : List Value} (h : Reads ρ (.is .i16 xs) l) : l = i16s xs := by
  obtain ⟨h1, h2⟩ := h
  have h1 : xs.length = l.length := h1
  apply List.ext_getElem?
  intro j
  by_cases hj : j < xs.length
  · obtain ⟨v, h3, h4⟩ := h2 j hj
    have e2 : (Cells.is .i16 xs).at j = .it .i16 xs[j] := by
      show V.it .i16 (xs.getD j _) = _
      rw [List.getD_eq_getElem?_getD, List.getElem?_eq_getElem hj]
      rfl
    rw [e2] at h4
    simp only [V.R] at h4
    subst h4
    rw [h3]
    simp [i16s, List.getElem?_eq_getElem hj]
  · rw [List.getElem?_eq_none (by omega), List.getElem?_eq_none (by simp [i16s]; omega)]
/-- The numbers with some laid in at a place. -/
def insI (xs : List Int) (i : Nat) (ys : List Int) : List Int := xs.take i ++ ys ++ xs.drop i
theorem insI_length (xs : List Int) (i : Nat) (ys : List Int) (h : i ≤ xs.length) : (insI xs i ys).length = xs.length + ys.length := by
  unfold insI
  simp
  omega
theorem insI_vals (xs : List Int) (i : Nat) (ys : List Int) : i16s (insI xs i ys) = (i16s xs).take i ++ i16s ys ++ (i16s xs).drop i := by
  unfold insI i16s
  simp [List.map_take, List.map_drop]
theorem ins_all (b n c i vb vc : Nat) (x : Int) (xs : List Int) (w : World) (cur curv : Array Value) (ev : TypeId) (hb : w.heap[b]? = some (.cells cur 56 (0, 0))) (hcs : cur.size = c) (hcm : c ≤ maxLen) (hxl : xs.length = n) (hnc : n ≤ c)
    (hcur : cur.toList.take n = i16s xs) (hv : w.heap[vb]? = some (.cells curv ev (0, 0))) (hv0 : curv[0]? = some (.int .i16 x)) (hne : vb ≠ b) (hi : i ≤ n) (hn : n ≤ 1048576) :
    Calls Try.prog 34 #[.slice (some ⟨b, 0, none⟩) n c, .int .i64 i, .slice (some ⟨vb, 0, none⟩) 1 vc] w fun e w' => ∃ (g c' : Nat) (cur' : Array Value), e = .returned (.slice (some ⟨g, 0, none⟩) (n + 1) c') ∧
      w'.heap[g]? = some (.cells cur' 56 (0, 0)) ∧ cur'.toList.take (n + 1) = i16s (insI xs i [x]) ∧ cur'.size = c' ∧ n + 1 ≤ c' ∧ c' ≤ maxLen ∧ (g = b ∨ w.heap.size ≤ g) ∧ WExt w (fun k => k = b) w' := by
  have hm : (140737488355328 : Nat) < maxLen := by unfold maxLen; omega
  have hml : maxLen = 9223372036854775807 := rfl
  have hbl : b < w.heap.size := (Array.getElem?_eq_some_iff.1 hb).1
  have hvl : vb < w.heap.size := (Array.getElem?_eq_some_iff.1 hv).1
  have hlen : (i16s xs).length = n := by simp [i16s, hxl]
  have hcell : ∀ j v, (i16s xs)[j]? = some v → w.cell? ⟨b, 0 + j, none⟩ = some v := by
    intro j v hj
    have hjn : j < n := by
      have := (List.getElem?_eq_some_iff.1 hj).1
      omega
    rw [← hcur, List.getElem?_take, if_pos hjn] at hj
    rw [cell_of_row w b _ cur 56 (0, 0) hb, Nat.zero_add]
    simpa using hj
  have hvs : ∀ j v, (i16s [x])[j]? = some v → w.cell? ⟨vb, 0 + j, none⟩ = some v := by
    intro j v hj
    have hj0 : j = 0 := by
      have := (List.getElem?_eq_some_iff.1 hj).1
      simp [i16s] at this
      omega
    subst hj0
    rw [cell_of_row w vb _ curv ev (0, 0) hv, Nat.zero_add, hv0]
    simpa [i16s] using hj
  have hsp : ∀ j, j < c → (w.cell? ⟨b, 0 + j, none⟩).isSome = true := by
    intro j hj
    rw [cell_of_row w b _ cur 56 (0, 0) hb, Nat.zero_add, Array.getElem?_eq_getElem (by omega)]
    rfl
  have hfz : ∀ k, w.frozen? ⟨b, k, none⟩ = false := by
    intro k
    simp [World.frozen?, hb]
  have hfv : ∀ k, w.frozen? ⟨vb, k, none⟩ = false := by
    intro k
    simp [World.frozen?, hv]
  have hvlen : (i16s [x]).length = 1 := rfl
  rcases Nat.lt_or_ge c (n + 1) with hroom | hroom
  · rcases Nat.lt_or_ge i n with hin | hin
    · refine (ins_grow b 0 n c i vb 0 1 vc (i16s xs) (i16s [x]) w hin (by omega) hnc hroom (by omega) hlen hvlen hcell hvs i16s_one i16s_one).mono fun e w' ⟨he, hw⟩ => ?_
      have hge := grownCap_ge w (n + 1) c 56
      have hcap := grownCap_le_maxLen w (n + 1) c 56 (by omega)
      generalize grownCap w (n + 1) c 56 = G at he hw hge hcap
      obtain ⟨ROW, hROW⟩ : ∃ ROW : Array Value, ROW = (((i16s xs).take i).toArray ++ Builtin.zeroCells (Value.int .i16 0).cells (n + 1 - i) ++ Builtin.zeroCells (Value.int .i16 0).cells (G - (n + 1))) := ⟨_, rfl⟩
      rw [← hROW] at hw
      have hRs : ROW.size = G := by
        rw [hROW]
        simp [Builtin.zeroCells, Value.cells, hlen]
        omega
      have hRi : ROW.toList.take i = (i16s xs).take i := by
        rw [hROW]
        simp only [Array.toList_append, List.append_assoc]
        rw [List.take_append_of_le_length (by simp [hlen]; omega)]
        exact List.take_of_length_le (by simp [hlen]; omega)
      have h0 : (w.alloc (.cells ROW 56)).drew.heap[w.heap.size]? = some (.cells ROW 56 (0, 0)) := heap_alloc_new w _
      have h1 := setCells_row w.heap.size 56 (0, 0) (i16s [x]) i _ ROW h0 (by rw [hvlen]; omega)
      rw [h1] at hw
      have h2 := setRow_heap _ w.heap.size ROW (ROW.toList.take i ++ i16s [x] ++ ROW.toList.drop (i + (i16s [x]).length)).toArray 56 (0, 0) h0
      rw [hRi] at h2 hw
      have h2' : ((w.alloc (.cells ROW 56)).drew.setRow w.heap.size ((i16s xs).take i ++ i16s [x] ++ ROW.toList.drop (i + (i16s [x]).length)).toArray).drew.heap[w.heap.size]? = _ := h2
      have hsz2 : ((i16s xs).take i ++ i16s [x] ++ ROW.toList.drop (i + (i16s [x]).length)).toArray.size = G := by
        simp [hvlen, hlen, hRs]
        omega
      have h3 := setCells_row w.heap.size 56 (0, 0) ((i16s xs).drop i) (i + 1) _ _ h2' (by rw [hsz2]; simp [hlen]; omega)
      rw [h3] at hw
      have h4 := setRow_heap _ w.heap.size _ (((i16s xs).take i ++ i16s [x] ++ ROW.toList.drop (i + (i16s [x]).length)).take (i + 1) ++ (i16s xs).drop i ++ ((i16s xs).take i ++ i16s [x] ++ ROW.toList.drop (i + (i16s [x]).length)).drop (i + 1 + ((i16s xs).drop i).length)).toArray 56 (0, 0) h2'
      have ht : ((i16s xs).take i ++ i16s [x] ++ ROW.toList.drop (i + (i16s [x]).length)).take (i + 1) = (i16s xs).take i ++ i16s [x] := by
        rw [List.take_append_of_le_length (by simp [hlen, hvlen]; omega)]
        exact List.take_of_length_le (by simp [hlen, hvlen]; omega)
      rw [ht] at h4 hw
      subst hw
      refine ⟨_, _, _, he, h4, ?_, ?_, hge, hcap, .inr (Nat.le_refl _), ?_⟩
      · rw [insI_vals]
        show List.take (n + 1) _ = _
        rw [List.take_append_of_le_length (by simp [hlen, hvlen]; omega)]
        exact List.take_of_length_le (by simp [hlen, hvlen]; omega)
      · simp [hlen, hvlen, hRs]
        omega
      · refine ⟨rfl, rfl, rfl, by simp, fun k hk hnk => ?_⟩
        rw [setRow_other _ _ _ _ (by omega)]
        show ((w.alloc (.cells ROW 56)).drew.setRow w.heap.size _).heap[k]? = _
        rw [setRow_other _ _ _ _ (by omega)]
        exact heap_alloc_old w _ hk
    · have hin : i = n := by omega
      subst hin
      refine (ins_end_grow b 0 i c vb 0 1 vc (i16s xs) (i16s [x]) w (by omega) hnc hroom (by omega) hlen hvlen hcell hvs i16s_one).mono fun e w' ⟨he, hw⟩ => ?_
      have hge := grownCap_ge w (i + 1) c 56
      have hcap := grownCap_le_maxLen w (i + 1) c 56 (by omega)
      subst hw
      refine ⟨_, _, _, he, heap_alloc_new w.drew _, ?_, ?_, hge, hcap, .inr (Nat.le_refl _), ?_⟩
      · rw [insI_vals, List.take_of_length_le (by omega : (i16s xs).length ≤ i), List.drop_of_length_le (by omega : (i16s xs).length ≤ i)]
        simp only [Array.toList_append, List.append_nil]
        rw [List.take_append_of_le_length (by simp [hlen, hvlen])]
        exact List.take_of_length_le (by simp [hlen, hvlen])
      · simp [Builtin.zeroCells, Value.cells, hlen, hvlen]
        omega
      · exact ⟨rfl, rfl, rfl, by simp, fun k hk _ => heap_alloc_old w.drew _ hk⟩
  · rcases Nat.lt_or_ge i n with hin | hin
    · refine (ins_shift b 0 n c i vb 0 1 vc (i16s xs) (i16s [x]) w hin (by omega) hroom (by omega) hne hlen hvlen hcell (fun j hj => hsp j (by omega)) (fun j _ => hfz _) hvs i16s_one i16s_one ev 56 curv.size cur.size
        (by simp [World.shape?, hv]) (by simp [World.shape?, hb]) (by omega) (hfv _) (hfv _)).mono fun e w' ⟨he, hw⟩ => ?_
      have h0 : w.drew.heap[b]? = some (.cells cur 56 (0, 0)) := hb
      have h1 := setCells_row b 56 (0, 0) ((i16s xs).drop i) (0 + (i + 1)) _ cur h0 (by simp [hlen]; omega)
      rw [h1] at hw
      have h2 := setRow_heap _ b cur (cur.toList.take (0 + (i + 1)) ++ (i16s xs).drop i ++ cur.toList.drop (0 + (i + 1) + ((i16s xs).drop i).length)).toArray 56 (0, 0) h0
      have hsz2 : (cur.toList.take (0 + (i + 1)) ++ (i16s xs).drop i ++ cur.toList.drop (0 + (i + 1) + ((i16s xs).drop i).length)).toArray.size = c := by
        simp [hlen, hcs]
        omega
      have h3 := setCells_row b 56 (0, 0) (i16s [x]) (0 + i) _ _ h2 (by rw [hsz2, hvlen]; omega)
      rw [h3] at hw
      have h4 := setRow_heap _ b _ ((cur.toList.take (0 + (i + 1)) ++ (i16s xs).drop i ++ cur.toList.drop (0 + (i + 1) + ((i16s xs).drop i).length)).toArray.toList.take (0 + i) ++ i16s [x] ++ (cur.toList.take (0 + (i + 1)) ++ (i16s xs).drop i ++ cur.toList.drop (0 + (i + 1) + ((i16s xs).drop i).length)).toArray.toList.drop (0 + i + (i16s [x]).length)).toArray 56 (0, 0) h2
      have ht : (cur.toList.take (0 + (i + 1)) ++ (i16s xs).drop i ++ cur.toList.drop (0 + (i + 1) + ((i16s xs).drop i).length)).toArray.toList.take (0 + i) = (i16s xs).take i := by
        show List.take (0 + i) (cur.toList.take (0 + (i + 1)) ++ (i16s xs).drop i ++ _) = _
        rw [List.append_assoc, List.take_append_of_le_length (by simp; omega), List.take_take, ← hcur, List.take_take]
        congr 1
        omega
      have hd : (cur.toList.take (0 + (i + 1)) ++ (i16s xs).drop i ++ cur.toList.drop (0 + (i + 1) + ((i16s xs).drop i).length)).toArray.toList.drop (0 + i + (i16s [x]).length) = (i16s xs).drop i ++ cur.toList.drop (0 + (i + 1) + ((i16s xs).drop i).length) := by
        show List.drop _ (cur.toList.take (0 + (i + 1)) ++ (i16s xs).drop i ++ _) = _
        have e : (cur.toList.take (0 + (i + 1))).length = 0 + i + (i16s [x]).length := by simp [hvlen]; omega
        rw [List.append_assoc, List.drop_append, e, Nat.sub_self, List.drop_zero, ← e, List.drop_length, List.nil_append]
      rw [ht, hd] at h4 hw
      subst hw
      refine ⟨_, _, _, he, h4, ?_, ?_, hroom, hcm, .inl rfl, ?_⟩
      · rw [insI_vals]
        show List.take (n + 1) _ = _
        rw [← List.append_assoc, List.take_append_of_le_length (by simp [hlen, hvlen]; omega)]
        exact List.take_of_length_le (by simp [hlen, hvlen]; omega)
      · simp [hlen, hvlen, hcs]
        omega
      · refine ⟨rfl, rfl, rfl, by simp, fun k hk hnk => ?_⟩
        rw [setRow_other _ _ _ _ hnk, setRow_other _ _ _ _ hnk]
        rfl
    · have hin : i = n := by omega
      subst hin
      refine (ins_end_room b 0 i c vb 0 1 vc (i16s [x]) w (by omega) hroom (by omega) hvlen (fun j hj => by rw [Nat.add_assoc]; exact hsp _ (by omega)) (fun j _ => hfz _) hvs i16s_one).mono fun e w' ⟨he, hw⟩ => ?_
      have h1 := setCells_row b 56 (0, 0) (i16s [x]) (0 + i) _ cur hb (by rw [hvlen]; omega)
      rw [h1] at hw
      have h4 := setRow_heap _ b cur (cur.toList.take (0 + i) ++ i16s [x] ++ cur.toList.drop (0 + i + (i16s [x]).length)).toArray 56 (0, 0) hb
      have ht : cur.toList.take (0 + i) = i16s xs := by rw [Nat.zero_add]; exact hcur
      rw [ht] at h4 hw
      subst hw
      refine ⟨_, _, _, he, h4, ?_, ?_, hroom, hcm, .inl rfl, setRow_gr⟩
      · rw [insI_vals, List.take_of_length_le (by omega : (i16s xs).length ≤ i), List.drop_of_length_le (by omega : (i16s xs).length ≤ i), List.append_nil]
        show List.take (i + 1) _ = _
        rw [List.take_append_of_le_length (by simp [hlen, hvlen])]
        exact List.take_of_length_le (by simp [hlen, hvlen])
      · simp [hlen, hvlen, hcs]
        omega
/-- A copy of a row of numbers that is not empty. -/
def cloneR (e : TypeId) (id off len : Nat) (H : Hp) : T (V × Hp) := match hget H id with
  | some B => match B.c with
    | .is .i16 xs => .br (Nat.ble 1 len && (Nat.ble len 1048576 && Nat.ble (off + len) xs.length)) (.leaf (.own H.length len, H ++ [some (newB e 1 (.is .i16 ((xs.drop off).take len)))])) .bad
    | _ => .bad
  | none => .bad
def cloneC (e : TypeId) : List V → Hp → T (V × Hp) := fun args H => match args with
  | [.sl id off len] => cloneR e id off len H
  | [.own id len] => cloneR e id 0 len H
  | _ => .bad
theorem clone_at {fn : Func} (hf : Try.prog.funcs[35]? = some fn) (hbd : fn.body.isNone = false) (hname : (fn.name == "runtime.NumGoroutine") = false) {H : Hp} {r : V × Hp} {ρ : Nat → Option Loc} {w : World} {id off len : Nat}
    (h : (cloneR 56 id off len H).get = some r) (hh : HpR ρ H w) {v : Value} (hv : ∀ l, ρ id = some l → len ≠ 0 → ∃ cap, v = .slice (some ⟨l.b, l.o + off, none⟩) len cap) :
    CallOK Try.prog 35 #[v] w fun c w' => ∃ ρ', V.R ρ' r.1 c ∧ Left ρ H w ρ' r.2 w' := by
  unfold cloneR at h
  split at h
  · rename_i B hB
    split at h
    · rename_i xs hc
      cases hq : (Nat.ble 1 len && (Nat.ble len 1048576 && Nat.ble (off + len) xs.length)) with
      | false => rw [hq] at h; cases h
      | true =>
        rw [hq] at h
        cases h
        rw [Bool.and_eq_true, Bool.and_eq_true] at hq
        obtain ⟨q1, q2, q3⟩ := hq
        have q1 := Nat.le_of_ble_eq_true q1
        have q2 := Nat.le_of_ble_eq_true q2
        have q3 := Nat.le_of_ble_eq_true q3
        obtain ⟨l, hl, hb⟩ := hh.blk id B hB
        obtain ⟨cap, rfl⟩ := hv l hl (by omega)
        obtain ⟨news, h3, h4, h5, h6⟩ := cells_at hb off len (by rw [hc]; exact q3)
        have h5' : Reads ρ (.is .i16 ((xs.drop off).take len)) news := by rw [hc] at h5; exact h5
        have hnews := of_reads h5'
        have hgrow := grownCap_le_maxLen (w.alloc (.cells #[] 56)) len 0 56 (by unfold maxLen; omega)
        have hge := grownCap_ge (w.alloc (.cells #[] 56)) len 0 56
        refine CallOK.of_calls hf hbd hname ((clone_calls l.b (l.o + off) len cap news w (by omega) (by omega) h3 (fun j v hj => by have := h4 j v hj; rwa [Addr.add_lit] at this) h6).mono fun e w' ⟨he, hw⟩ => ⟨_, he, upd ρ H.length ⟨w.heap.size + 1, 0, grownCap (w.alloc (.cells #[] 56)) len 0 56⟩, ?_, ?_⟩)
        · simp only [V.R]
          exact ⟨_, upd_at .., rfl, hge, rfl⟩
        · subst hw
          have hsz : (w.alloc (.cells #[] 56)).heap.size = w.heap.size + 1 := by simp
          have hnew : ((w.alloc (.cells #[] 56)).drew.alloc (.cells (news.toArray ++ Builtin.zeroCells (Value.int .i16 0).cells (grownCap (w.alloc (.cells #[] 56)) len 0 56 - len)) 56)).heap[w.heap.size + 1]? = some (.cells (news.toArray ++ Builtin.zeroCells (Value.int .i16 0).cells (grownCap (w.alloc (.cells #[] 56)) len 0 56 - len)) 56 (0, 0)) := by
            have := heap_alloc_new (w.alloc (.cells #[] 56)).drew (.cells (news.toArray ++ Builtin.zeroCells (Value.int .i16 0).cells (grownCap (w.alloc (.cells #[] 56)) len 0 56 - len)) 56)
            rw [show (w.alloc (.cells #[] 56)).drew.heap.size = w.heap.size + 1 from hsz] at this
            exact this
          have hlen : (Cells.is .i16 ((xs.drop off).take len)).len = len := by rw [h5'.1, h3]
          have htake : (news.toArray ++ Builtin.zeroCells (Value.int .i16 0).cells (grownCap (w.alloc (.cells #[] 56)) len 0 56 - len)).toList.take (Cells.is .i16 ((xs.drop off).take len)).len = news := by
            rw [hlen]
            simp [← h3]
          refine Left.new hh ?_ (blk_of_reads hnew (by rw [htake]; exact h5'.mono (upd_mono hh _)) (by rw [htake]; exact h6) ?_ hgrow) (Nat.le_succ _)
          · refine ⟨rfl, rfl, rfl, by simp; omega, fun k hk _ => ?_⟩
            rw [heap_alloc_old (w.alloc (.cells #[] 56)).drew _ (show k < (w.alloc (.cells #[] 56)).heap.size by omega)]
            exact heap_alloc_old w _ hk
          · simp [Builtin.zeroCells, Value.cells, h3]
            omega
    · cases h
  · cases h
theorem clone_ok {fn : Func} (hf : Try.prog.funcs[35]? = some fn) (hbd : fn.body.isNone = false) (hname : (fn.name == "runtime.NumGoroutine") = false) : OKe Try.prog 35 (cloneC 56) := by
  intro args H r h ρ w vs hargs hh
  unfold cloneC at h
  split at h
  · simp only [V.Rs] at hargs
    obtain ⟨y, ys, rfl, hy, rfl⟩ := hargs
    simp only [V.R] at hy
    obtain ⟨a, cap, rfl, hcap, ha⟩ := hy
    refine clone_at hf hbd hname h hh fun l hl hne => ?_
    obtain ⟨l', hl', rfl⟩ := ha hne
    rw [hl] at hl'
    cases hl'
    exact ⟨_, rfl⟩
  · simp only [V.Rs] at hargs
    obtain ⟨y, ys, rfl, hy, rfl⟩ := hargs
    simp only [V.R] at hy
    obtain ⟨l', hl', rfl, hcap, ho⟩ := hy
    refine clone_at hf hbd hname h hh fun l hl hne => ?_
    rw [hl] at hl'
    cases hl'
    exact ⟨_, by rw [ho]⟩
  · cases h
/-- A row of numbers with one laid in: the row of before is given up. -/
def insertC (e : TypeId) : List V → Hp → T (V × Hp) := fun args H => match args with
  | [.own id len, .it k i, .own jd m] => match ikEq k .i64, Nat.beq id jd, hget H id, hget H jd with
    | true, false, some B, some D => match B.wr, D.wr, Nat.beq B.e e && Nat.beq B.sz 1, B.c, D.c with
      | true, true, true, .is .i16 xs, .is .i16 ys => .br (Nat.beq len xs.length && (Nat.ble len 1048576 && (decide (0 ≤ i) && (Nat.ble i.toNat len && (Nat.beq m 1 && Nat.beq ys.length 1)))))
        (.leaf (.own H.length (len + 1), hset H id none ++ [some (newB e 1 (.is .i16 (insI xs i.toNat ys)))])) .bad
      | _, _, _, _, _ => .bad
    | _, _, _, _ => .bad
  | _ => .bad
theorem insert_ok {fn : Func} (hf : Try.prog.funcs[34]? = some fn) (hbd : fn.body.isNone = false) (hname : (fn.name == "runtime.NumGoroutine") = false) : OKe Try.prog 34 (insertC 56) := by
  intro args H r h ρ w vs hargs hh
  unfold insertC at h
  split at h
  · rename_i id len k i jd m
    split at h
    · rename_i B D hk hij hB hD
      split at h
      · rename_i xs ys hwB hwD hbe hcB hcD
        have hk := ikEq_eq hk
        subst hk
        have hij := Nat.ne_of_beq_eq_false hij
        cases hq : (Nat.beq len xs.length && (Nat.ble len 1048576 && (decide (0 ≤ i) && (Nat.ble i.toNat len && (Nat.beq m 1 && Nat.beq ys.length 1))))) with
        | false => rw [hq] at h; cases h
        | true =>
          rw [hq] at h
          cases h
          simp only [Bool.and_eq_true] at hq hbe
          obtain ⟨q1, q2, q3, q4, q5, q6⟩ := hq
          have q1 := Nat.eq_of_beq_eq_true q1
          have q2 := Nat.le_of_ble_eq_true q2
          have q3 := of_decide_eq_true q3
          have q4 := Nat.le_of_ble_eq_true q4
          have q5 := Nat.eq_of_beq_eq_true q5
          have q6 := Nat.eq_of_beq_eq_true q6
          have hBe := Nat.eq_of_beq_eq_true hbe.1
          have hBs := Nat.eq_of_beq_eq_true hbe.2
          obtain ⟨x, rfl⟩ : ∃ x, ys = [x] := by
            match ys, q6 with
            | [x], _ => exact ⟨x, rfl⟩
          subst q5
          simp only [V.Rs] at hargs
          obtain ⟨y, _, rfl, hy, z, _, rfl, hz, u, _, rfl, hu, rfl⟩ := hargs
          simp only [V.R] at hy hz hu
          obtain ⟨l, hl, rfl, hlc, ho⟩ := hy
          subst hz
          obtain ⟨l2, hl2, rfl, hlc2, ho2⟩ := hu
          obtain ⟨l', hl', hb⟩ := hh.blk id B hB
          rw [hl] at hl'
          cases hl'
          obtain ⟨l'', hl'', hd⟩ := hh.blk jd D hD
          rw [hl2] at hl''
          cases hl''
          have hne : l2.b ≠ l.b := fun e => hh.sep id jd B D l l2 hB hD hij hwB hl hl2 e.symm
          obtain ⟨news, h3, h4, h5, h6⟩ := cells_at hb 0 len (by rw [hcB, Nat.zero_add, q1]; exact Nat.le_refl _)
          have h5' : Reads ρ (.is .i16 ((xs.drop 0).take len)) news := by rw [hcB] at h5; exact h5
          rw [List.drop_zero, List.take_of_length_le (by omega)] at h5'
          have hnews := of_reads h5'
          obtain ⟨cur, e0, fr, hcur, _, hw⟩ := hb
          obtain ⟨rfl, _, rfl, hcs, hcm⟩ := hw.1 hwB
          obtain ⟨curv, e1, fr1, hcurv, hcells, hw1⟩ := hd
          obtain ⟨rfl, _, rfl, _, _⟩ := hw1.1 hwD
          obtain ⟨v0, hv0, _, hv1⟩ := hcells 0 (by rw [hcD]; exact Nat.one_pos)
          have e1 : D.c.at 0 = .it .i16 x := by rw [hcD]; rfl
          rw [e1] at hv1
          simp only [V.R] at hv1
          subst hv1
          rw [ho2] at hv0
          rw [hBe] at hcur
          rw [hBs, Nat.mul_one] at hcs
          have hcurt : cur.toList.take len = i16s xs := by
            rw [← hnews]
            apply List.ext_getElem?
            intro j
            rw [List.getElem?_take]
            split
            · rename_i hj
              obtain ⟨u, hu⟩ : ∃ u, news[j]? = some u := ⟨news[j]'(by omega), List.getElem?_eq_getElem (by omega)⟩
              have := h4 j u hu
              rw [Addr.add_lit, cell_of_row w _ _ cur 56 (0, 0) hcur, ho] at this
              rw [hu]
              simpa using this
            · rename_i hj
              exact (List.getElem?_eq_none (by omega)).symm
          have hi : (i.toNat : Int) = i := Int.toNat_of_nonneg q3
          have hcall := ins_all l.b len l.cap i.toNat l2.b l2.cap x xs w cur curv _ hcur hcs hcm q1.symm hlc hcurt hcurv hv0 hne q4 q2
          rw [hi] at hcall
          refine CallOK.of_calls hf hbd hname (hcall.mono fun e w' ⟨g, c', cur', he, g1, g2, g3, g4, g5, g6, g7⟩ => ⟨_, he, upd ρ H.length ⟨g, 0, c'⟩, ?_, ?_⟩)
          · simp only [V.R]
            exact ⟨_, upd_at .., rfl, g4, rfl⟩
          · have hlen : (Cells.is .i16 (insI xs i.toNat [x])).len = len + 1 := by
              show (insI xs i.toNat [x]).length = _
              rw [insI_length xs _ _ (by omega), q1]
              rfl
            refine Left.move hh hB hwB hl g7 (blk_of_reads g1 (by rw [hlen, g2]; exact (reads_i16s _).mono (upd_mono hh _)) (by rw [hlen, g2]; exact i16s_one) (by rw [g3, Nat.mul_one]) g5) g6
      · cases h
    · cases h
  · cases h
end Go.Proofs.Ytkfpmiggolmabaa.Sx
