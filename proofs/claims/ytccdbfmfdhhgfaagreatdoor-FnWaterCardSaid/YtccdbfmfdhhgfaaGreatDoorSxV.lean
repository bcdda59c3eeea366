/- The abstract execution: strings.Split and strings.IndexByte, by their contracts. -/
import Derived.Test.YtccdbfmfdhhgfaaGreatDoorSxU
import Derived.Lib.Split
import Derived.Lib.SplitLaws
import Derived.Lib.Bytealg
import Derived.Test.YtccdbfmfdhhgfaaGreatDoorSxH
namespace Go.Proofs.YtccdbfmfdhhgfaaGreatDoor.Sx
open Go Go.RowKit
set_option linter.unusedVariables false
set_option linter.unusedSimpArgs false
variable {P : Program}
def splitL (s sep : ByteArray) : List ByteArray := Lib.splitB sep 0 (Lib.countB s sep) s
/-- gb: the block of the variable that it reads, one more; ts: the type of a string. -/
def splitC (gb : Nat) (ts : TypeId) : List V → Hp → T (V × Hp) := fun args H => match args with
  | [.st s, .st sep] => match hget H 0 with
    | some B => match B.wr, Nat.beq B.sz gb, B.c with
      | false, true, .vs [.it .i64 m] => .br (Nat.ble s.size 1048576 && Nat.ble 1 sep.size) (.leaf (.own H.length (splitL s sep).length, H ++ [some (newB ts 1 (.ss (splitL s sep)))])) .bad
      | _, _, _ => .bad
    | none => .bad
  | _ => .bad
theorem countB_small (s sep : ByteArray) (h : 1 ≤ sep.size) : Lib.countB s sep ≤ s.size := Lib.countB_le sep h s.size s (Nat.le_refl _)
theorem split_ok {f : FuncId} {fn : Func} {g : Nat} {ts : TypeId} (hf : P.funcs[f]? = some fn) (hbd : fn.body.isNone = false) (hname : (fn.name == "runtime.NumGoroutine") = false)
    (hS : ∀ (s sep : ByteArray) (m : Int) (w : World), s.size < 4294967281 → w.cell? ⟨g, 0, none⟩ = some (.int .i64 m) → 1 ≤ sep.size →
      Calls P f #[.string s, .string sep] w fun e w' => e = .returned (.slice (some ⟨w.heap.size, 0, none⟩) (Lib.countB s sep + 1) (Lib.countB s sep + 1)) ∧ w' = w.alloc (.cells ((Lib.splitB sep 0 (Lib.countB s sep) s).map Value.string).toArray ts)) : OKe P f (splitC (g + 1) ts) := by
  intro args H r h ρ w vs hargs hh
  unfold splitC at h
  split at h
  · rename_i s sep
    split at h
    · rename_i B hB
      split at h
      · rename_i m hwr hsz hc
        have hsz := Nat.eq_of_beq_eq_true hsz
        cases hq : (Nat.ble s.size 1048576 && Nat.ble 1 sep.size) with
        | false => rw [hq] at h; cases h
        | true =>
          rw [hq] at h
          cases h
          rw [Bool.and_eq_true] at hq
          obtain ⟨q1, q2⟩ := hq
          have q1 := Nat.le_of_ble_eq_true q1
          have q2 := Nat.le_of_ble_eq_true q2
          simp only [V.Rs] at hargs
          obtain ⟨y, ys, rfl, hy, z, zs, rfl, hz, rfl⟩ := hargs
          simp only [V.R] at hy hz
          subst hy
          subst hz
          obtain ⟨l, hl, cs, e, fr, h2, h3, h4, h5⟩ := hh.blk 0 B hB
          obtain ⟨h6, h7, _⟩ := h5 hwr (by omega)
          have hb : l.b = g := by omega
          obtain ⟨u, h8, _, h9⟩ := h3 0 (by rw [hc]; exact Nat.one_pos)
          have e1 : B.c.at 0 = .it .i64 m := by rw [hc]; rfl
          rw [e1] at h9
          simp only [V.R] at h9
          subst h9
          have hcell : w.cell? ⟨g, 0, none⟩ = some (.int .i64 m) := by
            rw [← hb]
            unfold World.cell?
            simp only [h2]
            rw [h7] at h8
            simpa using h8
          have hlen : (splitL s sep).length = Lib.countB s sep + 1 := Lib.splitB_all sep q2 0 _ s rfl
          have hcnt := countB_small s sep q2
          refine CallOK.of_calls hf hbd hname ((hS s sep m w (by omega) hcell q2).mono fun e w' ⟨he, hw⟩ => ⟨_, he, upd ρ H.length ⟨w.heap.size, 0, (splitL s sep).length⟩, ?_, ?_⟩)
          · simp only [V.R]
            exact ⟨_, upd_at .., by rw [hlen], Nat.le_refl _, rfl⟩
          · subst hw
            have htake : ((Lib.splitB sep 0 (Lib.countB s sep) s).map Value.string).toArray.toList.take (Cells.ss (splitL s sep)).len = (splitL s sep).map Value.string := by
              show List.take _ ((splitL s sep).map Value.string) = _
              exact List.take_of_length_le (by simp [Cells.len])
            refine Left.alloc hh (WExt.refl w _) rfl ?_ ?_ ?_ ?_
            · rw [htake]
              refine ⟨by simp [Cells.len], fun j hj => ?_⟩
              have hj' : j < (splitL s sep).length := hj
              refine ⟨.string (splitL s sep)[j], by simp [List.getElem?_map, List.getElem?_eq_getElem hj'], ?_⟩
              have e2 : (Cells.ss (splitL s sep)).at j = .st (splitL s sep)[j] := by
                show V.st ((splitL s sep).getD j _) = _
                rw [List.getD_eq_getElem?_getD, List.getElem?_eq_getElem hj']
                rfl
              rw [e2]
              simp only [V.R]
            · rw [htake]
              intro u hu
              obtain ⟨x, _, rfl⟩ := List.mem_map.1 hu
              rfl
            · show ((splitL s sep).map Value.string).toArray.size = _
              simp
            · rw [hlen]
              unfold maxLen
              omega
      · cases h
    · cases h
  · cases h
def indexByteC : List V → Hp → T V := fun args _ => match args with
  | [.st s, .it k c] => match ikEq k .u8 with
    | true => .leaf (.it .i64 (Lib.indexByte s.data.toList c.toNat.toUInt8))
    | false => .bad
  | _ => .bad
theorem indexByte_ok {f : FuncId} {fn : Func} (hf : P.funcs[f]? = some fn) (hbd : fn.body.isNone = false) (hname : (fn.name == "runtime.NumGoroutine") = false)
    (hI : ∀ (s : ByteArray) (c : Int) (w : World), Calls P f #[.string s, .int .u8 c] w fun e w' => e = .returned (.int .i64 (Lib.indexByte s.data.toList c.toNat.toUInt8)) ∧ w' = w) : OKq P f indexByteC := by
  intro args H v h ρ w vs hargs hh
  unfold indexByteC at h
  split at h
  · rename_i s k c
    split at h
    · rename_i hk
      have := ikEq_eq' hk
      subst this
      cases h
      simp only [V.Rs] at hargs
      obtain ⟨y, ys, rfl, hy, z, zs, rfl, hz, rfl⟩ := hargs
      simp only [V.R] at hy hz
      subst hy
      subst hz
      refine CallOK.of_calls hf hbd hname ((hI s c w).mono fun e w' ⟨he, hw⟩ => ⟨_, he, ?_, ?_, ?_⟩)
      · exact it_R rfl
      · rw [hw]; exact hh
      · rw [hw]; exact WExt.refl w _
    · cases h
  · cases h
/-- A variable that holds a number, as a block whose place is known. -/
theorem pinned {w : World} {g : Nat} {m : Int} (h : w.cell? ⟨g, 0, none⟩ = some (.int .i64 m)) (ρ : Nat → Option Loc) : BlkR ρ ⟨g, 0, 0⟩ ⟨false, 0, g + 1, .vs [.it .i64 m]⟩ w := by
  obtain ⟨cs, e, fr, h1, h2⟩ := cell_heap (x := ⟨g, 0, none⟩) (i := 0) rfl (by simpa [Addr.add] using h)
  refine ⟨cs, e, fr, h1, fun j hj => ?_, fun h => (by cases h), fun _ _ => ⟨rfl, rfl, fun h => absurd rfl h⟩⟩
  have hj : j = 0 := by
    have : j < 1 := hj
    omega
  subst hj
  exact ⟨_, h2, rfl, it_R rfl⟩
theorem HpR.ofBl {w : World} (l : List (Loc × Blk)) (h : ∀ p ∈ l, p.2.wr = false ∧ ∀ ρ, BlkR ρ p.1 p.2 w) : HpR (fun i => (lget l i).map (·.1)) (l.map fun p => some p.2) w := by
  have hg : ∀ (l : List (Loc × Blk)) i, hget (l.map fun p => some p.2) i = (lget l i).map (·.2) := by
    intro l
    induction l with
    | nil => intro i; rfl
    | cons p r ih =>
      intro i
      cases i with
      | zero => rfl
      | succ i => exact ih i
  refine ⟨?_, ?_, ?_⟩
  · intro i B hB
    rw [hg] at hB
    cases hl : lget l i with
    | none => rw [hl] at hB; cases hB
    | some p =>
      rw [hl] at hB
      cases hB
      refine ⟨p.1, by simp [hl], (h p ?_).2 _⟩
      rw [lget_eq] at hl
      exact List.mem_of_getElem? hl
  · intro i j B D l1 m hB hD hij hwr
    rw [hg] at hB
    cases hl : lget l i with
    | none => rw [hl] at hB; cases hB
    | some p =>
      rw [hl] at hB
      cases hB
      rw [lget_eq] at hl
      rw [(h p (List.mem_of_getElem? hl)).1] at hwr
      cases hwr
  · intro i hi
    have : lget l i = none := by
      rw [lget_eq]
      simpa using hi
    simp [this]
theorem rowIn_bl {w : World} {l : Loc} {c : Cells} (h : RowIn w l c) : (⟨false, 0, 0, c⟩ : Blk).wr = false ∧ ∀ ρ, BlkR ρ l ⟨false, 0, 0, c⟩ w := ⟨rfl, h⟩
theorem pinned_bl {w : World} {g : Nat} {m : Int} (h : w.cell? ⟨g, 0, none⟩ = some (.int .i64 m)) : (⟨false, 0, g + 1, .vs [.it .i64 m]⟩ : Blk).wr = false ∧ ∀ ρ, BlkR ρ ⟨g, 0, 0⟩ ⟨false, 0, g + 1, .vs [.it .i64 m]⟩ w := ⟨rfl, pinned h⟩
end Go.Proofs.YtccdbfmfdhhgfaaGreatDoor.Sx
