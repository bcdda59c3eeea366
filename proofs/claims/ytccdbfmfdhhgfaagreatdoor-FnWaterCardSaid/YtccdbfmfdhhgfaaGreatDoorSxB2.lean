/- The abstract execution: impl.count, by its contract (it reads variables of the library). -/
import Derived.Test.YtccdbfmfdhhgfaaGreatDoorSxV
import Derived.Test.YtccdbfmfdhhgfaaGreatDoorSxB1
import Derived.Lib.LaidTab
namespace Go.Proofs.YtccdbfmfdhhgfaaGreatDoor.Sx
open Go Go.RowKit
set_option linter.unusedVariables false
set_option linter.unusedSimpArgs false
variable {P : Program}
/-- Block i is the variable g, which holds an interface value. -/
def erAt (H : Hp) (i g : Nat) : Bool := match hget H i with
  | some B => match B.wr, Nat.beq B.sz (g + 1), B.c with
    | false, true, .vs [.er] => true
    | _, _, _ => false
  | none => false
/-- Block i is the variable g, which is a row of n numbers. -/
def tabAt (H : Hp) (i g n : Nat) : Option (List Int) := match hget H i with
  | some B => match B.wr, Nat.beq B.sz (g + 1), Nat.beq B.e (n + 1), B.c with
    | false, true, true, .is .u64 zs => some zs
    | _, _, _, _ => none
  | none => none
theorem erAt_cell {H : Hp} {i g : Nat} {ρ : Nat → Option Loc} {w : World} (hh : HpR ρ H w) (h : erAt H i g = true) : ∃ v, w.cell? ⟨g, 0, none⟩ = some v ∧ (v = .nilIface ∨ ∃ t p, v = .iface t p) := by
  unfold erAt at h
  split at h
  · rename_i B hB
    split at h
    · rename_i hwr hsz hc
      have hsz := Nat.eq_of_beq_eq_true hsz
      obtain ⟨l, hl, cs, e, fr, h2, h3, h4, h5⟩ := hh.blk i B hB
      obtain ⟨h6, h7, _⟩ := h5 hwr (by omega)
      have hb : l.b = g := by omega
      obtain ⟨u, h8, _, h9⟩ := h3 0 (by rw [hc]; exact Nat.one_pos)
      have e1 : B.c.at 0 = .er := by rw [hc]; rfl
      rw [e1] at h9
      simp only [V.R] at h9
      refine ⟨u, ?_, h9⟩
      rw [← hb]
      unfold World.cell?
      simp only [h2]
      rw [h7] at h8
      simpa using h8
    · cases h
  · cases h
theorem tabAt_var {H : Hp} {i g n : Nat} {zs : List Int} {ρ : Nat → Option Loc} {w : World} {name : String} (hh : HpR ρ H w) (h : tabAt H i g n = some zs) (hlen : zs.length = n) (hn : P.globalNamed name = some g) : Lib.TabIs P w name .u64 zs := by
  unfold tabAt at h
  split at h
  · rename_i B hB
    split at h
    · rename_i zs' hwr hsz hse hc
      cases h
      have hsz := Nat.eq_of_beq_eq_true hsz
      have hse := Nat.eq_of_beq_eq_true hse
      obtain ⟨l, hl, cs, e, fr, h2, h3, h4, h5⟩ := hh.blk i B hB
      obtain ⟨h6, h7, h8⟩ := h5 hwr (by omega)
      have hb : l.b = g := by omega
      have hsize : cs.size = n := by
        have h9 : cs.size + 1 = n + 1 := (h8 (by rw [hse]; exact Nat.succ_ne_zero n)).trans hse
        omega
      unfold Lib.TabIs World.var?
      rw [hn, Option.bind_some, ← hb, h2]
      refine congrArg some (Array.ext (by simp [hsize, hlen]) fun j h9 h10 => ?_)
      have hj : j < B.c.len := by rw [hc]; show j < zs.length; omega
      obtain ⟨u, k1, _, k3⟩ := h3 j hj
      have e1 : B.c.at j = .it .u64 (zs.getD j 0) := by rw [hc]; rfl
      rw [e1] at k3
      simp only [V.R] at k3
      subst k3
      rw [h7, Nat.zero_add, Array.getElem?_eq_getElem h9] at k1
      have hz : zs.getD j 0 = zs[j] := by simp [List.getD, List.getElem?_eq_getElem (show j < zs.length by omega)]
      rw [hz] at k1
      have := Option.some.inj k1
      rw [this]
      simp
    · cases h
  · cases h
def countC (gs gr gp : Nat) : List V → Hp → T V := fun args H => match args with
  | [.st s] => match erAt H 1 gs && erAt H 2 gr, tabAt H 3 gp 20 with
    | true, some zs => .br (Nat.ble s.size 1048576 && decide (zs = Lib.pow10Tab)) (.leaf (.tup [.it .i16 (numOf 32767 (Lib.parseUintB 15 s.data.toList) : Nat), .bo (counts s)])) .bad
    | _, _ => .bad
  | _ => .bad
theorem count_ok {f : FuncId} {fn : Func} {gs gr gp : Nat} (hf : P.funcs[f]? = some fn) (hbd : fn.body.isNone = false) (hname : (fn.name == "runtime.NumGoroutine") = false) (hn : P.globalNamed "internal/strconv.uint64pow10" = some gp)
    (hC : ∀ (t : ByteArray) (ev0 ev1 : Value) (w : World), t.size ≤ 281474976710656 → w.cell? ⟨gs, 0, none⟩ = some ev0 → (ev0 = .nilIface ∨ ∃ te pe, ev0 = .iface te pe) → w.cell? ⟨gr, 0, none⟩ = some ev1 → (ev1 = .nilIface ∨ ∃ te pe, ev1 = .iface te pe) → Lib.TabIs P w "internal/strconv.uint64pow10" .u64 Lib.pow10Tab →
      Calls P f #[.string t] w fun e w' => e = .returned (.tuple #[.int .i16 (numOf 32767 (Lib.parseUintB 15 t.data.toList)), .bool (counts t)]) ∧ Below w.heap.size w w') : OKq P f (countC gs gr gp) := by
  intro args H v h ρ w vs hargs hh
  unfold countC at h
  split at h
  · rename_i s
    split at h
    · rename_i zs he ht
      cases hq : (Nat.ble s.size 1048576 && decide (zs = Lib.pow10Tab)) with
      | false => rw [hq] at h; cases h
      | true =>
        rw [hq] at h
        cases h
        rw [Bool.and_eq_true] at hq he
        obtain ⟨q1, q2⟩ := hq
        have q1 := Nat.le_of_ble_eq_true q1
        have q2 := of_decide_eq_true q2
        subst q2
        obtain ⟨ev0, c0, d0⟩ := erAt_cell hh he.1
        obtain ⟨ev1, c1, d1⟩ := erAt_cell hh he.2
        have tab := tabAt_var (P := P) hh ht (by decide) hn
        simp only [V.Rs] at hargs
        obtain ⟨y, ys, rfl, hy, rfl⟩ := hargs
        simp only [V.R] at hy
        subst hy
        refine CallOK.of_calls hf hbd hname ((hC s ev0 ev1 w (by omega) c0 d0 c1 d1 tab).mono fun e w' ⟨he, hb⟩ => ⟨_, he, ?_, hh.below hb, WExt.of_below hb⟩)
        simp only [V.R]
        refine ⟨_, rfl, ?_⟩
        simp only [V.Rs, V.R]
        exact ⟨_, _, rfl, rfl, _, _, rfl, rfl, rfl⟩
    · cases h
  · cases h
/-- The variables, as blocks whose places are known. -/
theorem pinned_er {w : World} {g : Nat} {v : Value} (h : w.cell? ⟨g, 0, none⟩ = some v) (hv : ∃ t p, v = .iface t p) : (⟨false, 0, g + 1, .vs [.er]⟩ : Blk).wr = false ∧ ∀ ρ, BlkR ρ ⟨g, 0, 0⟩ ⟨false, 0, g + 1, .vs [.er]⟩ w := by
  refine ⟨rfl, fun ρ => ?_⟩
  obtain ⟨t, p, rfl⟩ := hv
  obtain ⟨cs, e, fr, h1, h2⟩ := cell_heap (x := ⟨g, 0, none⟩) (i := 0) rfl (by simpa [Addr.add] using h)
  refine ⟨cs, e, fr, h1, fun j hj => ?_, fun h => (by cases h), fun _ _ => ⟨rfl, rfl, fun h => absurd rfl h⟩⟩
  have hj : j = 0 := by
    have : j < 1 := hj
    omega
  subst hj
  exact ⟨_, h2, rfl, by show V.R ρ .er _; simp only [V.R]; exact .inr ⟨t, p, rfl⟩⟩
theorem pinned_tab {w : World} {g n : Nat} {name : String} {zs : List Int} (hn : P.globalNamed name = some g) (h : Lib.TabIs P w name .u64 zs) (hlen : zs.length = n) : (⟨false, n + 1, g + 1, .is .u64 zs⟩ : Blk).wr = false ∧ ∀ ρ, BlkR ρ ⟨g, 0, 0⟩ ⟨false, n + 1, g + 1, .is .u64 zs⟩ w := by
  subst hlen
  refine ⟨rfl, fun ρ => ?_⟩
  unfold Lib.TabIs World.var? at h
  rw [hn, Option.bind_some] at h
  split at h
  · rename_i cs e fr h1
    cases h
    refine ⟨_, e, fr, h1, fun j hj => ?_, fun h => (by cases h), fun _ _ => ⟨rfl, rfl, fun _ => by simp⟩⟩
    have hj : j < zs.length := hj
    refine ⟨.int .u64 zs[j], by simp [List.getElem?_eq_getElem hj], rfl, ?_⟩
    have e1 : (Cells.is .u64 zs).at j = .it .u64 zs[j] := by
      show V.it .u64 (zs.getD j 0) = _
      simp [List.getD, List.getElem?_eq_getElem hj]
    rw [e1]
    simp only [V.R]
  · cases h
end Go.Proofs.YtccdbfmfdhhgfaaGreatDoor.Sx
