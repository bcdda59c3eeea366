/- The abstract execution: strings.Join, by its contract. -/
import Derived.Test.YtccdbfmfdhhgfaaGreatDoorSxG
import Derived.Lib.Join
import Derived.Below
namespace Go.Proofs.YtccdbfmfdhhgfaaGreatDoor.Sx
open Go Go.RowKit
set_option linter.unusedVariables false
set_option linter.unusedSimpArgs false
variable {P : Program}
/-- The strings, one behind the other, with something between. -/
def joinB (xs : List ByteArray) (sep : ByteArray) : ByteArray := ⟨(Lib.join (xs.map (·.data.toList)) sep.data.toList).toArray⟩
/-- What is asked of it. -/
def joinOk (xs : List ByteArray) (n : Nat) (sep : ByteArray) : Bool := Nat.beq xs.length n && (Nat.ble n 1048576 && Nat.ble (Lib.join (xs.map (·.data.toList)) sep.data.toList).length 140737488355328)
def joinC : List V → Hp → T V := fun args H => match args with
  | [.own i n, .st sep] => match hget H i with
    | some B => match B.c with
      | .ss xs => .br (joinOk xs n sep) (.leaf (.st (joinB xs sep))) .bad
      | _ => .bad
    | none => .bad
  | _ => .bad
theorem WExt.of_below {ρ : Nat → Option Loc} {H : Hp} {w w' : World} (hb : Below w.heap.size w w') : WExt w (wrOf ρ H) w' :=
  ⟨hb.os, hb.tape, hb.output, hb.size, fun b h _ => hb.block b h⟩
theorem HpR.below {ρ : Nat → Option Loc} {H : Hp} {w w' : World} (hh : HpR ρ H w) (hb : Below w.heap.size w w') : HpR ρ H w' := by
  refine ⟨fun i B hB => ?_, hh.sep, hh.dom⟩
  obtain ⟨l, h1, cs, e, fr, h2, h3, h4⟩ := hh.blk i B hB
  refine ⟨l, h1, cs, e, fr, ?_, h3, h4⟩
  rw [hb.block _ (Array.getElem?_eq_some_iff.1 h2).1]
  exact h2
theorem join_ok {f : FuncId} {fn : Func} (hf : P.funcs[f]? = some fn) (hbd : fn.body.isNone = false) (hname : (fn.name == "runtime.NumGoroutine") = false)
    (hJ : ∀ (bk o c : Nat) (xs : List ByteArray) (sep : ByteArray) (w : World), (∀ (j : Nat) x, xs[j]? = some x → w.cell? ⟨bk, o + j, none⟩ = some (.string x)) → bk < w.heap.size → xs.length ≤ 140737488355328 → xs.length ≤ c → (Lib.join (xs.map (·.data.toList)) sep.data.toList).length ≤ 140737488355328 →
      Calls P f #[.slice (some ⟨bk, o, none⟩) xs.length c, .string sep] w fun e w' => e = .returned (.string ⟨(Lib.join (xs.map (·.data.toList)) sep.data.toList).toArray⟩) ∧ Below w.heap.size w w') : OKq P f joinC := by
  intro args H v h ρ w vs hargs hh
  unfold joinC at h
  split at h
  · rename_i i n sep
    split at h
    · rename_i B hB
      split at h
      · rename_i xs hc
        cases hq : joinOk xs n sep with
        | false => rw [hq] at h; cases h
        | true =>
          rw [hq] at h
          cases h
          unfold joinOk at hq
          rw [Bool.and_eq_true, Bool.and_eq_true] at hq
          obtain ⟨q1, q2, q3⟩ := hq
          have q1 := Nat.eq_of_beq_eq_true q1
          have q2 := Nat.le_of_ble_eq_true q2
          have q3 := Nat.le_of_ble_eq_true q3
          subst q1
          simp only [V.Rs] at hargs
          obtain ⟨y, ys, rfl, hy, z, zs, rfl, hz, rfl⟩ := hargs
          simp only [V.R] at hy hz
          obtain ⟨l, hl, rfl, hcap, ho⟩ := hy
          subst hz
          obtain ⟨l', hl', cs, e, fr, h2, h3, h4⟩ := hh.blk i B hB
          rw [hl] at hl'
          cases hl'
          have hcells : ∀ (j : Nat) x, xs[j]? = some x → w.cell? ⟨l.b, 0 + j, none⟩ = some (.string x) := by
            intro j x hx
            have hj : j < B.c.len := by rw [hc]; exact (List.getElem?_eq_some_iff.1 hx).1
            obtain ⟨u, h5, _, h6⟩ := h3 j hj
            have e1 : B.c.at j = .st x := by
              rw [hc]
              show V.st (xs.getD j _) = _
              rw [List.getD_eq_getElem?_getD, hx]
              rfl
            rw [e1] at h6
            simp only [V.R] at h6
            subst h6
            rw [ho] at h5
            unfold World.cell?
            simp only [h2]
            simpa using h5
          refine CallOK.of_calls hf hbd hname ((hJ l.b 0 l.cap xs sep w hcells (Array.getElem?_eq_some_iff.1 h2).1 (by omega) hcap q3).mono fun e w' ⟨he, hb⟩ => ⟨.string (joinB xs sep), he, by simp only [V.R], hh.below hb, WExt.of_below hb⟩)
      · cases h
    · cases h
  · cases h
end Go.Proofs.YtccdbfmfdhhgfaaGreatDoor.Sx
