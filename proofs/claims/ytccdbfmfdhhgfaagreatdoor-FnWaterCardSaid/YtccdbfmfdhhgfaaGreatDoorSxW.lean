/- The abstract execution: strconv.FormatInt of a small number, by its contract. -/
import Derived.Test.YtccdbfmfdhhgfaaGreatDoorSxU
import Derived.Lib.ItoaNum
namespace Go.Proofs.YtccdbfmfdhhgfaaGreatDoor.Sx
open Go Go.RowKit
set_option linter.unusedVariables false
set_option linter.unusedSimpArgs false
variable {P : Program}
/-- The decimal numeral of a number. -/
def decB (n : Int) : ByteArray := ⟨(Lib.decDigits n.toNat).toArray⟩
def formatC : List V → Hp → T V := fun args _ => match args with
  | [.it k n, .it k' b] => match ikEq k .i64, ikEq k' .i64 with
    | true, true => .br (decide (0 ≤ n) && (decide (n < 100) && decide (b = 10))) (.leaf (.st (decB n))) .bad
    | _, _ => .bad
  | _ => .bad
theorem format_ok {f : FuncId} {fn : Func} (hf : P.funcs[f]? = some fn) (hbd : fn.body.isNone = false) (hname : (fn.name == "runtime.NumGoroutine") = false)
    (hF : ∀ (i : Nat) (w : World), i < 100 → Calls P f #[.int .i64 i, .int .i64 10] w fun e w' => e = .returned (.string ⟨(Lib.decDigits i).toArray⟩) ∧ w' = w) : OKq P f formatC := by
  intro args H v h ρ w vs hargs hh
  unfold formatC at h
  split at h
  · rename_i k n k' b
    split at h
    · rename_i hk hk'
      have := ikEq_eq' hk
      subst this
      have := ikEq_eq' hk'
      subst this
      cases hq : (decide (0 ≤ n) && (decide (n < 100) && decide (b = 10))) with
      | false => rw [hq] at h; cases h
      | true =>
        rw [hq] at h
        cases h
        simp only [Bool.and_eq_true, decide_eq_true_eq] at hq
        obtain ⟨q1, q2, rfl⟩ := hq
        obtain ⟨i, rfl⟩ : ∃ i : Nat, n = i := ⟨n.toNat, by omega⟩
        simp only [V.Rs] at hargs
        obtain ⟨y, ys, rfl, hy, z, zs, rfl, hz, rfl⟩ := hargs
        simp only [V.R] at hy hz
        subst hy
        subst hz
        refine CallOK.of_calls hf hbd hname ((hF i w (by omega)).mono fun e w' ⟨he, hw⟩ => ⟨_, he, ?_, ?_, ?_⟩)
        · simp only [V.R, decB, Int.toNat_natCast]
        · rw [hw]; exact hh
        · rw [hw]; exact WExt.refl w _
    · cases h
  · cases h
/-- What a listed variable's cells hold. -/
def litV : Lit → Value
  | .int k n => .int k n
  | _ => .int .i64 0
def dataCells : Nat → DataW Unit → List Value
  | 0, _ => []
  | _ + 1, .lit l => [litV l]
  | n + 1, .agg l => l.flatMap (dataCells n)
  | _, _ => []
end Go.Proofs.YtccdbfmfdhhgfaaGreatDoor.Sx
