/- For every input the call of FnExactFeedFor returns true, and each argument reads afterwards as it read before; there is no condition. -/
import Derived.Test.YtnhjchjdnhebkaaWFnExactFeedFor
import Derived.Test.YtnhjchjdnhebkaaRows
import Derived.WalkKit
import Derived.ProofKit
import Derived.OpenShut
import Derived.ShutString
import Derived.ChangeOld
import Derived.Below
import Derived.Carry
import Derived.HandedShaped
namespace Go.Proofs.Ytnhjchjdnhebkaa
open Go Go.RowKit Sx
open Go.ChangeShapes Go.WideShapes Go.ChangeAt
set_option linter.unusedVariables false
set_option linter.unusedSimpArgs false
set_option maxRecDepth 100000

theorem rate_eq (x : Nat) : impl_IsRate x = spec_l04Rate x := by
  simp only [impl_IsRate, impl_IsRate.t, impl_between, impl_between.t, spec_l04Rate, spec_l04Rate.t, T.val, fge_flip]

theorem part_eq (x : Nat) : impl_IsPart x = spec_l01Part x := by
  simp only [impl_IsPart, impl_IsPart.t, impl_between, impl_between.t, spec_l01Part, spec_l01Part.t, T.val, fge_flip]

theorem stone_eq (x0 x1 x2 x3 : Nat) : laws_toStone x0 x1 x2 x3 = (x0, x1, x2, x3) := rfl
theorem valid_eq (x0 x1 x2 x3 : Nat) : impl_ValidStone x0 x1 x2 x3 = spec_l04Ok x0 x1 x2 x3 := by
  simp only [impl_ValidStone, impl_ValidStone.t, spec_l04Ok, spec_l04Ok.t, T.val, rate_eq, part_eq]

theorem amount_eq (x : Nat) : impl_isAmount x = spec_l03Amount x := by
  simp only [impl_isAmount, impl_isAmount.t, impl_between, impl_between.t, spec_l03Amount, spec_l03Amount.t, T.val, fge_flip]

theorem same_refl (x : Nat) : laws_sameFloat x x = true := same_self (s := laws_sameFloat.t) (fun _ _ => rfl) x

/-- Two floats that are equal and not nought are the same word. -/
theorem eq_word {k : FloatKind} {x y : Nat} (hx : flHas k x) (hy : flHas k y) (h : k.format.order x y = some .eq) (h0 : ∀ s e, k.format.read y ≠ .number s 0 e) : x = y := by
  have key : ∀ d d' : Ieee.Datum, d.order d' = some .eq → (∀ s e, d' ≠ .number s 0 e) → d.isNaN = false ∧ d'.isNaN = false ∧ k.format.write d = k.format.write d' := by
    intro d d' h h0
    cases d with
    | nan s t => cases h
    | infinity s =>
      cases d' with
      | nan s t => cases h
      | number s' m e => cases s <;> simp [Ieee.Datum.order] at h
      | infinity s' => cases s <;> cases s' <;> simp [Ieee.Datum.order] at h <;> exact ⟨rfl, rfl, rfl⟩
    | number s m i =>
      cases d' with
      | nan s t => cases h
      | infinity s' => cases s' <;> simp [Ieee.Datum.order] at h
      | number t n j =>
        refine ⟨rfl, rfl, ?_⟩
        simp only [Ieee.Datum.order, Option.some.injEq] at h
        have h1 : Ieee.signed s m (i - min i j).toNat = Ieee.signed t n (j - min i j).toNat := Int.compare_eq_eq.1 h
        have hn : n ≠ 0 := fun e => h0 t j (by rw [e])
        have hp : 0 < n <<< (j - min i j).toNat := by
          rw [Nat.shiftLeft_eq]
          exact Nat.mul_pos (by omega) (Nat.two_pow_pos _)
        have h2 : s = t ∧ m <<< (i - min i j).toNat = n <<< (j - min i j).toNat := by
          unfold Ieee.signed at h1
          generalize m <<< (i - min i j).toNat = a at h1 ⊢
          generalize n <<< (j - min i j).toNat = b at h1 hp ⊢
          cases s <;> cases t <;> simp at h1 ⊢ <;> omega
        obtain ⟨rfl, h3⟩ := h2
        have e1 := nearest_shift k.format s m (i - min i j).toNat i
        have e2 := nearest_shift k.format s n (j - min i j).toNat j
        rw [Nat.shiftLeft_eq, Nat.shiftLeft_eq] at h3
        show k.format.nearest s m i = k.format.nearest s n j
        rw [← e1, ← e2, h3, show i - ((i - min i j).toNat : Int) = j - ((j - min i j).toNat : Int) by omega]
  obtain ⟨h1, h2, h3⟩ := key _ _ h h0
  rw [← write_read k.format (binade_le k) (two_sw k x hx) h1, ← write_read k.format (binade_le k) (two_sw k y hy) h2, h3]

theorem canon_nan {k : FloatKind} {b : Nat} (h : isNaN k (nz k b) = true) : nz k b = nanOf k := by
  cases hb : isNaN k b with
  | true => exact nz_of_nan hb
  | false =>
    rw [nz_of_not hb] at h
    rw [hb] at h
    cases h
theorem order_none {k : FloatKind} {x y : Nat} (h : k.format.order x y = none) : isNaN k x = true ∨ isNaN k y = true := by
  cases hx : isNaN k x with
  | true => exact .inl rfl
  | false =>
    cases hy : isNaN k y with
    | true => exact .inr rfl
    | false =>
      exfalso
      have h1 : (k.format.read x).isNaN = false := hx
      have h2 : (k.format.read y).isNaN = false := hy
      have h3 : (k.format.read x).order (k.format.read y) = none := h
      cases hd : k.format.read x <;> cases he : k.format.read y <;> rw [hd] at h1 h3 <;> rw [he] at h2 h3 <;> first | (cases h1; done) | (cases h2; done) | (cases h3; done)

theorem fmin_1000 (a b : Nat) : fmin .f32 (fdiv .f32 a b) 1149239296 = bif fgt .f32 (fdiv .f32 a b) 1149239296 then 1149239296 else fdiv .f32 a b := by
  have hv := fdiv_has .f32 a b
  have hc : isNaN .f32 (fdiv .f32 a b) = true → fdiv .f32 a b = nanOf .f32 := fun h => canon_nan h
  generalize fdiv .f32 a b = v at hv hc ⊢
  have hr : FloatKind.f32.format.read 1149239296 = .number false 8388608 (-13) := by kernel_rfl
  unfold fmin fgt
  cases ho : FloatKind.f32.format.order v 1149239296 with
  | none =>
    rcases order_none ho with h | h
    · rw [hc h]; rfl
    · exfalso
      have : (FloatKind.f32.format.read 1149239296).isNaN = true := h
      rw [hr] at this
      cases this
  | some o =>
    cases o with
    | lt => rfl
    | gt => rfl
    | eq =>
      have e := eq_word hv (show flHas .f32 1149239296 from by unfold flHas; decide) ho fun s e h => by rw [hr] at h; cases h
      rw [e]
      cases (FloatKind.f32.decode 1149239296).neg <;> rfl

theorem rate_0 : spec_l04Rate 0 = true := by kernel_rfl
theorem feed_eq (x0 x1 x2 x3 x4 x5 : Nat) : impl_FeedFor x0 x1 x2 x3 x4 x5 = spec_FeedFor x0 x1 x2 x3 x4 x5 := by
  have e : impl_Stone_rubbed x5 x0 x1 x2 x3 = spec_l04Idle x0 x1 x2 x3 x5 := rfl
  simp only [impl_FeedFor, impl_FeedFor.t, spec_FeedFor, spec_FeedFor.t, spec_l04Turned, spec_l04Turned.t, spec_l04Asked, spec_l04Asked.t, impl_stoneCode, impl_stoneCode.t, T.val, valid_eq, rate_eq, amount_eq, rate_0, fmin_1000, e]
  generalize flt .f32 (fsub .f32 x4 (spec_l04Idle x0 x1 x2 x3 x5)) 0 = c1
  generalize feq .f32 x2 0 = c2
  generalize fgt .f32 (fdiv .f32 (fsub .f32 x4 (spec_l04Idle x0 x1 x2 x3 x5)) x2) 1149239296 = c3
  cases spec_l04Ok x0 x1 x2 x3 <;> cases spec_l04Rate x5 <;> cases spec_l03Amount x4 <;> cases c1 <;> cases c2 <;> cases c3 <;> rfl
theorem law_holds (x0 x1 x2 x3 x4 x5 : Nat) : (laws_FnExactFeedFor.t x0 x1 x2 x3 x4 x5).get = some true := by
  simp only [laws_FnExactFeedFor.t, T.get, stone_eq, feed_eq, open_wide, same_refl]
  simp

theorem law_plain (x0_0 : Nat) (x0_1 : Nat) (x0_2 : Nat) (x0_3 : Nat) (x1 : Nat) (x2 : Nat) (f0_0 : flHas .f32 x0_0) (f0_1 : flHas .f32 x0_1) (f0_2 : flHas .f32 x0_2) (f0_3 : flHas .f32 x0_3) (f1 : flHas .f32 x1) (f2 : flHas .f32 x2) : (laws_FnExactFeedFor.tr (x0_0, x0_1, x0_2, x0_3, x1, x2)).get = some true := law_holds x0_0 x0_1 x0_2 x0_3 x1 x2
theorem own : ownKnob Try.prog.godebug = none := by kernel_rfl
theorem laidOut : laidOutB Try.prog = true := by kernel_rfl
theorem lifted (os : Os) (started : os.Started) (H : Type) (enc : TypeId × Value → H) :
    ReturnsInHanded {} Try.checked os 10 .any (Rows.fnExactFeedForSpec.pre6 enc Try.prog Try.f10 Rows.fnExactFeedForRow.domain false) (Rows.fnExactFeedForSpec.post enc Try.prog Try.f10 false true false false) := by
  refine returnsInHanded_of_change (C := Try.checked) own started (by kernel_rfl) Try.func10
    (ChangeSpec.witness6 (enc := enc) (C := Try.checked) false ⟨#[], #[.agg #[.float .f32 0, .float .f32 0, .float .f32 0, .float .f32 0], .float .f32 0, .float .f32 0], []⟩ 8 (by kernel_rfl) (by kernel_rfl) (by kernel_rfl) (by kernel_rfl)) ?_
  intro W base args ds gs before hval0 hW hcnd _
  have hval : ∀ (j : Nat) t v, Try.f10.params[j]? = some t → args[j]? = some v → Value.okWide Try.prog W .any base t v := hval0
  have hW' := hW
  obtain ⟨p, q, hA0, hV, rfl, hfz, hnd⟩ := hW
  have hA : DataW.TrodAll enc Try.prog W 0 (fun _ => true) true Try.f10.params.toList args.toList ds p := hA0
  rw [Try.params10] at hA hval
  obtain ⟨v0, vs0, d0, ds0, p0, q0, hargs, rfl, rfl, h0, r0⟩ := trodAll_cons hA
  obtain ⟨v1, vs1, d1, ds1, p1, q1, rfl, rfl, rfl, h1, r1⟩ := trodAll_cons r0
  obtain ⟨v2, vs2, d2, ds2, p2, q2, rfl, rfl, rfl, h2, r2⟩ := trodAll_cons r1
  obtain ⟨rfl, rfl, rfl⟩ := trodAll_nil r2
  obtain rfl : args = #[v0, v1, v2] := by cases args; simp_all
  obtain ⟨rfl, rfl⟩ := trodVars_none hV
  have k0 := h0
  have lt0 : ∀ x ∈ p0, x.block < W.heap.size := by obtain ⟨m, hm⟩ := k0; exact DataW.trod_lt m _ _ _ hm
  obtain ⟨cs0, rfl, hc0⟩ := open_row (ts := [22, 22, 22, 22]) Try.underlying25 rfl (by kernel_rfl) (by kernel_rfl) (hval 0 25 v0 rfl rfl)
  obtain ⟨u0_0, m0_0, e0, g0_0, hc0⟩ := hc0
  obtain ⟨x0_0, r0_0, f0_0⟩ := sc_fl Try.underlying22 g0_0
  obtain ⟨u0_1, m0_1, rfl, g0_1, hc0⟩ := hc0
  obtain ⟨x0_1, r0_1, f0_1⟩ := sc_fl Try.underlying22 g0_1
  obtain ⟨u0_2, m0_2, rfl, g0_2, hc0⟩ := hc0
  obtain ⟨x0_2, r0_2, f0_2⟩ := sc_fl Try.underlying22 g0_2
  obtain ⟨u0_3, m0_3, rfl, g0_3, hc0⟩ := hc0
  obtain ⟨x0_3, r0_3, f0_3⟩ := sc_fl Try.underlying22 g0_3
  obtain rfl := hc0
  have k1 := h1
  have lt1 : ∀ x ∈ p1, x.block < W.heap.size := by obtain ⟨m, hm⟩ := k1; exact DataW.trod_lt m _ _ _ hm
  obtain ⟨x1, r1, f1⟩ := sc_fl Try.underlying22 (cell_of Try.underlying22 rfl (hval 1 22 v1 rfl rfl))
  have k2 := h2
  have lt2 : ∀ x ∈ p2, x.block < W.heap.size := by obtain ⟨m, hm⟩ := k2; exact DataW.trod_lt m _ _ _ hm
  obtain ⟨x2, r2, f2⟩ := sc_fl Try.underlying22 (cell_of Try.underlying22 rfl (hval 2 22 v2 rfl rfl))
  clear hA0 hval0
  refine (laws_FnExactFeedFor.walk (x0_0, x0_1, x0_2, x0_3, x1, x2) (law_plain x0_0 x0_1 x0_2 x0_3 x1 x2 f0_0 f0_1 f0_2 f0_3 f1 f2) (ρ := fun i => (lget ([] : List (Sx.Loc × Cells)) i).map (·.1)) (Rs_cons' (agg_R (by rw [e0]; exact (Rs_cons' (r0_0 _) (Rs_cons' (r0_1 _) (Rs_cons' (r0_2 _) (Rs_cons' (r0_3 _) Rs_nil')))))) (Rs_cons' (r1 _) (Rs_cons' (r2 _) Rs_nil'))) (HpR.ofRo [] (List.forall_mem_nil _))).mono fun e W' ⟨he, bel⟩ => ?_
  subst he
  exact ⟨_, rfl, _, _, _, [], _, [], hW', trodAll_mk1 (shut_bool Try.underlying4 _), (trodAll_cons_mk (Below.trod laidOut (by kernel_rfl) (of_decide_eq_true (by kernel_rfl)) k0 bel lt0) (trodAll_cons_mk (Below.trod laidOut (by kernel_rfl) (of_decide_eq_true (by kernel_rfl)) k1 bel lt1) (trodAll_cons_mk (Below.trod laidOut (by kernel_rfl) (of_decide_eq_true (by kernel_rfl)) k2 bel lt2) trodAll_mk0))), rfl, bel.frame _, fun h => by cases h⟩
theorem over : Rows.fnExactFeedForRow.holds Try.pinned (OpenSpec.ofChange Rows.fnExactFeedForSpec) :=
  OpenClaim.holds_of_wide 10 Try.f10 rfl rfl rfl rfl rfl rfl rfl ⟨rfl, rfl, rfl, rfl, rfl⟩ rfl rfl rfl rfl rfl (by kernel_rfl) Try.func10 (by kernel_rfl)
    (of_decide_eq_true (by kernel_rfl)) (by unfold Func.isWrapper; first | (rw [if_pos (by decide +kernel)]; kernel_rfl) | (rw [if_neg (by decide +kernel)]; exact ⟨rfl, rfl⟩))
    (fun os started H enc _ => lifted os started H enc)
theorem proved : Rows.FnExactFeedForSaid := over
end Go.Proofs.Ytnhjchjdnhebkaa
