/- Plain facts: floats: least and greatest, roots, whole numbers, targets. -/
import Derived.Test.YtkfpmiggolmabaaSxP
namespace Go.Proofs.Ytkfpmiggolmabaa.Sx
open Go Go.RowKit
set_option linter.unusedVariables false
set_option linter.unusedSimpArgs false
set_option maxRecDepth 100000

theorem canon_nan {k : FloatKind} {b : Nat} (h : isNaN k (nz k b) = true) : nz k b = nanOf k := by
  cases hb : isNaN k b with
  | true => exact nz_of_nan hb
  | false =>
    rw [nz_of_not hb] at h
    rw [hb] at h
    cases h
theorem order_none {k : FloatKind} {x y : Nat} (h : k.format.order x y = none) : isNaN k x = true ∨ isNaN k y = true := by
  cases hx : isNaN k x with
  | true => exact .inl rfl
  | false =>
    cases hy : isNaN k y with
    | true => exact .inr rfl
    | false =>
      exfalso
      have h1 : (k.format.read x).isNaN = false := hx
      have h2 : (k.format.read y).isNaN = false := hy
      have h3 : (k.format.read x).order (k.format.read y) = none := h
      cases hd : k.format.read x <;> cases he : k.format.read y <;> rw [hd] at h1 h3 <;> rw [he] at h2 h3 <;> first | (cases h1; done) | (cases h2; done) | (cases h3; done)

/-- Two floats that are equal and not nought are the same word. -/
theorem eq_word {k : FloatKind} {x y : Nat} (hx : flHas k x) (hy : flHas k y) (h : k.format.order x y = some .eq) (h0 : ∀ s e, k.format.read y ≠ .number s 0 e) : x = y := by
  have key : ∀ d d' : Ieee.Datum, d.order d' = some .eq → (∀ s e, d' ≠ .number s 0 e) → d.isNaN = false ∧ d'.isNaN = false ∧ k.format.write d = k.format.write d' := by
    intro d d' h h0
    cases d with
    | nan s t => cases h
    | infinity s =>
      cases d' with
      | nan s t => cases h
      | number s' m e => cases s <;> simp [Ieee.Datum.order] at h
      | infinity s' => cases s <;> cases s' <;> simp [Ieee.Datum.order] at h <;> exact ⟨rfl, rfl, rfl⟩
    | number s m i =>
      cases d' with
      | nan s t => cases h
      | infinity s' => cases s' <;> simp [Ieee.Datum.order] at h
      | number t n j =>
        refine ⟨rfl, rfl, ?_⟩
        simp only [Ieee.Datum.order, Option.some.injEq] at h
        have h1 : Ieee.signed s m (i - min i j).toNat = Ieee.signed t n (j - min i j).toNat := Int.compare_eq_eq.1 h
        have hn : n ≠ 0 := fun e => h0 t j (by rw [e])
        have hp : 0 < n <<< (j - min i j).toNat := by
          rw [Nat.shiftLeft_eq]
          exact Nat.mul_pos (by omega) (Nat.two_pow_pos _)
        have h2 : s = t ∧ m <<< (i - min i j).toNat = n <<< (j - min i j).toNat := by
          unfold Ieee.signed at h1
          generalize m <<< (i - min i j).toNat = a at h1 ⊢
          generalize n <<< (j - min i j).toNat = b at h1 hp ⊢
          cases s <;> cases t <;> simp at h1 ⊢ <;> omega
        obtain ⟨rfl, h3⟩ := h2
        have e1 := nearest_shift k.format s m (i - min i j).toNat i
        have e2 := nearest_shift k.format s n (j - min i j).toNat j
        rw [Nat.shiftLeft_eq, Nat.shiftLeft_eq] at h3
        show k.format.nearest s m i = k.format.nearest s n j
        rw [← e1, ← e2, h3, show i - ((i - min i j).toNat : Int) = j - ((j - min i j).toNat : Int) by omega]
  obtain ⟨h1, h2, h3⟩ := key _ _ h h0
  rw [← write_read k.format (binade_le k) (two_sw k x hx) h1, ← write_read k.format (binade_le k) (two_sw k y hy) h2, h3]

theorem signed_zero (s : Bool) (a : Nat) : Ieee.signed s 0 a = 0 := by cases s <;> simp [Ieee.signed]
theorem zero_order (s : Bool) (e e' : Int) (d : Ieee.Datum) : (Ieee.Datum.number false 0 e').order d = (Ieee.Datum.number s 0 e).order d := by
  cases d with
  | nan t u => rfl
  | infinity t => rfl
  | number t n j =>
    simp only [Ieee.Datum.order, signed_zero, Option.some.injEq]
    have h : ∀ a b : Nat, compare (0 : Int) (Ieee.signed t n a) = compare (0 : Int) (Ieee.signed t n b) := by
      intro a b
      have pos : ∀ c : Nat, 0 < n → 0 < n <<< c := fun c hn => by
        rw [Nat.shiftLeft_eq]
        exact Nat.mul_pos hn (Nat.two_pow_pos _)
      rcases Nat.eq_zero_or_pos n with rfl | hn
      · rw [signed_zero, signed_zero]
      · have h1 := pos a hn
        have h2 := pos b hn
        cases t with
        | false =>
          have e1 : ∀ c : Nat, 0 < n <<< c → compare (0 : Int) (Ieee.signed false n c) = .lt := fun c hc => by
            refine Int.compare_eq_lt.2 ?_
            simp only [Ieee.signed, Bool.false_eq_true, if_false]
            omega
          rw [e1 a h1, e1 b h2]
        | true =>
          have e1 : ∀ c : Nat, 0 < n <<< c → compare (0 : Int) (Ieee.signed true n c) = .gt := fun c hc => by
            refine Int.compare_eq_gt.2 ?_
            simp only [Ieee.signed, if_true]
            omega
          rw [e1 a h1, e1 b h2]
    exact h _ _
/-- What 0 + v is compares as v does. -/
theorem add_zero_order (k : FloatKind) (v y : Nat) (hv : flHas k v) : k.format.order (fadd k 0 v) y = k.format.order v y := by
  have h0 : k.format.read 0 = .number false 0 k.format.leastPlace := by cases k <;> rfl
  cases hd : k.format.read v with
  | nan s t =>
    have h1 : k.format.add 0 v = none := by
      unfold Ieee.Format.add
      rw [h0, hd]
      rfl
    have h2 : isNaN k (fadd k 0 v) = true := by
      unfold fadd
      rw [h1, Option.getD_none, nz_nanOf]
      obtain ⟨s, t, h⟩ := decode_nanOf k
      exact isNaN_of_read h
    unfold Ieee.Format.order
    rw [datum_order_nan (k.format.read (fadd k 0 v)) _ h2, datum_order_nan _ _ (by rw [hd]; rfl)]
  | infinity s =>
    have hn : isNaN k v = false := by
      show (k.format.read v).isNaN = false
      rw [hd]
      rfl
    obtain ⟨r, h1, h2⟩ := sum_zero k.format (k.format.read v) hn fun s m e he => by rw [hd] at he; cases he
    have h3 : k.format.add 0 v = some v := by
      unfold Ieee.Format.add
      rw [h0, h1, Option.map_some, h2, write_read k.format (binade_le k) (two_sw k v hv) hn]
    unfold fadd
    rw [h3, Option.getD_some, nz_of_not hn]
  | number s m e =>
    have hn : isNaN k v = false := by
      show (k.format.read v).isNaN = false
      rw [hd]
      rfl
    by_cases hm : m = 0
    · subst hm
      have h3 : k.format.add 0 v = some 0 := by
        unfold Ieee.Format.add
        rw [h0, hd]
        simp only [Ieee.Datum.sum, signed_zero, Int.add_zero, if_true, Bool.false_and, Int.natAbs_zero, Option.map_some]
        cases k <;> rfl
      have h4 : fadd k 0 v = 0 := by
        unfold fadd
        rw [h3]
        cases k <;> rfl
      unfold Ieee.Format.order
      rw [h4, h0, hd]
      exact zero_order s e _ _
    · obtain ⟨r, h1, h2⟩ := sum_zero k.format (k.format.read v) hn fun s' m' e' he => by
        rw [hd] at he
        cases he
        exact ⟨hm, read_place _ hd⟩
      have h3 : k.format.add 0 v = some v := by
        unfold Ieee.Format.add
        rw [h0, h1, Option.map_some, h2, write_read k.format (binade_le k) (two_sw k v hv) hn]
      unfold fadd
      rw [h3, Option.getD_some, nz_of_not hn]
theorem add_zero_gt (k : FloatKind) (v y : Nat) (hv : flHas k v) : fgt k (fadd k 0 v) y = fgt k v y := by
  unfold fgt
  rw [add_zero_order k v y hv]

theorem fmin_1000 (a b : Nat) : fmin .f32 (fdiv .f32 a b) 1149239296 = bif fgt .f32 (fdiv .f32 a b) 1149239296 then 1149239296 else fdiv .f32 a b := by
  have hv := fdiv_has .f32 a b
  have hc : isNaN .f32 (fdiv .f32 a b) = true → fdiv .f32 a b = nanOf .f32 := fun h => canon_nan h
  generalize fdiv .f32 a b = v at hv hc ⊢
  have hr : FloatKind.f32.format.read 1149239296 = .number false 8388608 (-13) := by kernel_rfl
  unfold fmin fgt
  cases ho : FloatKind.f32.format.order v 1149239296 with
  | none =>
    rcases order_none ho with h | h
    · rw [hc h]; rfl
    · exfalso
      have : (FloatKind.f32.format.read 1149239296).isNaN = true := h
      rw [hr] at this
      cases this
  | some o =>
    cases o with
    | lt => rfl
    | gt => rfl
    | eq =>
      have e := eq_word hv (show flHas .f32 1149239296 from by unfold flHas; decide) ho fun s e h => by rw [hr] at h; cases h
      rw [e]
      cases (FloatKind.f32.decode 1149239296).neg <;> rfl

/-- The lesser of a reckoned number and a limit that is a number and not nought. -/
theorem fmin_gen {v y : Nat} (hv : flHas .f32 v) (hc : isNaN .f32 v = true → v = nanOf .f32) (hy : flHas .f32 y) (hn : isNaN .f32 y = false) (h0 : ∀ s e, FloatKind.f32.format.read y ≠ .number s 0 e) :
    fmin .f32 v y = bif fgt .f32 v y then y else v := by
  unfold fmin fgt
  cases ho : FloatKind.f32.format.order v y with
  | none =>
    rcases order_none ho with h | h
    · rw [hc h]; rfl
    · rw [hn] at h
      cases h
  | some o =>
    cases o with
    | lt => rfl
    | gt => rfl
    | eq =>
      have e := eq_word hv hy ho h0
      rw [e]
      cases (FloatKind.f32.decode y).neg <;> rfl
/-- What is no less than a number above nought is a number, and not nought. -/
theorem pos_of_le {c y : Nat} {m : Nat} {e : Int} (hr : FloatKind.f32.format.read c = .number false m e) (hm : m ≠ 0) (h : fle .f32 c y = true) : isNaN .f32 y = false ∧ ∀ s e, FloatKind.f32.format.read y ≠ .number s 0 e := by
  have ho : FloatKind.f32.format.order c y = some .lt ∨ FloatKind.f32.format.order c y = some .eq := by
    unfold fle at h
    simpa using h
  refine ⟨?_, fun s e' hy => ?_⟩
  · cases hn : isNaN .f32 y with
    | false => rfl
    | true =>
      have h1 : FloatKind.f32.format.order y c = none := datum_order_nan _ _ hn
      rw [order_swap] at h1
      rcases ho with ho | ho <;> rw [ho] at h1 <;> cases h1
  · have h1 : FloatKind.f32.format.order c y = some .gt := by
      unfold Ieee.Format.order
      rw [hr, hy]
      simp only [Ieee.Datum.order, Option.some.injEq]
      refine Int.compare_eq_gt.2 ?_
      have hp : 0 < m <<< (e - min e e').toNat := by
        rw [Nat.shiftLeft_eq]
        exact Nat.mul_pos (by omega) (Nat.two_pow_pos _)
      have hz : Ieee.signed s 0 (e' - min e e').toNat = 0 := by cases s <;> simp [Ieee.signed]
      rw [hz]
      simp only [Ieee.signed, Bool.false_eq_true, if_false]
      omega
    rcases ho with ho | ho <;> rw [ho] at h1 <;> cases h1

theorem fmin_lim {v y : Nat} {m : Nat} {e : Int} (hv : flHas .f32 v) (hc : isNaN .f32 v = true → v = nanOf .f32) (hy : flHas .f32 y) (hr : FloatKind.f32.format.read y = .number false m e) (hm : m ≠ 0) :
    fmin .f32 v y = bif fgt .f32 v y then y else v := by
  unfold fmin fgt
  cases ho : FloatKind.f32.format.order v y with
  | none =>
    rcases order_none ho with h | h
    · rw [hc h]; rfl
    · exfalso
      have : (FloatKind.f32.format.read y).isNaN = true := h
      rw [hr] at this
      cases this
  | some o =>
    cases o with
    | lt => rfl
    | gt => rfl
    | eq =>
      have e := eq_word hv hy ho fun s e h => by
        rw [hr] at h
        cases h
        exact hm rfl
      rw [e]
      cases (FloatKind.f32.decode y).neg <;> rfl
theorem fmin_amount (a b : Nat) : fmin .f32 (fmul .f32 a b) 1233125376 = bif fgt .f32 (fmul .f32 a b) 1233125376 then 1233125376 else fmul .f32 a b :=
  fmin_lim (fmul_has .f32 a b) (fun h => canon_nan h) (show flHas .f32 1233125376 from by unfold flHas; decide) (show FloatKind.f32.format.read 1233125376 = .number false 8388608 (-3) by kernel_rfl) (by omega)

theorem rn_le (n d : Nat) : rn n d ≤ n / 2 ^ d + 1 := by
  unfold rn
  exact Nat.add_le_add_left (Bool.toNat_le _) _
/-- How high a number that is written may stand. -/
theorem nearest_le (f : Ieee.Format) (neg : Bool) (m : Nat) (p K : Int) (hm : m ≠ 0) (hK : p + (m.log2 : Int) ≤ K) (hlp : f.leastPlace + (f.fractionBits : Int) ≤ K) :
    ∃ r, f.nearest neg m p = f.word neg r ∧ r ≤ ((K - (f.fractionBits : Int) - f.leastPlace).toNat + 2) * f.binade := by
  unfold Ieee.Format.nearest
  rw [if_neg hm]
  dsimp only
  generalize hl : max (p + (m.log2 : Int) - (f.fractionBits : Int)) f.leastPlace = last
  refine ⟨_, rfl, Nat.le_trans (Nat.min_le_left _ _) ?_⟩
  rw [cut_rn, Nat.shiftLeft_eq, Nat.add_mul]
  have hlast : (last - f.leastPlace).toNat ≤ (K - (f.fractionBits : Int) - f.leastPlace).toNat := by omega
  refine Nat.add_le_add (Nat.mul_le_mul_right _ hlast) ?_
  have h1 : m < 2 ^ (m.log2 + 1) := Nat.lt_log2_self
  have hb : 2 * f.binade = 2 ^ (f.fractionBits + 1) := by
    rw [Nat.pow_succ]
    show 2 * f.binade = f.binade * 2
    omega
  rw [hb]
  rcases Int.le_total last p with h | h
  · rw [show (last - p).toNat = 0 by omega, rn_zero]
    have h2 : m * 2 ^ (p - last).toNat < 2 ^ (m.log2 + 1) * 2 ^ (p - last).toNat := Nat.mul_lt_mul_of_pos_right h1 (Nat.two_pow_pos _)
    rw [← Nat.pow_add] at h2
    exact Nat.le_of_lt (Nat.lt_of_lt_of_le h2 (Nat.pow_le_pow_right (by omega) (by omega)))
  · rw [show (p - last).toNat = 0 by omega, Nat.pow_zero, Nat.mul_one]
    refine Nat.le_trans (rn_le _ _) ?_
    have h2 : m < 2 ^ (f.fractionBits + 1) * 2 ^ (last - p).toNat := by
      rw [← Nat.pow_add]
      exact Nat.lt_of_lt_of_le h1 (Nat.pow_le_pow_right (by omega) (by omega))
    exact (Nat.div_lt_iff_lt_mul (Nat.two_pow_pos _)).2 h2
theorem read_word_le (f : Ieee.Format) {s : Bool} {r : Nat} (c : Nat) (h : r < f.infRung) (hr : r ≤ (c + 2) * f.binade) : ∃ m e, f.read (f.word s r) = .number s m e ∧ m < 2 ^ (f.fractionBits + 1) ∧ e ≤ f.leastPlace + ((c + 1 : Nat) : Int) := by
  have hs : f.infRung < f.signWeight := Ieee.Format.infRung_lt _
  have hsw : 0 < f.signWeight := by omega
  have e1 : f.word s r % f.signWeight = r := by
    unfold Ieee.Format.word
    cases s
    · simp; exact Nat.mod_eq_of_lt (by omega)
    · simp; exact Nat.mod_eq_of_lt (by omega)
  have e2 : (f.word s r / f.signWeight % 2 == 1) = s := by
    unfold Ieee.Format.word
    cases s
    · simp only [Bool.false_eq_true, if_false]
      rw [Nat.div_eq_of_lt (by omega)]
      rfl
    · simp only [if_true]
      rw [Nat.add_div_left _ hsw, Nat.div_eq_of_lt (by omega)]
      rfl
  have hb : 2 ^ (f.fractionBits + 1) = 2 * f.binade := by
    rw [Nat.pow_succ]
    show f.binade * 2 = _
    omega
  have hbp : 0 < f.binade := Nat.two_pow_pos _
  unfold Ieee.Format.read
  dsimp only
  rw [e1, e2]
  split
  · exact ⟨_, _, rfl, by omega, by omega⟩
  · refine ⟨_, _, rfl, ?_, ?_⟩
    · have := Nat.mod_lt r hbp
      omega
    · have : r / f.binade ≤ c + 2 := Nat.div_le_of_le_mul (by rw [Nat.mul_comm]; exact hr)
      omega
/-- A number that is no greater than 2 ^ K is written as a number, and how great that one may be. -/
theorem enc_le (f : Ieee.Format) (s : Bool) (m : Nat) (p K : Int) (hK : m ≠ 0 → p + (m.log2 : Int) ≤ K) (hlp : f.leastPlace + (f.fractionBits : Int) ≤ K)
    (hfin : ((K - (f.fractionBits : Int) - f.leastPlace).toNat + 2) * f.binade < f.infRung) :
    ∃ m' e', f.read (f.nearest s m p) = .number s m' e' ∧ m' < 2 ^ (f.fractionBits + 1) ∧ e' ≤ K - (f.fractionBits : Int) + 1 := by
  by_cases hm : m = 0
  · subst hm
    have : f.nearest s 0 p = f.word s 0 := by simp [Ieee.Format.nearest]
    rw [this]
    obtain ⟨m', e', h1, h2, h3⟩ := read_word_le f (s := s) (r := 0) 0 (by omega) (by omega)
    exact ⟨m', e', h1, h2, by omega⟩
  · obtain ⟨r, h1, h2⟩ := nearest_le f s m p K hm (hK hm) hlp
    rw [h1]
    obtain ⟨m', e', h3, h4, h5⟩ := read_word_le f (s := s) (r := r) _ (by omega) h2
    exact ⟨m', e', h3, h4, by omega⟩
theorem rootFrom_sq (n : Nat) : ∀ (todo root : Nat), root * root ≤ n → Ieee.Datum.rootFrom n todo root * Ieee.Datum.rootFrom n todo root ≤ n
  | 0, root, h => h
  | todo + 1, root, h => by
    unfold Ieee.Datum.rootFrom
    dsimp only
    split
    · rename_i h'
      exact rootFrom_sq n todo _ h'
    · exact rootFrom_sq n todo _ h
theorem lt_of_sq {w k : Nat} (h : w * w < 2 ^ (2 * k)) : w < 2 ^ k := by
  refine Nat.lt_of_not_le fun hle => ?_
  have := Nat.mul_le_mul hle hle
  rw [← Nat.pow_add, ← Nat.two_mul] at this
  omega
theorem open_num (x : Nat) (h : ∀ s m e, FloatKind.f64.format.read x = .number s m e → (FloatKind.f32.format.read (FloatKind.f32.format.nearest s m e)).isInfinity = false) : fcvOpen .f64 .f32 x = false :=
  match_number (FloatKind.f64.format.read x) (fun n m e => (FloatKind.f32.format.read (FloatKind.f32.format.write (.number n m e))).isInfinity) h
theorem log2_le_of_lt {m k : Nat} (hm : m ≠ 0) (h : m < 2 ^ (k + 1)) : m.log2 ≤ k := by
  have := (Nat.log2_lt hm).2 h
  omega
theorem lims64 : FloatKind.f64.format.fractionBits = 52 ∧ FloatKind.f64.format.leastPlace = -1074 := by decide
theorem lims32 : FloatKind.f32.format.fractionBits = 23 ∧ FloatKind.f32.format.leastPlace = -149 := by decide
theorem enc64 (s : Bool) (m : Nat) (p K : Int) (hK : m ≠ 0 → p + (m.log2 : Int) ≤ K) (h1 : -1000 ≤ K) (h2 : K ≤ 1000) :
    ∃ m' e', FloatKind.f64.format.read (FloatKind.f64.format.nearest s m p) = .number s m' e' ∧ m' < 2 ^ 53 ∧ e' ≤ K - 51 := by
  obtain ⟨l1, l2⟩ := lims64
  have e1 : FloatKind.f64.format.binade = 4503599627370496 := by decide
  have e2 : FloatKind.f64.format.infRung = 9218868437227405312 := by decide
  have := enc_le FloatKind.f64.format s m p K hK (by rw [l1, l2]; omega) (by rw [l1, l2, e1, e2]; omega)
  obtain ⟨m', e', q1, q2, q3⟩ := this
  rw [l1] at q2 q3
  exact ⟨m', e', q1, q2, by omega⟩
theorem enc32 (s : Bool) (m : Nat) (p K : Int) (hK : m ≠ 0 → p + (m.log2 : Int) ≤ K) (h1 : -120 ≤ K) (h2 : K ≤ 126) :
    ∃ m' e', FloatKind.f32.format.read (FloatKind.f32.format.nearest s m p) = .number s m' e' ∧ m' < 2 ^ 24 ∧ e' ≤ K - 22 := by
  obtain ⟨l1, l2⟩ := lims32
  have e1 : FloatKind.f32.format.binade = 8388608 := by decide
  have e2 : FloatKind.f32.format.infRung = 2139095040 := by decide
  have := enc_le FloatKind.f32.format s m p K hK (by rw [l1, l2]; omega) (by rw [l1, l2, e1, e2]; omega)
  obtain ⟨m', e', q1, q2, q3⟩ := this
  rw [l1] at q2 q3
  exact ⟨m', e', q1, q2, by omega⟩
theorem root_le {m : Nat} {i : Int} {s : Bool} {d : Ieee.Datum} (hm : m < 2 ^ 53) (hi : i ≤ 78) (h : (Ieee.Datum.number s m i).root (FloatKind.f64.format.fractionBits + 2) = some d) : ∃ s' m' i', d = .number s' m' i' ∧ (m' ≠ 0 → i' + (m'.log2 : Int) ≤ 70) := by
  unfold Ieee.Datum.root at h
  dsimp only at h
  by_cases h0 : m = 0
  · rw [if_pos h0] at h
    cases h
    exact ⟨_, _, _, rfl, fun h => absurd h0 h⟩
  · rw [if_neg h0] at h
    cases s with
    | true =>
      rw [if_pos rfl] at h
      cases h
    | false =>
        rw [if_neg (by decide)] at h
        generalize hmore : 2 * (FloatKind.f64.format.fractionBits + 2) - m.log2 + ((i - ((2 * (FloatKind.f64.format.fractionBits + 2) - m.log2 : Nat) : Int)) % 2).toNat = more at h
        cases h
        refine ⟨_, _, _, rfl, fun hne => ?_⟩
        have hsq := rootFrom_sq (m <<< more) ((m <<< more).log2 / 2 + 1) 0 (by simp)
        generalize Ieee.Datum.rootFrom (m <<< more) ((m <<< more).log2 / 2 + 1) 0 = w at hsq hne ⊢
        rw [Nat.shiftLeft_eq] at hsq
        have hn : m * 2 ^ more < 2 ^ (53 + more) := by
          rw [Nat.pow_add]
          exact Nat.mul_lt_mul_of_pos_right hm (Nat.two_pow_pos _)
        have hw : w < 2 ^ ((54 + more) / 2) := by
          refine lt_of_sq (Nat.lt_of_le_of_lt hsq (Nat.lt_of_lt_of_le hn (Nat.pow_le_pow_right (by omega) (by omega))))
        have hb := Bool.toNat_le (w * w != m <<< more)
        have hl : (2 * w + (w * w != m <<< more).toNat).log2 ≤ (54 + more) / 2 := by
          refine log2_le_of_lt hne ?_
          rw [Nat.pow_succ]
          omega
        omega
/-- The root of a number that is no float32's, but nearly, is no greater than a float32. -/
theorem sqrt_small (y : Nat) (h : ∀ s m e, FloatKind.f64.format.read y = .number s m e → m < 2 ^ 53 ∧ e ≤ 78) : fcvOpen .f64 .f32 (fsqrt y) = false := by
  refine open_num _ fun s m e hd => ?_
  unfold fsqrt at hd
  cases hq : FloatKind.f64.format.sqrt y with
  | none =>
    rw [hq, Option.getD_none, nz_nanOf] at hd
    obtain ⟨s', t, h'⟩ := decode_nanOf .f64
    have h'' : FloatKind.f64.format.read (nanOf .f64) = .nan s' t := h'
    rw [h''] at hd
    cases hd
  | some r =>
    rw [hq, Option.getD_some] at hd
    unfold Ieee.Format.sqrt at hq
    obtain ⟨d, hd1, hd2⟩ := Option.map_eq_some_iff.1 hq
    have hnz : isNaN .f64 r = false := by
      cases hn : isNaN .f64 r with
      | false => rfl
      | true =>
        exfalso
        rw [nz_of_nan hn] at hd
        obtain ⟨s', t, h'⟩ := decode_nanOf .f64
        have h'' : FloatKind.f64.format.read (nanOf .f64) = .nan s' t := h'
        rw [h''] at hd
        cases hd
    rw [nz_of_not hnz] at hd
    cases hy : FloatKind.f64.format.read y with
    | nan s1 t1 => rw [hy] at hd1; cases hd1
    | infinity s1 =>
      rw [hy] at hd1
      cases s1 with
      | true => cases hd1
      | false =>
        cases hd1
        rw [← hd2] at hd
        have : FloatKind.f64.format.read (FloatKind.f64.format.write (.infinity false)) = .infinity false := by kernel_rfl
        rw [this] at hd
        cases hd
    | number s1 m1 i1 =>
      rw [hy] at hd1
      obtain ⟨h1, h2⟩ := h _ _ _ hy
      obtain ⟨s2, m2, i2, rfl, h3⟩ := root_le h1 h2 hd1
      obtain ⟨m', e', q1, q2, q3⟩ := enc64 s2 m2 i2 70 h3 (by omega) (by omega)
      have hd2' : FloatKind.f64.format.nearest s2 m2 i2 = r := hd2
      rw [hd2', hd] at q1
      cases q1
      obtain ⟨m'', e'', q4, q5, q6⟩ := enc32 s m e 126 (fun hm => by
        have := log2_le_of_lt (k := 52) hm q2
        omega) (by omega) (by omega)
      rw [q4]
      rfl
/-- The root of a float32 is no greater than a float32. -/
theorem open_sqrt (x : Nat) : fcvOpen .f64 .f32 (fsqrt (fcv .f32 .f64 x)) = false := by
  refine sqrt_small _ fun s m e hd => ?_
  have hx : fcv .f32 .f64 x = nz .f64 (match FloatKind.f32.format.read x with
    | .nan _ _ => nanOf .f64
    | .infinity n => FloatKind.f64.format.write (.infinity n)
    | .number n m e => FloatKind.f64.format.write (.number n m e)) := rfl
  rw [hx] at hd
  cases hr : FloatKind.f32.format.read x with
  | nan s1 t1 =>
    rw [hr, nz_nanOf] at hd
    obtain ⟨s', t, h'⟩ := decode_nanOf .f64
    have h'' : FloatKind.f64.format.read (nanOf .f64) = .nan s' t := h'
    rw [h''] at hd
    cases hd
  | infinity s1 =>
    rw [hr] at hd
    exfalso
    cases s1 with
    | true =>
      have : FloatKind.f64.format.read (nz .f64 (FloatKind.f64.format.write (.infinity true))) = .infinity true := by kernel_rfl
      rw [this] at hd
      cases hd
    | false =>
      have : FloatKind.f64.format.read (nz .f64 (FloatKind.f64.format.write (.infinity false))) = .infinity false := by kernel_rfl
      rw [this] at hd
      cases hd
  | number s1 m1 e1 =>
    rw [hr] at hd
    obtain ⟨h1, h2, h3⟩ := read_single hr
    obtain ⟨m', e', q1, q2, q3⟩ := enc64 s1 m1 e1 128 (fun hm => by
      have := log2_le_of_lt (k := 23) hm h1
      omega) (by omega) (by omega)
    have hn : isNaN .f64 (FloatKind.f64.format.nearest s1 m1 e1) = false := by
      show (FloatKind.f64.format.read (FloatKind.f64.format.nearest s1 m1 e1)).isNaN = false
      rw [q1]
      rfl
    have hd' : FloatKind.f64.format.read (nz .f64 (FloatKind.f64.format.nearest s1 m1 e1)) = .number s m e := hd
    rw [nz_of_not hn, q1] at hd'
    cases hd'
    exact ⟨q2, by omega⟩

theorem read64 (a : Nat) : FloatKind.f64.format.read a = (if a % 9223372036854775808 < 4503599627370496 then .number (a / 9223372036854775808 % 2 == 1) (a % 9223372036854775808) (-1074) else if a % 9223372036854775808 < 9218868437227405312 then .number (a / 9223372036854775808 % 2 == 1) (4503599627370496 + a % 9223372036854775808 % 4503599627370496) (-1074 + ((a % 9223372036854775808 / 4503599627370496 - 1 : Nat) : Int)) else if a % 9223372036854775808 = 9218868437227405312 then .infinity (a / 9223372036854775808 % 2 == 1) else .nan (a / 9223372036854775808 % 2 == 1) (a % 9223372036854775808 - 9218868437227405312)) := by
  have e1 : FloatKind.f64.format.signWeight = 9223372036854775808 := by decide
  have e2 : FloatKind.f64.format.binade = 4503599627370496 := by decide
  have e3 : FloatKind.f64.format.infRung = 9218868437227405312 := by decide
  have e4 : FloatKind.f64.format.leastPlace = -1074 := by decide
  unfold Ieee.Format.read
  dsimp only
  rw [e1, e2, e3, e4]
/-- A whole number of up to 53 digits times a power of two is a float64 as it is. -/
theorem near64 {m : Nat} {p : Int} (hm : m ≠ 0) (h53 : m < 2 ^ (52 + 1)) (h1 : -1000 ≤ p + (m.log2 : Int)) (h2 : p + (m.log2 : Int) ≤ 900) :
    FloatKind.f64.format.read (FloatKind.f64.format.nearest false m p) = .number false (m * 2 ^ (52 - m.log2)) (p - ((52 - m.log2 : Nat) : Int)) := by
  have hl : m.log2 ≤ 52 := log2_le_of_lt hm h53
  have hM1 : 4503599627370496 ≤ m * 2 ^ (52 - m.log2) := by
    have := Nat.log2_self_le hm
    calc 4503599627370496 = 2 ^ m.log2 * 2 ^ (52 - m.log2) := by
          rw [← Nat.pow_add, show m.log2 + (52 - m.log2) = 52 by omega]
      _ ≤ _ := Nat.mul_le_mul_right _ this
  have hM2 : m * 2 ^ (52 - m.log2) < 9007199254740992 := by
    have : m < 2 ^ (m.log2 + 1) := Nat.lt_log2_self
    calc m * 2 ^ (52 - m.log2) < 2 ^ (m.log2 + 1) * 2 ^ (52 - m.log2) := Nat.mul_lt_mul_of_pos_right this (Nat.two_pow_pos _)
      _ = 9007199254740992 := by
          rw [← Nat.pow_add, show m.log2 + 1 + (52 - m.log2) = 53 by omega]
  obtain ⟨l1, l2⟩ := lims64
  have e2 : FloatKind.f64.format.binade = 4503599627370496 := by decide
  have e3 : FloatKind.f64.format.infRung = 9218868437227405312 := by decide
  have hn : FloatKind.f64.format.nearest false m p = (p - ((52 - m.log2 : Nat) : Int) + 1074).toNat * 4503599627370496 + m * 2 ^ (52 - m.log2) := by
    unfold Ieee.Format.nearest
    rw [if_neg hm]
    dsimp only
    rw [l1, l2, e2, e3]
    have hlast : max (p + (m.log2 : Int) - ((52 : Nat) : Int)) (-1074) = p - ((52 - m.log2 : Nat) : Int) := by omega
    rw [hlast, cut_rn, show (p - ((52 - m.log2 : Nat) : Int) - p).toNat = 0 by omega, rn_zero, Nat.shiftLeft_eq, show (p - (p - ((52 - m.log2 : Nat) : Int))).toNat = 52 - m.log2 by omega]
    unfold Ieee.Format.word
    simp only [Bool.false_eq_true, if_false]
    rw [show p - ((52 - m.log2 : Nat) : Int) - -1074 = p - ((52 - m.log2 : Nat) : Int) + 1074 by omega]
    refine Nat.min_eq_left ?_
    have h3 : (p - ((52 - m.log2 : Nat) : Int) + 1074).toNat ≤ 2000 := by omega
    generalize (p - ((52 - m.log2 : Nat) : Int) + 1074).toNat = k at h3
    generalize m * 2 ^ (52 - m.log2) = M at hM2
    omega
  rw [hn]
  have hp : p - ((52 - m.log2 : Nat) : Int) = -1074 + (((p - ((52 - m.log2 : Nat) : Int) + 1074).toNat : Nat) : Int) := by omega
  have h3 : (p - ((52 - m.log2 : Nat) : Int) + 1074).toNat ≤ 2000 := by omega
  generalize (p - ((52 - m.log2 : Nat) : Int) + 1074).toNat = k at h3 hp ⊢
  rw [hp]
  generalize m * 2 ^ (52 - m.log2) = M at hM1 hM2 ⊢
  rw [read64]
  have q1 : (k * 4503599627370496 + M) % 9223372036854775808 = k * 4503599627370496 + M := Nat.mod_eq_of_lt (by omega)
  have q2 : (k * 4503599627370496 + M) / 9223372036854775808 = 0 := Nat.div_eq_of_lt (by omega)
  rw [q1, q2, if_neg (by omega), if_pos (by omega)]
  have q3 : (k * 4503599627370496 + M) / 4503599627370496 = k + 1 := by omega
  have q4 : (k * 4503599627370496 + M) % 4503599627370496 = M - 4503599627370496 := by omega
  rw [q3, q4, show 4503599627370496 + (M - 4503599627370496) = M by omega, show k + 1 - 1 = k by omega]
  rfl
theorem near64_nz {m : Nat} {p : Int} (hm : m ≠ 0) (h53 : m < 2 ^ (52 + 1)) (h1 : -1000 ≤ p + (m.log2 : Int)) (h2 : p + (m.log2 : Int) ≤ 900) : nz .f64 (FloatKind.f64.format.nearest false m p) = FloatKind.f64.format.nearest false m p := by
  refine nz_of_not ?_
  show (FloatKind.f64.format.read (FloatKind.f64.format.nearest false m p)).isNaN = false
  rw [near64 hm h53 h1 h2]
  rfl
/-- Twice. -/
theorem near64_mul2 {m : Nat} {p : Int} (hm : m ≠ 0) (h53 : m < 2 ^ (52 + 1)) (h1 : -1000 ≤ p + (m.log2 : Int)) (h2 : p + (m.log2 : Int) ≤ 800) :
    fmul .f64 (FloatKind.f64.format.nearest false m p) 4611686018427387904 = FloatKind.f64.format.nearest false m (p + 1) := by
  have h2' : FloatKind.f64.format.read 4611686018427387904 = .number false 4503599627370496 (-51) := by kernel_rfl
  have hl : m.log2 ≤ 52 := log2_le_of_lt hm h53
  have e : FloatKind.f64.format.mul (FloatKind.f64.format.nearest false m p) 4611686018427387904 = some (FloatKind.f64.format.nearest false m (p + 1)) := by
    unfold Ieee.Format.mul
    rw [near64 hm h53 h1 (by omega), h2']
    simp only [Ieee.Datum.product, Option.map_some, Option.some.injEq]
    show FloatKind.f64.format.nearest false (m * 2 ^ (52 - m.log2) * 4503599627370496) (p - ((52 - m.log2 : Nat) : Int) + -51) = _
    have h3 := nearest_shift FloatKind.f64.format false m (52 - m.log2 + 52) (p + 1)
    have e1 : m * 2 ^ (52 - m.log2) * 4503599627370496 = m * 2 ^ (52 - m.log2 + 52) := by
      rw [Nat.pow_add, ← Nat.mul_assoc]
    have e2 : p - ((52 - m.log2 : Nat) : Int) + -51 = p + 1 - ((52 - m.log2 + 52 : Nat) : Int) := by omega
    rw [e1, e2]
    exact h3
  unfold fmul
  rw [e, Option.getD_some, near64_nz hm h53 (by omega) (by omega)]
/-- Cut to a whole number. -/
theorem near64_int {m : Nat} {d : Nat} (hm : m ≠ 0) (h53 : m < 2 ^ (52 + 1)) (hd : d ≤ 900) : floatToIntVal .f64 (FloatKind.f64.format.nearest false m (-(d : Int))) .i64 = some ((m / 2 ^ d : Nat) : Int) := by
  have hl : m.log2 ≤ 52 := log2_le_of_lt hm h53
  have hr := near64 (p := -(d : Int)) hm h53 (by omega) (by omega)
  have ht : (FloatKind.f64.decode (FloatKind.f64.format.nearest false m (-(d : Int)))).toInt .zero = some ((m / 2 ^ d : Nat) : Int) := by
    show (FloatKind.f64.format.read (FloatKind.f64.format.nearest false m (-(d : Int)))).toInt .zero = _
    rw [hr]
    simp only [Ieee.Datum.toInt, Ieee.Datum.integral, Option.some.injEq]
    rw [show Ieee.signed false = fun a b => ((a * 2 ^ b : Nat) : Int) from funext fun a => funext fun b => by simp only [Ieee.signed, Bool.false_eq_true, if_false, Nat.shiftLeft_eq]]
    simp only [Nat.pow_zero, Nat.mul_one]
    rw [show (-(d : Int) - ((52 - m.log2 : Nat) : Int)).toNat = 0 by omega, Nat.shiftLeft_zero, show (-(-(d : Int) - ((52 - m.log2 : Nat) : Int))).toNat = d + (52 - m.log2) by omega]
    have hcut : Ieee.Toward.zero.cut false (m * 2 ^ (52 - m.log2)) (d + (52 - m.log2)) = m / 2 ^ d := by
      unfold Ieee.Toward.cut
      simp only [Bool.toNat_false, Nat.add_zero, Nat.one_shiftLeft]
      have hq : m * 2 ^ (52 - m.log2) / 2 ^ (d + (52 - m.log2)) = m / 2 ^ d := by
        rw [Nat.pow_add, Nat.mul_div_mul_right _ _ (Nat.two_pow_pos _)]
      by_cases hle : d + (52 - m.log2) ≤ (m * 2 ^ (52 - m.log2)).log2 + 2
      · rw [Nat.min_eq_left hle, hq]
      · rw [Nat.min_eq_right (by omega), ← hq]
        have h3 : m * 2 ^ (52 - m.log2) < 2 ^ ((m * 2 ^ (52 - m.log2)).log2 + 1) := Nat.lt_log2_self
        rw [Nat.div_eq_of_lt (Nat.lt_of_lt_of_le h3 (Nat.pow_le_pow_right (by omega) (by omega))), Nat.div_eq_of_lt (Nat.lt_of_lt_of_le h3 (Nat.pow_le_pow_right (by omega) (by omega)))]
    rw [hcut]
  unfold floatToIntVal
  rw [ht]
  have h4 : m / 2 ^ d ≤ m := Nat.div_le_self _ _
  have h5 : m < 9007199254740992 := h53
  simp only [IntKind.min, IntKind.max, IntKind.bits, IntKind.signed]
  rw [if_pos]
  constructor
  · exact Int.le_trans (by decide) (Int.natCast_nonneg _)
  · refine Int.le_trans (Int.ofNat_le.2 (Nat.le_of_lt (Nat.lt_of_le_of_lt h4 h5))) (by decide)
theorem near64_ofint (n : Nat) : FloatKind.f64.nearest (n : Int) = FloatKind.f64.format.nearest false n 0 := by
  unfold FloatKind.nearest FloatKind.encode
  rw [decide_eq_false (by omega), Int.natAbs_natCast]
  rfl
/-- Whether a number is whole: whether it is what it is cut to. -/
theorem near64_whole {m : Nat} {d : Nat} (hm : m ≠ 0) (h53 : m < 2 ^ (52 + 1)) (hd : d ≤ 900) :
    fne .f64 (FloatKind.f64.format.nearest false m (-(d : Int))) (fofint .f64 ((m / 2 ^ d : Nat) : Int)) = !decide (m % 2 ^ d = 0) := by
  have hl : m.log2 ≤ 52 := log2_le_of_lt hm h53
  have hr := near64 (p := -(d : Int)) hm h53 (by omega) (by omega)
  have hmd := Nat.div_add_mod m (2 ^ d)
  have h2d : 0 < 2 ^ d := Nat.two_pow_pos d
  unfold fofint
  rw [near64_ofint]
  have hfin : ∀ (n : Nat), n < 2 ^ (52 + 1) → ∃ M k, FloatKind.f64.format.read (FloatKind.f64.format.nearest false n 0) = .number false M (-(k : Nat) : Int) ∧ M = n * 2 ^ k := by
    intro n hn
    by_cases h0 : n = 0
    · subst h0
      refine ⟨0, 1074, ?_, by omega⟩
      kernel_rfl
    · have hln : n.log2 ≤ 52 := log2_le_of_lt h0 hn
      refine ⟨_, 52 - n.log2, ?_, rfl⟩
      rw [near64 (p := 0) h0 hn (by omega) (by omega)]
      congr 1
      omega
  obtain ⟨M, k, hq1, hq2⟩ := hfin (m / 2 ^ d) (Nat.lt_of_le_of_lt (Nat.div_le_self _ _) h53)
  have hnz : nz .f64 (FloatKind.f64.format.nearest false (m / 2 ^ d) 0) = FloatKind.f64.format.nearest false (m / 2 ^ d) 0 := by
    refine nz_of_not ?_
    show (FloatKind.f64.format.read _).isNaN = false
    rw [hq1]
    rfl
  rw [hnz]
  unfold fne Ieee.Format.order
  rw [hr, hq1, hq2]
  simp only [Ieee.Datum.order]
  have hsf : ∀ a b, Ieee.signed false a b = ((a * 2 ^ b : Nat) : Int) := fun a b => by simp only [Ieee.signed, Bool.false_eq_true, if_false, Nat.shiftLeft_eq]
  rw [hsf, hsf]
  generalize hb : min (-(d : Int) - ((52 - m.log2 : Nat) : Int)) (-(k : Int)) = base
  -- both sides, with one place
  have key : ∀ u : Nat, (u : Int) = -base → m * 2 ^ (52 - m.log2) * 2 ^ (-(d : Int) - ((52 - m.log2 : Nat) : Int) - base).toNat * 2 ^ d = m * 2 ^ u ∧ m / 2 ^ d * 2 ^ k * 2 ^ (-(k : Int) - base).toNat * 2 ^ d = (m / 2 ^ d * 2 ^ d) * 2 ^ u := by
    intro u hu
    constructor
    · rw [Nat.mul_assoc, Nat.mul_assoc, ← Nat.pow_add, ← Nat.pow_add]
      congr 2
      omega
    · rw [Nat.mul_assoc (m / 2 ^ d), Nat.mul_assoc (m / 2 ^ d), Nat.mul_assoc (m / 2 ^ d), ← Nat.pow_add, ← Nat.pow_add, ← Nat.pow_add]
      congr 2
      omega
  obtain ⟨k1, k2⟩ := key (-base).toNat (by omega)
  generalize m * 2 ^ (52 - m.log2) * 2 ^ (-(d : Int) - ((52 - m.log2 : Nat) : Int) - base).toNat = A at k1 ⊢
  generalize m / 2 ^ d * 2 ^ k * 2 ^ (-(k : Int) - base).toNat = B at k2 ⊢
  have hu : 0 < 2 ^ (-base).toNat := Nat.two_pow_pos _
  by_cases h0 : m % 2 ^ d = 0
  · rw [decide_eq_true h0]
    have e1 : m / 2 ^ d * 2 ^ d = m := by rw [Nat.mul_comm]; omega
    rw [e1] at k2
    have e2 : A = B := Nat.eq_of_mul_eq_mul_right h2d (k1.trans k2.symm)
    rw [e2]
    simp
  · rw [decide_eq_false h0]
    have e2 : A ≠ B := by
      intro he
      rw [he, k2] at k1
      have e3 := Nat.eq_of_mul_eq_mul_right hu k1
      rw [Nat.mul_comm] at e3
      omega
    have e3 : compare ((A : Nat) : Int) ((B : Nat) : Int) ≠ .eq := by
      intro hc
      exact e2 (Int.ofNat_inj.1 (Int.compare_eq_eq.1 hc))
    cases hc : compare ((A : Nat) : Int) ((B : Nat) : Int) with
    | eq => exact absurd hc e3
    | lt => rfl
    | gt => rfl
/-- A float32's number as a float64. -/
theorem fcv_wide {a m : Nat} {p : Int} (hr : FloatKind.f32.format.read a = .number false m p) (hm : m ≠ 0) (h53 : m < 2 ^ (52 + 1)) (h1 : -1000 ≤ p + (m.log2 : Int)) (h2 : p + (m.log2 : Int) ≤ 800) : fcv .f32 .f64 a = FloatKind.f64.format.nearest false m p := by
  have hx : fcv .f32 .f64 a = nz .f64 (match FloatKind.f32.format.read a with
    | .nan _ _ => nanOf .f64
    | .infinity n => FloatKind.f64.format.write (.infinity n)
    | .number n m e => FloatKind.f64.format.write (.number n m e)) := rfl
  rw [hx, hr]
  exact near64_nz hm h53 h1 (by omega)

theorem ord_le {s t : Bool} {m n : Nat} {i j : Int} (h : (Ieee.Datum.number s m i).order (.number t n j) = some .lt ∨ (Ieee.Datum.number s m i).order (.number t n j) = some .eq) :
    Ieee.signed s m (i - min i j).toNat ≤ Ieee.signed t n (j - min i j).toNat := by
  simp only [Ieee.Datum.order, Option.some.injEq, Int.compare_eq_lt, Int.compare_eq_eq] at h
  omega
theorem signed_f (m k : Nat) : Ieee.signed false m k = ((m * 2 ^ k : Nat) : Int) := by
  simp only [Ieee.signed, Bool.false_eq_true, if_false, Nat.shiftLeft_eq]
theorem signed_t (m k : Nat) : Ieee.signed true m k = -((m * 2 ^ k : Nat) : Int) := by
  simp only [Ieee.signed, if_true, Nat.shiftLeft_eq]
theorem read32 (a : Nat) : FloatKind.f32.format.read a = (if a % 2147483648 < 8388608 then .number (a / 2147483648 % 2 == 1) (a % 2147483648) (-149) else if a % 2147483648 < 2139095040 then .number (a / 2147483648 % 2 == 1) (8388608 + a % 2147483648 % 8388608) (-149 + ((a % 2147483648 / 8388608 - 1 : Nat) : Int)) else if a % 2147483648 = 2139095040 then .infinity (a / 2147483648 % 2 == 1) else .nan (a / 2147483648 % 2 == 1) (a % 2147483648 - 2139095040)) := by
  have e1 : FloatKind.f32.format.signWeight = 2147483648 := by decide
  have e2 : FloatKind.f32.format.binade = 8388608 := by decide
  have e3 : FloatKind.f32.format.infRung = 2139095040 := by decide
  have e4 : FloatKind.f32.format.leastPlace = -149 := by decide
  unfold Ieee.Format.read
  dsimp only
  rw [e1, e2, e3, e4]
/-- A float32 from 1/1024 to 1024, as a number. -/
theorem target_read {a : Nat} (ha : flHas .f32 a) (h1 : fle .f32 981467136 a = true) (h2 : fle .f32 a 1149239296 = true) :
    ∃ d : Nat, 13 ≤ d ∧ d ≤ 33 ∧ FloatKind.f32.format.read a = .number false (8388608 + a % 8388608) (-(d : Int)) ∧ a / 8388608 = 150 - d := by
  have hc : FloatKind.f32.format.read 981467136 = .number false 8388608 (-33) := by kernel_rfl
  have hd : FloatKind.f32.format.read 1149239296 = .number false 8388608 (-13) := by kernel_rfl
  have o1 : (Ieee.Datum.number false 8388608 (-33)).order (FloatKind.f32.format.read a) = some .lt ∨ (Ieee.Datum.number false 8388608 (-33)).order (FloatKind.f32.format.read a) = some .eq := by
    have h : (FloatKind.f32.format.order 981467136 a == some .lt || FloatKind.f32.format.order 981467136 a == some .eq) = true := h1
    unfold Ieee.Format.order at h
    rw [hc] at h
    simpa using h
  have o2 : (FloatKind.f32.format.read a).order (Ieee.Datum.number false 8388608 (-13)) = some .lt ∨ (FloatKind.f32.format.read a).order (Ieee.Datum.number false 8388608 (-13)) = some .eq := by
    have h : (FloatKind.f32.format.order a 1149239296 == some .lt || FloatKind.f32.format.order a 1149239296 == some .eq) = true := h2
    unfold Ieee.Format.order at h
    rw [hd] at h
    simpa using h
  have ha' : a < 4294967296 := ha
  have hr := read32 a
  generalize hs : (a / 2147483648 % 2 == 1) = s at hr
  by_cases c1 : a % 2147483648 < 8388608
  · exfalso
    rw [if_pos c1] at hr
    rw [hr] at o1
    have := ord_le o1
    rw [show (min (-33 : Int) (-149)) = -149 by decide] at this
    cases s
    · rw [signed_f, signed_f] at this
      rw [show ((-33 : Int) - -149).toNat = 116 by decide, show ((-149 : Int) - -149).toNat = 0 by decide] at this
      have : 8388608 * 2 ^ 116 ≤ a % 2147483648 * 2 ^ 0 := by omega
      have h3 : (8388608 : Nat) ≤ 8388608 * 2 ^ 116 := Nat.le_mul_of_pos_right _ (Nat.two_pow_pos _)
      omega
    · rw [signed_f, signed_t] at this
      have h3 : 0 < 8388608 * 2 ^ ((-33 : Int) - -149).toNat := Nat.mul_pos (by omega) (Nat.two_pow_pos _)
      omega
  · by_cases c2 : a % 2147483648 < 2139095040
    · rw [if_neg c1, if_pos c2] at hr
      rw [hr] at o1 o2
      have p1 := ord_le o1
      have p2 := ord_le o2
      cases s
      · have hlt : a < 2147483648 := by
          simp only [beq_eq_false_iff_ne, ne_eq] at hs
          omega
        rw [Nat.mod_eq_of_lt hlt] at hr c1 c2 p1 p2
        rw [signed_f, signed_f] at p1 p2
        have q1 : 117 ≤ a / 8388608 := by
          refine Nat.le_of_not_lt fun hq => ?_
          have hmin : min (-33 : Int) (-149 + ((a / 8388608 - 1 : Nat) : Int)) = -149 + ((a / 8388608 - 1 : Nat) : Int) := by omega
          rw [hmin, Int.sub_self, Int.toNat_zero, Nat.pow_zero, Nat.mul_one] at p1
          have h3 : 2 ^ 1 ≤ 2 ^ ((-33 : Int) - (-149 + ((a / 8388608 - 1 : Nat) : Int))).toNat := Nat.pow_le_pow_right (by omega) (by omega)
          have h4 := Nat.mul_le_mul_left 8388608 h3
          omega
        have q2 : a / 8388608 ≤ 137 := by
          refine Nat.le_of_not_lt fun hq => ?_
          have hmin : min (-149 + ((a / 8388608 - 1 : Nat) : Int)) (-13 : Int) = -13 := by omega
          rw [hmin, Int.sub_self, Int.toNat_zero, Nat.pow_zero, Nat.mul_one] at p2
          have h3 : 2 ^ 1 ≤ 2 ^ (-149 + ((a / 8388608 - 1 : Nat) : Int) - -13).toNat := Nat.pow_le_pow_right (by omega) (by omega)
          have h4 := Nat.mul_le_mul (Nat.le_add_right 8388608 (a % 8388608)) h3
          omega
        refine ⟨150 - a / 8388608, by omega, by omega, ?_, by omega⟩
        rw [hr]
        congr 1
        omega
      · exfalso
        rw [signed_f, signed_t] at p1
        have h3 : ∀ k, 0 < 8388608 * 2 ^ k := fun k => Nat.mul_pos (by omega) (Nat.two_pow_pos _)
        have := h3 ((-33 : Int) - min (-33) (-149 + ((a % 2147483648 / 8388608 - 1 : Nat) : Int))).toNat
        omega
    · exfalso
      by_cases c3 : a % 2147483648 = 2139095040
      · rw [if_neg c1, if_neg c2, if_pos c3] at hr
        rw [hr] at o1 o2
        cases s <;> simp [Ieee.Datum.order] at o1 o2
      · rw [if_neg c1, if_neg c2, if_neg c3] at hr
        rw [hr] at o1
        simp [Ieee.Datum.order] at o1

end Go.Proofs.Ytkfpmiggolmabaa.Sx
