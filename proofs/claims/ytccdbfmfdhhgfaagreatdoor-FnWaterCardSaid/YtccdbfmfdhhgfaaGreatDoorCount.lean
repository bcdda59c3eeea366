/- impl.decimal and impl.count at this program: what they answer. -/
import Derived.Test.YtccdbfmfdhhgfaaGreatDoorShelf
import Derived.Test.YtccdbfmfdhhgfaaGreatDoorSxB1
import Derived.Lib.Walk
import Derived.Lib.AtoiErrMem
import Derived.WalkKit
import Derived.BigCall
import Derived.BigGuard
namespace Go.Proofs.YtccdbfmfdhhgfaaGreatDoor
open Go Go.Proofs Go.Shelf Go.RowKit Sx
set_option linter.unusedVariables false
set_option linter.unusedSimpArgs false
set_option maxRecDepth 100000
set_option maxHeartbeats 4000000
theorem grow_below (w : World) (k : Nat) (os : Array Obj) : Below w.heap.size w (Go.Sort.grow (w.drewN k) os) := by
  refine ⟨rfl, rfl, rfl, ?_, ?_⟩
  · simp [Go.Sort.grow, World.drewN]
  · intro b hb
    simp [Go.Sort.grow, World.drewN, Array.getElem?_append, hb]
theorem dec_calls (n : Nat) (hn : n ≤ 9223372036854775807) (w : World) (htab : Lib.TabIs Tryz.prog w "internal/strconv.uint64pow10" .u64 Lib.pow10Tab) :
    Calls Tryz.prog 31 #[.int .i64 n] w fun e w' => e = .returned (.string ⟨(Lib.decDigits n).toArray⟩) ∧ Below w.heap.size w w' := by
  have hI := Any.strconv_FormatInt_10 Tryz.laysM173 (n : Int) (by omega) (by omega) w htab
  have e : Lib.itoa (n : Int) = Lib.decDigits n := by
    unfold Lib.itoa
    rw [if_neg (by omega), Int.toNat_natCast]
  rw [e] at hI
  go_enter Tryz.func31, Tryz.ntmps31
  go_wp2_with (go_at_call 60; refine hI.mono ?_; rintro e w' ⟨rfl, k, os, rfl⟩)
  go_ret
  exact ⟨rfl, grow_below _ _ _⟩
theorem tab_below {w W : World} {name : String} {k : IntKind} {zs : List Int} (h : Lib.TabIs Tryz.prog w name k zs) (hb : Below w.heap.size w W) : Lib.TabIs Tryz.prog W name k zs := by
  unfold Lib.TabIs World.var? at h ⊢
  cases hg : Program.globalNamed Tryz.prog name with
  | none => rw [hg] at h; cases h
  | some g =>
    rw [hg] at h
    simp only [Option.bind_some] at h ⊢
    have hlt : g < w.heap.size := by
      by_cases hl : g < w.heap.size
      · exact hl
      · rw [Array.getElem?_eq_none (by omega)] at h
        cases h
    rw [hb.block g hlt]
    exact h
theorem count_calls (t : ByteArray) (hlim : t.size ≤ 281474976710656) (ev0 ev1 : Value) (w : World) (hv0 : w.cell? ⟨2, 0, none⟩ = some ev0) (he0 : ev0 = .nilIface ∨ ∃ te pe, ev0 = .iface te pe) (hv1 : w.cell? ⟨3, 0, none⟩ = some ev1) (he1 : ev1 = .nilIface ∨ ∃ te pe, ev1 = .iface te pe) (htab : Lib.TabIs Tryz.prog w "internal/strconv.uint64pow10" .u64 Lib.pow10Tab) :
    Calls Tryz.prog 29 #[.string t] w fun e w' => e = .returned (.tuple #[.int .i16 (numOf 32767 (Lib.parseUintB 15 t.data.toList)), .bool (counts t)]) ∧ Below w.heap.size w w' := by
  have hI := parse15 Tryz.laysPu14 t hlim ev0 ev1 w hv0 he0 hv1 he1
  cases hp : Lib.parseUintB 15 t.data.toList with
  | ok u =>
    have hu : u ≤ 32767 := Lib.parseUintB_le hp
    have hc : counts t = (Lib.decDigits u == t.toList) := by unfold counts; rw [hp]
    rw [hc]
    rw [hp] at hI
    have hn : ((numOf 32767 (.ok u) : Nat) : Int) = (u : Int) := rfl
    rw [hn] at hI ⊢
    go_enter Tryz.func29, Tryz.ntmps29
    go_wp2_with (go_at_call 58; refine hI.mono ?_)
    rintro e W1 ⟨⟨x, rfl, hx⟩, hb⟩
    have hx : x = .nilIface := hx
    subst hx
    go_wp2_with (go_at_call 31; refine (dec_calls u (by omega) _ (tab_below htab hb)).mono ?_)
    rintro e W2 ⟨rfl, hb2⟩
    go_wp2
    go_ret2
    exact ⟨rfl, hb.trans (hb2.mono hb.size)⟩
  | «syntax» =>
    have hc : counts t = false := by unfold counts; rw [hp]
    rw [hc]
    rw [hp] at hI
    have hn : ((numOf 32767 .syntax : Nat) : Int) = 0 := rfl
    rw [hn] at hI ⊢
    go_enter Tryz.func29, Tryz.ntmps29
    go_wp2_with (go_at_call 58; refine hI.mono ?_)
    rintro e W1 ⟨⟨x, rfl, hx⟩, hb⟩
    obtain ⟨te, pe, rfl⟩ : ∃ te pe, x = .iface te pe := hx
    go_wp2
    go_ret2
    exact ⟨rfl, hb⟩
  | range =>
    have hc : counts t = false := by unfold counts; rw [hp]
    rw [hc]
    rw [hp] at hI
    have hn : ((numOf 32767 .range : Nat) : Int) = 32767 := rfl
    rw [hn] at hI ⊢
    go_enter Tryz.func29, Tryz.ntmps29
    go_wp2_with (go_at_call 58; refine hI.mono ?_)
    rintro e W1 ⟨⟨x, rfl, hx⟩, hb⟩
    obtain ⟨te, pe, rfl⟩ : ∃ te pe, x = .iface te pe := hx
    go_wp2
    go_ret2
    exact ⟨rfl, hb⟩
end Go.Proofs.YtccdbfmfdhhgfaaGreatDoor
