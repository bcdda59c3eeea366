/- The walk of FnGoverned, part 2. -/
import Derived.Test.YtccdbfmfdhhgfaaWFnGoverned1
namespace Go.Proofs.Ytccdbfmfdhhgfaa
open Go Go.RowKit Sx
set_option linter.unusedVariables false
set_option maxRecDepth 100000
set_option maxHeartbeats 0
/-! ### impl_SteadyFrom -/
noncomputable def impl_SteadyFrom.b : Code := bodyOf Try.f20
noncomputable def impl_SteadyFrom.l5.s (x0 : Nat) (x1 : Int) (x2 : Int) (x3 : Nat) (x4 : Nat) (x5 : Nat) (x6 : Nat) (x7 : Nat) (x8 : Nat) (x9 : Nat) (x10 : Nat) (x11 : Int) (x12 : Nat) (x13 : Int) : T ((Int × Nat × Int) ⊕ ((Int × Int × Nat × Int) ⊕ Unit)) :=
  .br (decide (x1 < (100 : Int)))
  (.br (impl_Governor_tick.ok x10 x11 x0 x2 x3 x4 x5 x6 x7 x8 x9)
   (.br (impl_SameState.ok ((impl_Governor_tick x10 x11 x0 x2 x3 x4 x5 x6 x7 x8 x9).1) ((impl_Governor_tick x10 x11 x0 x2 x3 x4 x5 x6 x7 x8 x9).2) x10 x11)
    (.br (impl_SameState ((impl_Governor_tick x10 x11 x0 x2 x3 x4 x5 x6 x7 x8 x9).1) ((impl_Governor_tick x10 x11 x0 x2 x3 x4 x5 x6 x7 x8 x9).2) x10 x11)
     (.leaf (.inr (.inl (x1, (0 : Int), x10, x11))))
     (.leaf (.inl ((IntKind.wrap .i64 (x1 + (1 : Int))), (impl_Governor_tick x10 x11 x0 x2 x3 x4 x5 x6 x7 x8 x9).1, (impl_Governor_tick x10 x11 x0 x2 x3 x4 x5 x6 x7 x8 x9).2))))
    .bad)
   .bad)
  (.leaf (.inr (.inr ())))
noncomputable def impl_SteadyFrom.l5.st (p : Nat × Int × Nat × Nat × Nat × Nat × Nat × Nat × Nat × Nat × Int) (x : Int × Nat × Int) : T ((Int × Nat × Int) ⊕ ((Int × Int × Nat × Int) ⊕ Unit)) := impl_SteadyFrom.l5.s p.1 x.1 p.2.1 p.2.2.1 p.2.2.2.1 p.2.2.2.2.1 p.2.2.2.2.2.1 p.2.2.2.2.2.2.1 p.2.2.2.2.2.2.2.1 p.2.2.2.2.2.2.2.2.1 x.2.1 x.2.2 p.2.2.2.2.2.2.2.2.2.1 p.2.2.2.2.2.2.2.2.2.2
noncomputable def impl_SteadyFrom.l5.r (p : Nat × Int × Nat × Nat × Nat × Nat × Nat × Nat × Nat × Nat × Int) (x : Int × Nat × Int) : Option ((Int × Int × Nat × Int) ⊕ Unit) := iterT (impl_SteadyFrom.l5.st p) manyRounds x
def impl_SteadyFrom.l5.cd : Cd ((Nat × Int × Nat × Nat × Nat × Nat × Nat × Nat × Nat × Nat × Int) × (Int × Nat × Int)) (List V × Hp) := Cd.iso (Cd.pair (Cd.cons (Cd.fl .f32) (Cd.cons (Cd.pt 0 (Cd.natc 0)) (Cd.cons (Cd.pt 1 (Cd.natc 0)) (Cd.cons (Cd.pt 2 (Cd.natc 0)) (Cd.cons (Cd.it .i64) Cd.nil))))) (Cd.cons (Cd.rw 29 8 (Cd.vs (Cd.cons (Cd.it .i16) (Cd.cons (Cd.fl .f32) (Cd.cons (Cd.fl .f32) (Cd.cons (Cd.fl .f32) (Cd.cons (Cd.fl .f32) (Cd.cons (Cd.fl .f32) (Cd.cons (Cd.fl .f32) (Cd.cons (Cd.fl .f32) Cd.nil)))))))))) (Cd.cons (Cd.rw 33 2 (Cd.vs (Cd.cons (Cd.fl .f32) (Cd.cons (Cd.it .i8) Cd.nil)))) (Cd.cons (Cd.rw 33 2 (Cd.vs (Cd.cons (Cd.fl .f32) (Cd.cons (Cd.it .i8) Cd.nil)))) Cd.nil)))) (fun a => ((a.1.1, a.2.1.1, a.2.1.2.1, a.2.1.2.2.1, a.2.1.2.2.2.1, a.2.1.2.2.2.2.1, a.2.1.2.2.2.2.2.1, a.2.1.2.2.2.2.2.2.1, a.2.1.2.2.2.2.2.2.2.1, a.2.2.2.1.1, a.2.2.2.1.2.1), (a.1.2.2.2.2.1, a.2.2.1.1, a.2.2.1.2.1))) (fun a => ((a.1.1, ((), ((), ((), (a.2.1, ()))))), ((a.1.2.1, (a.1.2.2.1, (a.1.2.2.2.1, (a.1.2.2.2.2.1, (a.1.2.2.2.2.2.1, (a.1.2.2.2.2.2.2.1, (a.1.2.2.2.2.2.2.2.1, (a.1.2.2.2.2.2.2.2.2.1, ())))))))), ((a.2.2.1, (a.2.2.2, ())), ((a.1.2.2.2.2.2.2.2.2.2.1, (a.1.2.2.2.2.2.2.2.2.2.2, ())), ()))))) (fun _ => rfl)
def impl_SteadyFrom.l5.out (p : Nat × Int × Nat × Nat × Nat × Nat × Nat × Nat × Nat × Nat × Int) : ((Int × Int × Nat × Int) ⊕ Unit) → X × List V × Hp := sumO (fun r => (.ret, [.pt 0 0, .it .i64 r.1, .it .i64 r.2.1], [some ⟨true, 33, 2, .vs [.fl .f32 r.2.2.1, .it .i8 r.2.2.2]⟩])) (fun r => (.ex 0, [.pt 0 0, .unk, .unk], [some ⟨true, 33, 2, .vs [.fl .f32 p.2.2.2.2.2.2.2.2.2.1, .it .i8 p.2.2.2.2.2.2.2.2.2.2]⟩]))
def impl_SteadyFrom.l5.ex (p : Nat × Int × Nat × Nat × Nat × Nat × Nat × Nat × Nat × Nat × Int) : ((Int × Int × Nat × Int) ⊕ Unit) → T (X × List V × Hp) := sumT (leafT (fun r => (.ret, [.pt 0 0, .it .i64 r.1, .it .i64 r.2.1], [some ⟨true, 33, 2, .vs [.fl .f32 r.2.2.1, .it .i8 r.2.2.2]⟩]))) (leafT (fun r => (.ex 0, [.pt 0 0, .unk, .unk], [some ⟨true, 33, 2, .vs [.fl .f32 p.2.2.2.2.2.2.2.2.2.1, .it .i8 p.2.2.2.2.2.2.2.2.2.2]⟩])))
noncomputable def impl_SteadyFrom.l5.c : List V → Hp → T (X × List V × Hp) := cdL impl_SteadyFrom.l5.cd fun x => optT (impl_SteadyFrom.l5.r x.1 x.2) (impl_SteadyFrom.l5.ex x.1)
noncomputable def impl_SteadyFrom.C : Ctx := { ty := tys, fn := [(33, .q impl_governorCode.c), (34, .q impl_Governor_tick.c), (16, .q impl_SameState.c)], lp := [(5, ⟨[2, 3, 4, 6, 21], [6, 7, 8], impl_SteadyFrom.l5.c⟩)], n := 35, k := 0 }
theorem impl_SteadyFrom.hC : CtxOK Try.prog impl_SteadyFrom.C := CtxOK.of mo tys_ok (FnsOK.cons impl_governorCode.cok (FnsOK.cons impl_Governor_tick.cok (FnsOK.cons impl_SameState.cok FnsOK.nil)))
noncomputable def impl_SteadyFrom.b5 : Code := (nthC (loopsOf impl_SteadyFrom.b) 0)
theorem impl_SteadyFrom.lp5 : LpOK Try.prog impl_SteadyFrom.C impl_SteadyFrom.b5 := (LpOK.nil (by kernel_rfl))
theorem impl_SteadyFrom.l5.round (p : Nat × Int × Nat × Nat × Nat × Nat × Nat × Nat × Nat × Nat × Int) (s : Int × Nat × Int) : roundL impl_SteadyFrom.C [2, 3, 4, 6, 21] [6, 7, 8] impl_SteadyFrom.b5 (impl_SteadyFrom.l5.cd.enc (p, s)).1 (impl_SteadyFrom.l5.cd.enc (p, s)).2 = (impl_SteadyFrom.l5.st p s).map (encSum (fun s => impl_SteadyFrom.l5.cd.enc (p, s)) (impl_SteadyFrom.l5.out p)) := by kernel_rfl
theorem impl_SteadyFrom.l5.lok : LoopOK Try.prog impl_SteadyFrom.C ⟨[2, 3, 4, 6, 21], [6, 7, 8], impl_SteadyFrom.l5.c⟩ impl_SteadyFrom.b5 := loop_cd impl_SteadyFrom.l5.cd impl_SteadyFrom.hC impl_SteadyFrom.lp5 impl_SteadyFrom.l5.round fun p => (Gets.sum Gets.leaf Gets.leaf)
theorem impl_SteadyFrom.lp : LpOK Try.prog impl_SteadyFrom.C impl_SteadyFrom.b := lp_of (by kernel_rfl) (LpsOK.cons (k := 5) (by kernel_rfl) (by kernel_rfl) impl_SteadyFrom.l5.lok LpsOK.nil)
noncomputable def impl_SteadyFrom.t (x0 : Int) (x1 : Nat) (x2 : Nat) (x3 : Nat) (x4 : Nat) (x5 : Nat) (x6 : Nat) (x7 : Nat) (x8 : Nat) (x9 : Int) (x10 : Nat) : T (Nat × Int × Int × Int) :=
  .br (impl_governorCode.ok x0 x1 x2 x3 x4 x5 x6 x7 x8 x9 1 [x10])
  (.br ((impl_governorCode x0 x1 x2 x3 x4 x5 x6 x7 x8 x9 1 [x10]) != (0 : Int))
   (.leaf (0, (0 : Int), (0 : Int), (impl_governorCode x0 x1 x2 x3 x4 x5 x6 x7 x8 x9 1 [x10])))
   (.br (Option.isSome (impl_SteadyFrom.l5.r (x10, x0, x1, x2, x3, x4, x5, x6, x7, 0, (0 : Int)) ((0 : Int), x8, x9)))
    (.br (Sum.isLeft (Option.getD (impl_SteadyFrom.l5.r (x10, x0, x1, x2, x3, x4, x5, x6, x7, 0, (0 : Int)) ((0 : Int), x8, x9)) default))
     (.leaf ((getLeftD (Option.getD (impl_SteadyFrom.l5.r (x10, x0, x1, x2, x3, x4, x5, x6, x7, 0, (0 : Int)) ((0 : Int), x8, x9)) default)).2.2.1, (getLeftD (Option.getD (impl_SteadyFrom.l5.r (x10, x0, x1, x2, x3, x4, x5, x6, x7, 0, (0 : Int)) ((0 : Int), x8, x9)) default)).2.2.2, (getLeftD (Option.getD (impl_SteadyFrom.l5.r (x10, x0, x1, x2, x3, x4, x5, x6, x7, 0, (0 : Int)) ((0 : Int), x8, x9)) default)).1, (getLeftD (Option.getD (impl_SteadyFrom.l5.r (x10, x0, x1, x2, x3, x4, x5, x6, x7, 0, (0 : Int)) ((0 : Int), x8, x9)) default)).2.1))
     (.leaf (0, (0 : Int), (0 : Int), (6 : Int))))
    .bad))
  .bad
noncomputable def impl_SteadyFrom (x0 : Int) (x1 : Nat) (x2 : Nat) (x3 : Nat) (x4 : Nat) (x5 : Nat) (x6 : Nat) (x7 : Nat) (x8 : Nat) (x9 : Int) (x10 : Nat) : Nat × Int × Int × Int := (impl_SteadyFrom.t x0 x1 x2 x3 x4 x5 x6 x7 x8 x9 x10).val
noncomputable def impl_SteadyFrom.ok (x0 : Int) (x1 : Nat) (x2 : Nat) (x3 : Nat) (x4 : Nat) (x5 : Nat) (x6 : Nat) (x7 : Nat) (x8 : Nat) (x9 : Int) (x10 : Nat) : Bool := (impl_SteadyFrom.t x0 x1 x2 x3 x4 x5 x6 x7 x8 x9 x10).ok
def impl_SteadyFrom.cd : Cd (Int × Nat × Nat × Nat × Nat × Nat × Nat × Nat × Nat × Int × Nat) (List V × Hp) := Cd.iso (Cd.pair (Cd.cons (Cd.agg (Cd.cons (Cd.it .i16) (Cd.cons (Cd.fl .f32) (Cd.cons (Cd.fl .f32) (Cd.cons (Cd.fl .f32) (Cd.cons (Cd.fl .f32) (Cd.cons (Cd.fl .f32) (Cd.cons (Cd.fl .f32) (Cd.cons (Cd.fl .f32) Cd.nil))))))))) (Cd.cons (Cd.agg (Cd.cons (Cd.fl .f32) (Cd.cons (Cd.it .i8) Cd.nil))) (Cd.cons (Cd.fl .f32) Cd.nil))) Cd.nil) (fun a => (a.1.1.1, a.1.1.2.1, a.1.1.2.2.1, a.1.1.2.2.2.1, a.1.1.2.2.2.2.1, a.1.1.2.2.2.2.2.1, a.1.1.2.2.2.2.2.2.1, a.1.1.2.2.2.2.2.2.2.1, a.1.2.1.1, a.1.2.1.2.1, a.1.2.2.1)) (fun a => (((a.1, (a.2.1, (a.2.2.1, (a.2.2.2.1, (a.2.2.2.2.1, (a.2.2.2.2.2.1, (a.2.2.2.2.2.2.1, (a.2.2.2.2.2.2.2.1, ())))))))), ((a.2.2.2.2.2.2.2.2.1, (a.2.2.2.2.2.2.2.2.2.1, ())), (a.2.2.2.2.2.2.2.2.2.2, ()))), ())) (fun _ => rfl)
noncomputable def impl_SteadyFrom.tr (a : Int × Nat × Nat × Nat × Nat × Nat × Nat × Nat × Nat × Int × Nat) : T (Nat × Int × Int × Int) := impl_SteadyFrom.t a.1 a.2.1 a.2.2.1 a.2.2.2.1 a.2.2.2.2.1 a.2.2.2.2.2.1 a.2.2.2.2.2.2.1 a.2.2.2.2.2.2.2.1 a.2.2.2.2.2.2.2.2.1 a.2.2.2.2.2.2.2.2.2.1 a.2.2.2.2.2.2.2.2.2.2
def impl_SteadyFrom.enc : (Int × Nat × Nat × Nat × Nat × Nat × Nat × Nat × Nat × Int × Nat) → (Nat × Int × Int × Int) → V := fun a r => .tup [.agg [.fl .f32 r.1, .it .i8 r.2.1], .it .i64 r.2.2.1, .it .i64 r.2.2.2]
noncomputable def impl_SteadyFrom.c : List V → Hp → T V := cdQ impl_SteadyFrom.cd (fun a => .br (impl_SteadyFrom.ok a.1 a.2.1 a.2.2.1 a.2.2.2.1 a.2.2.2.2.1 a.2.2.2.2.2.1 a.2.2.2.2.2.2.1 a.2.2.2.2.2.2.2.1 a.2.2.2.2.2.2.2.2.1 a.2.2.2.2.2.2.2.2.2.1 a.2.2.2.2.2.2.2.2.2.2) (.leaf (impl_SteadyFrom.enc a (impl_SteadyFrom a.1 a.2.1 a.2.2.1 a.2.2.2.1 a.2.2.2.2.1 a.2.2.2.2.2.1 a.2.2.2.2.2.2.1 a.2.2.2.2.2.2.2.1 a.2.2.2.2.2.2.2.2.1 a.2.2.2.2.2.2.2.2.2.1 a.2.2.2.2.2.2.2.2.2.2))) .bad)
theorem impl_SteadyFrom.run (a : Int × Nat × Nat × Nat × Nat × Nat × Nat × Nat × Nat × Int × Nat) : runF impl_SteadyFrom.C Try.f20.results.toList impl_SteadyFrom.b (impl_SteadyFrom.cd.enc a).1 (impl_SteadyFrom.cd.enc a).2 = (impl_SteadyFrom.tr a).map fun r => (impl_SteadyFrom.enc a r, (impl_SteadyFrom.cd.enc a).2) := by kernel_rfl
theorem impl_SteadyFrom.cok : OKq Try.prog 20 impl_SteadyFrom.c := con_q' impl_SteadyFrom.cd impl_SteadyFrom.hC Try.func20 (by kernel_rfl) (by kernel_rfl) (by kernel_rfl) impl_SteadyFrom.lp (fun a => by kernel_rfl) impl_SteadyFrom.run (Tells.ok (tree := impl_SteadyFrom.tr))
/-! ### spec_SteadyFrom -/
noncomputable def spec_SteadyFrom.b : Code := bodyOf Try.f21
noncomputable def spec_SteadyFrom.l7.s (x0 : Nat) (x1 : Int) (x2 : Int) (x3 : Nat) (x4 : Nat) (x5 : Nat) (x6 : Nat) (x7 : Nat) (x8 : Nat) (x9 : Nat) (x10 : Nat) (x11 : Int) (x12 : Nat) (x13 : Int) : T ((Int × Nat × Int) ⊕ ((Int × Int × Nat × Int) ⊕ Unit)) :=
  .br (decide (x1 < (100 : Int)))
  (.br (spec_l03Tick.ok x2 x3 x4 x5 x6 x7 x8 x9 x10 x11 x0)
   (.br (spec_SameState.ok ((spec_l03Tick x2 x3 x4 x5 x6 x7 x8 x9 x10 x11 x0).1) ((spec_l03Tick x2 x3 x4 x5 x6 x7 x8 x9 x10 x11 x0).2) x10 x11)
    (.br (spec_SameState ((spec_l03Tick x2 x3 x4 x5 x6 x7 x8 x9 x10 x11 x0).1) ((spec_l03Tick x2 x3 x4 x5 x6 x7 x8 x9 x10 x11 x0).2) x10 x11)
     (.leaf (.inr (.inl (x1, (0 : Int), x10, x11))))
     (.leaf (.inl ((IntKind.wrap .i64 (x1 + (1 : Int))), (spec_l03Tick x2 x3 x4 x5 x6 x7 x8 x9 x10 x11 x0).1, (spec_l03Tick x2 x3 x4 x5 x6 x7 x8 x9 x10 x11 x0).2))))
    .bad)
   .bad)
  (.leaf (.inr (.inr ())))
noncomputable def spec_SteadyFrom.l7.st (p : Nat × Int × Nat × Nat × Nat × Nat × Nat × Nat × Nat × Nat × Int) (x : Int × Nat × Int) : T ((Int × Nat × Int) ⊕ ((Int × Int × Nat × Int) ⊕ Unit)) := spec_SteadyFrom.l7.s p.1 x.1 p.2.1 p.2.2.1 p.2.2.2.1 p.2.2.2.2.1 p.2.2.2.2.2.1 p.2.2.2.2.2.2.1 p.2.2.2.2.2.2.2.1 p.2.2.2.2.2.2.2.2.1 x.2.1 x.2.2 p.2.2.2.2.2.2.2.2.2.1 p.2.2.2.2.2.2.2.2.2.2
noncomputable def spec_SteadyFrom.l7.r (p : Nat × Int × Nat × Nat × Nat × Nat × Nat × Nat × Nat × Nat × Int) (x : Int × Nat × Int) : Option ((Int × Int × Nat × Int) ⊕ Unit) := iterT (spec_SteadyFrom.l7.st p) manyRounds x
def spec_SteadyFrom.l7.cd : Cd ((Nat × Int × Nat × Nat × Nat × Nat × Nat × Nat × Nat × Nat × Int) × (Int × Nat × Int)) (List V × Hp) := Cd.iso (Cd.pair (Cd.cons (Cd.fl .f32) (Cd.cons (Cd.pt 0 (Cd.natc 0)) (Cd.cons (Cd.pt 1 (Cd.natc 0)) (Cd.cons (Cd.pt 2 (Cd.natc 0)) (Cd.cons (Cd.it .i64) Cd.nil))))) (Cd.cons (Cd.rw 29 8 (Cd.vs (Cd.cons (Cd.it .i16) (Cd.cons (Cd.fl .f32) (Cd.cons (Cd.fl .f32) (Cd.cons (Cd.fl .f32) (Cd.cons (Cd.fl .f32) (Cd.cons (Cd.fl .f32) (Cd.cons (Cd.fl .f32) (Cd.cons (Cd.fl .f32) Cd.nil)))))))))) (Cd.cons (Cd.rw 33 2 (Cd.vs (Cd.cons (Cd.fl .f32) (Cd.cons (Cd.it .i8) Cd.nil)))) (Cd.cons (Cd.rw 33 2 (Cd.vs (Cd.cons (Cd.fl .f32) (Cd.cons (Cd.it .i8) Cd.nil)))) Cd.nil)))) (fun a => ((a.1.1, a.2.1.1, a.2.1.2.1, a.2.1.2.2.1, a.2.1.2.2.2.1, a.2.1.2.2.2.2.1, a.2.1.2.2.2.2.2.1, a.2.1.2.2.2.2.2.2.1, a.2.1.2.2.2.2.2.2.2.1, a.2.2.2.1.1, a.2.2.2.1.2.1), (a.1.2.2.2.2.1, a.2.2.1.1, a.2.2.1.2.1))) (fun a => ((a.1.1, ((), ((), ((), (a.2.1, ()))))), ((a.1.2.1, (a.1.2.2.1, (a.1.2.2.2.1, (a.1.2.2.2.2.1, (a.1.2.2.2.2.2.1, (a.1.2.2.2.2.2.2.1, (a.1.2.2.2.2.2.2.2.1, (a.1.2.2.2.2.2.2.2.2.1, ())))))))), ((a.2.2.1, (a.2.2.2, ())), ((a.1.2.2.2.2.2.2.2.2.2.1, (a.1.2.2.2.2.2.2.2.2.2.2, ())), ()))))) (fun _ => rfl)
def spec_SteadyFrom.l7.out (p : Nat × Int × Nat × Nat × Nat × Nat × Nat × Nat × Nat × Nat × Int) : ((Int × Int × Nat × Int) ⊕ Unit) → X × List V × Hp := sumO (fun r => (.ret, [.pt 0 0, .it .i64 r.1, .it .i64 r.2.1], [some ⟨true, 33, 2, .vs [.fl .f32 r.2.2.1, .it .i8 r.2.2.2]⟩])) (fun r => (.ex 0, [.pt 0 0, .unk, .unk], [some ⟨true, 33, 2, .vs [.fl .f32 p.2.2.2.2.2.2.2.2.2.1, .it .i8 p.2.2.2.2.2.2.2.2.2.2]⟩]))
def spec_SteadyFrom.l7.ex (p : Nat × Int × Nat × Nat × Nat × Nat × Nat × Nat × Nat × Nat × Int) : ((Int × Int × Nat × Int) ⊕ Unit) → T (X × List V × Hp) := sumT (leafT (fun r => (.ret, [.pt 0 0, .it .i64 r.1, .it .i64 r.2.1], [some ⟨true, 33, 2, .vs [.fl .f32 r.2.2.1, .it .i8 r.2.2.2]⟩]))) (leafT (fun r => (.ex 0, [.pt 0 0, .unk, .unk], [some ⟨true, 33, 2, .vs [.fl .f32 p.2.2.2.2.2.2.2.2.2.1, .it .i8 p.2.2.2.2.2.2.2.2.2.2]⟩])))
noncomputable def spec_SteadyFrom.l7.c : List V → Hp → T (X × List V × Hp) := cdL spec_SteadyFrom.l7.cd fun x => optT (spec_SteadyFrom.l7.r x.1 x.2) (spec_SteadyFrom.l7.ex x.1)
noncomputable def spec_SteadyFrom.C : Ctx := { ty := tys, fn := [(35, .q spec_l03Both.c), (36, .q spec_l03Amount.c), (37, .q spec_l03Tick.c), (15, .q spec_SameState.c)], lp := [(7, ⟨[2, 3, 4, 6, 10], [6, 7, 8], spec_SteadyFrom.l7.c⟩)], n := 41, k := 0 }
theorem spec_SteadyFrom.hC : CtxOK Try.prog spec_SteadyFrom.C := CtxOK.of mo tys_ok (FnsOK.cons spec_l03Both.cok (FnsOK.cons spec_l03Amount.cok (FnsOK.cons spec_l03Tick.cok (FnsOK.cons spec_SameState.cok FnsOK.nil))))
noncomputable def spec_SteadyFrom.b7 : Code := (nthC (loopsOf spec_SteadyFrom.b) 0)
theorem spec_SteadyFrom.lp7 : LpOK Try.prog spec_SteadyFrom.C spec_SteadyFrom.b7 := (LpOK.nil (by kernel_rfl))
theorem spec_SteadyFrom.l7.round (p : Nat × Int × Nat × Nat × Nat × Nat × Nat × Nat × Nat × Nat × Int) (s : Int × Nat × Int) : roundL spec_SteadyFrom.C [2, 3, 4, 6, 10] [6, 7, 8] spec_SteadyFrom.b7 (spec_SteadyFrom.l7.cd.enc (p, s)).1 (spec_SteadyFrom.l7.cd.enc (p, s)).2 = (spec_SteadyFrom.l7.st p s).map (encSum (fun s => spec_SteadyFrom.l7.cd.enc (p, s)) (spec_SteadyFrom.l7.out p)) := by kernel_rfl
theorem spec_SteadyFrom.l7.lok : LoopOK Try.prog spec_SteadyFrom.C ⟨[2, 3, 4, 6, 10], [6, 7, 8], spec_SteadyFrom.l7.c⟩ spec_SteadyFrom.b7 := loop_cd spec_SteadyFrom.l7.cd spec_SteadyFrom.hC spec_SteadyFrom.lp7 spec_SteadyFrom.l7.round fun p => (Gets.sum Gets.leaf Gets.leaf)
theorem spec_SteadyFrom.lp : LpOK Try.prog spec_SteadyFrom.C spec_SteadyFrom.b := lp_of (by kernel_rfl) (LpsOK.cons (k := 7) (by kernel_rfl) (by kernel_rfl) spec_SteadyFrom.l7.lok LpsOK.nil)
noncomputable def spec_SteadyFrom.t (x0 : Int) (x1 : Nat) (x2 : Nat) (x3 : Nat) (x4 : Nat) (x5 : Nat) (x6 : Nat) (x7 : Nat) (x8 : Nat) (x9 : Int) (x10 : Nat) : T (Nat × Int × Int × Int) :=
  .br ((spec_l03Both x0 x1 x2 x3 x4 x5 x6 x7 x8 x9) == (0 : Int))
  (.br (!(spec_l03Amount x10))
   (.br ((2 : Int) != (0 : Int))
    (.leaf (0, (0 : Int), (0 : Int), (2 : Int)))
    (.br (Option.isSome (spec_SteadyFrom.l7.r (x10, x0, x1, x2, x3, x4, x5, x6, x7, 0, (0 : Int)) ((0 : Int), x8, x9)))
     (.br (Sum.isLeft (Option.getD (spec_SteadyFrom.l7.r (x10, x0, x1, x2, x3, x4, x5, x6, x7, 0, (0 : Int)) ((0 : Int), x8, x9)) default))
      (.leaf ((getLeftD (Option.getD (spec_SteadyFrom.l7.r (x10, x0, x1, x2, x3, x4, x5, x6, x7, 0, (0 : Int)) ((0 : Int), x8, x9)) default)).2.2.1, (getLeftD (Option.getD (spec_SteadyFrom.l7.r (x10, x0, x1, x2, x3, x4, x5, x6, x7, 0, (0 : Int)) ((0 : Int), x8, x9)) default)).2.2.2, (getLeftD (Option.getD (spec_SteadyFrom.l7.r (x10, x0, x1, x2, x3, x4, x5, x6, x7, 0, (0 : Int)) ((0 : Int), x8, x9)) default)).1, (getLeftD (Option.getD (spec_SteadyFrom.l7.r (x10, x0, x1, x2, x3, x4, x5, x6, x7, 0, (0 : Int)) ((0 : Int), x8, x9)) default)).2.1))
      (.leaf (0, (0 : Int), (0 : Int), (6 : Int))))
     .bad))
   (.br ((spec_l03Both x0 x1 x2 x3 x4 x5 x6 x7 x8 x9) != (0 : Int))
    (.leaf (0, (0 : Int), (0 : Int), (spec_l03Both x0 x1 x2 x3 x4 x5 x6 x7 x8 x9)))
    (.br (Option.isSome (spec_SteadyFrom.l7.r (x10, x0, x1, x2, x3, x4, x5, x6, x7, 0, (0 : Int)) ((0 : Int), x8, x9)))
     (.br (Sum.isLeft (Option.getD (spec_SteadyFrom.l7.r (x10, x0, x1, x2, x3, x4, x5, x6, x7, 0, (0 : Int)) ((0 : Int), x8, x9)) default))
      (.leaf ((getLeftD (Option.getD (spec_SteadyFrom.l7.r (x10, x0, x1, x2, x3, x4, x5, x6, x7, 0, (0 : Int)) ((0 : Int), x8, x9)) default)).2.2.1, (getLeftD (Option.getD (spec_SteadyFrom.l7.r (x10, x0, x1, x2, x3, x4, x5, x6, x7, 0, (0 : Int)) ((0 : Int), x8, x9)) default)).2.2.2, (getLeftD (Option.getD (spec_SteadyFrom.l7.r (x10, x0, x1, x2, x3, x4, x5, x6, x7, 0, (0 : Int)) ((0 : Int), x8, x9)) default)).1, (getLeftD (Option.getD (spec_SteadyFrom.l7.r (x10, x0, x1, x2, x3, x4, x5, x6, x7, 0, (0 : Int)) ((0 : Int), x8, x9)) default)).2.1))
      (.leaf (0, (0 : Int), (0 : Int), (6 : Int))))
     .bad)))
  (.br ((spec_l03Both x0 x1 x2 x3 x4 x5 x6 x7 x8 x9) != (0 : Int))
   (.leaf (0, (0 : Int), (0 : Int), (spec_l03Both x0 x1 x2 x3 x4 x5 x6 x7 x8 x9)))
   (.br (Option.isSome (spec_SteadyFrom.l7.r (x10, x0, x1, x2, x3, x4, x5, x6, x7, 0, (0 : Int)) ((0 : Int), x8, x9)))
    (.br (Sum.isLeft (Option.getD (spec_SteadyFrom.l7.r (x10, x0, x1, x2, x3, x4, x5, x6, x7, 0, (0 : Int)) ((0 : Int), x8, x9)) default))
     (.leaf ((getLeftD (Option.getD (spec_SteadyFrom.l7.r (x10, x0, x1, x2, x3, x4, x5, x6, x7, 0, (0 : Int)) ((0 : Int), x8, x9)) default)).2.2.1, (getLeftD (Option.getD (spec_SteadyFrom.l7.r (x10, x0, x1, x2, x3, x4, x5, x6, x7, 0, (0 : Int)) ((0 : Int), x8, x9)) default)).2.2.2, (getLeftD (Option.getD (spec_SteadyFrom.l7.r (x10, x0, x1, x2, x3, x4, x5, x6, x7, 0, (0 : Int)) ((0 : Int), x8, x9)) default)).1, (getLeftD (Option.getD (spec_SteadyFrom.l7.r (x10, x0, x1, x2, x3, x4, x5, x6, x7, 0, (0 : Int)) ((0 : Int), x8, x9)) default)).2.1))
     (.leaf (0, (0 : Int), (0 : Int), (6 : Int))))
    .bad))
noncomputable def spec_SteadyFrom (x0 : Int) (x1 : Nat) (x2 : Nat) (x3 : Nat) (x4 : Nat) (x5 : Nat) (x6 : Nat) (x7 : Nat) (x8 : Nat) (x9 : Int) (x10 : Nat) : Nat × Int × Int × Int := (spec_SteadyFrom.t x0 x1 x2 x3 x4 x5 x6 x7 x8 x9 x10).val
noncomputable def spec_SteadyFrom.ok (x0 : Int) (x1 : Nat) (x2 : Nat) (x3 : Nat) (x4 : Nat) (x5 : Nat) (x6 : Nat) (x7 : Nat) (x8 : Nat) (x9 : Int) (x10 : Nat) : Bool := (spec_SteadyFrom.t x0 x1 x2 x3 x4 x5 x6 x7 x8 x9 x10).ok
def spec_SteadyFrom.cd : Cd (Int × Nat × Nat × Nat × Nat × Nat × Nat × Nat × Nat × Int × Nat) (List V × Hp) := Cd.iso (Cd.pair (Cd.cons (Cd.agg (Cd.cons (Cd.it .i16) (Cd.cons (Cd.fl .f32) (Cd.cons (Cd.fl .f32) (Cd.cons (Cd.fl .f32) (Cd.cons (Cd.fl .f32) (Cd.cons (Cd.fl .f32) (Cd.cons (Cd.fl .f32) (Cd.cons (Cd.fl .f32) Cd.nil))))))))) (Cd.cons (Cd.agg (Cd.cons (Cd.fl .f32) (Cd.cons (Cd.it .i8) Cd.nil))) (Cd.cons (Cd.fl .f32) Cd.nil))) Cd.nil) (fun a => (a.1.1.1, a.1.1.2.1, a.1.1.2.2.1, a.1.1.2.2.2.1, a.1.1.2.2.2.2.1, a.1.1.2.2.2.2.2.1, a.1.1.2.2.2.2.2.2.1, a.1.1.2.2.2.2.2.2.2.1, a.1.2.1.1, a.1.2.1.2.1, a.1.2.2.1)) (fun a => (((a.1, (a.2.1, (a.2.2.1, (a.2.2.2.1, (a.2.2.2.2.1, (a.2.2.2.2.2.1, (a.2.2.2.2.2.2.1, (a.2.2.2.2.2.2.2.1, ())))))))), ((a.2.2.2.2.2.2.2.2.1, (a.2.2.2.2.2.2.2.2.2.1, ())), (a.2.2.2.2.2.2.2.2.2.2, ()))), ())) (fun _ => rfl)
noncomputable def spec_SteadyFrom.tr (a : Int × Nat × Nat × Nat × Nat × Nat × Nat × Nat × Nat × Int × Nat) : T (Nat × Int × Int × Int) := spec_SteadyFrom.t a.1 a.2.1 a.2.2.1 a.2.2.2.1 a.2.2.2.2.1 a.2.2.2.2.2.1 a.2.2.2.2.2.2.1 a.2.2.2.2.2.2.2.1 a.2.2.2.2.2.2.2.2.1 a.2.2.2.2.2.2.2.2.2.1 a.2.2.2.2.2.2.2.2.2.2
def spec_SteadyFrom.enc : (Int × Nat × Nat × Nat × Nat × Nat × Nat × Nat × Nat × Int × Nat) → (Nat × Int × Int × Int) → V := fun a r => .tup [.agg [.fl .f32 r.1, .it .i8 r.2.1], .it .i64 r.2.2.1, .it .i64 r.2.2.2]
noncomputable def spec_SteadyFrom.c : List V → Hp → T V := cdQ spec_SteadyFrom.cd (fun a => .br (spec_SteadyFrom.ok a.1 a.2.1 a.2.2.1 a.2.2.2.1 a.2.2.2.2.1 a.2.2.2.2.2.1 a.2.2.2.2.2.2.1 a.2.2.2.2.2.2.2.1 a.2.2.2.2.2.2.2.2.1 a.2.2.2.2.2.2.2.2.2.1 a.2.2.2.2.2.2.2.2.2.2) (.leaf (spec_SteadyFrom.enc a (spec_SteadyFrom a.1 a.2.1 a.2.2.1 a.2.2.2.1 a.2.2.2.2.1 a.2.2.2.2.2.1 a.2.2.2.2.2.2.1 a.2.2.2.2.2.2.2.1 a.2.2.2.2.2.2.2.2.1 a.2.2.2.2.2.2.2.2.2.1 a.2.2.2.2.2.2.2.2.2.2))) .bad)
theorem spec_SteadyFrom.run (a : Int × Nat × Nat × Nat × Nat × Nat × Nat × Nat × Nat × Int × Nat) : runF spec_SteadyFrom.C Try.f21.results.toList spec_SteadyFrom.b (spec_SteadyFrom.cd.enc a).1 (spec_SteadyFrom.cd.enc a).2 = (spec_SteadyFrom.tr a).map fun r => (spec_SteadyFrom.enc a r, (spec_SteadyFrom.cd.enc a).2) := by kernel_rfl
theorem spec_SteadyFrom.cok : OKq Try.prog 21 spec_SteadyFrom.c := con_q' spec_SteadyFrom.cd spec_SteadyFrom.hC Try.func21 (by kernel_rfl) (by kernel_rfl) (by kernel_rfl) spec_SteadyFrom.lp (fun a => by kernel_rfl) spec_SteadyFrom.run (Tells.ok (tree := spec_SteadyFrom.tr))
/-! ### impl_gateCode -/
noncomputable def impl_gateCode.b : Code := bodyOf Try.f46
noncomputable def impl_gateCode.C : Ctx := { ty := tys, fn := [(11, .q impl_ValidGovernor.c), (40, .q impl_isSpeed.c), (57, .q impl_isAmount.c)], lp := [], n := 20, k := 0 }
theorem impl_gateCode.hC : CtxOK Try.prog impl_gateCode.C := CtxOK.of mo tys_ok (FnsOK.cons impl_ValidGovernor.cok (FnsOK.cons impl_isSpeed.cok (FnsOK.cons impl_isAmount.cok FnsOK.nil)))
theorem impl_gateCode.lp : LpOK Try.prog impl_gateCode.C impl_gateCode.b := (LpOK.nil (by kernel_rfl))
noncomputable def impl_gateCode.t (x0 : Int) (x1 : Nat) (x2 : Nat) (x3 : Nat) (x4 : Nat) (x5 : Nat) (x6 : Nat) (x7 : Nat) (x8 : Nat) (x9 : Nat) : T Int :=
  .br (!(impl_ValidGovernor x0 x1 x2 x3 x4 x5 x6 x7))
  (.leaf (1 : Int))
  (.br (!(impl_isSpeed x8))
   (.leaf (2 : Int))
   (.br (!(impl_isAmount x9))
    (.leaf (2 : Int))
    (.leaf (0 : Int))))
noncomputable def impl_gateCode (x0 : Int) (x1 : Nat) (x2 : Nat) (x3 : Nat) (x4 : Nat) (x5 : Nat) (x6 : Nat) (x7 : Nat) (x8 : Nat) (x9 : Nat) : Int := (impl_gateCode.t x0 x1 x2 x3 x4 x5 x6 x7 x8 x9).val
def impl_gateCode.cd : Cd (Int × Nat × Nat × Nat × Nat × Nat × Nat × Nat × Nat × Nat) (List V × Hp) := Cd.iso (Cd.pair (Cd.cons (Cd.agg (Cd.cons (Cd.it .i16) (Cd.cons (Cd.fl .f32) (Cd.cons (Cd.fl .f32) (Cd.cons (Cd.fl .f32) (Cd.cons (Cd.fl .f32) (Cd.cons (Cd.fl .f32) (Cd.cons (Cd.fl .f32) (Cd.cons (Cd.fl .f32) Cd.nil))))))))) (Cd.cons (Cd.fl .f32) (Cd.cons (Cd.fl .f32) Cd.nil))) Cd.nil) (fun a => (a.1.1.1, a.1.1.2.1, a.1.1.2.2.1, a.1.1.2.2.2.1, a.1.1.2.2.2.2.1, a.1.1.2.2.2.2.2.1, a.1.1.2.2.2.2.2.2.1, a.1.1.2.2.2.2.2.2.2.1, a.1.2.1, a.1.2.2.1)) (fun a => (((a.1, (a.2.1, (a.2.2.1, (a.2.2.2.1, (a.2.2.2.2.1, (a.2.2.2.2.2.1, (a.2.2.2.2.2.2.1, (a.2.2.2.2.2.2.2.1, ())))))))), (a.2.2.2.2.2.2.2.2.1, (a.2.2.2.2.2.2.2.2.2, ()))), ())) (fun _ => rfl)
noncomputable def impl_gateCode.tr (a : Int × Nat × Nat × Nat × Nat × Nat × Nat × Nat × Nat × Nat) : T Int := impl_gateCode.t a.1 a.2.1 a.2.2.1 a.2.2.2.1 a.2.2.2.2.1 a.2.2.2.2.2.1 a.2.2.2.2.2.2.1 a.2.2.2.2.2.2.2.1 a.2.2.2.2.2.2.2.2.1 a.2.2.2.2.2.2.2.2.2
def impl_gateCode.enc : (Int × Nat × Nat × Nat × Nat × Nat × Nat × Nat × Nat × Nat) → Int → V := fun a r => .it .i64 r
noncomputable def impl_gateCode.c : List V → Hp → T V := cdQ impl_gateCode.cd (fun a => .leaf (impl_gateCode.enc a (impl_gateCode a.1 a.2.1 a.2.2.1 a.2.2.2.1 a.2.2.2.2.1 a.2.2.2.2.2.1 a.2.2.2.2.2.2.1 a.2.2.2.2.2.2.2.1 a.2.2.2.2.2.2.2.2.1 a.2.2.2.2.2.2.2.2.2)))
theorem impl_gateCode.run (a : Int × Nat × Nat × Nat × Nat × Nat × Nat × Nat × Nat × Nat) : runF impl_gateCode.C Try.f46.results.toList impl_gateCode.b (impl_gateCode.cd.enc a).1 (impl_gateCode.cd.enc a).2 = (impl_gateCode.tr a).map fun r => (impl_gateCode.enc a r, (impl_gateCode.cd.enc a).2) := by kernel_rfl
theorem impl_gateCode.cok : OKq Try.prog 46 impl_gateCode.c := con_q' impl_gateCode.cd impl_gateCode.hC Try.func46 (by kernel_rfl) (by kernel_rfl) (by kernel_rfl) impl_gateCode.lp (fun a => by kernel_rfl) impl_gateCode.run (Tells.val (tree := impl_gateCode.tr) fun a => by kernel_rfl)
/-! ### impl_size -/
noncomputable def impl_size.b : Code := bodyOf Try.f47
noncomputable def impl_size.C : Ctx := { ty := tys, fn := [], lp := [], n := 8, k := 0 }
theorem impl_size.hC : CtxOK Try.prog impl_size.C := CtxOK.of mo tys_ok FnsOK.nil
theorem impl_size.lp : LpOK Try.prog impl_size.C impl_size.b := (LpOK.nil (by kernel_rfl))
noncomputable def impl_size.t (x0 : Nat) : T Nat :=
  .br (flt .f32 x0 0)
  (.leaf (fsub .f32 0 x0))
  (.leaf x0)
noncomputable def impl_size (x0 : Nat) : Nat := (impl_size.t x0).val
def impl_size.cd : Cd Nat (List V × Hp) := Cd.iso (Cd.pair (Cd.cons (Cd.fl .f32) Cd.nil) Cd.nil) (fun a => a.1.1) (fun a => ((a, ()), ())) (fun _ => rfl)
noncomputable def impl_size.tr (a : Nat) : T Nat := impl_size.t a
def impl_size.enc : Nat → Nat → V := fun a r => .fl .f32 r
noncomputable def impl_size.c : List V → Hp → T V := cdQ impl_size.cd (fun a => .leaf (impl_size.enc a (impl_size a)))
theorem impl_size.run (a : Nat) : runF impl_size.C Try.f47.results.toList impl_size.b (impl_size.cd.enc a).1 (impl_size.cd.enc a).2 = (impl_size.tr a).map fun r => (impl_size.enc a r, (impl_size.cd.enc a).2) := by kernel_rfl
theorem impl_size.cok : OKq Try.prog 47 impl_size.c := con_q' impl_size.cd impl_size.hC Try.func47 (by kernel_rfl) (by kernel_rfl) (by kernel_rfl) impl_size.lp (fun a => by kernel_rfl) impl_size.run (Tells.val (tree := impl_size.tr) fun a => by kernel_rfl)
/-! ### impl_BestGate -/
noncomputable def impl_BestGate.b : Code := bodyOf Try.f22
noncomputable def impl_BestGate.l6.s (x0 : Nat) (x1 : Nat) (x2 : Int) (x3 : Nat) (x4 : Int) (x5 : Int) (x6 : Nat) (x7 : Nat) (x8 : Nat) (x9 : Nat) (x10 : Nat) (x11 : Nat) (x12 : Nat) : T ((Int × Nat × Int) ⊕ Int) :=
  .br (decide (x4 ≤ (16 : Int)))
  (.br (impl_Governor_torqueAt.ok x0 x4 x5 x6 x7 x8 x9 x10 x11 x12)
   (.br (flt .f32 (impl_size (fsub .f32 (impl_Governor_torqueAt x0 x4 x5 x6 x7 x8 x9 x10 x11 x12) x1)) x3)
    (.leaf (.inl (x4, (impl_size (fsub .f32 (impl_Governor_torqueAt x0 x4 x5 x6 x7 x8 x9 x10 x11 x12) x1)), (IntKind.wrap .i64 (x4 + (1 : Int))))))
    (.leaf (.inl (x2, x3, (IntKind.wrap .i64 (x4 + (1 : Int)))))))
   .bad)
  (.leaf (.inr x2))
noncomputable def impl_BestGate.l6.st (p : Nat × Nat × Int × Nat × Nat × Nat × Nat × Nat × Nat × Nat) (x : Int × Nat × Int) : T ((Int × Nat × Int) ⊕ Int) := impl_BestGate.l6.s p.1 p.2.1 x.1 x.2.1 x.2.2 p.2.2.1 p.2.2.2.1 p.2.2.2.2.1 p.2.2.2.2.2.1 p.2.2.2.2.2.2.1 p.2.2.2.2.2.2.2.1 p.2.2.2.2.2.2.2.2.1 p.2.2.2.2.2.2.2.2.2
noncomputable def impl_BestGate.l6.r (p : Nat × Nat × Int × Nat × Nat × Nat × Nat × Nat × Nat × Nat) (x : Int × Nat × Int) : Option Int := iterT (impl_BestGate.l6.st p) manyRounds x
def impl_BestGate.l6.cd : Cd ((Nat × Nat × Int × Nat × Nat × Nat × Nat × Nat × Nat × Nat) × (Int × Nat × Int)) (List V × Hp) := Cd.iso (Cd.pair (Cd.cons (Cd.fl .f32) (Cd.cons (Cd.fl .f32) (Cd.cons (Cd.pt 0 (Cd.natc 0)) (Cd.cons (Cd.it .i64) (Cd.cons (Cd.fl .f32) (Cd.cons (Cd.it .i64) Cd.nil)))))) (Cd.cons (Cd.rw 29 8 (Cd.vs (Cd.cons (Cd.it .i16) (Cd.cons (Cd.fl .f32) (Cd.cons (Cd.fl .f32) (Cd.cons (Cd.fl .f32) (Cd.cons (Cd.fl .f32) (Cd.cons (Cd.fl .f32) (Cd.cons (Cd.fl .f32) (Cd.cons (Cd.fl .f32) Cd.nil)))))))))) Cd.nil)) (fun a => ((a.1.1, a.1.2.1, a.2.1.1, a.2.1.2.1, a.2.1.2.2.1, a.2.1.2.2.2.1, a.2.1.2.2.2.2.1, a.2.1.2.2.2.2.2.1, a.2.1.2.2.2.2.2.2.1, a.2.1.2.2.2.2.2.2.2.1), (a.1.2.2.2.1, a.1.2.2.2.2.1, a.1.2.2.2.2.2.1))) (fun a => ((a.1.1, (a.1.2.1, ((), (a.2.1, (a.2.2.1, (a.2.2.2, ())))))), ((a.1.2.2.1, (a.1.2.2.2.1, (a.1.2.2.2.2.1, (a.1.2.2.2.2.2.1, (a.1.2.2.2.2.2.2.1, (a.1.2.2.2.2.2.2.2.1, (a.1.2.2.2.2.2.2.2.2.1, (a.1.2.2.2.2.2.2.2.2.2, ())))))))), ()))) (fun _ => rfl)
def impl_BestGate.l6.out (p : Nat × Nat × Int × Nat × Nat × Nat × Nat × Nat × Nat × Nat) : Int → X × List V × Hp := (fun r => (.ex 0, [.it .i64 r], []))
def impl_BestGate.l6.ex (p : Nat × Nat × Int × Nat × Nat × Nat × Nat × Nat × Nat × Nat) : Int → T (X × List V × Hp) := leafT (fun r => (.ex 0, [.it .i64 r], []))
noncomputable def impl_BestGate.l6.c : List V → Hp → T (X × List V × Hp) := cdL impl_BestGate.l6.cd fun x => optT (impl_BestGate.l6.r x.1 x.2) (impl_BestGate.l6.ex x.1)
noncomputable def impl_BestGate.C : Ctx := { ty := tys, fn := [(46, .q impl_gateCode.c), (48, .q impl_Governor_torqueAt.c), (47, .q impl_size.c)], lp := [(6, ⟨[1, 2, 3, 9, 10, 11], [9], impl_BestGate.l6.c⟩)], n := 41, k := 0 }
theorem impl_BestGate.hC : CtxOK Try.prog impl_BestGate.C := CtxOK.of mo tys_ok (FnsOK.cons impl_gateCode.cok (FnsOK.cons impl_Governor_torqueAt.cok (FnsOK.cons impl_size.cok FnsOK.nil)))
noncomputable def impl_BestGate.b6 : Code := (nthC (loopsOf impl_BestGate.b) 0)
theorem impl_BestGate.lp6 : LpOK Try.prog impl_BestGate.C impl_BestGate.b6 := (LpOK.nil (by kernel_rfl))
theorem impl_BestGate.l6.round (p : Nat × Nat × Int × Nat × Nat × Nat × Nat × Nat × Nat × Nat) (s : Int × Nat × Int) : roundL impl_BestGate.C [1, 2, 3, 9, 10, 11] [9] impl_BestGate.b6 (impl_BestGate.l6.cd.enc (p, s)).1 (impl_BestGate.l6.cd.enc (p, s)).2 = (impl_BestGate.l6.st p s).map (encSum (fun s => impl_BestGate.l6.cd.enc (p, s)) (impl_BestGate.l6.out p)) := by kernel_rfl
theorem impl_BestGate.l6.lok : LoopOK Try.prog impl_BestGate.C ⟨[1, 2, 3, 9, 10, 11], [9], impl_BestGate.l6.c⟩ impl_BestGate.b6 := loop_cd impl_BestGate.l6.cd impl_BestGate.hC impl_BestGate.lp6 impl_BestGate.l6.round fun p => Gets.leaf
theorem impl_BestGate.lp : LpOK Try.prog impl_BestGate.C impl_BestGate.b := lp_of (by kernel_rfl) (LpsOK.cons (k := 6) (by kernel_rfl) (by kernel_rfl) impl_BestGate.l6.lok LpsOK.nil)
noncomputable def impl_BestGate.t (x0 : Int) (x1 : Nat) (x2 : Nat) (x3 : Nat) (x4 : Nat) (x5 : Nat) (x6 : Nat) (x7 : Nat) (x8 : Nat) (x9 : Nat) : T (Int × Int) :=
  .br ((impl_gateCode x0 x1 x2 x3 x4 x5 x6 x7 x8 x9) != (0 : Int))
  (.leaf ((0 : Int), (impl_gateCode x0 x1 x2 x3 x4 x5 x6 x7 x8 x9)))
  (.br (impl_Governor_torqueAt.ok x8 (0 : Int) x0 x1 x2 x3 x4 x5 x6 x7)
   (.br (Option.isSome (impl_BestGate.l6.r (x8, x9, x0, x1, x2, x3, x4, x5, x6, x7) ((0 : Int), (impl_size (fsub .f32 (impl_Governor_torqueAt x8 (0 : Int) x0 x1 x2 x3 x4 x5 x6 x7) x9)), (1 : Int))))
    (.leaf ((Option.getD (impl_BestGate.l6.r (x8, x9, x0, x1, x2, x3, x4, x5, x6, x7) ((0 : Int), (impl_size (fsub .f32 (impl_Governor_torqueAt x8 (0 : Int) x0 x1 x2 x3 x4 x5 x6 x7) x9)), (1 : Int))) default), (0 : Int)))
    .bad)
   .bad)
noncomputable def impl_BestGate (x0 : Int) (x1 : Nat) (x2 : Nat) (x3 : Nat) (x4 : Nat) (x5 : Nat) (x6 : Nat) (x7 : Nat) (x8 : Nat) (x9 : Nat) : Int × Int := (impl_BestGate.t x0 x1 x2 x3 x4 x5 x6 x7 x8 x9).val
noncomputable def impl_BestGate.ok (x0 : Int) (x1 : Nat) (x2 : Nat) (x3 : Nat) (x4 : Nat) (x5 : Nat) (x6 : Nat) (x7 : Nat) (x8 : Nat) (x9 : Nat) : Bool := (impl_BestGate.t x0 x1 x2 x3 x4 x5 x6 x7 x8 x9).ok
def impl_BestGate.cd : Cd (Int × Nat × Nat × Nat × Nat × Nat × Nat × Nat × Nat × Nat) (List V × Hp) := Cd.iso (Cd.pair (Cd.cons (Cd.agg (Cd.cons (Cd.it .i16) (Cd.cons (Cd.fl .f32) (Cd.cons (Cd.fl .f32) (Cd.cons (Cd.fl .f32) (Cd.cons (Cd.fl .f32) (Cd.cons (Cd.fl .f32) (Cd.cons (Cd.fl .f32) (Cd.cons (Cd.fl .f32) Cd.nil))))))))) (Cd.cons (Cd.fl .f32) (Cd.cons (Cd.fl .f32) Cd.nil))) Cd.nil) (fun a => (a.1.1.1, a.1.1.2.1, a.1.1.2.2.1, a.1.1.2.2.2.1, a.1.1.2.2.2.2.1, a.1.1.2.2.2.2.2.1, a.1.1.2.2.2.2.2.2.1, a.1.1.2.2.2.2.2.2.2.1, a.1.2.1, a.1.2.2.1)) (fun a => (((a.1, (a.2.1, (a.2.2.1, (a.2.2.2.1, (a.2.2.2.2.1, (a.2.2.2.2.2.1, (a.2.2.2.2.2.2.1, (a.2.2.2.2.2.2.2.1, ())))))))), (a.2.2.2.2.2.2.2.2.1, (a.2.2.2.2.2.2.2.2.2, ()))), ())) (fun _ => rfl)
noncomputable def impl_BestGate.tr (a : Int × Nat × Nat × Nat × Nat × Nat × Nat × Nat × Nat × Nat) : T (Int × Int) := impl_BestGate.t a.1 a.2.1 a.2.2.1 a.2.2.2.1 a.2.2.2.2.1 a.2.2.2.2.2.1 a.2.2.2.2.2.2.1 a.2.2.2.2.2.2.2.1 a.2.2.2.2.2.2.2.2.1 a.2.2.2.2.2.2.2.2.2
def impl_BestGate.enc : (Int × Nat × Nat × Nat × Nat × Nat × Nat × Nat × Nat × Nat) → (Int × Int) → V := fun a r => .tup [.it .i64 r.1, .it .i64 r.2]
noncomputable def impl_BestGate.c : List V → Hp → T V := cdQ impl_BestGate.cd (fun a => .br (impl_BestGate.ok a.1 a.2.1 a.2.2.1 a.2.2.2.1 a.2.2.2.2.1 a.2.2.2.2.2.1 a.2.2.2.2.2.2.1 a.2.2.2.2.2.2.2.1 a.2.2.2.2.2.2.2.2.1 a.2.2.2.2.2.2.2.2.2) (.leaf (impl_BestGate.enc a (impl_BestGate a.1 a.2.1 a.2.2.1 a.2.2.2.1 a.2.2.2.2.1 a.2.2.2.2.2.1 a.2.2.2.2.2.2.1 a.2.2.2.2.2.2.2.1 a.2.2.2.2.2.2.2.2.1 a.2.2.2.2.2.2.2.2.2))) .bad)
theorem impl_BestGate.run (a : Int × Nat × Nat × Nat × Nat × Nat × Nat × Nat × Nat × Nat) : runF impl_BestGate.C Try.f22.results.toList impl_BestGate.b (impl_BestGate.cd.enc a).1 (impl_BestGate.cd.enc a).2 = (impl_BestGate.tr a).map fun r => (impl_BestGate.enc a r, (impl_BestGate.cd.enc a).2) := by kernel_rfl
theorem impl_BestGate.cok : OKq Try.prog 22 impl_BestGate.c := con_q' impl_BestGate.cd impl_BestGate.hC Try.func22 (by kernel_rfl) (by kernel_rfl) (by kernel_rfl) impl_BestGate.lp (fun a => by kernel_rfl) impl_BestGate.run (Tells.ok (tree := impl_BestGate.tr))
/-! ### spec_l03Gated -/
noncomputable def spec_l03Gated.b : Code := bodyOf Try.f49
noncomputable def spec_l03Gated.C : Ctx := { ty := tys, fn := [(59, .q spec_l03Ok.c), (66, .q spec_l03Speed.c), (36, .q spec_l03Amount.c)], lp := [], n := 18, k := 0 }
theorem spec_l03Gated.hC : CtxOK Try.prog spec_l03Gated.C := CtxOK.of mo tys_ok (FnsOK.cons spec_l03Ok.cok (FnsOK.cons spec_l03Speed.cok (FnsOK.cons spec_l03Amount.cok FnsOK.nil)))
theorem spec_l03Gated.lp : LpOK Try.prog spec_l03Gated.C spec_l03Gated.b := (LpOK.nil (by kernel_rfl))
noncomputable def spec_l03Gated.t (x0 : Int) (x1 : Nat) (x2 : Nat) (x3 : Nat) (x4 : Nat) (x5 : Nat) (x6 : Nat) (x7 : Nat) (x8 : Nat) (x9 : Nat) : T Int :=
  .br (!(spec_l03Ok x0 x1 x2 x3 x4 x5 x6 x7))
  (.leaf (1 : Int))
  (.br (!(spec_l03Speed x8))
   (.leaf (2 : Int))
   (.br (!(spec_l03Amount x9))
    (.leaf (2 : Int))
    (.leaf (0 : Int))))
noncomputable def spec_l03Gated (x0 : Int) (x1 : Nat) (x2 : Nat) (x3 : Nat) (x4 : Nat) (x5 : Nat) (x6 : Nat) (x7 : Nat) (x8 : Nat) (x9 : Nat) : Int := (spec_l03Gated.t x0 x1 x2 x3 x4 x5 x6 x7 x8 x9).val
def spec_l03Gated.cd : Cd (Int × Nat × Nat × Nat × Nat × Nat × Nat × Nat × Nat × Nat) (List V × Hp) := Cd.iso (Cd.pair (Cd.cons (Cd.agg (Cd.cons (Cd.it .i16) (Cd.cons (Cd.fl .f32) (Cd.cons (Cd.fl .f32) (Cd.cons (Cd.fl .f32) (Cd.cons (Cd.fl .f32) (Cd.cons (Cd.fl .f32) (Cd.cons (Cd.fl .f32) (Cd.cons (Cd.fl .f32) Cd.nil))))))))) (Cd.cons (Cd.fl .f32) (Cd.cons (Cd.fl .f32) Cd.nil))) Cd.nil) (fun a => (a.1.1.1, a.1.1.2.1, a.1.1.2.2.1, a.1.1.2.2.2.1, a.1.1.2.2.2.2.1, a.1.1.2.2.2.2.2.1, a.1.1.2.2.2.2.2.2.1, a.1.1.2.2.2.2.2.2.2.1, a.1.2.1, a.1.2.2.1)) (fun a => (((a.1, (a.2.1, (a.2.2.1, (a.2.2.2.1, (a.2.2.2.2.1, (a.2.2.2.2.2.1, (a.2.2.2.2.2.2.1, (a.2.2.2.2.2.2.2.1, ())))))))), (a.2.2.2.2.2.2.2.2.1, (a.2.2.2.2.2.2.2.2.2, ()))), ())) (fun _ => rfl)
noncomputable def spec_l03Gated.tr (a : Int × Nat × Nat × Nat × Nat × Nat × Nat × Nat × Nat × Nat) : T Int := spec_l03Gated.t a.1 a.2.1 a.2.2.1 a.2.2.2.1 a.2.2.2.2.1 a.2.2.2.2.2.1 a.2.2.2.2.2.2.1 a.2.2.2.2.2.2.2.1 a.2.2.2.2.2.2.2.2.1 a.2.2.2.2.2.2.2.2.2
def spec_l03Gated.enc : (Int × Nat × Nat × Nat × Nat × Nat × Nat × Nat × Nat × Nat) → Int → V := fun a r => .it .i64 r
noncomputable def spec_l03Gated.c : List V → Hp → T V := cdQ spec_l03Gated.cd (fun a => .leaf (spec_l03Gated.enc a (spec_l03Gated a.1 a.2.1 a.2.2.1 a.2.2.2.1 a.2.2.2.2.1 a.2.2.2.2.2.1 a.2.2.2.2.2.2.1 a.2.2.2.2.2.2.2.1 a.2.2.2.2.2.2.2.2.1 a.2.2.2.2.2.2.2.2.2)))
theorem spec_l03Gated.run (a : Int × Nat × Nat × Nat × Nat × Nat × Nat × Nat × Nat × Nat) : runF spec_l03Gated.C Try.f49.results.toList spec_l03Gated.b (spec_l03Gated.cd.enc a).1 (spec_l03Gated.cd.enc a).2 = (spec_l03Gated.tr a).map fun r => (spec_l03Gated.enc a r, (spec_l03Gated.cd.enc a).2) := by kernel_rfl
theorem spec_l03Gated.cok : OKq Try.prog 49 spec_l03Gated.c := con_q' spec_l03Gated.cd spec_l03Gated.hC Try.func49 (by kernel_rfl) (by kernel_rfl) (by kernel_rfl) spec_l03Gated.lp (fun a => by kernel_rfl) spec_l03Gated.run (Tells.val (tree := spec_l03Gated.tr) fun a => by kernel_rfl)
/-! ### spec_l01Size -/
noncomputable def spec_l01Size.b : Code := bodyOf Try.f50
noncomputable def spec_l01Size.C : Ctx := { ty := tys, fn := [], lp := [], n := 8, k := 0 }
theorem spec_l01Size.hC : CtxOK Try.prog spec_l01Size.C := CtxOK.of mo tys_ok FnsOK.nil
theorem spec_l01Size.lp : LpOK Try.prog spec_l01Size.C spec_l01Size.b := (LpOK.nil (by kernel_rfl))
noncomputable def spec_l01Size.t (x0 : Nat) : T Nat :=
  .br (flt .f32 x0 0)
  (.leaf (fneg .f32 x0))
  (.leaf x0)
noncomputable def spec_l01Size (x0 : Nat) : Nat := (spec_l01Size.t x0).val
def spec_l01Size.cd : Cd Nat (List V × Hp) := Cd.iso (Cd.pair (Cd.cons (Cd.fl .f32) Cd.nil) Cd.nil) (fun a => a.1.1) (fun a => ((a, ()), ())) (fun _ => rfl)
noncomputable def spec_l01Size.tr (a : Nat) : T Nat := spec_l01Size.t a
def spec_l01Size.enc : Nat → Nat → V := fun a r => .fl .f32 r
noncomputable def spec_l01Size.c : List V → Hp → T V := cdQ spec_l01Size.cd (fun a => .leaf (spec_l01Size.enc a (spec_l01Size a)))
theorem spec_l01Size.run (a : Nat) : runF spec_l01Size.C Try.f50.results.toList spec_l01Size.b (spec_l01Size.cd.enc a).1 (spec_l01Size.cd.enc a).2 = (spec_l01Size.tr a).map fun r => (spec_l01Size.enc a r, (spec_l01Size.cd.enc a).2) := by kernel_rfl
theorem spec_l01Size.cok : OKq Try.prog 50 spec_l01Size.c := con_q' spec_l01Size.cd spec_l01Size.hC Try.func50 (by kernel_rfl) (by kernel_rfl) (by kernel_rfl) spec_l01Size.lp (fun a => by kernel_rfl) spec_l01Size.run (Tells.val (tree := spec_l01Size.tr) fun a => by kernel_rfl)
/-! ### spec_BestGate -/
noncomputable def spec_BestGate.b : Code := bodyOf Try.f23
noncomputable def spec_BestGate.l6.s (x0 : Nat) (x1 : Nat) (x2 : Int) (x3 : Int) (x4 : Int) (x5 : Nat) (x6 : Nat) (x7 : Nat) (x8 : Nat) (x9 : Nat) (x10 : Nat) (x11 : Nat) : T ((Int × Int) ⊕ Int) :=
  .br (decide (x3 ≤ (16 : Int)))
  (.br (spec_l03At.ok x4 x5 x6 x7 x8 x9 x10 x11 x0 x3)
   (.br (spec_l03At.ok x4 x5 x6 x7 x8 x9 x10 x11 x0 x2)
    (.br (flt .f32 (spec_l01Size (fsub .f32 (spec_l03At x4 x5 x6 x7 x8 x9 x10 x11 x0 x3) x1)) (spec_l01Size (fsub .f32 (spec_l03At x4 x5 x6 x7 x8 x9 x10 x11 x0 x2) x1)))
     (.leaf (.inl (x3, (IntKind.wrap .i64 (x3 + (1 : Int))))))
     (.leaf (.inl (x2, (IntKind.wrap .i64 (x3 + (1 : Int)))))))
    .bad)
   .bad)
  (.leaf (.inr x2))
noncomputable def spec_BestGate.l6.st (p : Nat × Nat × Int × Nat × Nat × Nat × Nat × Nat × Nat × Nat) (x : Int × Int) : T ((Int × Int) ⊕ Int) := spec_BestGate.l6.s p.1 p.2.1 x.1 x.2 p.2.2.1 p.2.2.2.1 p.2.2.2.2.1 p.2.2.2.2.2.1 p.2.2.2.2.2.2.1 p.2.2.2.2.2.2.2.1 p.2.2.2.2.2.2.2.2.1 p.2.2.2.2.2.2.2.2.2
noncomputable def spec_BestGate.l6.r (p : Nat × Nat × Int × Nat × Nat × Nat × Nat × Nat × Nat × Nat) (x : Int × Int) : Option Int := iterT (spec_BestGate.l6.st p) manyRounds x
def spec_BestGate.l6.cd : Cd ((Nat × Nat × Int × Nat × Nat × Nat × Nat × Nat × Nat × Nat) × (Int × Int)) (List V × Hp) := Cd.iso (Cd.pair (Cd.cons (Cd.fl .f32) (Cd.cons (Cd.fl .f32) (Cd.cons (Cd.pt 0 (Cd.natc 0)) (Cd.cons (Cd.it .i64) (Cd.cons (Cd.it .i64) Cd.nil))))) (Cd.cons (Cd.rw 29 8 (Cd.vs (Cd.cons (Cd.it .i16) (Cd.cons (Cd.fl .f32) (Cd.cons (Cd.fl .f32) (Cd.cons (Cd.fl .f32) (Cd.cons (Cd.fl .f32) (Cd.cons (Cd.fl .f32) (Cd.cons (Cd.fl .f32) (Cd.cons (Cd.fl .f32) Cd.nil)))))))))) Cd.nil)) (fun a => ((a.1.1, a.1.2.1, a.2.1.1, a.2.1.2.1, a.2.1.2.2.1, a.2.1.2.2.2.1, a.2.1.2.2.2.2.1, a.2.1.2.2.2.2.2.1, a.2.1.2.2.2.2.2.2.1, a.2.1.2.2.2.2.2.2.2.1), (a.1.2.2.2.1, a.1.2.2.2.2.1))) (fun a => ((a.1.1, (a.1.2.1, ((), (a.2.1, (a.2.2, ()))))), ((a.1.2.2.1, (a.1.2.2.2.1, (a.1.2.2.2.2.1, (a.1.2.2.2.2.2.1, (a.1.2.2.2.2.2.2.1, (a.1.2.2.2.2.2.2.2.1, (a.1.2.2.2.2.2.2.2.2.1, (a.1.2.2.2.2.2.2.2.2.2, ())))))))), ()))) (fun _ => rfl)
def spec_BestGate.l6.out (p : Nat × Nat × Int × Nat × Nat × Nat × Nat × Nat × Nat × Nat) : Int → X × List V × Hp := (fun r => (.ex 0, [.it .i64 r], []))
def spec_BestGate.l6.ex (p : Nat × Nat × Int × Nat × Nat × Nat × Nat × Nat × Nat × Nat) : Int → T (X × List V × Hp) := leafT (fun r => (.ex 0, [.it .i64 r], []))
noncomputable def spec_BestGate.l6.c : List V → Hp → T (X × List V × Hp) := cdL spec_BestGate.l6.cd fun x => optT (spec_BestGate.l6.r x.1 x.2) (spec_BestGate.l6.ex x.1)
noncomputable def spec_BestGate.C : Ctx := { ty := tys, fn := [(49, .q spec_l03Gated.c), (51, .q spec_l03At.c), (50, .q spec_l01Size.c)], lp := [(6, ⟨[1, 2, 3, 9, 10], [9], spec_BestGate.l6.c⟩)], n := 39, k := 0 }
theorem spec_BestGate.hC : CtxOK Try.prog spec_BestGate.C := CtxOK.of mo tys_ok (FnsOK.cons spec_l03Gated.cok (FnsOK.cons spec_l03At.cok (FnsOK.cons spec_l01Size.cok FnsOK.nil)))
noncomputable def spec_BestGate.b6 : Code := (nthC (loopsOf spec_BestGate.b) 0)
theorem spec_BestGate.lp6 : LpOK Try.prog spec_BestGate.C spec_BestGate.b6 := (LpOK.nil (by kernel_rfl))
theorem spec_BestGate.l6.round (p : Nat × Nat × Int × Nat × Nat × Nat × Nat × Nat × Nat × Nat) (s : Int × Int) : roundL spec_BestGate.C [1, 2, 3, 9, 10] [9] spec_BestGate.b6 (spec_BestGate.l6.cd.enc (p, s)).1 (spec_BestGate.l6.cd.enc (p, s)).2 = (spec_BestGate.l6.st p s).map (encSum (fun s => spec_BestGate.l6.cd.enc (p, s)) (spec_BestGate.l6.out p)) := by kernel_rfl
theorem spec_BestGate.l6.lok : LoopOK Try.prog spec_BestGate.C ⟨[1, 2, 3, 9, 10], [9], spec_BestGate.l6.c⟩ spec_BestGate.b6 := loop_cd spec_BestGate.l6.cd spec_BestGate.hC spec_BestGate.lp6 spec_BestGate.l6.round fun p => Gets.leaf
theorem spec_BestGate.lp : LpOK Try.prog spec_BestGate.C spec_BestGate.b := lp_of (by kernel_rfl) (LpsOK.cons (k := 6) (by kernel_rfl) (by kernel_rfl) spec_BestGate.l6.lok LpsOK.nil)
noncomputable def spec_BestGate.t (x0 : Int) (x1 : Nat) (x2 : Nat) (x3 : Nat) (x4 : Nat) (x5 : Nat) (x6 : Nat) (x7 : Nat) (x8 : Nat) (x9 : Nat) : T (Int × Int) :=
  .br ((spec_l03Gated x0 x1 x2 x3 x4 x5 x6 x7 x8 x9) != (0 : Int))
  (.leaf ((0 : Int), (spec_l03Gated x0 x1 x2 x3 x4 x5 x6 x7 x8 x9)))
  (.br (Option.isSome (spec_BestGate.l6.r (x8, x9, x0, x1, x2, x3, x4, x5, x6, x7) ((0 : Int), (1 : Int))))
   (.leaf ((Option.getD (spec_BestGate.l6.r (x8, x9, x0, x1, x2, x3, x4, x5, x6, x7) ((0 : Int), (1 : Int))) default), (0 : Int)))
   .bad)
noncomputable def spec_BestGate (x0 : Int) (x1 : Nat) (x2 : Nat) (x3 : Nat) (x4 : Nat) (x5 : Nat) (x6 : Nat) (x7 : Nat) (x8 : Nat) (x9 : Nat) : Int × Int := (spec_BestGate.t x0 x1 x2 x3 x4 x5 x6 x7 x8 x9).val
noncomputable def spec_BestGate.ok (x0 : Int) (x1 : Nat) (x2 : Nat) (x3 : Nat) (x4 : Nat) (x5 : Nat) (x6 : Nat) (x7 : Nat) (x8 : Nat) (x9 : Nat) : Bool := (spec_BestGate.t x0 x1 x2 x3 x4 x5 x6 x7 x8 x9).ok
def spec_BestGate.cd : Cd (Int × Nat × Nat × Nat × Nat × Nat × Nat × Nat × Nat × Nat) (List V × Hp) := Cd.iso (Cd.pair (Cd.cons (Cd.agg (Cd.cons (Cd.it .i16) (Cd.cons (Cd.fl .f32) (Cd.cons (Cd.fl .f32) (Cd.cons (Cd.fl .f32) (Cd.cons (Cd.fl .f32) (Cd.cons (Cd.fl .f32) (Cd.cons (Cd.fl .f32) (Cd.cons (Cd.fl .f32) Cd.nil))))))))) (Cd.cons (Cd.fl .f32) (Cd.cons (Cd.fl .f32) Cd.nil))) Cd.nil) (fun a => (a.1.1.1, a.1.1.2.1, a.1.1.2.2.1, a.1.1.2.2.2.1, a.1.1.2.2.2.2.1, a.1.1.2.2.2.2.2.1, a.1.1.2.2.2.2.2.2.1, a.1.1.2.2.2.2.2.2.2.1, a.1.2.1, a.1.2.2.1)) (fun a => (((a.1, (a.2.1, (a.2.2.1, (a.2.2.2.1, (a.2.2.2.2.1, (a.2.2.2.2.2.1, (a.2.2.2.2.2.2.1, (a.2.2.2.2.2.2.2.1, ())))))))), (a.2.2.2.2.2.2.2.2.1, (a.2.2.2.2.2.2.2.2.2, ()))), ())) (fun _ => rfl)
noncomputable def spec_BestGate.tr (a : Int × Nat × Nat × Nat × Nat × Nat × Nat × Nat × Nat × Nat) : T (Int × Int) := spec_BestGate.t a.1 a.2.1 a.2.2.1 a.2.2.2.1 a.2.2.2.2.1 a.2.2.2.2.2.1 a.2.2.2.2.2.2.1 a.2.2.2.2.2.2.2.1 a.2.2.2.2.2.2.2.2.1 a.2.2.2.2.2.2.2.2.2
def spec_BestGate.enc : (Int × Nat × Nat × Nat × Nat × Nat × Nat × Nat × Nat × Nat) → (Int × Int) → V := fun a r => .tup [.it .i64 r.1, .it .i64 r.2]
noncomputable def spec_BestGate.c : List V → Hp → T V := cdQ spec_BestGate.cd (fun a => .br (spec_BestGate.ok a.1 a.2.1 a.2.2.1 a.2.2.2.1 a.2.2.2.2.1 a.2.2.2.2.2.1 a.2.2.2.2.2.2.1 a.2.2.2.2.2.2.2.1 a.2.2.2.2.2.2.2.2.1 a.2.2.2.2.2.2.2.2.2) (.leaf (spec_BestGate.enc a (spec_BestGate a.1 a.2.1 a.2.2.1 a.2.2.2.1 a.2.2.2.2.1 a.2.2.2.2.2.1 a.2.2.2.2.2.2.1 a.2.2.2.2.2.2.2.1 a.2.2.2.2.2.2.2.2.1 a.2.2.2.2.2.2.2.2.2))) .bad)
theorem spec_BestGate.run (a : Int × Nat × Nat × Nat × Nat × Nat × Nat × Nat × Nat × Nat) : runF spec_BestGate.C Try.f23.results.toList spec_BestGate.b (spec_BestGate.cd.enc a).1 (spec_BestGate.cd.enc a).2 = (spec_BestGate.tr a).map fun r => (spec_BestGate.enc a r, (spec_BestGate.cd.enc a).2) := by kernel_rfl
theorem spec_BestGate.cok : OKq Try.prog 23 spec_BestGate.c := con_q' spec_BestGate.cd spec_BestGate.hC Try.func23 (by kernel_rfl) (by kernel_rfl) (by kernel_rfl) spec_BestGate.lp (fun a => by kernel_rfl) spec_BestGate.run (Tells.ok (tree := spec_BestGate.tr))
/-! ### impl_LeastGate -/
noncomputable def impl_LeastGate.b : Code := bodyOf Try.f24
noncomputable def impl_LeastGate.l5.s (x0 : Nat) (x1 : Nat) (x2 : Int) (x3 : Int) (x4 : Nat) (x5 : Nat) (x6 : Nat) (x7 : Nat) (x8 : Nat) (x9 : Nat) (x10 : Nat) : T (Int ⊕ ((Int × Int) ⊕ Unit)) :=
  .br (decide (x2 < (17 : Int)))
  (.br (impl_Governor_torqueAt.ok x0 x2 x3 x4 x5 x6 x7 x8 x9 x10)
   (.br (fge .f32 (impl_Governor_torqueAt x0 x2 x3 x4 x5 x6 x7 x8 x9 x10) x1)
    (.leaf (.inr (.inl (x2, (0 : Int)))))
    (.leaf (.inl (IntKind.wrap .i64 (x2 + (1 : Int))))))
   .bad)
  (.leaf (.inr (.inr ())))
noncomputable def impl_LeastGate.l5.st (p : Nat × Nat × Int × Nat × Nat × Nat × Nat × Nat × Nat × Nat) (x : Int) : T (Int ⊕ ((Int × Int) ⊕ Unit)) := impl_LeastGate.l5.s p.1 p.2.1 x p.2.2.1 p.2.2.2.1 p.2.2.2.2.1 p.2.2.2.2.2.1 p.2.2.2.2.2.2.1 p.2.2.2.2.2.2.2.1 p.2.2.2.2.2.2.2.2.1 p.2.2.2.2.2.2.2.2.2
noncomputable def impl_LeastGate.l5.r (p : Nat × Nat × Int × Nat × Nat × Nat × Nat × Nat × Nat × Nat) (x : Int) : Option ((Int × Int) ⊕ Unit) := iterT (impl_LeastGate.l5.st p) manyRounds x
def impl_LeastGate.l5.cd : Cd ((Nat × Nat × Int × Nat × Nat × Nat × Nat × Nat × Nat × Nat) × Int) (List V × Hp) := Cd.iso (Cd.pair (Cd.cons (Cd.fl .f32) (Cd.cons (Cd.fl .f32) (Cd.cons (Cd.pt 0 (Cd.natc 0)) (Cd.cons (Cd.it .i64) Cd.nil)))) (Cd.cons (Cd.rw 29 8 (Cd.vs (Cd.cons (Cd.it .i16) (Cd.cons (Cd.fl .f32) (Cd.cons (Cd.fl .f32) (Cd.cons (Cd.fl .f32) (Cd.cons (Cd.fl .f32) (Cd.cons (Cd.fl .f32) (Cd.cons (Cd.fl .f32) (Cd.cons (Cd.fl .f32) Cd.nil)))))))))) Cd.nil)) (fun a => ((a.1.1, a.1.2.1, a.2.1.1, a.2.1.2.1, a.2.1.2.2.1, a.2.1.2.2.2.1, a.2.1.2.2.2.2.1, a.2.1.2.2.2.2.2.1, a.2.1.2.2.2.2.2.2.1, a.2.1.2.2.2.2.2.2.2.1), a.1.2.2.2.1)) (fun a => ((a.1.1, (a.1.2.1, ((), (a.2, ())))), ((a.1.2.2.1, (a.1.2.2.2.1, (a.1.2.2.2.2.1, (a.1.2.2.2.2.2.1, (a.1.2.2.2.2.2.2.1, (a.1.2.2.2.2.2.2.2.1, (a.1.2.2.2.2.2.2.2.2.1, (a.1.2.2.2.2.2.2.2.2.2, ())))))))), ()))) (fun _ => rfl)
def impl_LeastGate.l5.out (p : Nat × Nat × Int × Nat × Nat × Nat × Nat × Nat × Nat × Nat) : ((Int × Int) ⊕ Unit) → X × List V × Hp := sumO (fun r => (.ret, [.it .i64 r.1, .it .i64 r.2], [])) (fun r => (.ex 0, [.unk, .unk], []))
def impl_LeastGate.l5.ex (p : Nat × Nat × Int × Nat × Nat × Nat × Nat × Nat × Nat × Nat) : ((Int × Int) ⊕ Unit) → T (X × List V × Hp) := sumT (leafT (fun r => (.ret, [.it .i64 r.1, .it .i64 r.2], []))) (leafT (fun r => (.ex 0, [.unk, .unk], [])))
noncomputable def impl_LeastGate.l5.c : List V → Hp → T (X × List V × Hp) := cdL impl_LeastGate.l5.cd fun x => optT (impl_LeastGate.l5.r x.1 x.2) (impl_LeastGate.l5.ex x.1)
noncomputable def impl_LeastGate.C : Ctx := { ty := tys, fn := [(46, .q impl_gateCode.c), (48, .q impl_Governor_torqueAt.c)], lp := [(5, ⟨[1, 2, 3, 17], [6, 7], impl_LeastGate.l5.c⟩)], n := 27, k := 0 }
theorem impl_LeastGate.hC : CtxOK Try.prog impl_LeastGate.C := CtxOK.of mo tys_ok (FnsOK.cons impl_gateCode.cok (FnsOK.cons impl_Governor_torqueAt.cok FnsOK.nil))
noncomputable def impl_LeastGate.b5 : Code := (nthC (loopsOf impl_LeastGate.b) 0)
theorem impl_LeastGate.lp5 : LpOK Try.prog impl_LeastGate.C impl_LeastGate.b5 := (LpOK.nil (by kernel_rfl))
theorem impl_LeastGate.l5.round (p : Nat × Nat × Int × Nat × Nat × Nat × Nat × Nat × Nat × Nat) (s : Int) : roundL impl_LeastGate.C [1, 2, 3, 17] [6, 7] impl_LeastGate.b5 (impl_LeastGate.l5.cd.enc (p, s)).1 (impl_LeastGate.l5.cd.enc (p, s)).2 = (impl_LeastGate.l5.st p s).map (encSum (fun s => impl_LeastGate.l5.cd.enc (p, s)) (impl_LeastGate.l5.out p)) := by kernel_rfl
theorem impl_LeastGate.l5.lok : LoopOK Try.prog impl_LeastGate.C ⟨[1, 2, 3, 17], [6, 7], impl_LeastGate.l5.c⟩ impl_LeastGate.b5 := loop_cd impl_LeastGate.l5.cd impl_LeastGate.hC impl_LeastGate.lp5 impl_LeastGate.l5.round fun p => (Gets.sum Gets.leaf Gets.leaf)
theorem impl_LeastGate.lp : LpOK Try.prog impl_LeastGate.C impl_LeastGate.b := lp_of (by kernel_rfl) (LpsOK.cons (k := 5) (by kernel_rfl) (by kernel_rfl) impl_LeastGate.l5.lok LpsOK.nil)
noncomputable def impl_LeastGate.t (x0 : Int) (x1 : Nat) (x2 : Nat) (x3 : Nat) (x4 : Nat) (x5 : Nat) (x6 : Nat) (x7 : Nat) (x8 : Nat) (x9 : Nat) : T (Int × Int) :=
  .br ((impl_gateCode x0 x1 x2 x3 x4 x5 x6 x7 x8 x9) != (0 : Int))
  (.leaf ((0 : Int), (impl_gateCode x0 x1 x2 x3 x4 x5 x6 x7 x8 x9)))
  (.br (Option.isSome (impl_LeastGate.l5.r (x8, x9, x0, x1, x2, x3, x4, x5, x6, x7) (0 : Int)))
   (.br (Sum.isLeft (Option.getD (impl_LeastGate.l5.r (x8, x9, x0, x1, x2, x3, x4, x5, x6, x7) (0 : Int)) default))
    (.leaf ((getLeftD (Option.getD (impl_LeastGate.l5.r (x8, x9, x0, x1, x2, x3, x4, x5, x6, x7) (0 : Int)) default)).1, (getLeftD (Option.getD (impl_LeastGate.l5.r (x8, x9, x0, x1, x2, x3, x4, x5, x6, x7) (0 : Int)) default)).2))
    (.leaf ((0 : Int), (6 : Int))))
   .bad)
noncomputable def impl_LeastGate (x0 : Int) (x1 : Nat) (x2 : Nat) (x3 : Nat) (x4 : Nat) (x5 : Nat) (x6 : Nat) (x7 : Nat) (x8 : Nat) (x9 : Nat) : Int × Int := (impl_LeastGate.t x0 x1 x2 x3 x4 x5 x6 x7 x8 x9).val
noncomputable def impl_LeastGate.ok (x0 : Int) (x1 : Nat) (x2 : Nat) (x3 : Nat) (x4 : Nat) (x5 : Nat) (x6 : Nat) (x7 : Nat) (x8 : Nat) (x9 : Nat) : Bool := (impl_LeastGate.t x0 x1 x2 x3 x4 x5 x6 x7 x8 x9).ok
def impl_LeastGate.cd : Cd (Int × Nat × Nat × Nat × Nat × Nat × Nat × Nat × Nat × Nat) (List V × Hp) := Cd.iso (Cd.pair (Cd.cons (Cd.agg (Cd.cons (Cd.it .i16) (Cd.cons (Cd.fl .f32) (Cd.cons (Cd.fl .f32) (Cd.cons (Cd.fl .f32) (Cd.cons (Cd.fl .f32) (Cd.cons (Cd.fl .f32) (Cd.cons (Cd.fl .f32) (Cd.cons (Cd.fl .f32) Cd.nil))))))))) (Cd.cons (Cd.fl .f32) (Cd.cons (Cd.fl .f32) Cd.nil))) Cd.nil) (fun a => (a.1.1.1, a.1.1.2.1, a.1.1.2.2.1, a.1.1.2.2.2.1, a.1.1.2.2.2.2.1, a.1.1.2.2.2.2.2.1, a.1.1.2.2.2.2.2.2.1, a.1.1.2.2.2.2.2.2.2.1, a.1.2.1, a.1.2.2.1)) (fun a => (((a.1, (a.2.1, (a.2.2.1, (a.2.2.2.1, (a.2.2.2.2.1, (a.2.2.2.2.2.1, (a.2.2.2.2.2.2.1, (a.2.2.2.2.2.2.2.1, ())))))))), (a.2.2.2.2.2.2.2.2.1, (a.2.2.2.2.2.2.2.2.2, ()))), ())) (fun _ => rfl)
noncomputable def impl_LeastGate.tr (a : Int × Nat × Nat × Nat × Nat × Nat × Nat × Nat × Nat × Nat) : T (Int × Int) := impl_LeastGate.t a.1 a.2.1 a.2.2.1 a.2.2.2.1 a.2.2.2.2.1 a.2.2.2.2.2.1 a.2.2.2.2.2.2.1 a.2.2.2.2.2.2.2.1 a.2.2.2.2.2.2.2.2.1 a.2.2.2.2.2.2.2.2.2
def impl_LeastGate.enc : (Int × Nat × Nat × Nat × Nat × Nat × Nat × Nat × Nat × Nat) → (Int × Int) → V := fun a r => .tup [.it .i64 r.1, .it .i64 r.2]
noncomputable def impl_LeastGate.c : List V → Hp → T V := cdQ impl_LeastGate.cd (fun a => .br (impl_LeastGate.ok a.1 a.2.1 a.2.2.1 a.2.2.2.1 a.2.2.2.2.1 a.2.2.2.2.2.1 a.2.2.2.2.2.2.1 a.2.2.2.2.2.2.2.1 a.2.2.2.2.2.2.2.2.1 a.2.2.2.2.2.2.2.2.2) (.leaf (impl_LeastGate.enc a (impl_LeastGate a.1 a.2.1 a.2.2.1 a.2.2.2.1 a.2.2.2.2.1 a.2.2.2.2.2.1 a.2.2.2.2.2.2.1 a.2.2.2.2.2.2.2.1 a.2.2.2.2.2.2.2.2.1 a.2.2.2.2.2.2.2.2.2))) .bad)
theorem impl_LeastGate.run (a : Int × Nat × Nat × Nat × Nat × Nat × Nat × Nat × Nat × Nat) : runF impl_LeastGate.C Try.f24.results.toList impl_LeastGate.b (impl_LeastGate.cd.enc a).1 (impl_LeastGate.cd.enc a).2 = (impl_LeastGate.tr a).map fun r => (impl_LeastGate.enc a r, (impl_LeastGate.cd.enc a).2) := by kernel_rfl
theorem impl_LeastGate.cok : OKq Try.prog 24 impl_LeastGate.c := con_q' impl_LeastGate.cd impl_LeastGate.hC Try.func24 (by kernel_rfl) (by kernel_rfl) (by kernel_rfl) impl_LeastGate.lp (fun a => by kernel_rfl) impl_LeastGate.run (Tells.ok (tree := impl_LeastGate.tr))
/-! ### spec_LeastGate -/
noncomputable def spec_LeastGate.b : Code := bodyOf Try.f25
noncomputable def spec_LeastGate.l5.s (x0 : Nat) (x1 : Nat) (x2 : Int) (x3 : Int) (x4 : Nat) (x5 : Nat) (x6 : Nat) (x7 : Nat) (x8 : Nat) (x9 : Nat) (x10 : Nat) : T (Int ⊕ ((Int × Int) ⊕ Unit)) :=
  .br (decide (x2 ≤ (16 : Int)))
  (.br (spec_l03At.ok x3 x4 x5 x6 x7 x8 x9 x10 x0 x2)
   (.br (fge .f32 (spec_l03At x3 x4 x5 x6 x7 x8 x9 x10 x0 x2) x1)
    (.leaf (.inr (.inl (x2, (0 : Int)))))
    (.leaf (.inl (IntKind.wrap .i64 (x2 + (1 : Int))))))
   .bad)
  (.leaf (.inr (.inr ())))
noncomputable def spec_LeastGate.l5.st (p : Nat × Nat × Int × Nat × Nat × Nat × Nat × Nat × Nat × Nat) (x : Int) : T (Int ⊕ ((Int × Int) ⊕ Unit)) := spec_LeastGate.l5.s p.1 p.2.1 x p.2.2.1 p.2.2.2.1 p.2.2.2.2.1 p.2.2.2.2.2.1 p.2.2.2.2.2.2.1 p.2.2.2.2.2.2.2.1 p.2.2.2.2.2.2.2.2.1 p.2.2.2.2.2.2.2.2.2
noncomputable def spec_LeastGate.l5.r (p : Nat × Nat × Int × Nat × Nat × Nat × Nat × Nat × Nat × Nat) (x : Int) : Option ((Int × Int) ⊕ Unit) := iterT (spec_LeastGate.l5.st p) manyRounds x
def spec_LeastGate.l5.cd : Cd ((Nat × Nat × Int × Nat × Nat × Nat × Nat × Nat × Nat × Nat) × Int) (List V × Hp) := Cd.iso (Cd.pair (Cd.cons (Cd.fl .f32) (Cd.cons (Cd.fl .f32) (Cd.cons (Cd.pt 0 (Cd.natc 0)) (Cd.cons (Cd.it .i64) Cd.nil)))) (Cd.cons (Cd.rw 29 8 (Cd.vs (Cd.cons (Cd.it .i16) (Cd.cons (Cd.fl .f32) (Cd.cons (Cd.fl .f32) (Cd.cons (Cd.fl .f32) (Cd.cons (Cd.fl .f32) (Cd.cons (Cd.fl .f32) (Cd.cons (Cd.fl .f32) (Cd.cons (Cd.fl .f32) Cd.nil)))))))))) Cd.nil)) (fun a => ((a.1.1, a.1.2.1, a.2.1.1, a.2.1.2.1, a.2.1.2.2.1, a.2.1.2.2.2.1, a.2.1.2.2.2.2.1, a.2.1.2.2.2.2.2.1, a.2.1.2.2.2.2.2.2.1, a.2.1.2.2.2.2.2.2.2.1), a.1.2.2.2.1)) (fun a => ((a.1.1, (a.1.2.1, ((), (a.2, ())))), ((a.1.2.2.1, (a.1.2.2.2.1, (a.1.2.2.2.2.1, (a.1.2.2.2.2.2.1, (a.1.2.2.2.2.2.2.1, (a.1.2.2.2.2.2.2.2.1, (a.1.2.2.2.2.2.2.2.2.1, (a.1.2.2.2.2.2.2.2.2.2, ())))))))), ()))) (fun _ => rfl)
def spec_LeastGate.l5.out (p : Nat × Nat × Int × Nat × Nat × Nat × Nat × Nat × Nat × Nat) : ((Int × Int) ⊕ Unit) → X × List V × Hp := sumO (fun r => (.ret, [.it .i64 r.1, .it .i64 r.2], [])) (fun r => (.ex 0, [.unk, .unk], []))
def spec_LeastGate.l5.ex (p : Nat × Nat × Int × Nat × Nat × Nat × Nat × Nat × Nat × Nat) : ((Int × Int) ⊕ Unit) → T (X × List V × Hp) := sumT (leafT (fun r => (.ret, [.it .i64 r.1, .it .i64 r.2], []))) (leafT (fun r => (.ex 0, [.unk, .unk], [])))
noncomputable def spec_LeastGate.l5.c : List V → Hp → T (X × List V × Hp) := cdL spec_LeastGate.l5.cd fun x => optT (spec_LeastGate.l5.r x.1 x.2) (spec_LeastGate.l5.ex x.1)
noncomputable def spec_LeastGate.C : Ctx := { ty := tys, fn := [(49, .q spec_l03Gated.c), (51, .q spec_l03At.c)], lp := [(5, ⟨[1, 2, 3, 9], [6, 7], spec_LeastGate.l5.c⟩)], n := 28, k := 0 }
theorem spec_LeastGate.hC : CtxOK Try.prog spec_LeastGate.C := CtxOK.of mo tys_ok (FnsOK.cons spec_l03Gated.cok (FnsOK.cons spec_l03At.cok FnsOK.nil))
noncomputable def spec_LeastGate.b5 : Code := (nthC (loopsOf spec_LeastGate.b) 0)
theorem spec_LeastGate.lp5 : LpOK Try.prog spec_LeastGate.C spec_LeastGate.b5 := (LpOK.nil (by kernel_rfl))
theorem spec_LeastGate.l5.round (p : Nat × Nat × Int × Nat × Nat × Nat × Nat × Nat × Nat × Nat) (s : Int) : roundL spec_LeastGate.C [1, 2, 3, 9] [6, 7] spec_LeastGate.b5 (spec_LeastGate.l5.cd.enc (p, s)).1 (spec_LeastGate.l5.cd.enc (p, s)).2 = (spec_LeastGate.l5.st p s).map (encSum (fun s => spec_LeastGate.l5.cd.enc (p, s)) (spec_LeastGate.l5.out p)) := by kernel_rfl
theorem spec_LeastGate.l5.lok : LoopOK Try.prog spec_LeastGate.C ⟨[1, 2, 3, 9], [6, 7], spec_LeastGate.l5.c⟩ spec_LeastGate.b5 := loop_cd spec_LeastGate.l5.cd spec_LeastGate.hC spec_LeastGate.lp5 spec_LeastGate.l5.round fun p => (Gets.sum Gets.leaf Gets.leaf)
theorem spec_LeastGate.lp : LpOK Try.prog spec_LeastGate.C spec_LeastGate.b := lp_of (by kernel_rfl) (LpsOK.cons (k := 5) (by kernel_rfl) (by kernel_rfl) spec_LeastGate.l5.lok LpsOK.nil)
noncomputable def spec_LeastGate.t (x0 : Int) (x1 : Nat) (x2 : Nat) (x3 : Nat) (x4 : Nat) (x5 : Nat) (x6 : Nat) (x7 : Nat) (x8 : Nat) (x9 : Nat) : T (Int × Int) :=
  .br ((spec_l03Gated x0 x1 x2 x3 x4 x5 x6 x7 x8 x9) != (0 : Int))
  (.leaf ((0 : Int), (spec_l03Gated x0 x1 x2 x3 x4 x5 x6 x7 x8 x9)))
  (.br (Option.isSome (spec_LeastGate.l5.r (x8, x9, x0, x1, x2, x3, x4, x5, x6, x7) (0 : Int)))
   (.br (Sum.isLeft (Option.getD (spec_LeastGate.l5.r (x8, x9, x0, x1, x2, x3, x4, x5, x6, x7) (0 : Int)) default))
    (.leaf ((getLeftD (Option.getD (spec_LeastGate.l5.r (x8, x9, x0, x1, x2, x3, x4, x5, x6, x7) (0 : Int)) default)).1, (getLeftD (Option.getD (spec_LeastGate.l5.r (x8, x9, x0, x1, x2, x3, x4, x5, x6, x7) (0 : Int)) default)).2))
    (.leaf ((0 : Int), (6 : Int))))
   .bad)
noncomputable def spec_LeastGate (x0 : Int) (x1 : Nat) (x2 : Nat) (x3 : Nat) (x4 : Nat) (x5 : Nat) (x6 : Nat) (x7 : Nat) (x8 : Nat) (x9 : Nat) : Int × Int := (spec_LeastGate.t x0 x1 x2 x3 x4 x5 x6 x7 x8 x9).val
noncomputable def spec_LeastGate.ok (x0 : Int) (x1 : Nat) (x2 : Nat) (x3 : Nat) (x4 : Nat) (x5 : Nat) (x6 : Nat) (x7 : Nat) (x8 : Nat) (x9 : Nat) : Bool := (spec_LeastGate.t x0 x1 x2 x3 x4 x5 x6 x7 x8 x9).ok
def spec_LeastGate.cd : Cd (Int × Nat × Nat × Nat × Nat × Nat × Nat × Nat × Nat × Nat) (List V × Hp) := Cd.iso (Cd.pair (Cd.cons (Cd.agg (Cd.cons (Cd.it .i16) (Cd.cons (Cd.fl .f32) (Cd.cons (Cd.fl .f32) (Cd.cons (Cd.fl .f32) (Cd.cons (Cd.fl .f32) (Cd.cons (Cd.fl .f32) (Cd.cons (Cd.fl .f32) (Cd.cons (Cd.fl .f32) Cd.nil))))))))) (Cd.cons (Cd.fl .f32) (Cd.cons (Cd.fl .f32) Cd.nil))) Cd.nil) (fun a => (a.1.1.1, a.1.1.2.1, a.1.1.2.2.1, a.1.1.2.2.2.1, a.1.1.2.2.2.2.1, a.1.1.2.2.2.2.2.1, a.1.1.2.2.2.2.2.2.1, a.1.1.2.2.2.2.2.2.2.1, a.1.2.1, a.1.2.2.1)) (fun a => (((a.1, (a.2.1, (a.2.2.1, (a.2.2.2.1, (a.2.2.2.2.1, (a.2.2.2.2.2.1, (a.2.2.2.2.2.2.1, (a.2.2.2.2.2.2.2.1, ())))))))), (a.2.2.2.2.2.2.2.2.1, (a.2.2.2.2.2.2.2.2.2, ()))), ())) (fun _ => rfl)
noncomputable def spec_LeastGate.tr (a : Int × Nat × Nat × Nat × Nat × Nat × Nat × Nat × Nat × Nat) : T (Int × Int) := spec_LeastGate.t a.1 a.2.1 a.2.2.1 a.2.2.2.1 a.2.2.2.2.1 a.2.2.2.2.2.1 a.2.2.2.2.2.2.1 a.2.2.2.2.2.2.2.1 a.2.2.2.2.2.2.2.2.1 a.2.2.2.2.2.2.2.2.2
def spec_LeastGate.enc : (Int × Nat × Nat × Nat × Nat × Nat × Nat × Nat × Nat × Nat) → (Int × Int) → V := fun a r => .tup [.it .i64 r.1, .it .i64 r.2]
noncomputable def spec_LeastGate.c : List V → Hp → T V := cdQ spec_LeastGate.cd (fun a => .br (spec_LeastGate.ok a.1 a.2.1 a.2.2.1 a.2.2.2.1 a.2.2.2.2.1 a.2.2.2.2.2.1 a.2.2.2.2.2.2.1 a.2.2.2.2.2.2.2.1 a.2.2.2.2.2.2.2.2.1 a.2.2.2.2.2.2.2.2.2) (.leaf (spec_LeastGate.enc a (spec_LeastGate a.1 a.2.1 a.2.2.1 a.2.2.2.1 a.2.2.2.2.1 a.2.2.2.2.2.1 a.2.2.2.2.2.2.1 a.2.2.2.2.2.2.2.1 a.2.2.2.2.2.2.2.2.1 a.2.2.2.2.2.2.2.2.2))) .bad)
theorem spec_LeastGate.run (a : Int × Nat × Nat × Nat × Nat × Nat × Nat × Nat × Nat × Nat) : runF spec_LeastGate.C Try.f25.results.toList spec_LeastGate.b (spec_LeastGate.cd.enc a).1 (spec_LeastGate.cd.enc a).2 = (spec_LeastGate.tr a).map fun r => (spec_LeastGate.enc a r, (spec_LeastGate.cd.enc a).2) := by kernel_rfl
theorem spec_LeastGate.cok : OKq Try.prog 25 spec_LeastGate.c := con_q' spec_LeastGate.cd spec_LeastGate.hC Try.func25 (by kernel_rfl) (by kernel_rfl) (by kernel_rfl) spec_LeastGate.lp (fun a => by kernel_rfl) spec_LeastGate.run (Tells.ok (tree := spec_LeastGate.tr))
/-! ### impl_TorqueAt -/
noncomputable def impl_TorqueAt.b : Code := bodyOf Try.f26
noncomputable def impl_TorqueAt.C : Ctx := { ty := tys, fn := [(33, .q impl_governorCode_w1.c), (48, .q impl_Governor_torqueAt.c)], lp := [], n := 19, k := 0 }
theorem impl_TorqueAt.hC : CtxOK Try.prog impl_TorqueAt.C := CtxOK.of mo tys_ok (FnsOK.cons impl_governorCode_w1.cok (FnsOK.cons impl_Governor_torqueAt.cok FnsOK.nil))
theorem impl_TorqueAt.lp : LpOK Try.prog impl_TorqueAt.C impl_TorqueAt.b := (LpOK.nil (by kernel_rfl))
noncomputable def impl_TorqueAt.t (x0 : Int) (x1 : Nat) (x2 : Nat) (x3 : Nat) (x4 : Nat) (x5 : Nat) (x6 : Nat) (x7 : Nat) (x8 : Nat) (x9 : Int) : T (Nat × Int) :=
  .br (impl_governorCode_w1.ok x0 x1 x2 x3 x4 x5 x6 x7 x8 x9)
  (.br ((impl_governorCode_w1 x0 x1 x2 x3 x4 x5 x6 x7 x8 x9) != (0 : Int))
   (.leaf (0, (impl_governorCode_w1 x0 x1 x2 x3 x4 x5 x6 x7 x8 x9)))
   (.br (impl_Governor_torqueAt.ok x8 (IntKind.wrap .i64 x9) x0 x1 x2 x3 x4 x5 x6 x7)
    (.leaf ((impl_Governor_torqueAt x8 (IntKind.wrap .i64 x9) x0 x1 x2 x3 x4 x5 x6 x7), (0 : Int)))
    .bad))
  .bad
noncomputable def impl_TorqueAt (x0 : Int) (x1 : Nat) (x2 : Nat) (x3 : Nat) (x4 : Nat) (x5 : Nat) (x6 : Nat) (x7 : Nat) (x8 : Nat) (x9 : Int) : Nat × Int := (impl_TorqueAt.t x0 x1 x2 x3 x4 x5 x6 x7 x8 x9).val
noncomputable def impl_TorqueAt.ok (x0 : Int) (x1 : Nat) (x2 : Nat) (x3 : Nat) (x4 : Nat) (x5 : Nat) (x6 : Nat) (x7 : Nat) (x8 : Nat) (x9 : Int) : Bool := (impl_TorqueAt.t x0 x1 x2 x3 x4 x5 x6 x7 x8 x9).ok
def impl_TorqueAt.cd : Cd (Int × Nat × Nat × Nat × Nat × Nat × Nat × Nat × Nat × Int) (List V × Hp) := Cd.iso (Cd.pair (Cd.cons (Cd.agg (Cd.cons (Cd.it .i16) (Cd.cons (Cd.fl .f32) (Cd.cons (Cd.fl .f32) (Cd.cons (Cd.fl .f32) (Cd.cons (Cd.fl .f32) (Cd.cons (Cd.fl .f32) (Cd.cons (Cd.fl .f32) (Cd.cons (Cd.fl .f32) Cd.nil))))))))) (Cd.cons (Cd.agg (Cd.cons (Cd.fl .f32) (Cd.cons (Cd.it .i8) Cd.nil))) Cd.nil)) Cd.nil) (fun a => (a.1.1.1, a.1.1.2.1, a.1.1.2.2.1, a.1.1.2.2.2.1, a.1.1.2.2.2.2.1, a.1.1.2.2.2.2.2.1, a.1.1.2.2.2.2.2.2.1, a.1.1.2.2.2.2.2.2.2.1, a.1.2.1.1, a.1.2.1.2.1)) (fun a => (((a.1, (a.2.1, (a.2.2.1, (a.2.2.2.1, (a.2.2.2.2.1, (a.2.2.2.2.2.1, (a.2.2.2.2.2.2.1, (a.2.2.2.2.2.2.2.1, ())))))))), ((a.2.2.2.2.2.2.2.2.1, (a.2.2.2.2.2.2.2.2.2, ())), ())), ())) (fun _ => rfl)
noncomputable def impl_TorqueAt.tr (a : Int × Nat × Nat × Nat × Nat × Nat × Nat × Nat × Nat × Int) : T (Nat × Int) := impl_TorqueAt.t a.1 a.2.1 a.2.2.1 a.2.2.2.1 a.2.2.2.2.1 a.2.2.2.2.2.1 a.2.2.2.2.2.2.1 a.2.2.2.2.2.2.2.1 a.2.2.2.2.2.2.2.2.1 a.2.2.2.2.2.2.2.2.2
def impl_TorqueAt.enc : (Int × Nat × Nat × Nat × Nat × Nat × Nat × Nat × Nat × Int) → (Nat × Int) → V := fun a r => .tup [.fl .f32 r.1, .it .i64 r.2]
noncomputable def impl_TorqueAt.c : List V → Hp → T V := cdQ impl_TorqueAt.cd (fun a => .br (impl_TorqueAt.ok a.1 a.2.1 a.2.2.1 a.2.2.2.1 a.2.2.2.2.1 a.2.2.2.2.2.1 a.2.2.2.2.2.2.1 a.2.2.2.2.2.2.2.1 a.2.2.2.2.2.2.2.2.1 a.2.2.2.2.2.2.2.2.2) (.leaf (impl_TorqueAt.enc a (impl_TorqueAt a.1 a.2.1 a.2.2.1 a.2.2.2.1 a.2.2.2.2.1 a.2.2.2.2.2.1 a.2.2.2.2.2.2.1 a.2.2.2.2.2.2.2.1 a.2.2.2.2.2.2.2.2.1 a.2.2.2.2.2.2.2.2.2))) .bad)
theorem impl_TorqueAt.run (a : Int × Nat × Nat × Nat × Nat × Nat × Nat × Nat × Nat × Int) : runF impl_TorqueAt.C Try.f26.results.toList impl_TorqueAt.b (impl_TorqueAt.cd.enc a).1 (impl_TorqueAt.cd.enc a).2 = (impl_TorqueAt.tr a).map fun r => (impl_TorqueAt.enc a r, (impl_TorqueAt.cd.enc a).2) := by kernel_rfl
theorem impl_TorqueAt.cok : OKq Try.prog 26 impl_TorqueAt.c := con_q' impl_TorqueAt.cd impl_TorqueAt.hC Try.func26 (by kernel_rfl) (by kernel_rfl) (by kernel_rfl) impl_TorqueAt.lp (fun a => by kernel_rfl) impl_TorqueAt.run (Tells.ok (tree := impl_TorqueAt.tr))
/-! ### spec_TorqueAt -/
noncomputable def spec_TorqueAt.b : Code := bodyOf Try.f27
noncomputable def spec_TorqueAt.C : Ctx := { ty := tys, fn := [(35, .q spec_l03Both.c), (51, .q spec_l03At.c)], lp := [], n := 20, k := 0 }
theorem spec_TorqueAt.hC : CtxOK Try.prog spec_TorqueAt.C := CtxOK.of mo tys_ok (FnsOK.cons spec_l03Both.cok (FnsOK.cons spec_l03At.cok FnsOK.nil))
theorem spec_TorqueAt.lp : LpOK Try.prog spec_TorqueAt.C spec_TorqueAt.b := (LpOK.nil (by kernel_rfl))
noncomputable def spec_TorqueAt.t (x0 : Int) (x1 : Nat) (x2 : Nat) (x3 : Nat) (x4 : Nat) (x5 : Nat) (x6 : Nat) (x7 : Nat) (x8 : Nat) (x9 : Int) : T (Nat × Int) :=
  .br ((spec_l03Both x0 x1 x2 x3 x4 x5 x6 x7 x8 x9) != (0 : Int))
  (.leaf (0, (spec_l03Both x0 x1 x2 x3 x4 x5 x6 x7 x8 x9)))
  (.br (spec_l03At.ok x0 x1 x2 x3 x4 x5 x6 x7 x8 (IntKind.wrap .i64 x9))
   (.leaf ((spec_l03At x0 x1 x2 x3 x4 x5 x6 x7 x8 (IntKind.wrap .i64 x9)), (0 : Int)))
   .bad)
noncomputable def spec_TorqueAt (x0 : Int) (x1 : Nat) (x2 : Nat) (x3 : Nat) (x4 : Nat) (x5 : Nat) (x6 : Nat) (x7 : Nat) (x8 : Nat) (x9 : Int) : Nat × Int := (spec_TorqueAt.t x0 x1 x2 x3 x4 x5 x6 x7 x8 x9).val
noncomputable def spec_TorqueAt.ok (x0 : Int) (x1 : Nat) (x2 : Nat) (x3 : Nat) (x4 : Nat) (x5 : Nat) (x6 : Nat) (x7 : Nat) (x8 : Nat) (x9 : Int) : Bool := (spec_TorqueAt.t x0 x1 x2 x3 x4 x5 x6 x7 x8 x9).ok
def spec_TorqueAt.cd : Cd (Int × Nat × Nat × Nat × Nat × Nat × Nat × Nat × Nat × Int) (List V × Hp) := Cd.iso (Cd.pair (Cd.cons (Cd.agg (Cd.cons (Cd.it .i16) (Cd.cons (Cd.fl .f32) (Cd.cons (Cd.fl .f32) (Cd.cons (Cd.fl .f32) (Cd.cons (Cd.fl .f32) (Cd.cons (Cd.fl .f32) (Cd.cons (Cd.fl .f32) (Cd.cons (Cd.fl .f32) Cd.nil))))))))) (Cd.cons (Cd.agg (Cd.cons (Cd.fl .f32) (Cd.cons (Cd.it .i8) Cd.nil))) Cd.nil)) Cd.nil) (fun a => (a.1.1.1, a.1.1.2.1, a.1.1.2.2.1, a.1.1.2.2.2.1, a.1.1.2.2.2.2.1, a.1.1.2.2.2.2.2.1, a.1.1.2.2.2.2.2.2.1, a.1.1.2.2.2.2.2.2.2.1, a.1.2.1.1, a.1.2.1.2.1)) (fun a => (((a.1, (a.2.1, (a.2.2.1, (a.2.2.2.1, (a.2.2.2.2.1, (a.2.2.2.2.2.1, (a.2.2.2.2.2.2.1, (a.2.2.2.2.2.2.2.1, ())))))))), ((a.2.2.2.2.2.2.2.2.1, (a.2.2.2.2.2.2.2.2.2, ())), ())), ())) (fun _ => rfl)
noncomputable def spec_TorqueAt.tr (a : Int × Nat × Nat × Nat × Nat × Nat × Nat × Nat × Nat × Int) : T (Nat × Int) := spec_TorqueAt.t a.1 a.2.1 a.2.2.1 a.2.2.2.1 a.2.2.2.2.1 a.2.2.2.2.2.1 a.2.2.2.2.2.2.1 a.2.2.2.2.2.2.2.1 a.2.2.2.2.2.2.2.2.1 a.2.2.2.2.2.2.2.2.2
def spec_TorqueAt.enc : (Int × Nat × Nat × Nat × Nat × Nat × Nat × Nat × Nat × Int) → (Nat × Int) → V := fun a r => .tup [.fl .f32 r.1, .it .i64 r.2]
noncomputable def spec_TorqueAt.c : List V → Hp → T V := cdQ spec_TorqueAt.cd (fun a => .br (spec_TorqueAt.ok a.1 a.2.1 a.2.2.1 a.2.2.2.1 a.2.2.2.2.1 a.2.2.2.2.2.1 a.2.2.2.2.2.2.1 a.2.2.2.2.2.2.2.1 a.2.2.2.2.2.2.2.2.1 a.2.2.2.2.2.2.2.2.2) (.leaf (spec_TorqueAt.enc a (spec_TorqueAt a.1 a.2.1 a.2.2.1 a.2.2.2.1 a.2.2.2.2.1 a.2.2.2.2.2.1 a.2.2.2.2.2.2.1 a.2.2.2.2.2.2.2.1 a.2.2.2.2.2.2.2.2.1 a.2.2.2.2.2.2.2.2.2))) .bad)
theorem spec_TorqueAt.run (a : Int × Nat × Nat × Nat × Nat × Nat × Nat × Nat × Nat × Int) : runF spec_TorqueAt.C Try.f27.results.toList spec_TorqueAt.b (spec_TorqueAt.cd.enc a).1 (spec_TorqueAt.cd.enc a).2 = (spec_TorqueAt.tr a).map fun r => (spec_TorqueAt.enc a r, (spec_TorqueAt.cd.enc a).2) := by kernel_rfl
theorem spec_TorqueAt.cok : OKq Try.prog 27 spec_TorqueAt.c := con_q' spec_TorqueAt.cd spec_TorqueAt.hC Try.func27 (by kernel_rfl) (by kernel_rfl) (by kernel_rfl) spec_TorqueAt.lp (fun a => by kernel_rfl) spec_TorqueAt.run (Tells.ok (tree := spec_TorqueAt.tr))
/-! ### spec_SameNumber -/
noncomputable def spec_SameNumber.b : Code := bodyOf Try.f28
noncomputable def spec_SameNumber.C : Ctx := { ty := tys, fn := [(43, .q spec_l01Same.c)], lp := [], n := 8, k := 0 }
theorem spec_SameNumber.hC : CtxOK Try.prog spec_SameNumber.C := CtxOK.of mo tys_ok (FnsOK.cons spec_l01Same.cok FnsOK.nil)
theorem spec_SameNumber.lp : LpOK Try.prog spec_SameNumber.C spec_SameNumber.b := (LpOK.nil (by kernel_rfl))
noncomputable def spec_SameNumber.t (x0 : Nat) (x1 : Nat) : T Bool :=
  .br (spec_l01Same.ok x0 x1)
  (.leaf (spec_l01Same x0 x1))
  .bad
noncomputable def spec_SameNumber (x0 : Nat) (x1 : Nat) : Bool := (spec_SameNumber.t x0 x1).val
noncomputable def spec_SameNumber.ok (x0 : Nat) (x1 : Nat) : Bool := (spec_SameNumber.t x0 x1).ok
def spec_SameNumber.cd : Cd (Nat × Nat) (List V × Hp) := Cd.iso (Cd.pair (Cd.cons (Cd.fl .f32) (Cd.cons (Cd.fl .f32) Cd.nil)) Cd.nil) (fun a => (a.1.1, a.1.2.1)) (fun a => ((a.1, (a.2, ())), ())) (fun _ => rfl)
noncomputable def spec_SameNumber.tr (a : Nat × Nat) : T Bool := spec_SameNumber.t a.1 a.2
def spec_SameNumber.enc : (Nat × Nat) → Bool → V := fun a r => .bo r
noncomputable def spec_SameNumber.c : List V → Hp → T V := cdQ spec_SameNumber.cd (fun a => .br (spec_SameNumber.ok a.1 a.2) (.leaf (spec_SameNumber.enc a (spec_SameNumber a.1 a.2))) .bad)
theorem spec_SameNumber.run (a : Nat × Nat) : runF spec_SameNumber.C Try.f28.results.toList spec_SameNumber.b (spec_SameNumber.cd.enc a).1 (spec_SameNumber.cd.enc a).2 = (spec_SameNumber.tr a).map fun r => (spec_SameNumber.enc a r, (spec_SameNumber.cd.enc a).2) := by kernel_rfl
theorem spec_SameNumber.cok : OKq Try.prog 28 spec_SameNumber.c := con_q' spec_SameNumber.cd spec_SameNumber.hC Try.func28 (by kernel_rfl) (by kernel_rfl) (by kernel_rfl) spec_SameNumber.lp (fun a => by kernel_rfl) spec_SameNumber.run (Tells.ok (tree := spec_SameNumber.tr))
/-! ### spec_SameStates_w1 -/
noncomputable def spec_SameStates_w1.b : Code := bodyOf Try.f10
noncomputable def spec_SameStates_w1.l4.s (x0 : Nat) (x1 : Nat) (x2 : Int) (x3 : List (List Sc)) (x4 : List (List Sc)) : T (Int ⊕ (Bool ⊕ Unit)) :=
  .br (decide (x2 < ((x0 : Nat) : Int)))
  (.br (bounds x2 x0)
   (.br (Nat.ble ((Int.toNat x2) + 1) (List.length x3))
    (.br (bounds x2 x1)
     (.br (Nat.ble ((Int.toNat x2) + 1) (List.length x4))
      (.br (spec_SameState.ok (Sc.nat (List.getD (List.getD x3 (Int.toNat x2) []) 0 (.n 0))) (Sc.int (List.getD (List.getD x3 (Int.toNat x2) []) 1 (.n 0))) (Sc.nat (List.getD (List.getD x4 (Int.toNat x2) []) 0 (.n 0))) (Sc.int (List.getD (List.getD x4 (Int.toNat x2) []) 1 (.n 0))))
       (.br (!(spec_SameState (Sc.nat (List.getD (List.getD x3 (Int.toNat x2) []) 0 (.n 0))) (Sc.int (List.getD (List.getD x3 (Int.toNat x2) []) 1 (.n 0))) (Sc.nat (List.getD (List.getD x4 (Int.toNat x2) []) 0 (.n 0))) (Sc.int (List.getD (List.getD x4 (Int.toNat x2) []) 1 (.n 0)))))
        (.leaf (.inr (.inl false)))
        (.leaf (.inl (IntKind.wrap .i64 (x2 + (1 : Int))))))
       .bad)
      .bad)
     .bad)
    .bad)
   .bad)
  (.leaf (.inr (.inr ())))
noncomputable def spec_SameStates_w1.l4.st (p : Nat × Nat × List (List Sc) × List (List Sc)) (x : Int) : T (Int ⊕ (Bool ⊕ Unit)) := spec_SameStates_w1.l4.s p.1 p.2.1 x p.2.2.1 p.2.2.2
noncomputable def spec_SameStates_w1.l4.r (p : Nat × Nat × List (List Sc) × List (List Sc)) (x : Int) : Option (Bool ⊕ Unit) := iterT (spec_SameStates_w1.l4.st p) manyRounds x
def spec_SameStates_w1.l4.cd : Cd ((Nat × Nat × List (List Sc) × List (List Sc)) × Int) (List V × Hp) := Cd.iso (Cd.pair (Cd.cons (Cd.own 0) (Cd.cons (Cd.own 1) (Cd.cons (Cd.it .i64) Cd.nil))) (Cd.cons (Cd.rw 33 2 (Cd.mx [.fl .f32, .it .i8])) (Cd.cons (Cd.rw 33 2 (Cd.mx [.fl .f32, .it .i8])) Cd.nil))) (fun a => ((a.1.1, a.1.2.1, a.2.1, a.2.2.1), a.1.2.2.1)) (fun a => ((a.1.1, (a.1.2.1, (a.2, ()))), (a.1.2.2.1, (a.1.2.2.2, ())))) (fun _ => rfl)
def spec_SameStates_w1.l4.out (p : Nat × Nat × List (List Sc) × List (List Sc)) : (Bool ⊕ Unit) → X × List V × Hp := sumO (fun r => (.ret, [.bo r], [some ⟨true, 33, 2, .mx [.fl .f32, .it .i8] p.2.2.1⟩, some ⟨true, 33, 2, .mx [.fl .f32, .it .i8] p.2.2.2⟩])) (fun r => (.ex 0, [.unk], [some ⟨true, 33, 2, .mx [.fl .f32, .it .i8] p.2.2.1⟩, some ⟨true, 33, 2, .mx [.fl .f32, .it .i8] p.2.2.2⟩]))
def spec_SameStates_w1.l4.ex (p : Nat × Nat × List (List Sc) × List (List Sc)) : (Bool ⊕ Unit) → T (X × List V × Hp) := sumT (leafT (fun r => (.ret, [.bo r], [some ⟨true, 33, 2, .mx [.fl .f32, .it .i8] p.2.2.1⟩, some ⟨true, 33, 2, .mx [.fl .f32, .it .i8] p.2.2.2⟩]))) (leafT (fun r => (.ex 0, [.unk], [some ⟨true, 33, 2, .mx [.fl .f32, .it .i8] p.2.2.1⟩, some ⟨true, 33, 2, .mx [.fl .f32, .it .i8] p.2.2.2⟩])))
noncomputable def spec_SameStates_w1.l4.c : List V → Hp → T (X × List V × Hp) := cdL spec_SameStates_w1.l4.cd fun x => optT (spec_SameStates_w1.l4.r x.1 x.2) (spec_SameStates_w1.l4.ex x.1)
noncomputable def spec_SameStates_w1.C : Ctx := { ty := tys, fn := [(15, .q spec_SameState.c)], lp := [(4, ⟨[0, 1, 5], [4], spec_SameStates_w1.l4.c⟩)], n := 27, k := 2 }
theorem spec_SameStates_w1.hC : CtxOK Try.prog spec_SameStates_w1.C := CtxOK.of mo tys_ok (FnsOK.cons spec_SameState.cok FnsOK.nil)
noncomputable def spec_SameStates_w1.b4 : Code := (nthC (loopsOf spec_SameStates_w1.b) 0)
theorem spec_SameStates_w1.lp4 : LpOK Try.prog spec_SameStates_w1.C spec_SameStates_w1.b4 := (LpOK.nil (by kernel_rfl))
theorem spec_SameStates_w1.l4.round (p : Nat × Nat × List (List Sc) × List (List Sc)) (s : Int) : roundL spec_SameStates_w1.C [0, 1, 5] [4] spec_SameStates_w1.b4 (spec_SameStates_w1.l4.cd.enc (p, s)).1 (spec_SameStates_w1.l4.cd.enc (p, s)).2 = (spec_SameStates_w1.l4.st p s).map (encSum (fun s => spec_SameStates_w1.l4.cd.enc (p, s)) (spec_SameStates_w1.l4.out p)) := by kernel_rfl
theorem spec_SameStates_w1.l4.lok : LoopOK Try.prog spec_SameStates_w1.C ⟨[0, 1, 5], [4], spec_SameStates_w1.l4.c⟩ spec_SameStates_w1.b4 := loop_cd spec_SameStates_w1.l4.cd spec_SameStates_w1.hC spec_SameStates_w1.lp4 spec_SameStates_w1.l4.round fun p => (Gets.sum Gets.leaf Gets.leaf)
theorem spec_SameStates_w1.lp : LpOK Try.prog spec_SameStates_w1.C spec_SameStates_w1.b := lp_of (by kernel_rfl) (LpsOK.cons (k := 4) (by kernel_rfl) (by kernel_rfl) spec_SameStates_w1.l4.lok LpsOK.nil)
noncomputable def spec_SameStates_w1.t (x0 : Nat) (x1 : Nat) (x2 : List (List Sc)) (x3 : List (List Sc)) : T Bool :=
  .br (((x0 : Nat) : Int) != ((x1 : Nat) : Int))
  (.leaf false)
  (.br (Option.isSome (spec_SameStates_w1.l4.r (x0, x1, x2, x3) (0 : Int)))
   (.br (Sum.isLeft (Option.getD (spec_SameStates_w1.l4.r (x0, x1, x2, x3) (0 : Int)) default))
    (.leaf (getLeftD (Option.getD (spec_SameStates_w1.l4.r (x0, x1, x2, x3) (0 : Int)) default)))
    (.leaf true))
   .bad)
noncomputable def spec_SameStates_w1 (x0 : Nat) (x1 : Nat) (x2 : List (List Sc)) (x3 : List (List Sc)) : Bool := (spec_SameStates_w1.t x0 x1 x2 x3).val
noncomputable def spec_SameStates_w1.ok (x0 : Nat) (x1 : Nat) (x2 : List (List Sc)) (x3 : List (List Sc)) : Bool := (spec_SameStates_w1.t x0 x1 x2 x3).ok
def spec_SameStates_w1.cd : Cd (Nat × Nat × List (List Sc) × List (List Sc)) (List V × Hp) := Cd.iso (Cd.pair (Cd.cons (Cd.own 0) (Cd.cons (Cd.own 1) Cd.nil)) (Cd.cons (Cd.rw 33 2 (Cd.mx [.fl .f32, .it .i8])) (Cd.cons (Cd.rw 33 2 (Cd.mx [.fl .f32, .it .i8])) Cd.nil))) (fun a => (a.1.1, a.1.2.1, a.2.1, a.2.2.1)) (fun a => ((a.1, (a.2.1, ())), (a.2.2.1, (a.2.2.2, ())))) (fun _ => rfl)
noncomputable def spec_SameStates_w1.tr (a : Nat × Nat × List (List Sc) × List (List Sc)) : T Bool := spec_SameStates_w1.t a.1 a.2.1 a.2.2.1 a.2.2.2
def spec_SameStates_w1.enc : (Nat × Nat × List (List Sc) × List (List Sc)) → Bool → V := fun a r => .bo r
noncomputable def spec_SameStates_w1.c : List V → Hp → T V := cdQ spec_SameStates_w1.cd (fun a => .br (spec_SameStates_w1.ok a.1 a.2.1 a.2.2.1 a.2.2.2) (.leaf (spec_SameStates_w1.enc a (spec_SameStates_w1 a.1 a.2.1 a.2.2.1 a.2.2.2))) .bad)
theorem spec_SameStates_w1.run (a : Nat × Nat × List (List Sc) × List (List Sc)) : runF spec_SameStates_w1.C Try.f10.results.toList spec_SameStates_w1.b (spec_SameStates_w1.cd.enc a).1 (spec_SameStates_w1.cd.enc a).2 = (spec_SameStates_w1.tr a).map fun r => (spec_SameStates_w1.enc a r, (spec_SameStates_w1.cd.enc a).2) := by kernel_rfl
theorem spec_SameStates_w1.cok : OKq Try.prog 10 spec_SameStates_w1.c := con_q' spec_SameStates_w1.cd spec_SameStates_w1.hC Try.func10 (by kernel_rfl) (by kernel_rfl) (by kernel_rfl) spec_SameStates_w1.lp (fun a => by kernel_rfl) spec_SameStates_w1.run (Tells.ok (tree := spec_SameStates_w1.tr))
/-! ### laws_FnGoverned -/
noncomputable def laws_FnGoverned.b : Code := bodyOf Try.f3
noncomputable def laws_FnGoverned.l12.s (x0 : Nat) (x1 : Nat) (x2 : Nat) (x3 : Int) (x4 : List Int) (x5 : List Int) (x6 : Int) (x7 : Nat) (x8 : Nat) (x9 : Nat) (x10 : Nat) (x11 : Nat) (x12 : Nat) (x13 : Nat) (x14 : Nat) (x15 : Int) (x16 : List Nat) (x17 : List (List Sc)) (x18 : Nat) (x19 : Int) : T ((Int × Nat × Int) ⊕ (Bool ⊕ Unit)) :=
  .br (decide (x3 < ((x1 : Nat) : Int)))
  (let y30 := (impl_GateBehind x6 x7 x8 x9 x10 x11 x12 x13 x18 x19)
   .br (impl_GateBehind.ok x6 x7 x8 x9 x10 x11 x12 x13 x18 x19)
   (.br (bounds x3 x1)
    (.br (Nat.ble ((Int.toNat x3 * 1) + 1) (List.length x16))
     (let y31 := (impl_TickOnce x6 x7 x8 x9 x10 x11 x12 x13 x18 x19 (List.getD x16 (Int.toNat x3 * 1) 0))
      .br (impl_TickOnce.ok x6 x7 x8 x9 x10 x11 x12 x13 x18 x19 (List.getD x16 (Int.toNat x3 * 1) 0))
      (.br (y30.2 != (0 : Int))
       (.leaf (.inr (.inl false)))
       (.br (y31.2.2 != (0 : Int))
        (.leaf (.inr (.inl false)))
        (.br (bounds x3 x2)
         (.br (Nat.ble ((Int.toNat x3) + 1) (List.length x17))
          (let y32 := (spec_SameState y31.1 y31.2.1 (Sc.nat (List.getD (List.getD x17 (Int.toNat x3) []) 0 (.n 0))) (Sc.int (List.getD (List.getD x17 (Int.toNat x3) []) 1 (.n 0))))
           .br (spec_SameState.ok y31.1 y31.2.1 (Sc.nat (List.getD (List.getD x17 (Int.toNat x3) []) 0 (.n 0))) (Sc.int (List.getD (List.getD x17 (Int.toNat x3) []) 1 (.n 0))))
           (.br (!y32)
            (.leaf (.inr (.inl false)))
            (.br (bounds x3 x2)
             (.br (Nat.ble ((Int.toNat x3) + 1) (List.length x17))
              (let y33 := (impl_SameState (Sc.nat (List.getD (List.getD x17 (Int.toNat x3) []) 0 (.n 0))) (Sc.int (List.getD (List.getD x17 (Int.toNat x3) []) 1 (.n 0))) y31.1 y31.2.1)
               .br (impl_SameState.ok (Sc.nat (List.getD (List.getD x17 (Int.toNat x3) []) 0 (.n 0))) (Sc.int (List.getD (List.getD x17 (Int.toNat x3) []) 1 (.n 0))) y31.1 y31.2.1)
               (.br (!y33)
                (.leaf (.inr (.inl false)))
                (.br (bounds x3 x2)
                 (.br (Nat.ble ((Int.toNat x3) + 1) (List.length x17))
                  (let y34 := (impl_ValidState (Sc.nat (List.getD (List.getD x17 (Int.toNat x3) []) 0 (.n 0))) (Sc.int (List.getD (List.getD x17 (Int.toNat x3) []) 1 (.n 0))))
                   .br (!y34)
                   (.leaf (.inr (.inl false)))
                   (.br (bounds x3 x2)
                    (.br (Nat.ble ((Int.toNat x3) + 1) (List.length x17))
                     (.br (y30.1 != (IntKind.wrap .i64 (Sc.int (List.getD (List.getD x17 (Int.toNat x3) []) 1 (.n 0)))))
                      (.leaf (.inr (.inl false)))
                      (.br (decide (y30.1 < (IntKind.wrap .i64 ((IntKind.wrap .i64 x19) - (1 : Int)))))
                       (.leaf (.inr (.inl false)))
                       (.br (decide (y30.1 > (IntKind.wrap .i64 ((IntKind.wrap .i64 x19) + (1 : Int)))))
                        (.leaf (.inr (.inl false)))
                        (.join
                         (.br (fgt .f32 x18 x12)
                          (.br (decide (y30.1 > (IntKind.wrap .i64 x19)))
                           (.leaf (some (.inr (.inl false))))
                           (.br (flt .f32 x18 x11)
                            (.br (decide (y30.1 < (IntKind.wrap .i64 x19)))
                             (.leaf (some (.inr (.inl false))))
                             (.br (fge .f32 x18 x11)
                              (.br (fle .f32 x18 x12)
                               (.br (y30.1 != (IntKind.wrap .i64 x19))
                                (.leaf (some (.inr (.inl false))))
                                (.leaf none))
                               (.leaf none))
                              (.leaf none)))
                            (.br (fge .f32 x18 x11)
                             (.br (fle .f32 x18 x12)
                              (.br (y30.1 != (IntKind.wrap .i64 x19))
                               (.leaf (some (.inr (.inl false))))
                               (.leaf none))
                              (.leaf none))
                             (.leaf none))))
                          (.br (flt .f32 x18 x11)
                           (.br (decide (y30.1 < (IntKind.wrap .i64 x19)))
                            (.leaf (some (.inr (.inl false))))
                            (.br (fge .f32 x18 x11)
                             (.br (fle .f32 x18 x12)
                              (.br (y30.1 != (IntKind.wrap .i64 x19))
                               (.leaf (some (.inr (.inl false))))
                               (.leaf none))
                              (.leaf none))
                             (.leaf none)))
                           (.br (fge .f32 x18 x11)
                            (.br (fle .f32 x18 x12)
                             (.br (y30.1 != (IntKind.wrap .i64 x19))
                              (.leaf (some (.inr (.inl false))))
                              (.leaf none))
                             (.leaf none))
                            (.leaf none))))
                         (.br (bounds x3 x2)
                          (.br (Nat.ble ((Int.toNat x3) + 1) (List.length x17))
                           (.leaf (.inl ((IntKind.wrap .i64 (x3 + (1 : Int))), (Sc.nat (List.getD (List.getD x17 (Int.toNat x3) []) 0 (.n 0))), (Sc.int (List.getD (List.getD x17 (Int.toNat x3) []) 1 (.n 0))))))
                           .bad)
                          .bad)))))
                     .bad)
                    .bad))
                  .bad)
                 .bad))
               .bad)
              .bad)
             .bad))
           .bad)
          .bad)
         .bad)))
      .bad)
     .bad)
    .bad)
   .bad)
  (.leaf (.inr (.inr ())))
noncomputable def laws_FnGoverned.l12.st (p : Nat × Nat × Nat × List Int × List Int × Int × Nat × Nat × Nat × Nat × Nat × Nat × Nat × Nat × Int × List Nat × List (List Sc)) (x : Int × Nat × Int) : T ((Int × Nat × Int) ⊕ (Bool ⊕ Unit)) := laws_FnGoverned.l12.s p.1 p.2.1 p.2.2.1 x.1 p.2.2.2.1 p.2.2.2.2.1 p.2.2.2.2.2.1 p.2.2.2.2.2.2.1 p.2.2.2.2.2.2.2.1 p.2.2.2.2.2.2.2.2.1 p.2.2.2.2.2.2.2.2.2.1 p.2.2.2.2.2.2.2.2.2.2.1 p.2.2.2.2.2.2.2.2.2.2.2.1 p.2.2.2.2.2.2.2.2.2.2.2.2.1 p.2.2.2.2.2.2.2.2.2.2.2.2.2.1 p.2.2.2.2.2.2.2.2.2.2.2.2.2.2.1 p.2.2.2.2.2.2.2.2.2.2.2.2.2.2.2.1 p.2.2.2.2.2.2.2.2.2.2.2.2.2.2.2.2 x.2.1 x.2.2
noncomputable def laws_FnGoverned.l12.r (p : Nat × Nat × Nat × List Int × List Int × Int × Nat × Nat × Nat × Nat × Nat × Nat × Nat × Nat × Int × List Nat × List (List Sc)) (x : Int × Nat × Int) : Option (Bool ⊕ Unit) := iterT (laws_FnGoverned.l12.st p) manyRounds x
def laws_FnGoverned.l12.cd : Cd ((Nat × Nat × Nat × List Int × List Int × Int × Nat × Nat × Nat × Nat × Nat × Nat × Nat × Nat × Int × List Nat × List (List Sc)) × (Int × Nat × Int)) (List V × Hp) := Cd.iso (Cd.pair (Cd.cons (Cd.sl 0 (Cd.natc 0)) (Cd.cons (Cd.pt 2 (Cd.natc 0)) (Cd.cons (Cd.pt 3 (Cd.natc 0)) (Cd.cons (Cd.own 4) (Cd.cons (Cd.own 5) (Cd.cons (Cd.pt 6 (Cd.natc 0)) (Cd.cons (Cd.it .i64) Cd.nil))))))) (Cd.cons (Cd.ro 0 0 (Cd.is .u8)) (Cd.cons (Cd.ro 0 0 (Cd.is .u8)) (Cd.cons (Cd.rw 29 8 (Cd.vs (Cd.cons (Cd.it .i16) (Cd.cons (Cd.fl .f32) (Cd.cons (Cd.fl .f32) (Cd.cons (Cd.fl .f32) (Cd.cons (Cd.fl .f32) (Cd.cons (Cd.fl .f32) (Cd.cons (Cd.fl .f32) (Cd.cons (Cd.fl .f32) Cd.nil)))))))))) (Cd.cons (Cd.rw 33 2 (Cd.vs (Cd.cons (Cd.fl .f32) (Cd.cons (Cd.it .i8) Cd.nil)))) (Cd.cons (Cd.rw 25 1 (Cd.fs .f32)) (Cd.cons (Cd.rw 33 2 (Cd.mx [.fl .f32, .it .i8])) (Cd.cons (Cd.rw 33 2 (Cd.vs (Cd.cons (Cd.fl .f32) (Cd.cons (Cd.it .i8) Cd.nil)))) Cd.nil)))))))) (fun a => ((a.1.1.2, a.1.2.2.2.1, a.1.2.2.2.2.1, a.2.1, a.2.2.1, a.2.2.2.1.1, a.2.2.2.1.2.1, a.2.2.2.1.2.2.1, a.2.2.2.1.2.2.2.1, a.2.2.2.1.2.2.2.2.1, a.2.2.2.1.2.2.2.2.2.1, a.2.2.2.1.2.2.2.2.2.2.1, a.2.2.2.1.2.2.2.2.2.2.2.1, a.2.2.2.2.1.1, a.2.2.2.2.1.2.1, a.2.2.2.2.2.1, a.2.2.2.2.2.2.1), (a.1.2.2.2.2.2.2.1, a.2.2.2.2.2.2.2.1.1, a.2.2.2.2.2.2.2.1.2.1))) (fun a => ((((), a.1.1), ((), ((), (a.1.2.1, (a.1.2.2.1, ((), (a.2.1, ()))))))), (a.1.2.2.2.1, (a.1.2.2.2.2.1, ((a.1.2.2.2.2.2.1, (a.1.2.2.2.2.2.2.1, (a.1.2.2.2.2.2.2.2.1, (a.1.2.2.2.2.2.2.2.2.1, (a.1.2.2.2.2.2.2.2.2.2.1, (a.1.2.2.2.2.2.2.2.2.2.2.1, (a.1.2.2.2.2.2.2.2.2.2.2.2.1, (a.1.2.2.2.2.2.2.2.2.2.2.2.2.1, ())))))))), ((a.1.2.2.2.2.2.2.2.2.2.2.2.2.2.1, (a.1.2.2.2.2.2.2.2.2.2.2.2.2.2.2.1, ())), (a.1.2.2.2.2.2.2.2.2.2.2.2.2.2.2.2.1, (a.1.2.2.2.2.2.2.2.2.2.2.2.2.2.2.2.2, ((a.2.2.1, (a.2.2.2, ())), ()))))))))) (fun _ => rfl)
def laws_FnGoverned.l12.out (p : Nat × Nat × Nat × List Int × List Int × Int × Nat × Nat × Nat × Nat × Nat × Nat × Nat × Nat × Int × List Nat × List (List Sc)) : (Bool ⊕ Unit) → X × List V × Hp := sumO (fun r => (.ret, [.sl 0 0 p.1, .bo r, .pt 2 0, .pt 3 0, .own 4 p.2.1, .own 5 p.2.2.1], [some ⟨false, 0, 0, .is .u8 p.2.2.2.1⟩, some ⟨false, 0, 0, .is .u8 p.2.2.2.2.1⟩, some ⟨true, 29, 8, .vs [.it .i16 p.2.2.2.2.2.1, .fl .f32 p.2.2.2.2.2.2.1, .fl .f32 p.2.2.2.2.2.2.2.1, .fl .f32 p.2.2.2.2.2.2.2.2.1, .fl .f32 p.2.2.2.2.2.2.2.2.2.1, .fl .f32 p.2.2.2.2.2.2.2.2.2.2.1, .fl .f32 p.2.2.2.2.2.2.2.2.2.2.2.1, .fl .f32 p.2.2.2.2.2.2.2.2.2.2.2.2.1]⟩, some ⟨true, 33, 2, .vs [.fl .f32 p.2.2.2.2.2.2.2.2.2.2.2.2.2.1, .it .i8 p.2.2.2.2.2.2.2.2.2.2.2.2.2.2.1]⟩, some ⟨true, 25, 1, .fs .f32 p.2.2.2.2.2.2.2.2.2.2.2.2.2.2.2.1⟩, some ⟨true, 33, 2, .mx [.fl .f32, .it .i8] p.2.2.2.2.2.2.2.2.2.2.2.2.2.2.2.2⟩])) (fun r => (.ex 0, [.sl 0 0 p.1, .unk, .pt 2 0, .pt 3 0, .own 4 p.2.1, .own 5 p.2.2.1], [some ⟨false, 0, 0, .is .u8 p.2.2.2.1⟩, some ⟨false, 0, 0, .is .u8 p.2.2.2.2.1⟩, some ⟨true, 29, 8, .vs [.it .i16 p.2.2.2.2.2.1, .fl .f32 p.2.2.2.2.2.2.1, .fl .f32 p.2.2.2.2.2.2.2.1, .fl .f32 p.2.2.2.2.2.2.2.2.1, .fl .f32 p.2.2.2.2.2.2.2.2.2.1, .fl .f32 p.2.2.2.2.2.2.2.2.2.2.1, .fl .f32 p.2.2.2.2.2.2.2.2.2.2.2.1, .fl .f32 p.2.2.2.2.2.2.2.2.2.2.2.2.1]⟩, some ⟨true, 33, 2, .vs [.fl .f32 p.2.2.2.2.2.2.2.2.2.2.2.2.2.1, .it .i8 p.2.2.2.2.2.2.2.2.2.2.2.2.2.2.1]⟩, some ⟨true, 25, 1, .fs .f32 p.2.2.2.2.2.2.2.2.2.2.2.2.2.2.2.1⟩, some ⟨true, 33, 2, .mx [.fl .f32, .it .i8] p.2.2.2.2.2.2.2.2.2.2.2.2.2.2.2.2⟩]))
def laws_FnGoverned.l12.ex (p : Nat × Nat × Nat × List Int × List Int × Int × Nat × Nat × Nat × Nat × Nat × Nat × Nat × Nat × Int × List Nat × List (List Sc)) : (Bool ⊕ Unit) → T (X × List V × Hp) := sumT (leafT (fun r => (.ret, [.sl 0 0 p.1, .bo r, .pt 2 0, .pt 3 0, .own 4 p.2.1, .own 5 p.2.2.1], [some ⟨false, 0, 0, .is .u8 p.2.2.2.1⟩, some ⟨false, 0, 0, .is .u8 p.2.2.2.2.1⟩, some ⟨true, 29, 8, .vs [.it .i16 p.2.2.2.2.2.1, .fl .f32 p.2.2.2.2.2.2.1, .fl .f32 p.2.2.2.2.2.2.2.1, .fl .f32 p.2.2.2.2.2.2.2.2.1, .fl .f32 p.2.2.2.2.2.2.2.2.2.1, .fl .f32 p.2.2.2.2.2.2.2.2.2.2.1, .fl .f32 p.2.2.2.2.2.2.2.2.2.2.2.1, .fl .f32 p.2.2.2.2.2.2.2.2.2.2.2.2.1]⟩, some ⟨true, 33, 2, .vs [.fl .f32 p.2.2.2.2.2.2.2.2.2.2.2.2.2.1, .it .i8 p.2.2.2.2.2.2.2.2.2.2.2.2.2.2.1]⟩, some ⟨true, 25, 1, .fs .f32 p.2.2.2.2.2.2.2.2.2.2.2.2.2.2.2.1⟩, some ⟨true, 33, 2, .mx [.fl .f32, .it .i8] p.2.2.2.2.2.2.2.2.2.2.2.2.2.2.2.2⟩]))) (leafT (fun r => (.ex 0, [.sl 0 0 p.1, .unk, .pt 2 0, .pt 3 0, .own 4 p.2.1, .own 5 p.2.2.1], [some ⟨false, 0, 0, .is .u8 p.2.2.2.1⟩, some ⟨false, 0, 0, .is .u8 p.2.2.2.2.1⟩, some ⟨true, 29, 8, .vs [.it .i16 p.2.2.2.2.2.1, .fl .f32 p.2.2.2.2.2.2.1, .fl .f32 p.2.2.2.2.2.2.2.1, .fl .f32 p.2.2.2.2.2.2.2.2.1, .fl .f32 p.2.2.2.2.2.2.2.2.2.1, .fl .f32 p.2.2.2.2.2.2.2.2.2.2.1, .fl .f32 p.2.2.2.2.2.2.2.2.2.2.2.1, .fl .f32 p.2.2.2.2.2.2.2.2.2.2.2.2.1]⟩, some ⟨true, 33, 2, .vs [.fl .f32 p.2.2.2.2.2.2.2.2.2.2.2.2.2.1, .it .i8 p.2.2.2.2.2.2.2.2.2.2.2.2.2.2.1]⟩, some ⟨true, 25, 1, .fs .f32 p.2.2.2.2.2.2.2.2.2.2.2.2.2.2.2.1⟩, some ⟨true, 33, 2, .mx [.fl .f32, .it .i8] p.2.2.2.2.2.2.2.2.2.2.2.2.2.2.2.2⟩])))
noncomputable def laws_FnGoverned.l12.c : List V → Hp → T (X × List V × Hp) := cdL laws_FnGoverned.l12.cd fun x => optT (laws_FnGoverned.l12.r x.1 x.2) (laws_FnGoverned.l12.ex x.1)
noncomputable def laws_FnGoverned.l26.s (x0 : Nat) (x1 : Nat) (x2 : Int) (x3 : Int) (x4 : Int) (x5 : List Int) (x6 : List Int) (x7 : Int) (x8 : Nat) (x9 : Nat) (x10 : Nat) (x11 : Nat) (x12 : Nat) (x13 : Nat) (x14 : Nat) (x15 : Nat) (x16 : Int) (x17 : List (List Sc)) : T (Int ⊕ (Bool ⊕ Unit)) :=
  .br (decide (x4 < ((x1 : Nat) : Int)))
  (.br (bounds x4 x1)
   (.br (Nat.ble ((Int.toNat x4) + 1) (List.length x17))
    (.br (fge .f32 (Sc.nat (List.getD (List.getD x17 (Int.toNat x4) []) 0 (.n 0))) x12)
     (.br (bounds x4 x1)
      (.br (Nat.ble ((Int.toNat x4) + 1) (List.length x17))
       (.br (x2 == (0 : Int))
        (.br (decide (x4 ≥ x3))
         (.br (!(fle .f32 (Sc.nat (List.getD (List.getD x17 (Int.toNat x4) []) 0 (.n 0))) x13))
          (.leaf (.inr (.inl false)))
          (.br (x4 == (IntKind.wrap .i64 (((x1 : Nat) : Int) - (1 : Int))))
           (.br (!((fle .f32 (Sc.nat (List.getD (List.getD x17 (Int.toNat x4) []) 0 (.n 0))) x13) == (x2 == (0 : Int))))
            (.leaf (.inr (.inl false)))
            (.br (x2 == (0 : Int))
             (.br (x4 == (IntKind.wrap .i64 (x3 - (1 : Int))))
              (.br (fle .f32 (Sc.nat (List.getD (List.getD x17 (Int.toNat x4) []) 0 (.n 0))) x13)
               (.leaf (.inr (.inl false)))
               (.leaf (.inl (IntKind.wrap .i64 (x4 + (1 : Int))))))
              (.leaf (.inl (IntKind.wrap .i64 (x4 + (1 : Int))))))
             (.leaf (.inl (IntKind.wrap .i64 (x4 + (1 : Int)))))))
           (.br (x2 == (0 : Int))
            (.br (x4 == (IntKind.wrap .i64 (x3 - (1 : Int))))
             (.br (fle .f32 (Sc.nat (List.getD (List.getD x17 (Int.toNat x4) []) 0 (.n 0))) x13)
              (.leaf (.inr (.inl false)))
              (.leaf (.inl (IntKind.wrap .i64 (x4 + (1 : Int))))))
             (.leaf (.inl (IntKind.wrap .i64 (x4 + (1 : Int))))))
            (.leaf (.inl (IntKind.wrap .i64 (x4 + (1 : Int))))))))
         (.br (x4 == (IntKind.wrap .i64 (((x1 : Nat) : Int) - (1 : Int))))
          (.br (!((fle .f32 (Sc.nat (List.getD (List.getD x17 (Int.toNat x4) []) 0 (.n 0))) x13) == (x2 == (0 : Int))))
           (.leaf (.inr (.inl false)))
           (.br (x2 == (0 : Int))
            (.br (x4 == (IntKind.wrap .i64 (x3 - (1 : Int))))
             (.br (fle .f32 (Sc.nat (List.getD (List.getD x17 (Int.toNat x4) []) 0 (.n 0))) x13)
              (.leaf (.inr (.inl false)))
              (.leaf (.inl (IntKind.wrap .i64 (x4 + (1 : Int))))))
             (.leaf (.inl (IntKind.wrap .i64 (x4 + (1 : Int))))))
            (.leaf (.inl (IntKind.wrap .i64 (x4 + (1 : Int)))))))
          (.br (x2 == (0 : Int))
           (.br (x4 == (IntKind.wrap .i64 (x3 - (1 : Int))))
            (.br (fle .f32 (Sc.nat (List.getD (List.getD x17 (Int.toNat x4) []) 0 (.n 0))) x13)
             (.leaf (.inr (.inl false)))
             (.leaf (.inl (IntKind.wrap .i64 (x4 + (1 : Int))))))
            (.leaf (.inl (IntKind.wrap .i64 (x4 + (1 : Int))))))
           (.leaf (.inl (IntKind.wrap .i64 (x4 + (1 : Int))))))))
        (.br (x4 == (IntKind.wrap .i64 (((x1 : Nat) : Int) - (1 : Int))))
         (.br (!((fle .f32 (Sc.nat (List.getD (List.getD x17 (Int.toNat x4) []) 0 (.n 0))) x13) == (x2 == (0 : Int))))
          (.leaf (.inr (.inl false)))
          (.br (x2 == (0 : Int))
           (.br (x4 == (IntKind.wrap .i64 (x3 - (1 : Int))))
            (.br (fle .f32 (Sc.nat (List.getD (List.getD x17 (Int.toNat x4) []) 0 (.n 0))) x13)
             (.leaf (.inr (.inl false)))
             (.leaf (.inl (IntKind.wrap .i64 (x4 + (1 : Int))))))
            (.leaf (.inl (IntKind.wrap .i64 (x4 + (1 : Int))))))
           (.leaf (.inl (IntKind.wrap .i64 (x4 + (1 : Int)))))))
         (.br (x2 == (0 : Int))
          (.br (x4 == (IntKind.wrap .i64 (x3 - (1 : Int))))
           (.br (fle .f32 (Sc.nat (List.getD (List.getD x17 (Int.toNat x4) []) 0 (.n 0))) x13)
            (.leaf (.inr (.inl false)))
            (.leaf (.inl (IntKind.wrap .i64 (x4 + (1 : Int))))))
           (.leaf (.inl (IntKind.wrap .i64 (x4 + (1 : Int))))))
          (.leaf (.inl (IntKind.wrap .i64 (x4 + (1 : Int))))))))
       .bad)
      .bad)
     (.br (x2 == (0 : Int))
      (.br (decide (x4 ≥ x3))
       (.leaf (.inr (.inl false)))
       (.br (x4 == (IntKind.wrap .i64 (((x1 : Nat) : Int) - (1 : Int))))
        (.br (!(false == (x2 == (0 : Int))))
         (.leaf (.inr (.inl false)))
         (.br (x2 == (0 : Int))
          (.br (x4 == (IntKind.wrap .i64 (x3 - (1 : Int))))
           (.leaf (.inl (IntKind.wrap .i64 (x4 + (1 : Int)))))
           (.leaf (.inl (IntKind.wrap .i64 (x4 + (1 : Int))))))
          (.leaf (.inl (IntKind.wrap .i64 (x4 + (1 : Int)))))))
        (.br (x2 == (0 : Int))
         (.br (x4 == (IntKind.wrap .i64 (x3 - (1 : Int))))
          (.leaf (.inl (IntKind.wrap .i64 (x4 + (1 : Int)))))
          (.leaf (.inl (IntKind.wrap .i64 (x4 + (1 : Int))))))
         (.leaf (.inl (IntKind.wrap .i64 (x4 + (1 : Int))))))))
      (.br (x4 == (IntKind.wrap .i64 (((x1 : Nat) : Int) - (1 : Int))))
       (.br (!(false == (x2 == (0 : Int))))
        (.leaf (.inr (.inl false)))
        (.br (x2 == (0 : Int))
         (.br (x4 == (IntKind.wrap .i64 (x3 - (1 : Int))))
          (.leaf (.inl (IntKind.wrap .i64 (x4 + (1 : Int)))))
          (.leaf (.inl (IntKind.wrap .i64 (x4 + (1 : Int))))))
         (.leaf (.inl (IntKind.wrap .i64 (x4 + (1 : Int)))))))
       (.br (x2 == (0 : Int))
        (.br (x4 == (IntKind.wrap .i64 (x3 - (1 : Int))))
         (.leaf (.inl (IntKind.wrap .i64 (x4 + (1 : Int)))))
         (.leaf (.inl (IntKind.wrap .i64 (x4 + (1 : Int))))))
        (.leaf (.inl (IntKind.wrap .i64 (x4 + (1 : Int)))))))))
    .bad)
   .bad)
  (.leaf (.inr (.inr ())))
noncomputable def laws_FnGoverned.l26.st (p : Nat × Nat × Int × Int × List Int × List Int × Int × Nat × Nat × Nat × Nat × Nat × Nat × Nat × Nat × Int × List (List Sc)) (x : Int) : T (Int ⊕ (Bool ⊕ Unit)) := laws_FnGoverned.l26.s p.1 p.2.1 p.2.2.1 p.2.2.2.1 x p.2.2.2.2.1 p.2.2.2.2.2.1 p.2.2.2.2.2.2.1 p.2.2.2.2.2.2.2.1 p.2.2.2.2.2.2.2.2.1 p.2.2.2.2.2.2.2.2.2.1 p.2.2.2.2.2.2.2.2.2.2.1 p.2.2.2.2.2.2.2.2.2.2.2.1 p.2.2.2.2.2.2.2.2.2.2.2.2.1 p.2.2.2.2.2.2.2.2.2.2.2.2.2.1 p.2.2.2.2.2.2.2.2.2.2.2.2.2.2.1 p.2.2.2.2.2.2.2.2.2.2.2.2.2.2.2.1 p.2.2.2.2.2.2.2.2.2.2.2.2.2.2.2.2
noncomputable def laws_FnGoverned.l26.r (p : Nat × Nat × Int × Int × List Int × List Int × Int × Nat × Nat × Nat × Nat × Nat × Nat × Nat × Nat × Int × List (List Sc)) (x : Int) : Option (Bool ⊕ Unit) := iterT (laws_FnGoverned.l26.st p) manyRounds x
def laws_FnGoverned.l26.cd : Cd ((Nat × Nat × Int × Int × List Int × List Int × Int × Nat × Nat × Nat × Nat × Nat × Nat × Nat × Nat × Int × List (List Sc)) × Int) (List V × Hp) := Cd.iso (Cd.pair (Cd.cons (Cd.sl 0 (Cd.natc 0)) (Cd.cons (Cd.pt 2 (Cd.natc 0)) (Cd.cons (Cd.pt 3 (Cd.natc 0)) (Cd.cons (Cd.own 4) (Cd.cons (Cd.it .i64) (Cd.cons (Cd.it .i64) (Cd.cons (Cd.it .i64) Cd.nil))))))) (Cd.cons (Cd.ro 0 0 (Cd.is .u8)) (Cd.cons (Cd.ro 0 0 (Cd.is .u8)) (Cd.cons (Cd.rw 29 8 (Cd.vs (Cd.cons (Cd.it .i16) (Cd.cons (Cd.fl .f32) (Cd.cons (Cd.fl .f32) (Cd.cons (Cd.fl .f32) (Cd.cons (Cd.fl .f32) (Cd.cons (Cd.fl .f32) (Cd.cons (Cd.fl .f32) (Cd.cons (Cd.fl .f32) Cd.nil)))))))))) (Cd.cons (Cd.rw 33 2 (Cd.vs (Cd.cons (Cd.fl .f32) (Cd.cons (Cd.it .i8) Cd.nil)))) (Cd.cons (Cd.rw 33 2 (Cd.mx [.fl .f32, .it .i8])) Cd.nil)))))) (fun a => ((a.1.1.2, a.1.2.2.2.1, a.1.2.2.2.2.1, a.1.2.2.2.2.2.1, a.2.1, a.2.2.1, a.2.2.2.1.1, a.2.2.2.1.2.1, a.2.2.2.1.2.2.1, a.2.2.2.1.2.2.2.1, a.2.2.2.1.2.2.2.2.1, a.2.2.2.1.2.2.2.2.2.1, a.2.2.2.1.2.2.2.2.2.2.1, a.2.2.2.1.2.2.2.2.2.2.2.1, a.2.2.2.2.1.1, a.2.2.2.2.1.2.1, a.2.2.2.2.2.1), a.1.2.2.2.2.2.2.1)) (fun a => ((((), a.1.1), ((), ((), (a.1.2.1, (a.1.2.2.1, (a.1.2.2.2.1, (a.2, ()))))))), (a.1.2.2.2.2.1, (a.1.2.2.2.2.2.1, ((a.1.2.2.2.2.2.2.1, (a.1.2.2.2.2.2.2.2.1, (a.1.2.2.2.2.2.2.2.2.1, (a.1.2.2.2.2.2.2.2.2.2.1, (a.1.2.2.2.2.2.2.2.2.2.2.1, (a.1.2.2.2.2.2.2.2.2.2.2.2.1, (a.1.2.2.2.2.2.2.2.2.2.2.2.2.1, (a.1.2.2.2.2.2.2.2.2.2.2.2.2.2.1, ())))))))), ((a.1.2.2.2.2.2.2.2.2.2.2.2.2.2.2.1, (a.1.2.2.2.2.2.2.2.2.2.2.2.2.2.2.2.1, ())), (a.1.2.2.2.2.2.2.2.2.2.2.2.2.2.2.2.2, ()))))))) (fun _ => rfl)
def laws_FnGoverned.l26.out (p : Nat × Nat × Int × Int × List Int × List Int × Int × Nat × Nat × Nat × Nat × Nat × Nat × Nat × Nat × Int × List (List Sc)) : (Bool ⊕ Unit) → X × List V × Hp := sumO (fun r => (.ret, [.sl 0 0 p.1, .bo r, .pt 2 0, .pt 3 0], [some ⟨false, 0, 0, .is .u8 p.2.2.2.2.1⟩, some ⟨false, 0, 0, .is .u8 p.2.2.2.2.2.1⟩, some ⟨true, 29, 8, .vs [.it .i16 p.2.2.2.2.2.2.1, .fl .f32 p.2.2.2.2.2.2.2.1, .fl .f32 p.2.2.2.2.2.2.2.2.1, .fl .f32 p.2.2.2.2.2.2.2.2.2.1, .fl .f32 p.2.2.2.2.2.2.2.2.2.2.1, .fl .f32 p.2.2.2.2.2.2.2.2.2.2.2.1, .fl .f32 p.2.2.2.2.2.2.2.2.2.2.2.2.1, .fl .f32 p.2.2.2.2.2.2.2.2.2.2.2.2.2.1]⟩, some ⟨true, 33, 2, .vs [.fl .f32 p.2.2.2.2.2.2.2.2.2.2.2.2.2.2.1, .it .i8 p.2.2.2.2.2.2.2.2.2.2.2.2.2.2.2.1]⟩])) (fun r => (.ex 2, [.sl 0 0 p.1, .unk, .pt 2 0, .pt 3 0], [some ⟨false, 0, 0, .is .u8 p.2.2.2.2.1⟩, some ⟨false, 0, 0, .is .u8 p.2.2.2.2.2.1⟩, some ⟨true, 29, 8, .vs [.it .i16 p.2.2.2.2.2.2.1, .fl .f32 p.2.2.2.2.2.2.2.1, .fl .f32 p.2.2.2.2.2.2.2.2.1, .fl .f32 p.2.2.2.2.2.2.2.2.2.1, .fl .f32 p.2.2.2.2.2.2.2.2.2.2.1, .fl .f32 p.2.2.2.2.2.2.2.2.2.2.2.1, .fl .f32 p.2.2.2.2.2.2.2.2.2.2.2.2.1, .fl .f32 p.2.2.2.2.2.2.2.2.2.2.2.2.2.1]⟩, some ⟨true, 33, 2, .vs [.fl .f32 p.2.2.2.2.2.2.2.2.2.2.2.2.2.2.1, .it .i8 p.2.2.2.2.2.2.2.2.2.2.2.2.2.2.2.1]⟩]))
def laws_FnGoverned.l26.ex (p : Nat × Nat × Int × Int × List Int × List Int × Int × Nat × Nat × Nat × Nat × Nat × Nat × Nat × Nat × Int × List (List Sc)) : (Bool ⊕ Unit) → T (X × List V × Hp) := sumT (leafT (fun r => (.ret, [.sl 0 0 p.1, .bo r, .pt 2 0, .pt 3 0], [some ⟨false, 0, 0, .is .u8 p.2.2.2.2.1⟩, some ⟨false, 0, 0, .is .u8 p.2.2.2.2.2.1⟩, some ⟨true, 29, 8, .vs [.it .i16 p.2.2.2.2.2.2.1, .fl .f32 p.2.2.2.2.2.2.2.1, .fl .f32 p.2.2.2.2.2.2.2.2.1, .fl .f32 p.2.2.2.2.2.2.2.2.2.1, .fl .f32 p.2.2.2.2.2.2.2.2.2.2.1, .fl .f32 p.2.2.2.2.2.2.2.2.2.2.2.1, .fl .f32 p.2.2.2.2.2.2.2.2.2.2.2.2.1, .fl .f32 p.2.2.2.2.2.2.2.2.2.2.2.2.2.1]⟩, some ⟨true, 33, 2, .vs [.fl .f32 p.2.2.2.2.2.2.2.2.2.2.2.2.2.2.1, .it .i8 p.2.2.2.2.2.2.2.2.2.2.2.2.2.2.2.1]⟩]))) (leafT (fun r => (.ex 2, [.sl 0 0 p.1, .unk, .pt 2 0, .pt 3 0], [some ⟨false, 0, 0, .is .u8 p.2.2.2.2.1⟩, some ⟨false, 0, 0, .is .u8 p.2.2.2.2.2.1⟩, some ⟨true, 29, 8, .vs [.it .i16 p.2.2.2.2.2.2.1, .fl .f32 p.2.2.2.2.2.2.2.1, .fl .f32 p.2.2.2.2.2.2.2.2.1, .fl .f32 p.2.2.2.2.2.2.2.2.2.1, .fl .f32 p.2.2.2.2.2.2.2.2.2.2.1, .fl .f32 p.2.2.2.2.2.2.2.2.2.2.2.1, .fl .f32 p.2.2.2.2.2.2.2.2.2.2.2.2.1, .fl .f32 p.2.2.2.2.2.2.2.2.2.2.2.2.2.1]⟩, some ⟨true, 33, 2, .vs [.fl .f32 p.2.2.2.2.2.2.2.2.2.2.2.2.2.2.1, .it .i8 p.2.2.2.2.2.2.2.2.2.2.2.2.2.2.2.1]⟩])))
noncomputable def laws_FnGoverned.l26.c : List V → Hp → T (X × List V × Hp) := cdL laws_FnGoverned.l26.cd fun x => optT (laws_FnGoverned.l26.r x.1 x.2) (laws_FnGoverned.l26.ex x.1)
noncomputable def laws_FnGoverned.l53.s (x0 : Nat) (x1 : Int) (x2 : Int) (x3 : Nat) (x4 : Int) (x5 : List Int) (x6 : List Int) (x7 : Int) (x8 : Nat) (x9 : Nat) (x10 : Nat) (x11 : Nat) (x12 : Nat) (x13 : Nat) (x14 : Nat) (x15 : Nat) (x16 : Int) : T (Int ⊕ (Bool ⊕ Unit)) :=
  .br (decide (x4 ≤ (16 : Int)))
  (let y53 := (impl_TorqueAt x7 x8 x9 x10 x11 x12 x13 x14 x15 (IntKind.wrap .i8 x4))
   .br (impl_TorqueAt.ok x7 x8 x9 x10 x11 x12 x13 x14 x15 (IntKind.wrap .i8 x4))
   (let y54 := (spec_TorqueAt x7 x8 x9 x10 x11 x12 x13 x14 x15 (IntKind.wrap .i8 x4))
    .br (spec_TorqueAt.ok x7 x8 x9 x10 x11 x12 x13 x14 x15 (IntKind.wrap .i8 x4))
    (.br (y53.2 != y54.2)
     (.leaf (.inr (.inl false)))
     (.br (y53.2 != (0 : Int))
      (.leaf (.inr (.inl false)))
      (let y55 := (spec_SameNumber y53.1 y54.1)
       .br (spec_SameNumber.ok y53.1 y54.1)
       (.br (!y55)
        (.leaf (.inr (.inl false)))
        (.br (flt .f32 (fmax .f32 (fsub .f32 y54.1 x0) (fsub .f32 x0 y54.1)) x3)
         (.leaf (.inr (.inl false)))
         (.br (x1 == (0 : Int))
          (.br (fge .f32 y54.1 x0)
           (.br (decide (x4 < x2))
            (.leaf (.inr (.inl false)))
            (.br (x1 != (0 : Int))
             (.br (fge .f32 y54.1 x0)
              (.leaf (.inr (.inl false)))
              (.leaf (.inl (IntKind.wrap .i64 (x4 + (1 : Int))))))
             (.leaf (.inl (IntKind.wrap .i64 (x4 + (1 : Int)))))))
           (.br (x1 != (0 : Int))
            (.br (fge .f32 y54.1 x0)
             (.leaf (.inr (.inl false)))
             (.leaf (.inl (IntKind.wrap .i64 (x4 + (1 : Int))))))
            (.leaf (.inl (IntKind.wrap .i64 (x4 + (1 : Int)))))))
          (.br (x1 != (0 : Int))
           (.br (fge .f32 y54.1 x0)
            (.leaf (.inr (.inl false)))
            (.leaf (.inl (IntKind.wrap .i64 (x4 + (1 : Int))))))
           (.leaf (.inl (IntKind.wrap .i64 (x4 + (1 : Int)))))))))
       .bad)))
    .bad)
   .bad)
  (.leaf (.inr (.inr ())))
noncomputable def laws_FnGoverned.l53.st (p : Nat × Int × Int × Nat × List Int × List Int × Int × Nat × Nat × Nat × Nat × Nat × Nat × Nat × Nat × Int) (x : Int) : T (Int ⊕ (Bool ⊕ Unit)) := laws_FnGoverned.l53.s p.1 p.2.1 p.2.2.1 p.2.2.2.1 x p.2.2.2.2.1 p.2.2.2.2.2.1 p.2.2.2.2.2.2.1 p.2.2.2.2.2.2.2.1 p.2.2.2.2.2.2.2.2.1 p.2.2.2.2.2.2.2.2.2.1 p.2.2.2.2.2.2.2.2.2.2.1 p.2.2.2.2.2.2.2.2.2.2.2.1 p.2.2.2.2.2.2.2.2.2.2.2.2.1 p.2.2.2.2.2.2.2.2.2.2.2.2.2.1 p.2.2.2.2.2.2.2.2.2.2.2.2.2.2.1 p.2.2.2.2.2.2.2.2.2.2.2.2.2.2.2
noncomputable def laws_FnGoverned.l53.r (p : Nat × Int × Int × Nat × List Int × List Int × Int × Nat × Nat × Nat × Nat × Nat × Nat × Nat × Nat × Int) (x : Int) : Option (Bool ⊕ Unit) := iterT (laws_FnGoverned.l53.st p) manyRounds x
def laws_FnGoverned.l53.cd : Cd ((Nat × Int × Int × Nat × List Int × List Int × Int × Nat × Nat × Nat × Nat × Nat × Nat × Nat × Nat × Int) × Int) (List V × Hp) := Cd.iso (Cd.pair (Cd.cons (Cd.pt 2 (Cd.natc 0)) (Cd.cons (Cd.pt 3 (Cd.natc 0)) (Cd.cons (Cd.fl .f32) (Cd.cons (Cd.it .i64) (Cd.cons (Cd.it .i64) (Cd.cons (Cd.fl .f32) (Cd.cons (Cd.it .i64) Cd.nil))))))) (Cd.cons (Cd.ro 0 0 (Cd.is .u8)) (Cd.cons (Cd.ro 0 0 (Cd.is .u8)) (Cd.cons (Cd.rw 29 8 (Cd.vs (Cd.cons (Cd.it .i16) (Cd.cons (Cd.fl .f32) (Cd.cons (Cd.fl .f32) (Cd.cons (Cd.fl .f32) (Cd.cons (Cd.fl .f32) (Cd.cons (Cd.fl .f32) (Cd.cons (Cd.fl .f32) (Cd.cons (Cd.fl .f32) Cd.nil)))))))))) (Cd.cons (Cd.rw 33 2 (Cd.vs (Cd.cons (Cd.fl .f32) (Cd.cons (Cd.it .i8) Cd.nil)))) Cd.nil))))) (fun a => ((a.1.2.2.1, a.1.2.2.2.1, a.1.2.2.2.2.1, a.1.2.2.2.2.2.1, a.2.1, a.2.2.1, a.2.2.2.1.1, a.2.2.2.1.2.1, a.2.2.2.1.2.2.1, a.2.2.2.1.2.2.2.1, a.2.2.2.1.2.2.2.2.1, a.2.2.2.1.2.2.2.2.2.1, a.2.2.2.1.2.2.2.2.2.2.1, a.2.2.2.1.2.2.2.2.2.2.2.1, a.2.2.2.2.1.1, a.2.2.2.2.1.2.1), a.1.2.2.2.2.2.2.1)) (fun a => (((), ((), (a.1.1, (a.1.2.1, (a.1.2.2.1, (a.1.2.2.2.1, (a.2, ()))))))), (a.1.2.2.2.2.1, (a.1.2.2.2.2.2.1, ((a.1.2.2.2.2.2.2.1, (a.1.2.2.2.2.2.2.2.1, (a.1.2.2.2.2.2.2.2.2.1, (a.1.2.2.2.2.2.2.2.2.2.1, (a.1.2.2.2.2.2.2.2.2.2.2.1, (a.1.2.2.2.2.2.2.2.2.2.2.2.1, (a.1.2.2.2.2.2.2.2.2.2.2.2.2.1, (a.1.2.2.2.2.2.2.2.2.2.2.2.2.2.1, ())))))))), ((a.1.2.2.2.2.2.2.2.2.2.2.2.2.2.2.1, (a.1.2.2.2.2.2.2.2.2.2.2.2.2.2.2.2, ())), ())))))) (fun _ => rfl)
def laws_FnGoverned.l53.out (p : Nat × Int × Int × Nat × List Int × List Int × Int × Nat × Nat × Nat × Nat × Nat × Nat × Nat × Nat × Int) : (Bool ⊕ Unit) → X × List V × Hp := sumO (fun r => (.ret, [.bo r], [some ⟨false, 0, 0, .is .u8 p.2.2.2.2.1⟩, some ⟨false, 0, 0, .is .u8 p.2.2.2.2.2.1⟩])) (fun r => (.ex 4, [.unk], [some ⟨false, 0, 0, .is .u8 p.2.2.2.2.1⟩, some ⟨false, 0, 0, .is .u8 p.2.2.2.2.2.1⟩]))
def laws_FnGoverned.l53.ex (p : Nat × Int × Int × Nat × List Int × List Int × Int × Nat × Nat × Nat × Nat × Nat × Nat × Nat × Nat × Int) : (Bool ⊕ Unit) → T (X × List V × Hp) := sumT (leafT (fun r => (.ret, [.bo r], [some ⟨false, 0, 0, .is .u8 p.2.2.2.2.1⟩, some ⟨false, 0, 0, .is .u8 p.2.2.2.2.2.1⟩]))) (leafT (fun r => (.ex 4, [.unk], [some ⟨false, 0, 0, .is .u8 p.2.2.2.2.1⟩, some ⟨false, 0, 0, .is .u8 p.2.2.2.2.2.1⟩])))
noncomputable def laws_FnGoverned.l53.c : List V → Hp → T (X × List V × Hp) := cdL laws_FnGoverned.l53.cd fun x => optT (laws_FnGoverned.l53.r x.1 x.2) (laws_FnGoverned.l53.ex x.1)
noncomputable def laws_FnGoverned.C : Ctx := { ty := tys, fn := [(4, .q laws_f6big.c), (5, .q spec_P6Governor.c), (6, .q spec_P6State.c), (7, .e spec_P6Torques.c), (8, .e impl_TickAll.c), (9, .e spec_TickAll.c), (10, .q (altQ spec_SameStates.c spec_SameStates_w1.c)), (11, .q impl_ValidGovernor.c), (12, .q impl_ValidState.c), (13, .q impl_GateBehind.c), (14, .q impl_TickOnce.c), (15, .q spec_SameState.c), (16, .q impl_SameState.c), (17, .q impl_WithinFrom.c), (18, .q spec_WithinFrom.c), (19, .q spec_P6Pick.c), (20, .q impl_SteadyFrom.c), (21, .q spec_SteadyFrom.c), (22, .q impl_BestGate.c), (23, .q spec_BestGate.c), (24, .q impl_LeastGate.c), (25, .q spec_LeastGate.c), (26, .q impl_TorqueAt.c), (27, .q spec_TorqueAt.c), (28, .q spec_SameNumber.c)], lp := [(12, ⟨[0, 5, 6, 7, 10, 12, 13], [0, 4, 5, 6, 7, 10], laws_FnGoverned.l12.c⟩), (26, ⟨[0, 5, 6, 10, 19, 20, 22], [0, 4, 5, 6], laws_FnGoverned.l26.c⟩), (53, ⟨[5, 6, 24, 38, 39, 43, 44], [4], laws_FnGoverned.l53.c⟩)], n := 541, k := 2 }
theorem laws_FnGoverned.hC : CtxOK Try.prog laws_FnGoverned.C := CtxOK.of mo tys_ok (FnsOK.cons laws_f6big.cok (FnsOK.cons spec_P6Governor.cok (FnsOK.cons spec_P6State.cok (FnsOK.cons spec_P6Torques.cok (FnsOK.cons impl_TickAll.cok (FnsOK.cons spec_TickAll.cok (FnsOK.cons (OKq.alt spec_SameStates.cok spec_SameStates_w1.cok) (FnsOK.cons impl_ValidGovernor.cok (FnsOK.cons impl_ValidState.cok (FnsOK.cons impl_GateBehind.cok (FnsOK.cons impl_TickOnce.cok (FnsOK.cons spec_SameState.cok (FnsOK.cons impl_SameState.cok (FnsOK.cons impl_WithinFrom.cok (FnsOK.cons spec_WithinFrom.cok (FnsOK.cons spec_P6Pick.cok (FnsOK.cons impl_SteadyFrom.cok (FnsOK.cons spec_SteadyFrom.cok (FnsOK.cons impl_BestGate.cok (FnsOK.cons spec_BestGate.cok (FnsOK.cons impl_LeastGate.cok (FnsOK.cons spec_LeastGate.cok (FnsOK.cons impl_TorqueAt.cok (FnsOK.cons spec_TorqueAt.cok (FnsOK.cons spec_SameNumber.cok FnsOK.nil)))))))))))))))))))))))))
noncomputable def laws_FnGoverned.b12 : Code := (nthC (loopsOf laws_FnGoverned.b) 0)
theorem laws_FnGoverned.lp12 : LpOK Try.prog laws_FnGoverned.C laws_FnGoverned.b12 := (LpOK.nil (by kernel_rfl))
theorem laws_FnGoverned.l12.round (p : Nat × Nat × Nat × List Int × List Int × Int × Nat × Nat × Nat × Nat × Nat × Nat × Nat × Nat × Int × List Nat × List (List Sc)) (s : Int × Nat × Int) : roundL laws_FnGoverned.C [0, 5, 6, 7, 10, 12, 13] [0, 4, 5, 6, 7, 10] laws_FnGoverned.b12 (laws_FnGoverned.l12.cd.enc (p, s)).1 (laws_FnGoverned.l12.cd.enc (p, s)).2 = (laws_FnGoverned.l12.st p s).map (encSum (fun s => laws_FnGoverned.l12.cd.enc (p, s)) (laws_FnGoverned.l12.out p)) := by kernel_rfl
theorem laws_FnGoverned.l12.lok : LoopOK Try.prog laws_FnGoverned.C ⟨[0, 5, 6, 7, 10, 12, 13], [0, 4, 5, 6, 7, 10], laws_FnGoverned.l12.c⟩ laws_FnGoverned.b12 := loop_cd laws_FnGoverned.l12.cd laws_FnGoverned.hC laws_FnGoverned.lp12 laws_FnGoverned.l12.round fun p => (Gets.sum Gets.leaf Gets.leaf)
noncomputable def laws_FnGoverned.b26 : Code := (nthC (loopsOf laws_FnGoverned.b) 1)
theorem laws_FnGoverned.lp26 : LpOK Try.prog laws_FnGoverned.C laws_FnGoverned.b26 := (LpOK.nil (by kernel_rfl))
theorem laws_FnGoverned.l26.round (p : Nat × Nat × Int × Int × List Int × List Int × Int × Nat × Nat × Nat × Nat × Nat × Nat × Nat × Nat × Int × List (List Sc)) (s : Int) : roundL laws_FnGoverned.C [0, 5, 6, 10, 19, 20, 22] [0, 4, 5, 6] laws_FnGoverned.b26 (laws_FnGoverned.l26.cd.enc (p, s)).1 (laws_FnGoverned.l26.cd.enc (p, s)).2 = (laws_FnGoverned.l26.st p s).map (encSum (fun s => laws_FnGoverned.l26.cd.enc (p, s)) (laws_FnGoverned.l26.out p)) := by kernel_rfl
theorem laws_FnGoverned.l26.lok : LoopOK Try.prog laws_FnGoverned.C ⟨[0, 5, 6, 10, 19, 20, 22], [0, 4, 5, 6], laws_FnGoverned.l26.c⟩ laws_FnGoverned.b26 := loop_cd laws_FnGoverned.l26.cd laws_FnGoverned.hC laws_FnGoverned.lp26 laws_FnGoverned.l26.round fun p => (Gets.sum Gets.leaf Gets.leaf)
noncomputable def laws_FnGoverned.b53 : Code := (nthC (loopsOf laws_FnGoverned.b) 2)
theorem laws_FnGoverned.lp53 : LpOK Try.prog laws_FnGoverned.C laws_FnGoverned.b53 := (LpOK.nil (by kernel_rfl))
theorem laws_FnGoverned.l53.round (p : Nat × Int × Int × Nat × List Int × List Int × Int × Nat × Nat × Nat × Nat × Nat × Nat × Nat × Nat × Int) (s : Int) : roundL laws_FnGoverned.C [5, 6, 24, 38, 39, 43, 44] [4] laws_FnGoverned.b53 (laws_FnGoverned.l53.cd.enc (p, s)).1 (laws_FnGoverned.l53.cd.enc (p, s)).2 = (laws_FnGoverned.l53.st p s).map (encSum (fun s => laws_FnGoverned.l53.cd.enc (p, s)) (laws_FnGoverned.l53.out p)) := by kernel_rfl
theorem laws_FnGoverned.l53.lok : LoopOK Try.prog laws_FnGoverned.C ⟨[5, 6, 24, 38, 39, 43, 44], [4], laws_FnGoverned.l53.c⟩ laws_FnGoverned.b53 := loop_cd laws_FnGoverned.l53.cd laws_FnGoverned.hC laws_FnGoverned.lp53 laws_FnGoverned.l53.round fun p => (Gets.sum Gets.leaf Gets.leaf)
theorem laws_FnGoverned.lp : LpOK Try.prog laws_FnGoverned.C laws_FnGoverned.b := lp_of (by kernel_rfl) (LpsOK.cons (k := 12) (by kernel_rfl) (by kernel_rfl) laws_FnGoverned.l12.lok (LpsOK.cons (k := 26) (by kernel_rfl) (by kernel_rfl) laws_FnGoverned.l26.lok (LpsOK.cons (k := 53) (by kernel_rfl) (by kernel_rfl) laws_FnGoverned.l53.lok LpsOK.nil)))
noncomputable def laws_FnGoverned.t (x0 : Nat) (x1 : Nat) (x2 : List Int) (x3 : List Int) : T Bool :=
  let y1 := (laws_f6big x0 x2)
  .br y1
  (.leaf true)
  (let y2 := (laws_f6big x1 x3)
   .br y2
   (.leaf true)
   (let y14 := (spec_P6Governor x0 x2)
    .br (spec_P6Governor.ok x0 x2)
    (let y19 := (spec_P6State x1 x3)
     .br (spec_P6State.ok x1 x3)
     (let y24 := (spec_P6Torques x1 x3)
      .br (spec_P6Torques.ok x1 x3)
      (let y25 := (impl_TickAll y14.1 y14.2.1 y14.2.2.1 y14.2.2.2.1 y14.2.2.2.2.1 y14.2.2.2.2.2.1 y14.2.2.2.2.2.2.1 y14.2.2.2.2.2.2.2 y19.1 y19.2 y24.1 y24.2)
       .br (impl_TickAll.ok y14.1 y14.2.1 y14.2.2.1 y14.2.2.2.1 y14.2.2.2.2.1 y14.2.2.2.2.2.1 y14.2.2.2.2.2.2.1 y14.2.2.2.2.2.2.2 y19.1 y19.2 y24.1 y24.2)
       (.br (Sum.isLeft y25)
        (let y26 := (spec_TickAll y14.1 y14.2.1 y14.2.2.1 y14.2.2.2.1 y14.2.2.2.2.1 y14.2.2.2.2.2.1 y14.2.2.2.2.2.2.1 y14.2.2.2.2.2.2.2 y19.1 y19.2 y24.1 y24.2)
         .br (spec_TickAll.ok y14.1 y14.2.1 y14.2.2.1 y14.2.2.2.1 y14.2.2.2.2.1 y14.2.2.2.2.2.1 y14.2.2.2.2.2.2.1 y14.2.2.2.2.2.2.2 y19.1 y19.2 y24.1 y24.2)
         (.br ((getLeftD y25) != y26.2.1)
          (.leaf false)
          (.br ((getLeftD y25) != (0 : Int))
           (.leaf false)
           (let y27 := (spec_SameStates y26.1 y26.2.2)
            .br (spec_SameStates.ok y26.1 y26.2.2)
            (.br (!y27)
             (.leaf false)
             (.br (((y26.1 : Nat) : Int) != ((y24.1 : Nat) : Int))
              (.leaf false)
              (let y28 := (impl_ValidGovernor y14.1 y14.2.1 y14.2.2.1 y14.2.2.2.1 y14.2.2.2.2.1 y14.2.2.2.2.2.1 y14.2.2.2.2.2.2.1 y14.2.2.2.2.2.2.2)
               .br (!y28)
               (.leaf false)
               (let y29 := (impl_ValidState y19.1 y19.2)
                .br (!y29)
                (.leaf false)
                (let y36 := (laws_FnGoverned.l12.r (x0, y24.1, y26.1, x2, x3, y14.1, y14.2.1, y14.2.2.1, y14.2.2.2.1, y14.2.2.2.2.1, y14.2.2.2.2.2.1, y14.2.2.2.2.2.2.1, y14.2.2.2.2.2.2.2, y19.1, y19.2, y24.2, y26.2.2) ((0 : Int), y19.1, y19.2))
                 .br (Option.isSome y36)
                 (.br (Sum.isLeft (Option.getD y36 default))
                  (.leaf (getLeftD (Option.getD y36 default)))
                  (let y37 := (impl_WithinFrom y14.1 y14.2.1 y14.2.2.1 y14.2.2.2.1 y14.2.2.2.2.1 y14.2.2.2.2.2.1 y14.2.2.2.2.2.2.1 y14.2.2.2.2.2.2.2 y19.1 y19.2 y24.1 y24.2)
                   .br (impl_WithinFrom.ok y14.1 y14.2.1 y14.2.2.1 y14.2.2.2.1 y14.2.2.2.2.1 y14.2.2.2.2.2.1 y14.2.2.2.2.2.2.1 y14.2.2.2.2.2.2.2 y19.1 y19.2 y24.1 y24.2)
                   (let y38 := (spec_WithinFrom y14.1 y14.2.1 y14.2.2.1 y14.2.2.2.1 y14.2.2.2.2.1 y14.2.2.2.2.2.1 y14.2.2.2.2.2.2.1 y14.2.2.2.2.2.2.2 y19.1 y19.2 y24.1 y24.2)
                    .br (spec_WithinFrom.ok y14.1 y14.2.1 y14.2.2.1 y14.2.2.2.1 y14.2.2.2.2.1 y14.2.2.2.2.2.1 y14.2.2.2.2.2.2.1 y14.2.2.2.2.2.2.2 y19.1 y19.2 y24.1 y24.2)
                    (.join
                     (.br (y37.2 != y38.2)
                      (.leaf (some false))
                      (.br (y37.1 != y38.1)
                       (.leaf (some false))
                       (.br (y37.2 != (0 : Int))
                        (.br (y37.2 != (6 : Int))
                         (.leaf (some false))
                         (.leaf none))
                        (.leaf none))))
                     (let y39 := (laws_FnGoverned.l26.r (x0, y26.1, y37.2, y38.1, x2, x3, y14.1, y14.2.1, y14.2.2.1, y14.2.2.2.1, y14.2.2.2.2.1, y14.2.2.2.2.2.1, y14.2.2.2.2.2.2.1, y14.2.2.2.2.2.2.2, y19.1, y19.2, y26.2.2) (0 : Int))
                      .br (Option.isSome y39)
                      (.br (Sum.isLeft (Option.getD y39 default))
                       (.leaf (getLeftD (Option.getD y39 default)))
                       (let y42 := (spec_P6Pick x0 (100 : Int) x2)
                        .br (spec_P6Pick.ok x0 (100 : Int) x2)
                        (let y43 := (impl_SteadyFrom y14.1 y14.2.1 y14.2.2.1 y14.2.2.2.1 y14.2.2.2.2.1 y14.2.2.2.2.2.1 y14.2.2.2.2.2.2.1 y14.2.2.2.2.2.2.2 y19.1 y19.2 (fdiv .f32 (fofint .f32 y42) 1082130432))
                         .br (impl_SteadyFrom.ok y14.1 y14.2.1 y14.2.2.1 y14.2.2.2.1 y14.2.2.2.2.1 y14.2.2.2.2.2.1 y14.2.2.2.2.2.2.1 y14.2.2.2.2.2.2.2 y19.1 y19.2 (fdiv .f32 (fofint .f32 y42) 1082130432))
                         (let y44 := (spec_SteadyFrom y14.1 y14.2.1 y14.2.2.1 y14.2.2.2.1 y14.2.2.2.2.1 y14.2.2.2.2.2.1 y14.2.2.2.2.2.2.1 y14.2.2.2.2.2.2.2 y19.1 y19.2 (fdiv .f32 (fofint .f32 y42) 1082130432))
                          .br (spec_SteadyFrom.ok y14.1 y14.2.1 y14.2.2.1 y14.2.2.2.1 y14.2.2.2.2.1 y14.2.2.2.2.2.1 y14.2.2.2.2.2.2.1 y14.2.2.2.2.2.2.2 y19.1 y19.2 (fdiv .f32 (fofint .f32 y42) 1082130432))
                          (.br (y43.2.2.2 != y44.2.2.2)
                           (.leaf false)
                           (let y45 := (spec_SameState y43.1 y43.2.1 y44.1 y44.2.1)
                            .br (spec_SameState.ok y43.1 y43.2.1 y44.1 y44.2.1)
                            (.br (!y45)
                             (.leaf false)
                             (.br (y43.2.2.1 != y44.2.2.1)
                              (.leaf false)
                              (let y46 := (impl_TickOnce y14.1 y14.2.1 y14.2.2.1 y14.2.2.2.1 y14.2.2.2.2.1 y14.2.2.2.2.2.1 y14.2.2.2.2.2.2.1 y14.2.2.2.2.2.2.2 y44.1 y44.2.1 (fdiv .f32 (fofint .f32 y42) 1082130432))
                               let y47 := (spec_SameState y46.1 y46.2.1 y44.1 y44.2.1)
                               .join
                               (.br (y43.2.2.2 == (0 : Int))
                                (.br (impl_TickOnce.ok y14.1 y14.2.1 y14.2.2.1 y14.2.2.2.1 y14.2.2.2.2.1 y14.2.2.2.2.2.1 y14.2.2.2.2.2.2.1 y14.2.2.2.2.2.2.2 y44.1 y44.2.1 (fdiv .f32 (fofint .f32 y42) 1082130432))
                                 (.br (y46.2.2 != (0 : Int))
                                  (.leaf (some false))
                                  (.br (spec_SameState.ok y46.1 y46.2.1 y44.1 y44.2.1)
                                   (.br (!y47)
                                    (.leaf (some false))
                                    (.br (decide (y44.2.2.1 < (0 : Int)))
                                     (.leaf (some false))
                                     (.br (decide (y44.2.2.1 ≥ (100 : Int)))
                                      (.leaf (some false))
                                      (.leaf none))))
                                   .bad))
                                 .bad)
                                (.br (y43.2.2.2 != (6 : Int))
                                 (.leaf (some false))
                                 (.leaf none)))
                               (let y48 := (impl_BestGate y14.1 y14.2.1 y14.2.2.1 y14.2.2.2.1 y14.2.2.2.2.1 y14.2.2.2.2.2.1 y14.2.2.2.2.2.2.1 y14.2.2.2.2.2.2.2 y19.1 (fdiv .f32 (fofint .f32 y42) 1082130432))
                                .br (impl_BestGate.ok y14.1 y14.2.1 y14.2.2.1 y14.2.2.2.1 y14.2.2.2.2.1 y14.2.2.2.2.2.1 y14.2.2.2.2.2.2.1 y14.2.2.2.2.2.2.2 y19.1 (fdiv .f32 (fofint .f32 y42) 1082130432))
                                (let y49 := (spec_BestGate y14.1 y14.2.1 y14.2.2.1 y14.2.2.2.1 y14.2.2.2.2.1 y14.2.2.2.2.2.1 y14.2.2.2.2.2.2.1 y14.2.2.2.2.2.2.2 y19.1 (fdiv .f32 (fofint .f32 y42) 1082130432))
                                 .br (spec_BestGate.ok y14.1 y14.2.1 y14.2.2.1 y14.2.2.2.1 y14.2.2.2.2.1 y14.2.2.2.2.2.1 y14.2.2.2.2.2.2.1 y14.2.2.2.2.2.2.2 y19.1 (fdiv .f32 (fofint .f32 y42) 1082130432))
                                 (let y50 := (impl_LeastGate y14.1 y14.2.1 y14.2.2.1 y14.2.2.2.1 y14.2.2.2.2.1 y14.2.2.2.2.2.1 y14.2.2.2.2.2.2.1 y14.2.2.2.2.2.2.2 y19.1 (fdiv .f32 (fofint .f32 y42) 1082130432))
                                  .br (impl_LeastGate.ok y14.1 y14.2.1 y14.2.2.1 y14.2.2.2.1 y14.2.2.2.2.1 y14.2.2.2.2.2.1 y14.2.2.2.2.2.2.1 y14.2.2.2.2.2.2.2 y19.1 (fdiv .f32 (fofint .f32 y42) 1082130432))
                                  (let y51 := (spec_LeastGate y14.1 y14.2.1 y14.2.2.1 y14.2.2.2.1 y14.2.2.2.2.1 y14.2.2.2.2.2.1 y14.2.2.2.2.2.2.1 y14.2.2.2.2.2.2.2 y19.1 (fdiv .f32 (fofint .f32 y42) 1082130432))
                                   .br (spec_LeastGate.ok y14.1 y14.2.1 y14.2.2.1 y14.2.2.2.1 y14.2.2.2.2.1 y14.2.2.2.2.2.1 y14.2.2.2.2.2.2.1 y14.2.2.2.2.2.2.2 y19.1 (fdiv .f32 (fofint .f32 y42) 1082130432))
                                   (.br (y48.2 != y49.2)
                                    (.leaf false)
                                    (.br (y48.2 != (0 : Int))
                                     (.leaf false)
                                     (.br (y48.1 != y49.1)
                                      (.leaf false)
                                      (.br (decide (y49.1 < (0 : Int)))
                                       (.leaf false)
                                       (.br (decide (y49.1 > (16 : Int)))
                                        (.leaf false)
                                        (.br (y50.2 != y51.2)
                                         (.leaf false)
                                         (.br (y50.1 != y51.1)
                                          (.leaf false)
                                          (let y52 := (impl_TorqueAt y14.1 y14.2.1 y14.2.2.1 y14.2.2.2.1 y14.2.2.2.2.1 y14.2.2.2.2.2.1 y14.2.2.2.2.2.2.1 y14.2.2.2.2.2.2.2 y19.1 (IntKind.wrap .i8 y49.1))
                                           .br (impl_TorqueAt.ok y14.1 y14.2.1 y14.2.2.1 y14.2.2.2.1 y14.2.2.2.2.1 y14.2.2.2.2.2.1 y14.2.2.2.2.2.2.1 y14.2.2.2.2.2.2.2 y19.1 (IntKind.wrap .i8 y49.1))
                                           (.br (y52.2 != (0 : Int))
                                            (.leaf false)
                                            (let y56 := (laws_FnGoverned.l53.r ((fdiv .f32 (fofint .f32 y42) 1082130432), y50.2, y51.1, (fmax .f32 (fsub .f32 y52.1 (fdiv .f32 (fofint .f32 y42) 1082130432)) (fsub .f32 (fdiv .f32 (fofint .f32 y42) 1082130432) y52.1)), x2, x3, y14.1, y14.2.1, y14.2.2.1, y14.2.2.2.1, y14.2.2.2.2.1, y14.2.2.2.2.2.1, y14.2.2.2.2.2.2.1, y14.2.2.2.2.2.2.2, y19.1, y19.2) (0 : Int))
                                             .br (Option.isSome y56)
                                             (.br (Sum.isLeft (Option.getD y56 default))
                                              (.leaf (getLeftD (Option.getD y56 default)))
                                              (.leaf true))
                                             .bad))
                                           .bad))))))))
                                   .bad)
                                  .bad)
                                 .bad)
                                .bad))))
                            .bad))
                          .bad)
                         .bad)
                        .bad))
                      .bad))
                    .bad)
                   .bad))
                 .bad)))))
            .bad)))
         .bad)
        (let y59 := (spec_TickAll y14.1 y14.2.1 y14.2.2.1 y14.2.2.2.1 y14.2.2.2.2.1 y14.2.2.2.2.2.1 y14.2.2.2.2.2.2.1 y14.2.2.2.2.2.2.2 y19.1 y19.2 y24.1 y24.2)
         .br (spec_TickAll.ok y14.1 y14.2.1 y14.2.2.1 y14.2.2.2.1 y14.2.2.2.2.1 y14.2.2.2.2.2.1 y14.2.2.2.2.2.2.1 y14.2.2.2.2.2.2.2 y19.1 y19.2 y24.1 y24.2)
         (.br ((getRightD y25).2.1 != y59.2.1)
          (.leaf false)
          (.br ((getRightD y25).2.1 != (0 : Int))
           (.leaf false)
           (let y60 := (spec_SameStates_w1 ((getRightD y25).1) y59.1 ((getRightD y25).2.2) y59.2.2)
            .br (spec_SameStates_w1.ok ((getRightD y25).1) y59.1 ((getRightD y25).2.2) y59.2.2)
            (.br (!y60)
             (.leaf false)
             (.br (((y59.1 : Nat) : Int) != ((y24.1 : Nat) : Int))
              (.leaf false)
              (let y61 := (impl_ValidGovernor y14.1 y14.2.1 y14.2.2.1 y14.2.2.2.1 y14.2.2.2.2.1 y14.2.2.2.2.2.1 y14.2.2.2.2.2.2.1 y14.2.2.2.2.2.2.2)
               .br (!y61)
               (.leaf false)
               (let y62 := (impl_ValidState y19.1 y19.2)
                .br (!y62)
                (.leaf false)
                (let y63 := (laws_FnGoverned.l12.r (x0, y24.1, y59.1, x2, x3, y14.1, y14.2.1, y14.2.2.1, y14.2.2.2.1, y14.2.2.2.2.1, y14.2.2.2.2.2.1, y14.2.2.2.2.2.2.1, y14.2.2.2.2.2.2.2, y19.1, y19.2, y24.2, y59.2.2) ((0 : Int), y19.1, y19.2))
                 .br (Option.isSome y63)
                 (.br (Sum.isLeft (Option.getD y63 default))
                  (.leaf (getLeftD (Option.getD y63 default)))
                  (let y64 := (impl_WithinFrom y14.1 y14.2.1 y14.2.2.1 y14.2.2.2.1 y14.2.2.2.2.1 y14.2.2.2.2.2.1 y14.2.2.2.2.2.2.1 y14.2.2.2.2.2.2.2 y19.1 y19.2 y24.1 y24.2)
                   .br (impl_WithinFrom.ok y14.1 y14.2.1 y14.2.2.1 y14.2.2.2.1 y14.2.2.2.2.1 y14.2.2.2.2.2.1 y14.2.2.2.2.2.2.1 y14.2.2.2.2.2.2.2 y19.1 y19.2 y24.1 y24.2)
                   (let y65 := (spec_WithinFrom y14.1 y14.2.1 y14.2.2.1 y14.2.2.2.1 y14.2.2.2.2.1 y14.2.2.2.2.2.1 y14.2.2.2.2.2.2.1 y14.2.2.2.2.2.2.2 y19.1 y19.2 y24.1 y24.2)
                    .br (spec_WithinFrom.ok y14.1 y14.2.1 y14.2.2.1 y14.2.2.2.1 y14.2.2.2.2.1 y14.2.2.2.2.2.1 y14.2.2.2.2.2.2.1 y14.2.2.2.2.2.2.2 y19.1 y19.2 y24.1 y24.2)
                    (.join
                     (.br (y64.2 != y65.2)
                      (.leaf (some false))
                      (.br (y64.1 != y65.1)
                       (.leaf (some false))
                       (.br (y64.2 != (0 : Int))
                        (.br (y64.2 != (6 : Int))
                         (.leaf (some false))
                         (.leaf none))
                        (.leaf none))))
                     (let y66 := (laws_FnGoverned.l26.r (x0, y59.1, y64.2, y65.1, x2, x3, y14.1, y14.2.1, y14.2.2.1, y14.2.2.2.1, y14.2.2.2.2.1, y14.2.2.2.2.2.1, y14.2.2.2.2.2.2.1, y14.2.2.2.2.2.2.2, y19.1, y19.2, y59.2.2) (0 : Int))
                      .br (Option.isSome y66)
                      (.br (Sum.isLeft (Option.getD y66 default))
                       (.leaf (getLeftD (Option.getD y66 default)))
                       (let y67 := (spec_P6Pick x0 (100 : Int) x2)
                        .br (spec_P6Pick.ok x0 (100 : Int) x2)
                        (let y68 := (impl_SteadyFrom y14.1 y14.2.1 y14.2.2.1 y14.2.2.2.1 y14.2.2.2.2.1 y14.2.2.2.2.2.1 y14.2.2.2.2.2.2.1 y14.2.2.2.2.2.2.2 y19.1 y19.2 (fdiv .f32 (fofint .f32 y67) 1082130432))
                         .br (impl_SteadyFrom.ok y14.1 y14.2.1 y14.2.2.1 y14.2.2.2.1 y14.2.2.2.2.1 y14.2.2.2.2.2.1 y14.2.2.2.2.2.2.1 y14.2.2.2.2.2.2.2 y19.1 y19.2 (fdiv .f32 (fofint .f32 y67) 1082130432))
                         (let y69 := (spec_SteadyFrom y14.1 y14.2.1 y14.2.2.1 y14.2.2.2.1 y14.2.2.2.2.1 y14.2.2.2.2.2.1 y14.2.2.2.2.2.2.1 y14.2.2.2.2.2.2.2 y19.1 y19.2 (fdiv .f32 (fofint .f32 y67) 1082130432))
                          .br (spec_SteadyFrom.ok y14.1 y14.2.1 y14.2.2.1 y14.2.2.2.1 y14.2.2.2.2.1 y14.2.2.2.2.2.1 y14.2.2.2.2.2.2.1 y14.2.2.2.2.2.2.2 y19.1 y19.2 (fdiv .f32 (fofint .f32 y67) 1082130432))
                          (.br (y68.2.2.2 != y69.2.2.2)
                           (.leaf false)
                           (let y70 := (spec_SameState y68.1 y68.2.1 y69.1 y69.2.1)
                            .br (spec_SameState.ok y68.1 y68.2.1 y69.1 y69.2.1)
                            (.br (!y70)
                             (.leaf false)
                             (.br (y68.2.2.1 != y69.2.2.1)
                              (.leaf false)
                              (let y71 := (impl_TickOnce y14.1 y14.2.1 y14.2.2.1 y14.2.2.2.1 y14.2.2.2.2.1 y14.2.2.2.2.2.1 y14.2.2.2.2.2.2.1 y14.2.2.2.2.2.2.2 y69.1 y69.2.1 (fdiv .f32 (fofint .f32 y67) 1082130432))
                               let y72 := (spec_SameState y71.1 y71.2.1 y69.1 y69.2.1)
                               .join
                               (.br (y68.2.2.2 == (0 : Int))
                                (.br (impl_TickOnce.ok y14.1 y14.2.1 y14.2.2.1 y14.2.2.2.1 y14.2.2.2.2.1 y14.2.2.2.2.2.1 y14.2.2.2.2.2.2.1 y14.2.2.2.2.2.2.2 y69.1 y69.2.1 (fdiv .f32 (fofint .f32 y67) 1082130432))
                                 (.br (y71.2.2 != (0 : Int))
                                  (.leaf (some false))
                                  (.br (spec_SameState.ok y71.1 y71.2.1 y69.1 y69.2.1)
                                   (.br (!y72)
                                    (.leaf (some false))
                                    (.br (decide (y69.2.2.1 < (0 : Int)))
                                     (.leaf (some false))
                                     (.br (decide (y69.2.2.1 ≥ (100 : Int)))
                                      (.leaf (some false))
                                      (.leaf none))))
                                   .bad))
                                 .bad)
                                (.br (y68.2.2.2 != (6 : Int))
                                 (.leaf (some false))
                                 (.leaf none)))
                               (let y73 := (impl_BestGate y14.1 y14.2.1 y14.2.2.1 y14.2.2.2.1 y14.2.2.2.2.1 y14.2.2.2.2.2.1 y14.2.2.2.2.2.2.1 y14.2.2.2.2.2.2.2 y19.1 (fdiv .f32 (fofint .f32 y67) 1082130432))
                                .br (impl_BestGate.ok y14.1 y14.2.1 y14.2.2.1 y14.2.2.2.1 y14.2.2.2.2.1 y14.2.2.2.2.2.1 y14.2.2.2.2.2.2.1 y14.2.2.2.2.2.2.2 y19.1 (fdiv .f32 (fofint .f32 y67) 1082130432))
                                (let y74 := (spec_BestGate y14.1 y14.2.1 y14.2.2.1 y14.2.2.2.1 y14.2.2.2.2.1 y14.2.2.2.2.2.1 y14.2.2.2.2.2.2.1 y14.2.2.2.2.2.2.2 y19.1 (fdiv .f32 (fofint .f32 y67) 1082130432))
                                 .br (spec_BestGate.ok y14.1 y14.2.1 y14.2.2.1 y14.2.2.2.1 y14.2.2.2.2.1 y14.2.2.2.2.2.1 y14.2.2.2.2.2.2.1 y14.2.2.2.2.2.2.2 y19.1 (fdiv .f32 (fofint .f32 y67) 1082130432))
                                 (let y75 := (impl_LeastGate y14.1 y14.2.1 y14.2.2.1 y14.2.2.2.1 y14.2.2.2.2.1 y14.2.2.2.2.2.1 y14.2.2.2.2.2.2.1 y14.2.2.2.2.2.2.2 y19.1 (fdiv .f32 (fofint .f32 y67) 1082130432))
                                  .br (impl_LeastGate.ok y14.1 y14.2.1 y14.2.2.1 y14.2.2.2.1 y14.2.2.2.2.1 y14.2.2.2.2.2.1 y14.2.2.2.2.2.2.1 y14.2.2.2.2.2.2.2 y19.1 (fdiv .f32 (fofint .f32 y67) 1082130432))
                                  (let y76 := (spec_LeastGate y14.1 y14.2.1 y14.2.2.1 y14.2.2.2.1 y14.2.2.2.2.1 y14.2.2.2.2.2.1 y14.2.2.2.2.2.2.1 y14.2.2.2.2.2.2.2 y19.1 (fdiv .f32 (fofint .f32 y67) 1082130432))
                                   .br (spec_LeastGate.ok y14.1 y14.2.1 y14.2.2.1 y14.2.2.2.1 y14.2.2.2.2.1 y14.2.2.2.2.2.1 y14.2.2.2.2.2.2.1 y14.2.2.2.2.2.2.2 y19.1 (fdiv .f32 (fofint .f32 y67) 1082130432))
                                   (.br (y73.2 != y74.2)
                                    (.leaf false)
                                    (.br (y73.2 != (0 : Int))
                                     (.leaf false)
                                     (.br (y73.1 != y74.1)
                                      (.leaf false)
                                      (.br (decide (y74.1 < (0 : Int)))
                                       (.leaf false)
                                       (.br (decide (y74.1 > (16 : Int)))
                                        (.leaf false)
                                        (.br (y75.2 != y76.2)
                                         (.leaf false)
                                         (.br (y75.1 != y76.1)
                                          (.leaf false)
                                          (let y77 := (impl_TorqueAt y14.1 y14.2.1 y14.2.2.1 y14.2.2.2.1 y14.2.2.2.2.1 y14.2.2.2.2.2.1 y14.2.2.2.2.2.2.1 y14.2.2.2.2.2.2.2 y19.1 (IntKind.wrap .i8 y74.1))
                                           .br (impl_TorqueAt.ok y14.1 y14.2.1 y14.2.2.1 y14.2.2.2.1 y14.2.2.2.2.1 y14.2.2.2.2.2.1 y14.2.2.2.2.2.2.1 y14.2.2.2.2.2.2.2 y19.1 (IntKind.wrap .i8 y74.1))
                                           (.br (y77.2 != (0 : Int))
                                            (.leaf false)
                                            (let y78 := (laws_FnGoverned.l53.r ((fdiv .f32 (fofint .f32 y67) 1082130432), y75.2, y76.1, (fmax .f32 (fsub .f32 y77.1 (fdiv .f32 (fofint .f32 y67) 1082130432)) (fsub .f32 (fdiv .f32 (fofint .f32 y67) 1082130432) y77.1)), x2, x3, y14.1, y14.2.1, y14.2.2.1, y14.2.2.2.1, y14.2.2.2.2.1, y14.2.2.2.2.2.1, y14.2.2.2.2.2.2.1, y14.2.2.2.2.2.2.2, y19.1, y19.2) (0 : Int))
                                             .br (Option.isSome y78)
                                             (.br (Sum.isLeft (Option.getD y78 default))
                                              (.leaf (getLeftD (Option.getD y78 default)))
                                              (.leaf true))
                                             .bad))
                                           .bad))))))))
                                   .bad)
                                  .bad)
                                 .bad)
                                .bad))))
                            .bad))
                          .bad)
                         .bad)
                        .bad))
                      .bad))
                    .bad)
                   .bad))
                 .bad)))))
            .bad)))
         .bad))
       .bad)
      .bad)
     .bad)
    .bad))
noncomputable def laws_FnGoverned (x0 : Nat) (x1 : Nat) (x2 : List Int) (x3 : List Int) : Bool := (laws_FnGoverned.t x0 x1 x2 x3).val
noncomputable def laws_FnGoverned.ok (x0 : Nat) (x1 : Nat) (x2 : List Int) (x3 : List Int) : Bool := (laws_FnGoverned.t x0 x1 x2 x3).ok
def laws_FnGoverned.cd : Cd (Nat × Nat × List Int × List Int) (List V × Hp) := Cd.iso (Cd.pair (Cd.cons (Cd.sl 0 (Cd.natc 0)) (Cd.cons (Cd.sl 1 (Cd.natc 0)) Cd.nil)) (Cd.cons (Cd.ro 0 0 (Cd.is .u8)) (Cd.cons (Cd.ro 0 0 (Cd.is .u8)) Cd.nil))) (fun a => (a.1.1.2, a.1.2.1.2, a.2.1, a.2.2.1)) (fun a => ((((), a.1), (((), a.2.1), ())), (a.2.2.1, (a.2.2.2, ())))) (fun _ => rfl)
noncomputable def laws_FnGoverned.tr (a : Nat × Nat × List Int × List Int) : T Bool := laws_FnGoverned.t a.1 a.2.1 a.2.2.1 a.2.2.2
def laws_FnGoverned.enc : (Nat × Nat × List Int × List Int) → Bool → V := fun a r => .bo r
noncomputable def laws_FnGoverned.c : List V → Hp → T V := cdQ laws_FnGoverned.cd (fun a => .br (laws_FnGoverned.ok a.1 a.2.1 a.2.2.1 a.2.2.2) (.leaf (laws_FnGoverned.enc a (laws_FnGoverned a.1 a.2.1 a.2.2.1 a.2.2.2))) .bad)
theorem laws_FnGoverned.run (a : Nat × Nat × List Int × List Int) : runF laws_FnGoverned.C Try.f3.results.toList laws_FnGoverned.b (laws_FnGoverned.cd.enc a).1 (laws_FnGoverned.cd.enc a).2 = (laws_FnGoverned.tr a).map fun r => (laws_FnGoverned.enc a r, (laws_FnGoverned.cd.enc a).2) := by kernel_rfl
theorem laws_FnGoverned.cok : OKq Try.prog 3 laws_FnGoverned.c := con_q' laws_FnGoverned.cd laws_FnGoverned.hC Try.func3 (by kernel_rfl) (by kernel_rfl) (by kernel_rfl) laws_FnGoverned.lp (fun a => by kernel_rfl) laws_FnGoverned.run (Tells.ok (tree := laws_FnGoverned.tr))
theorem laws_FnGoverned.walk (a : Nat × Nat × List Int × List Int) (h : (laws_FnGoverned.tr a).get = some true) {ρ : Nat → Option Sx.Loc} {w : World} {vs : List Value} (hargs : V.Rs ρ (laws_FnGoverned.cd.enc a).1 vs) (hh : HpR ρ (laws_FnGoverned.cd.enc a).2 w) :
    Calls Try.prog 3 vs.toArray w fun e w' => e = .returned (.bool true) ∧ Below w.heap.size w w' :=
  law_cd laws_FnGoverned.cd laws_FnGoverned.hC Try.func3 (by kernel_rfl) (by kernel_rfl) laws_FnGoverned.lp (fun a => by kernel_rfl) laws_FnGoverned.run (fun a => by kernel_rfl) a (by kernel_rfl) h hargs hh
end Go.Proofs.Ytccdbfmfdhhgfaa
