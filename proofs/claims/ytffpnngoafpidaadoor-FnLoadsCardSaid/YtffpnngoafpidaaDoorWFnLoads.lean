/- The walk of FnLoads: what each function that it comes to computes, as a tree of tests. -/
import Derived.Test.YtffpnngoafpidaaDoorSxU
import Derived.Test.YtffpnngoafpidaaDoorShelf
import Derived.Test.YtffpnngoafpidaaDoorSxV
import Derived.Test.YtffpnngoafpidaaDoorSxP
import Derived.Test.YtffpnngoafpidaaDoorChecked
namespace Go.Proofs.YtffpnngoafpidaaDoor
open Go Go.RowKit Sx
set_option linter.unusedVariables false
set_option maxRecDepth 100000
set_option maxHeartbeats 0
noncomputable def ti1 : TI := ⟨Tryd.t1.desc, 1, 8, [.nf]⟩
theorem ti1_ok : TyOK Tryd.prog 1 ti1 := TyOK.of (inf := Tryd.t1) Tryd.underlying1 (by kernel_rfl) (by kernel_rfl) (by kernel_rfl) (by kernel_rfl)
noncomputable def ti2 : TI := ⟨Tryd.t2.desc, 1, 8, [.it .i64 (0 : Int)]⟩
theorem ti2_ok : TyOK Tryd.prog 2 ti2 := TyOK.of (inf := Tryd.t2) Tryd.underlying2 (by kernel_rfl) (by kernel_rfl) (by kernel_rfl) (by kernel_rfl)
noncomputable def ti3 : TI := ⟨Tryd.t3.desc, 1, 8, [.it .i64 (0 : Int)]⟩
theorem ti3_ok : TyOK Tryd.prog 3 ti3 := TyOK.of (inf := Tryd.t3) Tryd.underlying3 (by kernel_rfl) (by kernel_rfl) (by kernel_rfl) (by kernel_rfl)
noncomputable def ti4 : TI := ⟨Tryd.t4.desc, 1, 1, [.kb false]⟩
theorem ti4_ok : TyOK Tryd.prog 4 ti4 := TyOK.of (inf := Tryd.t4) Tryd.underlying4 (by kernel_rfl) (by kernel_rfl) (by kernel_rfl) (by kernel_rfl)
noncomputable def ti5 : TI := ⟨Tryd.t5.desc, 1, 1, [.it .u8 (0 : Int)]⟩
theorem ti5_ok : TyOK Tryd.prog 5 ti5 := TyOK.of (inf := Tryd.t5) Tryd.underlying5 (by kernel_rfl) (by kernel_rfl) (by kernel_rfl) (by kernel_rfl)
noncomputable def ti6 : TI := ⟨Tryd.t5.desc, 1, 1, [.it .u8 (0 : Int)]⟩
theorem ti6_ok : TyOK Tryd.prog 6 ti6 := TyOK.of (inf := Tryd.t6) Tryd.underlying6 (by kernel_rfl) (by kernel_rfl) (by kernel_rfl) (by kernel_rfl)
noncomputable def ti7 : TI := ⟨Tryd.t7.desc, 4, 24, [.it .i64 (0 : Int), .it .i64 (0 : Int), .kb false, .it .u8 (0 : Int)]⟩
theorem ti7_ok : TyOK Tryd.prog 7 ti7 := TyOK.of (inf := Tryd.t7) Tryd.underlying7 (by kernel_rfl) (by kernel_rfl) (by kernel_rfl) (by kernel_rfl)
noncomputable def ti8 : TI := ⟨Tryd.t7.desc, 4, 24, [.it .i64 (0 : Int), .it .i64 (0 : Int), .kb false, .it .u8 (0 : Int)]⟩
theorem ti8_ok : TyOK Tryd.prog 8 ti8 := TyOK.of (inf := Tryd.t8) Tryd.underlying8 (by kernel_rfl) (by kernel_rfl) (by kernel_rfl) (by kernel_rfl)
noncomputable def ti9 : TI := ⟨Tryd.t9.desc, 1, 16, [.st (ByteArray.mk #[])]⟩
theorem ti9_ok : TyOK Tryd.prog 9 ti9 := TyOK.of (inf := Tryd.t9) Tryd.underlying9 (by kernel_rfl) (by kernel_rfl) (by kernel_rfl) (by kernel_rfl)
noncomputable def ti10 : TI := ⟨Tryd.t9.desc, 1, 16, [.st (ByteArray.mk #[])]⟩
theorem ti10_ok : TyOK Tryd.prog 10 ti10 := TyOK.of (inf := Tryd.t10) Tryd.underlying10 (by kernel_rfl) (by kernel_rfl) (by kernel_rfl) (by kernel_rfl)
noncomputable def ti11 : TI := ⟨Tryd.t9.desc, 1, 16, [.st (ByteArray.mk #[])]⟩
theorem ti11_ok : TyOK Tryd.prog 11 ti11 := TyOK.of (inf := Tryd.t11) Tryd.underlying11 (by kernel_rfl) (by kernel_rfl) (by kernel_rfl) (by kernel_rfl)
noncomputable def ti12 : TI := ⟨Tryd.t12.desc, 1, 8, [.it .u64 (0 : Int)]⟩
theorem ti12_ok : TyOK Tryd.prog 12 ti12 := TyOK.of (inf := Tryd.t12) Tryd.underlying12 (by kernel_rfl) (by kernel_rfl) (by kernel_rfl) (by kernel_rfl)
noncomputable def ti13 : TI := ⟨Tryd.t13.desc, 2, 24, [.st (ByteArray.mk #[]), .it .u64 (0 : Int)]⟩
theorem ti13_ok : TyOK Tryd.prog 13 ti13 := TyOK.of (inf := Tryd.t13) Tryd.underlying13 (by kernel_rfl) (by kernel_rfl) (by kernel_rfl) (by kernel_rfl)
noncomputable def ti14 : TI := ⟨Tryd.t13.desc, 2, 24, [.st (ByteArray.mk #[]), .it .u64 (0 : Int)]⟩
theorem ti14_ok : TyOK Tryd.prog 14 ti14 := TyOK.of (inf := Tryd.t14) Tryd.underlying14 (by kernel_rfl) (by kernel_rfl) (by kernel_rfl) (by kernel_rfl)
noncomputable def ti15 : TI := ⟨Tryd.t15.desc, 1, 8, [.pn]⟩
theorem ti15_ok : TyOK Tryd.prog 15 ti15 := TyOK.of (inf := Tryd.t15) Tryd.underlying15 (by kernel_rfl) (by kernel_rfl) (by kernel_rfl) (by kernel_rfl)
noncomputable def ti16 : TI := ⟨Tryd.t16.desc, 1, 8, [.pn]⟩
theorem ti16_ok : TyOK Tryd.prog 16 ti16 := TyOK.of (inf := Tryd.t16) Tryd.underlying16 (by kernel_rfl) (by kernel_rfl) (by kernel_rfl) (by kernel_rfl)
noncomputable def ti17 : TI := ⟨Tryd.t17.desc, 1, 8, [.pn]⟩
theorem ti17_ok : TyOK Tryd.prog 17 ti17 := TyOK.of (inf := Tryd.t17) Tryd.underlying17 (by kernel_rfl) (by kernel_rfl) (by kernel_rfl) (by kernel_rfl)
noncomputable def ti18 : TI := ⟨Tryd.t18.desc, 1, 8, [.pn]⟩
theorem ti18_ok : TyOK Tryd.prog 18 ti18 := TyOK.of (inf := Tryd.t18) Tryd.underlying18 (by kernel_rfl) (by kernel_rfl) (by kernel_rfl) (by kernel_rfl)
noncomputable def ti19 : TI := ⟨Tryd.t18.desc, 1, 8, [.pn]⟩
theorem ti19_ok : TyOK Tryd.prog 19 ti19 := TyOK.of (inf := Tryd.t19) Tryd.underlying19 (by kernel_rfl) (by kernel_rfl) (by kernel_rfl) (by kernel_rfl)
noncomputable def ti21 : TI := ⟨Tryd.t21.desc, 1, 4, [.it .i32 (0 : Int)]⟩
theorem ti21_ok : TyOK Tryd.prog 21 ti21 := TyOK.of (inf := Tryd.t21) Tryd.underlying21 (by kernel_rfl) (by kernel_rfl) (by kernel_rfl) (by kernel_rfl)
noncomputable def ti22 : TI := ⟨Tryd.t22.desc, 1, 4, [.fl .f32 0]⟩
theorem ti22_ok : TyOK Tryd.prog 22 ti22 := TyOK.of (inf := Tryd.t22) Tryd.underlying22 (by kernel_rfl) (by kernel_rfl) (by kernel_rfl) (by kernel_rfl)
noncomputable def ti23 : TI := ⟨Tryd.t23.desc, 4, 16, [.fl .f32 0, .fl .f32 0, .fl .f32 0, .fl .f32 0]⟩
theorem ti23_ok : TyOK Tryd.prog 23 ti23 := TyOK.of (inf := Tryd.t23) Tryd.underlying23 (by kernel_rfl) (by kernel_rfl) (by kernel_rfl) (by kernel_rfl)
noncomputable def ti24 : TI := ⟨Tryd.t23.desc, 4, 16, [.fl .f32 0, .fl .f32 0, .fl .f32 0, .fl .f32 0]⟩
theorem ti24_ok : TyOK Tryd.prog 24 ti24 := TyOK.of (inf := Tryd.t24) Tryd.underlying24 (by kernel_rfl) (by kernel_rfl) (by kernel_rfl) (by kernel_rfl)
noncomputable def ti26 : TI := ⟨Tryd.t26.desc, 1, 8, [.nf]⟩
theorem ti26_ok : TyOK Tryd.prog 26 ti26 := TyOK.of (inf := Tryd.t26) Tryd.underlying26 (by kernel_rfl) (by kernel_rfl) (by kernel_rfl) (by kernel_rfl)
noncomputable def ti27 : TI := ⟨Tryd.t27.desc, 1, 8, [.nf]⟩
theorem ti27_ok : TyOK Tryd.prog 27 ti27 := TyOK.of (inf := Tryd.t27) Tryd.underlying27 (by kernel_rfl) (by kernel_rfl) (by kernel_rfl) (by kernel_rfl)
noncomputable def ti28 : TI := ⟨Tryd.t28.desc, 1, 8, [.nf]⟩
theorem ti28_ok : TyOK Tryd.prog 28 ti28 := TyOK.of (inf := Tryd.t28) Tryd.underlying28 (by kernel_rfl) (by kernel_rfl) (by kernel_rfl) (by kernel_rfl)
noncomputable def ti29 : TI := ⟨Tryd.t29.desc, 1, 24, [.sn]⟩
theorem ti29_ok : TyOK Tryd.prog 29 ti29 := TyOK.of (inf := Tryd.t29) Tryd.underlying29 (by kernel_rfl) (by kernel_rfl) (by kernel_rfl) (by kernel_rfl)
noncomputable def ti30 : TI := ⟨Tryd.t30.desc, 1, 8, [.nf]⟩
theorem ti30_ok : TyOK Tryd.prog 30 ti30 := TyOK.of (inf := Tryd.t30) Tryd.underlying30 (by kernel_rfl) (by kernel_rfl) (by kernel_rfl) (by kernel_rfl)
noncomputable def ti31 : TI := ⟨Tryd.t31.desc, 1, 8, [.nf]⟩
theorem ti31_ok : TyOK Tryd.prog 31 ti31 := TyOK.of (inf := Tryd.t31) Tryd.underlying31 (by kernel_rfl) (by kernel_rfl) (by kernel_rfl) (by kernel_rfl)
noncomputable def ti32 : TI := ⟨Tryd.t32.desc, 1, 8, [.nf]⟩
theorem ti32_ok : TyOK Tryd.prog 32 ti32 := TyOK.of (inf := Tryd.t32) Tryd.underlying32 (by kernel_rfl) (by kernel_rfl) (by kernel_rfl) (by kernel_rfl)
noncomputable def ti33 : TI := ⟨Tryd.t33.desc, 1, 8, [.nf]⟩
theorem ti33_ok : TyOK Tryd.prog 33 ti33 := TyOK.of (inf := Tryd.t33) Tryd.underlying33 (by kernel_rfl) (by kernel_rfl) (by kernel_rfl) (by kernel_rfl)
noncomputable def ti35 : TI := ⟨Tryd.t35.desc, 1, 8, [.nf]⟩
theorem ti35_ok : TyOK Tryd.prog 35 ti35 := TyOK.of (inf := Tryd.t35) Tryd.underlying35 (by kernel_rfl) (by kernel_rfl) (by kernel_rfl) (by kernel_rfl)
noncomputable def ti36 : TI := ⟨Tryd.t36.desc, 1, 8, [.nf]⟩
theorem ti36_ok : TyOK Tryd.prog 36 ti36 := TyOK.of (inf := Tryd.t36) Tryd.underlying36 (by kernel_rfl) (by kernel_rfl) (by kernel_rfl) (by kernel_rfl)
noncomputable def ti37 : TI := ⟨Tryd.t37.desc, 1, 8, [.nf]⟩
theorem ti37_ok : TyOK Tryd.prog 37 ti37 := TyOK.of (inf := Tryd.t37) Tryd.underlying37 (by kernel_rfl) (by kernel_rfl) (by kernel_rfl) (by kernel_rfl)
noncomputable def ti38 : TI := ⟨Tryd.t38.desc, 1, 8, [.nf]⟩
theorem ti38_ok : TyOK Tryd.prog 38 ti38 := TyOK.of (inf := Tryd.t38) Tryd.underlying38 (by kernel_rfl) (by kernel_rfl) (by kernel_rfl) (by kernel_rfl)
noncomputable def ti39 : TI := ⟨Tryd.t39.desc, 1, 24, [.sn]⟩
theorem ti39_ok : TyOK Tryd.prog 39 ti39 := TyOK.of (inf := Tryd.t39) Tryd.underlying39 (by kernel_rfl) (by kernel_rfl) (by kernel_rfl) (by kernel_rfl)
noncomputable def ti40 : TI := ⟨Tryd.t40.desc, 1, 24, [.sn]⟩
theorem ti40_ok : TyOK Tryd.prog 40 ti40 := TyOK.of (inf := Tryd.t40) Tryd.underlying40 (by kernel_rfl) (by kernel_rfl) (by kernel_rfl) (by kernel_rfl)
noncomputable def ti42 : TI := ⟨Tryd.t42.desc, 1, 8, [.nf]⟩
theorem ti42_ok : TyOK Tryd.prog 42 ti42 := TyOK.of (inf := Tryd.t42) Tryd.underlying42 (by kernel_rfl) (by kernel_rfl) (by kernel_rfl) (by kernel_rfl)
noncomputable def ti43 : TI := ⟨Tryd.t43.desc, 1, 8, [.nf]⟩
theorem ti43_ok : TyOK Tryd.prog 43 ti43 := TyOK.of (inf := Tryd.t43) Tryd.underlying43 (by kernel_rfl) (by kernel_rfl) (by kernel_rfl) (by kernel_rfl)
noncomputable def ti44 : TI := ⟨Tryd.t44.desc, 1, 8, [.nf]⟩
theorem ti44_ok : TyOK Tryd.prog 44 ti44 := TyOK.of (inf := Tryd.t44) Tryd.underlying44 (by kernel_rfl) (by kernel_rfl) (by kernel_rfl) (by kernel_rfl)
noncomputable def ti45 : TI := ⟨Tryd.t45.desc, 1, 8, [.nf]⟩
theorem ti45_ok : TyOK Tryd.prog 45 ti45 := TyOK.of (inf := Tryd.t45) Tryd.underlying45 (by kernel_rfl) (by kernel_rfl) (by kernel_rfl) (by kernel_rfl)
noncomputable def ti46 : TI := ⟨Tryd.t46.desc, 1, 24, [.sn]⟩
theorem ti46_ok : TyOK Tryd.prog 46 ti46 := TyOK.of (inf := Tryd.t46) Tryd.underlying46 (by kernel_rfl) (by kernel_rfl) (by kernel_rfl) (by kernel_rfl)
noncomputable def ti47 : TI := ⟨Tryd.t47.desc, 1, 8, [.nf]⟩
theorem ti47_ok : TyOK Tryd.prog 47 ti47 := TyOK.of (inf := Tryd.t47) Tryd.underlying47 (by kernel_rfl) (by kernel_rfl) (by kernel_rfl) (by kernel_rfl)
noncomputable def ti48 : TI := ⟨Tryd.t48.desc, 4, 16, [.fl .f32 0, .fl .f32 0, .fl .f32 0, .fl .f32 0]⟩
theorem ti48_ok : TyOK Tryd.prog 48 ti48 := TyOK.of (inf := Tryd.t48) Tryd.underlying48 (by kernel_rfl) (by kernel_rfl) (by kernel_rfl) (by kernel_rfl)
noncomputable def ti50 : TI := ⟨Tryd.t50.desc, 1, 8, [.nf]⟩
theorem ti50_ok : TyOK Tryd.prog 50 ti50 := TyOK.of (inf := Tryd.t50) Tryd.underlying50 (by kernel_rfl) (by kernel_rfl) (by kernel_rfl) (by kernel_rfl)
noncomputable def ti52 : TI := ⟨Tryd.t52.desc, 1, 8, [.nf]⟩
theorem ti52_ok : TyOK Tryd.prog 52 ti52 := TyOK.of (inf := Tryd.t52) Tryd.underlying52 (by kernel_rfl) (by kernel_rfl) (by kernel_rfl) (by kernel_rfl)
noncomputable def ti53 : TI := ⟨Tryd.t53.desc, 1, 8, [.nf]⟩
theorem ti53_ok : TyOK Tryd.prog 53 ti53 := TyOK.of (inf := Tryd.t53) Tryd.underlying53 (by kernel_rfl) (by kernel_rfl) (by kernel_rfl) (by kernel_rfl)
noncomputable def ti54 : TI := ⟨Tryd.t54.desc, 1, 8, [.nf]⟩
theorem ti54_ok : TyOK Tryd.prog 54 ti54 := TyOK.of (inf := Tryd.t54) Tryd.underlying54 (by kernel_rfl) (by kernel_rfl) (by kernel_rfl) (by kernel_rfl)
noncomputable def ti55 : TI := ⟨Tryd.t55.desc, 1, 8, [.fl .f64 0]⟩
theorem ti55_ok : TyOK Tryd.prog 55 ti55 := TyOK.of (inf := Tryd.t55) Tryd.underlying55 (by kernel_rfl) (by kernel_rfl) (by kernel_rfl) (by kernel_rfl)
noncomputable def ti56 : TI := ⟨Tryd.t56.desc, 1, 8, [.nf]⟩
theorem ti56_ok : TyOK Tryd.prog 56 ti56 := TyOK.of (inf := Tryd.t56) Tryd.underlying56 (by kernel_rfl) (by kernel_rfl) (by kernel_rfl) (by kernel_rfl)
noncomputable def ti57 : TI := ⟨Tryd.t57.desc, 1, 8, [.pn]⟩
theorem ti57_ok : TyOK Tryd.prog 57 ti57 := TyOK.of (inf := Tryd.t57) Tryd.underlying57 (by kernel_rfl) (by kernel_rfl) (by kernel_rfl) (by kernel_rfl)
noncomputable def ti58 : TI := ⟨Tryd.t58.desc, 1, 8, [.nf]⟩
theorem ti58_ok : TyOK Tryd.prog 58 ti58 := TyOK.of (inf := Tryd.t58) Tryd.underlying58 (by kernel_rfl) (by kernel_rfl) (by kernel_rfl) (by kernel_rfl)
noncomputable def ti59 : TI := ⟨Tryd.t59.desc, 1, 8, [.nf]⟩
theorem ti59_ok : TyOK Tryd.prog 59 ti59 := TyOK.of (inf := Tryd.t59) Tryd.underlying59 (by kernel_rfl) (by kernel_rfl) (by kernel_rfl) (by kernel_rfl)
noncomputable def ti60 : TI := ⟨Tryd.t60.desc, 1, 8, [.nf]⟩
theorem ti60_ok : TyOK Tryd.prog 60 ti60 := TyOK.of (inf := Tryd.t60) Tryd.underlying60 (by kernel_rfl) (by kernel_rfl) (by kernel_rfl) (by kernel_rfl)
noncomputable def ti61 : TI := ⟨Tryd.t61.desc, 1, 8, [.nf]⟩
theorem ti61_ok : TyOK Tryd.prog 61 ti61 := TyOK.of (inf := Tryd.t61) Tryd.underlying61 (by kernel_rfl) (by kernel_rfl) (by kernel_rfl) (by kernel_rfl)
noncomputable def ti62 : TI := ⟨Tryd.t62.desc, 1, 8, [.nf]⟩
theorem ti62_ok : TyOK Tryd.prog 62 ti62 := TyOK.of (inf := Tryd.t62) Tryd.underlying62 (by kernel_rfl) (by kernel_rfl) (by kernel_rfl) (by kernel_rfl)
noncomputable def ti63 : TI := ⟨Tryd.t63.desc, 1, 8, [.nf]⟩
theorem ti63_ok : TyOK Tryd.prog 63 ti63 := TyOK.of (inf := Tryd.t63) Tryd.underlying63 (by kernel_rfl) (by kernel_rfl) (by kernel_rfl) (by kernel_rfl)
noncomputable def ti64 : TI := ⟨Tryd.t64.desc, 1, 8, [.nf]⟩
theorem ti64_ok : TyOK Tryd.prog 64 ti64 := TyOK.of (inf := Tryd.t64) Tryd.underlying64 (by kernel_rfl) (by kernel_rfl) (by kernel_rfl) (by kernel_rfl)
noncomputable def ti65 : TI := ⟨Tryd.t65.desc, 1, 8, [.nf]⟩
theorem ti65_ok : TyOK Tryd.prog 65 ti65 := TyOK.of (inf := Tryd.t65) Tryd.underlying65 (by kernel_rfl) (by kernel_rfl) (by kernel_rfl) (by kernel_rfl)
noncomputable def ti66 : TI := ⟨Tryd.t66.desc, 1, 8, [.nf]⟩
theorem ti66_ok : TyOK Tryd.prog 66 ti66 := TyOK.of (inf := Tryd.t66) Tryd.underlying66 (by kernel_rfl) (by kernel_rfl) (by kernel_rfl) (by kernel_rfl)
noncomputable def ti67 : TI := ⟨Tryd.t67.desc, 1, 8, [.nf]⟩
theorem ti67_ok : TyOK Tryd.prog 67 ti67 := TyOK.of (inf := Tryd.t67) Tryd.underlying67 (by kernel_rfl) (by kernel_rfl) (by kernel_rfl) (by kernel_rfl)
noncomputable def ti68 : TI := ⟨Tryd.t68.desc, 1, 8, [.nf]⟩
theorem ti68_ok : TyOK Tryd.prog 68 ti68 := TyOK.of (inf := Tryd.t68) Tryd.underlying68 (by kernel_rfl) (by kernel_rfl) (by kernel_rfl) (by kernel_rfl)
noncomputable def ti69 : TI := ⟨Tryd.t69.desc, 1, 8, [.nf]⟩
theorem ti69_ok : TyOK Tryd.prog 69 ti69 := TyOK.of (inf := Tryd.t69) Tryd.underlying69 (by kernel_rfl) (by kernel_rfl) (by kernel_rfl) (by kernel_rfl)
noncomputable def ti70 : TI := ⟨Tryd.t70.desc, 1, 8, [.nf]⟩
theorem ti70_ok : TyOK Tryd.prog 70 ti70 := TyOK.of (inf := Tryd.t70) Tryd.underlying70 (by kernel_rfl) (by kernel_rfl) (by kernel_rfl) (by kernel_rfl)
noncomputable def ti71 : TI := ⟨Tryd.t71.desc, 1, 8, [.nf]⟩
theorem ti71_ok : TyOK Tryd.prog 71 ti71 := TyOK.of (inf := Tryd.t71) Tryd.underlying71 (by kernel_rfl) (by kernel_rfl) (by kernel_rfl) (by kernel_rfl)
noncomputable def ti72 : TI := ⟨Tryd.t72.desc, 1, 8, [.nf]⟩
theorem ti72_ok : TyOK Tryd.prog 72 ti72 := TyOK.of (inf := Tryd.t72) Tryd.underlying72 (by kernel_rfl) (by kernel_rfl) (by kernel_rfl) (by kernel_rfl)
noncomputable def ti73 : TI := ⟨Tryd.t73.desc, 1, 8, [.nf]⟩
theorem ti73_ok : TyOK Tryd.prog 73 ti73 := TyOK.of (inf := Tryd.t73) Tryd.underlying73 (by kernel_rfl) (by kernel_rfl) (by kernel_rfl) (by kernel_rfl)
noncomputable def ti74 : TI := ⟨Tryd.t74.desc, 1, 4, [.it .u32 (0 : Int)]⟩
theorem ti74_ok : TyOK Tryd.prog 74 ti74 := TyOK.of (inf := Tryd.t74) Tryd.underlying74 (by kernel_rfl) (by kernel_rfl) (by kernel_rfl) (by kernel_rfl)
noncomputable def ti75 : TI := ⟨Tryd.t75.desc, 1, 8, [.nf]⟩
theorem ti75_ok : TyOK Tryd.prog 75 ti75 := TyOK.of (inf := Tryd.t75) Tryd.underlying75 (by kernel_rfl) (by kernel_rfl) (by kernel_rfl) (by kernel_rfl)
noncomputable def ti76 : TI := ⟨Tryd.t76.desc, 1, 8, [.nf]⟩
theorem ti76_ok : TyOK Tryd.prog 76 ti76 := TyOK.of (inf := Tryd.t76) Tryd.underlying76 (by kernel_rfl) (by kernel_rfl) (by kernel_rfl) (by kernel_rfl)
noncomputable def ti77 : TI := ⟨Tryd.t77.desc, 1, 8, [.nf]⟩
theorem ti77_ok : TyOK Tryd.prog 77 ti77 := TyOK.of (inf := Tryd.t77) Tryd.underlying77 (by kernel_rfl) (by kernel_rfl) (by kernel_rfl) (by kernel_rfl)
noncomputable def ti78 : TI := ⟨Tryd.t78.desc, 1, 8, [.nf]⟩
theorem ti78_ok : TyOK Tryd.prog 78 ti78 := TyOK.of (inf := Tryd.t78) Tryd.underlying78 (by kernel_rfl) (by kernel_rfl) (by kernel_rfl) (by kernel_rfl)
noncomputable def ti79 : TI := ⟨Tryd.t79.desc, 1, 8, [.nf]⟩
theorem ti79_ok : TyOK Tryd.prog 79 ti79 := TyOK.of (inf := Tryd.t79) Tryd.underlying79 (by kernel_rfl) (by kernel_rfl) (by kernel_rfl) (by kernel_rfl)
noncomputable def ti80 : TI := ⟨Tryd.t80.desc, 1, 8, [.it .u64 (0 : Int)]⟩
theorem ti80_ok : TyOK Tryd.prog 80 ti80 := TyOK.of (inf := Tryd.t80) Tryd.underlying80 (by kernel_rfl) (by kernel_rfl) (by kernel_rfl) (by kernel_rfl)
noncomputable def ti81 : TI := ⟨Tryd.t81.desc, 3, 40, [.sn, .it .i64 (0 : Int), .it .u64 (0 : Int)]⟩
theorem ti81_ok : TyOK Tryd.prog 81 ti81 := TyOK.of (inf := Tryd.t81) Tryd.underlying81 (by kernel_rfl) (by kernel_rfl) (by kernel_rfl) (by kernel_rfl)
noncomputable def ti82 : TI := ⟨Tryd.t81.desc, 3, 40, [.sn, .it .i64 (0 : Int), .it .u64 (0 : Int)]⟩
theorem ti82_ok : TyOK Tryd.prog 82 ti82 := TyOK.of (inf := Tryd.t82) Tryd.underlying82 (by kernel_rfl) (by kernel_rfl) (by kernel_rfl) (by kernel_rfl)
noncomputable def ti83 : TI := ⟨Tryd.t83.desc, 1, 8, [.nf]⟩
theorem ti83_ok : TyOK Tryd.prog 83 ti83 := TyOK.of (inf := Tryd.t83) Tryd.underlying83 (by kernel_rfl) (by kernel_rfl) (by kernel_rfl) (by kernel_rfl)
noncomputable def ti84 : TI := ⟨Tryd.t84.desc, 1, 8, [.nf]⟩
theorem ti84_ok : TyOK Tryd.prog 84 ti84 := TyOK.of (inf := Tryd.t84) Tryd.underlying84 (by kernel_rfl) (by kernel_rfl) (by kernel_rfl) (by kernel_rfl)
noncomputable def ti85 : TI := ⟨Tryd.t85.desc, 1, 8, [.nf]⟩
theorem ti85_ok : TyOK Tryd.prog 85 ti85 := TyOK.of (inf := Tryd.t85) Tryd.underlying85 (by kernel_rfl) (by kernel_rfl) (by kernel_rfl) (by kernel_rfl)
noncomputable def ti86 : TI := ⟨Tryd.t86.desc, 1, 8, [.nf]⟩
theorem ti86_ok : TyOK Tryd.prog 86 ti86 := TyOK.of (inf := Tryd.t86) Tryd.underlying86 (by kernel_rfl) (by kernel_rfl) (by kernel_rfl) (by kernel_rfl)
noncomputable def ti87 : TI := ⟨Tryd.t87.desc, 1, 8, [.pn]⟩
theorem ti87_ok : TyOK Tryd.prog 87 ti87 := TyOK.of (inf := Tryd.t87) Tryd.underlying87 (by kernel_rfl) (by kernel_rfl) (by kernel_rfl) (by kernel_rfl)
noncomputable def ti88 : TI := ⟨Tryd.t88.desc, 1, 8, [.nf]⟩
theorem ti88_ok : TyOK Tryd.prog 88 ti88 := TyOK.of (inf := Tryd.t88) Tryd.underlying88 (by kernel_rfl) (by kernel_rfl) (by kernel_rfl) (by kernel_rfl)
noncomputable def ti89 : TI := ⟨Tryd.t89.desc, 1, 8, [.nf]⟩
theorem ti89_ok : TyOK Tryd.prog 89 ti89 := TyOK.of (inf := Tryd.t89) Tryd.underlying89 (by kernel_rfl) (by kernel_rfl) (by kernel_rfl) (by kernel_rfl)
noncomputable def ti90 : TI := ⟨Tryd.t90.desc, 1, 8, [.it .u64 (0 : Int)]⟩
theorem ti90_ok : TyOK Tryd.prog 90 ti90 := TyOK.of (inf := Tryd.t90) Tryd.underlying90 (by kernel_rfl) (by kernel_rfl) (by kernel_rfl) (by kernel_rfl)
noncomputable def ti91 : TI := ⟨Tryd.t91.desc, 1, 8, [.nf]⟩
theorem ti91_ok : TyOK Tryd.prog 91 ti91 := TyOK.of (inf := Tryd.t91) Tryd.underlying91 (by kernel_rfl) (by kernel_rfl) (by kernel_rfl) (by kernel_rfl)
noncomputable def ti92 : TI := ⟨Tryd.t92.desc, 1, 8, [.nf]⟩
theorem ti92_ok : TyOK Tryd.prog 92 ti92 := TyOK.of (inf := Tryd.t92) Tryd.underlying92 (by kernel_rfl) (by kernel_rfl) (by kernel_rfl) (by kernel_rfl)
noncomputable def ti93 : TI := ⟨Tryd.t93.desc, 1, 8, [.nf]⟩
theorem ti93_ok : TyOK Tryd.prog 93 ti93 := TyOK.of (inf := Tryd.t93) Tryd.underlying93 (by kernel_rfl) (by kernel_rfl) (by kernel_rfl) (by kernel_rfl)
noncomputable def ti94 : TI := ⟨Tryd.t94.desc, 1, 8, [.pn]⟩
theorem ti94_ok : TyOK Tryd.prog 94 ti94 := TyOK.of (inf := Tryd.t94) Tryd.underlying94 (by kernel_rfl) (by kernel_rfl) (by kernel_rfl) (by kernel_rfl)
noncomputable def ti95 : TI := ⟨Tryd.t95.desc, 2, 32, [.pn, .sn]⟩
theorem ti95_ok : TyOK Tryd.prog 95 ti95 := TyOK.of (inf := Tryd.t95) Tryd.underlying95 (by kernel_rfl) (by kernel_rfl) (by kernel_rfl) (by kernel_rfl)
noncomputable def ti96 : TI := ⟨Tryd.t95.desc, 2, 32, [.pn, .sn]⟩
theorem ti96_ok : TyOK Tryd.prog 96 ti96 := TyOK.of (inf := Tryd.t96) Tryd.underlying96 (by kernel_rfl) (by kernel_rfl) (by kernel_rfl) (by kernel_rfl)
noncomputable def ti97 : TI := ⟨Tryd.t97.desc, 1, 8, [.nf]⟩
theorem ti97_ok : TyOK Tryd.prog 97 ti97 := TyOK.of (inf := Tryd.t97) Tryd.underlying97 (by kernel_rfl) (by kernel_rfl) (by kernel_rfl) (by kernel_rfl)
noncomputable def ti101 : TI := ⟨Tryd.t101.desc, 1, 8, [.nf]⟩
theorem ti101_ok : TyOK Tryd.prog 101 ti101 := TyOK.of (inf := Tryd.t101) Tryd.underlying101 (by kernel_rfl) (by kernel_rfl) (by kernel_rfl) (by kernel_rfl)
noncomputable def ti102 : TI := ⟨Tryd.t102.desc, 1, 8, [.nf]⟩
theorem ti102_ok : TyOK Tryd.prog 102 ti102 := TyOK.of (inf := Tryd.t102) Tryd.underlying102 (by kernel_rfl) (by kernel_rfl) (by kernel_rfl) (by kernel_rfl)
noncomputable def ti103 : TI := ⟨Tryd.t103.desc, 1, 8, [.nf]⟩
theorem ti103_ok : TyOK Tryd.prog 103 ti103 := TyOK.of (inf := Tryd.t103) Tryd.underlying103 (by kernel_rfl) (by kernel_rfl) (by kernel_rfl) (by kernel_rfl)
noncomputable def ti105 : TI := ⟨Tryd.t105.desc, 1, 8, [.nf]⟩
theorem ti105_ok : TyOK Tryd.prog 105 ti105 := TyOK.of (inf := Tryd.t105) Tryd.underlying105 (by kernel_rfl) (by kernel_rfl) (by kernel_rfl) (by kernel_rfl)
noncomputable def ti106 : TI := ⟨Tryd.t106.desc, 1, 8, [.pn]⟩
theorem ti106_ok : TyOK Tryd.prog 106 ti106 := TyOK.of (inf := Tryd.t106) Tryd.underlying106 (by kernel_rfl) (by kernel_rfl) (by kernel_rfl) (by kernel_rfl)
noncomputable def ti107 : TI := ⟨Tryd.t107.desc, 1, 8, [.nf]⟩
theorem ti107_ok : TyOK Tryd.prog 107 ti107 := TyOK.of (inf := Tryd.t107) Tryd.underlying107 (by kernel_rfl) (by kernel_rfl) (by kernel_rfl) (by kernel_rfl)
noncomputable def ti108 : TI := ⟨Tryd.t108.desc, 1, 8, [.pn]⟩
theorem ti108_ok : TyOK Tryd.prog 108 ti108 := TyOK.of (inf := Tryd.t108) Tryd.underlying108 (by kernel_rfl) (by kernel_rfl) (by kernel_rfl) (by kernel_rfl)
noncomputable def ti109 : TI := ⟨Tryd.t109.desc, 1, 8, [.nf]⟩
theorem ti109_ok : TyOK Tryd.prog 109 ti109 := TyOK.of (inf := Tryd.t109) Tryd.underlying109 (by kernel_rfl) (by kernel_rfl) (by kernel_rfl) (by kernel_rfl)
noncomputable def ti110 : TI := ⟨Tryd.t110.desc, 1, 8, [.nf]⟩
theorem ti110_ok : TyOK Tryd.prog 110 ti110 := TyOK.of (inf := Tryd.t110) Tryd.underlying110 (by kernel_rfl) (by kernel_rfl) (by kernel_rfl) (by kernel_rfl)
noncomputable def ti111 : TI := ⟨Tryd.t111.desc, 256, 256, [.it .u8 (0 : Int), .it .u8 (0 : Int), .it .u8 (0 : Int), .it .u8 (0 : Int), .it .u8 (0 : Int), .it .u8 (0 : Int), .it .u8 (0 : Int), .it .u8 (0 : Int), .it .u8 (0 : Int), .it .u8 (0 : Int), .it .u8 (0 : Int), .it .u8 (0 : Int), .it .u8 (0 : Int), .it .u8 (0 : Int), .it .u8 (0 : Int), .it .u8 (0 : Int), .it .u8 (0 : Int), .it .u8 (0 : Int), .it .u8 (0 : Int), .it .u8 (0 : Int), .it .u8 (0 : Int), .it .u8 (0 : Int), .it .u8 (0 : Int), .it .u8 (0 : Int), .it .u8 (0 : Int), .it .u8 (0 : Int), .it .u8 (0 : Int), .it .u8 (0 : Int), .it .u8 (0 : Int), .it .u8 (0 : Int), .it .u8 (0 : Int), .it .u8 (0 : Int), .it .u8 (0 : Int), .it .u8 (0 : Int), .it .u8 (0 : Int), .it .u8 (0 : Int), .it .u8 (0 : Int), .it .u8 (0 : Int), .it .u8 (0 : Int), .it .u8 (0 : Int), .it .u8 (0 : Int), .it .u8 (0 : Int), .it .u8 (0 : Int), .it .u8 (0 : Int), .it .u8 (0 : Int), .it .u8 (0 : Int), .it .u8 (0 : Int), .it .u8 (0 : Int), .it .u8 (0 : Int), .it .u8 (0 : Int), .it .u8 (0 : Int), .it .u8 (0 : Int), .it .u8 (0 : Int), .it .u8 (0 : Int), .it .u8 (0 : Int), .it .u8 (0 : Int), .it .u8 (0 : Int), .it .u8 (0 : Int), .it .u8 (0 : Int), .it .u8 (0 : Int), .it .u8 (0 : Int), .it .u8 (0 : Int), .it .u8 (0 : Int), .it .u8 (0 : Int), .it .u8 (0 : Int), .it .u8 (0 : Int), .it .u8 (0 : Int), .it .u8 (0 : Int), .it .u8 (0 : Int), .it .u8 (0 : Int), .it .u8 (0 : Int), .it .u8 (0 : Int), .it .u8 (0 : Int), .it .u8 (0 : Int), .it .u8 (0 : Int), .it .u8 (0 : Int), .it .u8 (0 : Int), .it .u8 (0 : Int), .it .u8 (0 : Int), .it .u8 (0 : Int), .it .u8 (0 : Int), .it .u8 (0 : Int), .it .u8 (0 : Int), .it .u8 (0 : Int), .it .u8 (0 : Int), .it .u8 (0 : Int), .it .u8 (0 : Int), .it .u8 (0 : Int), .it .u8 (0 : Int), .it .u8 (0 : Int), .it .u8 (0 : Int), .it .u8 (0 : Int), .it .u8 (0 : Int), .it .u8 (0 : Int), .it .u8 (0 : Int), .it .u8 (0 : Int), .it .u8 (0 : Int), .it .u8 (0 : Int), .it .u8 (0 : Int), .it .u8 (0 : Int), .it .u8 (0 : Int), .it .u8 (0 : Int), .it .u8 (0 : Int), .it .u8 (0 : Int), .it .u8 (0 : Int), .it .u8 (0 : Int), .it .u8 (0 : Int), .it .u8 (0 : Int), .it .u8 (0 : Int), .it .u8 (0 : Int), .it .u8 (0 : Int), .it .u8 (0 : Int), .it .u8 (0 : Int), .it .u8 (0 : Int), .it .u8 (0 : Int), .it .u8 (0 : Int), .it .u8 (0 : Int), .it .u8 (0 : Int), .it .u8 (0 : Int), .it .u8 (0 : Int), .it .u8 (0 : Int), .it .u8 (0 : Int), .it .u8 (0 : Int), .it .u8 (0 : Int), .it .u8 (0 : Int), .it .u8 (0 : Int), .it .u8 (0 : Int), .it .u8 (0 : Int), .it .u8 (0 : Int), .it .u8 (0 : Int), .it .u8 (0 : Int), .it .u8 (0 : Int), .it .u8 (0 : Int), .it .u8 (0 : Int), .it .u8 (0 : Int), .it .u8 (0 : Int), .it .u8 (0 : Int), .it .u8 (0 : Int), .it .u8 (0 : Int), .it .u8 (0 : Int), .it .u8 (0 : Int), .it .u8 (0 : Int), .it .u8 (0 : Int), .it .u8 (0 : Int), .it .u8 (0 : Int), .it .u8 (0 : Int), .it .u8 (0 : Int), .it .u8 (0 : Int), .it .u8 (0 : Int), .it .u8 (0 : Int), .it .u8 (0 : Int), .it .u8 (0 : Int), .it .u8 (0 : Int), .it .u8 (0 : Int), .it .u8 (0 : Int), .it .u8 (0 : Int), .it .u8 (0 : Int), .it .u8 (0 : Int), .it .u8 (0 : Int), .it .u8 (0 : Int), .it .u8 (0 : Int), .it .u8 (0 : Int), .it .u8 (0 : Int), .it .u8 (0 : Int), .it .u8 (0 : Int), .it .u8 (0 : Int), .it .u8 (0 : Int), .it .u8 (0 : Int), .it .u8 (0 : Int), .it .u8 (0 : Int), .it .u8 (0 : Int), .it .u8 (0 : Int), .it .u8 (0 : Int), .it .u8 (0 : Int), .it .u8 (0 : Int), .it .u8 (0 : Int), .it .u8 (0 : Int), .it .u8 (0 : Int), .it .u8 (0 : Int), .it .u8 (0 : Int), .it .u8 (0 : Int), .it .u8 (0 : Int), .it .u8 (0 : Int), .it .u8 (0 : Int), .it .u8 (0 : Int), .it .u8 (0 : Int), .it .u8 (0 : Int), .it .u8 (0 : Int), .it .u8 (0 : Int), .it .u8 (0 : Int), .it .u8 (0 : Int), .it .u8 (0 : Int), .it .u8 (0 : Int), .it .u8 (0 : Int), .it .u8 (0 : Int), .it .u8 (0 : Int), .it .u8 (0 : Int), .it .u8 (0 : Int), .it .u8 (0 : Int), .it .u8 (0 : Int), .it .u8 (0 : Int), .it .u8 (0 : Int), .it .u8 (0 : Int), .it .u8 (0 : Int), .it .u8 (0 : Int), .it .u8 (0 : Int), .it .u8 (0 : Int), .it .u8 (0 : Int), .it .u8 (0 : Int), .it .u8 (0 : Int), .it .u8 (0 : Int), .it .u8 (0 : Int), .it .u8 (0 : Int), .it .u8 (0 : Int), .it .u8 (0 : Int), .it .u8 (0 : Int), .it .u8 (0 : Int), .it .u8 (0 : Int), .it .u8 (0 : Int), .it .u8 (0 : Int), .it .u8 (0 : Int), .it .u8 (0 : Int), .it .u8 (0 : Int), .it .u8 (0 : Int), .it .u8 (0 : Int), .it .u8 (0 : Int), .it .u8 (0 : Int), .it .u8 (0 : Int), .it .u8 (0 : Int), .it .u8 (0 : Int), .it .u8 (0 : Int), .it .u8 (0 : Int), .it .u8 (0 : Int), .it .u8 (0 : Int), .it .u8 (0 : Int), .it .u8 (0 : Int), .it .u8 (0 : Int), .it .u8 (0 : Int), .it .u8 (0 : Int), .it .u8 (0 : Int), .it .u8 (0 : Int), .it .u8 (0 : Int), .it .u8 (0 : Int), .it .u8 (0 : Int), .it .u8 (0 : Int), .it .u8 (0 : Int), .it .u8 (0 : Int), .it .u8 (0 : Int), .it .u8 (0 : Int), .it .u8 (0 : Int), .it .u8 (0 : Int), .it .u8 (0 : Int), .it .u8 (0 : Int), .it .u8 (0 : Int), .it .u8 (0 : Int), .it .u8 (0 : Int)]⟩
theorem ti111_ok : TyOK Tryd.prog 111 ti111 := TyOK.of (inf := Tryd.t111) Tryd.underlying111 (by kernel_rfl) (by kernel_rfl) (by kernel_rfl) (by kernel_rfl)
noncomputable def ti112 : TI := ⟨Tryd.t112.desc, 2, 2, [.it .u8 (0 : Int), .it .u8 (0 : Int)]⟩
theorem ti112_ok : TyOK Tryd.prog 112 ti112 := TyOK.of (inf := Tryd.t112) Tryd.underlying112 (by kernel_rfl) (by kernel_rfl) (by kernel_rfl) (by kernel_rfl)
noncomputable def ti113 : TI := ⟨Tryd.t112.desc, 2, 2, [.it .u8 (0 : Int), .it .u8 (0 : Int)]⟩
theorem ti113_ok : TyOK Tryd.prog 113 ti113 := TyOK.of (inf := Tryd.t113) Tryd.underlying113 (by kernel_rfl) (by kernel_rfl) (by kernel_rfl) (by kernel_rfl)
noncomputable def ti114 : TI := ⟨Tryd.t114.desc, 32, 32, [.it .u8 (0 : Int), .it .u8 (0 : Int), .it .u8 (0 : Int), .it .u8 (0 : Int), .it .u8 (0 : Int), .it .u8 (0 : Int), .it .u8 (0 : Int), .it .u8 (0 : Int), .it .u8 (0 : Int), .it .u8 (0 : Int), .it .u8 (0 : Int), .it .u8 (0 : Int), .it .u8 (0 : Int), .it .u8 (0 : Int), .it .u8 (0 : Int), .it .u8 (0 : Int), .it .u8 (0 : Int), .it .u8 (0 : Int), .it .u8 (0 : Int), .it .u8 (0 : Int), .it .u8 (0 : Int), .it .u8 (0 : Int), .it .u8 (0 : Int), .it .u8 (0 : Int), .it .u8 (0 : Int), .it .u8 (0 : Int), .it .u8 (0 : Int), .it .u8 (0 : Int), .it .u8 (0 : Int), .it .u8 (0 : Int), .it .u8 (0 : Int), .it .u8 (0 : Int)]⟩
theorem ti114_ok : TyOK Tryd.prog 114 ti114 := TyOK.of (inf := Tryd.t114) Tryd.underlying114 (by kernel_rfl) (by kernel_rfl) (by kernel_rfl) (by kernel_rfl)
noncomputable def ti116 : TI := ⟨Tryd.t116.desc, 1, 8, [.nf]⟩
theorem ti116_ok : TyOK Tryd.prog 116 ti116 := TyOK.of (inf := Tryd.t116) Tryd.underlying116 (by kernel_rfl) (by kernel_rfl) (by kernel_rfl) (by kernel_rfl)
noncomputable def ti117 : TI := ⟨Tryd.t117.desc, 4, 40, [.pn, .pn, .pn, .st (ByteArray.mk #[])]⟩
theorem ti117_ok : TyOK Tryd.prog 117 ti117 := TyOK.of (inf := Tryd.t117) Tryd.underlying117 (by kernel_rfl) (by kernel_rfl) (by kernel_rfl) (by kernel_rfl)
noncomputable def ti118 : TI := ⟨Tryd.t117.desc, 4, 40, [.pn, .pn, .pn, .st (ByteArray.mk #[])]⟩
theorem ti118_ok : TyOK Tryd.prog 118 ti118 := TyOK.of (inf := Tryd.t118) Tryd.underlying118 (by kernel_rfl) (by kernel_rfl) (by kernel_rfl) (by kernel_rfl)
noncomputable def ti119 : TI := ⟨Tryd.t119.desc, 0, 0, []⟩
theorem ti119_ok : TyOK Tryd.prog 119 ti119 := TyOK.of (inf := Tryd.t119) Tryd.underlying119 (by kernel_rfl) (by kernel_rfl) (by kernel_rfl) (by kernel_rfl)
noncomputable def ti120 : TI := ⟨Tryd.t120.desc, 0, 0, []⟩
theorem ti120_ok : TyOK Tryd.prog 120 ti120 := TyOK.of (inf := Tryd.t120) Tryd.underlying120 (by kernel_rfl) (by kernel_rfl) (by kernel_rfl) (by kernel_rfl)
noncomputable def ti121 : TI := ⟨Tryd.t120.desc, 0, 0, []⟩
theorem ti121_ok : TyOK Tryd.prog 121 ti121 := TyOK.of (inf := Tryd.t121) Tryd.underlying121 (by kernel_rfl) (by kernel_rfl) (by kernel_rfl) (by kernel_rfl)
noncomputable def ti122 : TI := ⟨Tryd.t122.desc, 1, 8, [.nf]⟩
theorem ti122_ok : TyOK Tryd.prog 122 ti122 := TyOK.of (inf := Tryd.t122) Tryd.underlying122 (by kernel_rfl) (by kernel_rfl) (by kernel_rfl) (by kernel_rfl)
noncomputable def ti123 : TI := ⟨Tryd.t5.desc, 1, 1, [.it .u8 (0 : Int)]⟩
theorem ti123_ok : TyOK Tryd.prog 123 ti123 := TyOK.of (inf := Tryd.t123) Tryd.underlying123 (by kernel_rfl) (by kernel_rfl) (by kernel_rfl) (by kernel_rfl)
noncomputable def ti124 : TI := ⟨Tryd.t5.desc, 1, 1, [.it .u8 (0 : Int)]⟩
theorem ti124_ok : TyOK Tryd.prog 124 ti124 := TyOK.of (inf := Tryd.t124) Tryd.underlying124 (by kernel_rfl) (by kernel_rfl) (by kernel_rfl) (by kernel_rfl)
noncomputable def ti125 : TI := ⟨Tryd.t125.desc, 1, 8, [.nf]⟩
theorem ti125_ok : TyOK Tryd.prog 125 ti125 := TyOK.of (inf := Tryd.t125) Tryd.underlying125 (by kernel_rfl) (by kernel_rfl) (by kernel_rfl) (by kernel_rfl)
noncomputable def ti126 : TI := ⟨Tryd.t21.desc, 1, 4, [.it .i32 (0 : Int)]⟩
theorem ti126_ok : TyOK Tryd.prog 126 ti126 := TyOK.of (inf := Tryd.t126) Tryd.underlying126 (by kernel_rfl) (by kernel_rfl) (by kernel_rfl) (by kernel_rfl)
noncomputable def ti127 : TI := ⟨Tryd.t21.desc, 1, 4, [.it .i32 (0 : Int)]⟩
theorem ti127_ok : TyOK Tryd.prog 127 ti127 := TyOK.of (inf := Tryd.t127) Tryd.underlying127 (by kernel_rfl) (by kernel_rfl) (by kernel_rfl) (by kernel_rfl)
noncomputable def ti128 : TI := ⟨Tryd.t128.desc, 11, 48, [.it .u64 (0 : Int), .it .u64 (0 : Int), .it .u32 (0 : Int), .it .u8 (0 : Int), .it .u8 (0 : Int), .it .u8 (0 : Int), .it .u8 (0 : Int), .nf, .pn, .it .i32 (0 : Int), .it .i32 (0 : Int)]⟩
theorem ti128_ok : TyOK Tryd.prog 128 ti128 := TyOK.of (inf := Tryd.t128) Tryd.underlying128 (by kernel_rfl) (by kernel_rfl) (by kernel_rfl) (by kernel_rfl)
noncomputable def ti129 : TI := ⟨Tryd.t128.desc, 11, 48, [.it .u64 (0 : Int), .it .u64 (0 : Int), .it .u32 (0 : Int), .it .u8 (0 : Int), .it .u8 (0 : Int), .it .u8 (0 : Int), .it .u8 (0 : Int), .nf, .pn, .it .i32 (0 : Int), .it .i32 (0 : Int)]⟩
theorem ti129_ok : TyOK Tryd.prog 129 ti129 := TyOK.of (inf := Tryd.t129) Tryd.underlying129 (by kernel_rfl) (by kernel_rfl) (by kernel_rfl) (by kernel_rfl)
noncomputable def ti130 : TI := ⟨Tryd.t130.desc, 1, 8, [.nf]⟩
theorem ti130_ok : TyOK Tryd.prog 130 ti130 := TyOK.of (inf := Tryd.t130) Tryd.underlying130 (by kernel_rfl) (by kernel_rfl) (by kernel_rfl) (by kernel_rfl)
noncomputable def tys : List (Nat × TI) := [(1, ti1), (2, ti2), (3, ti3), (4, ti4), (5, ti5), (6, ti6), (7, ti7), (8, ti8), (9, ti9), (10, ti10), (11, ti11), (12, ti12), (13, ti13), (14, ti14), (15, ti15), (16, ti16), (17, ti17), (18, ti18), (19, ti19), (21, ti21), (22, ti22), (23, ti23), (24, ti24), (26, ti26), (27, ti27), (28, ti28), (29, ti29), (30, ti30), (31, ti31), (32, ti32), (33, ti33), (35, ti35), (36, ti36), (37, ti37), (38, ti38), (39, ti39), (40, ti40), (42, ti42), (43, ti43), (44, ti44), (45, ti45), (46, ti46), (47, ti47), (48, ti48), (50, ti50), (52, ti52), (53, ti53), (54, ti54), (55, ti55), (56, ti56), (57, ti57), (58, ti58), (59, ti59), (60, ti60), (61, ti61), (62, ti62), (63, ti63), (64, ti64), (65, ti65), (66, ti66), (67, ti67), (68, ti68), (69, ti69), (70, ti70), (71, ti71), (72, ti72), (73, ti73), (74, ti74), (75, ti75), (76, ti76), (77, ti77), (78, ti78), (79, ti79), (80, ti80), (81, ti81), (82, ti82), (83, ti83), (84, ti84), (85, ti85), (86, ti86), (87, ti87), (88, ti88), (89, ti89), (90, ti90), (91, ti91), (92, ti92), (93, ti93), (94, ti94), (95, ti95), (96, ti96), (97, ti97), (101, ti101), (102, ti102), (103, ti103), (105, ti105), (106, ti106), (107, ti107), (108, ti108), (109, ti109), (110, ti110), (111, ti111), (112, ti112), (113, ti113), (114, ti114), (116, ti116), (117, ti117), (118, ti118), (119, ti119), (120, ti120), (121, ti121), (122, ti122), (123, ti123), (124, ti124), (125, ti125), (126, ti126), (127, ti127), (128, ti128), (129, ti129), (130, ti130)]
theorem mo : Tryd.prog.follows .mixedOrders = true := by kernel_rfl
theorem tys_ok : TysOK Tryd.prog tys := (TysOK.cons ti1_ok (TysOK.cons ti2_ok (TysOK.cons ti3_ok (TysOK.cons ti4_ok (TysOK.cons ti5_ok (TysOK.cons ti6_ok (TysOK.cons ti7_ok (TysOK.cons ti8_ok (TysOK.cons ti9_ok (TysOK.cons ti10_ok (TysOK.cons ti11_ok (TysOK.cons ti12_ok (TysOK.cons ti13_ok (TysOK.cons ti14_ok (TysOK.cons ti15_ok (TysOK.cons ti16_ok (TysOK.cons ti17_ok (TysOK.cons ti18_ok (TysOK.cons ti19_ok (TysOK.cons ti21_ok (TysOK.cons ti22_ok (TysOK.cons ti23_ok (TysOK.cons ti24_ok (TysOK.cons ti26_ok (TysOK.cons ti27_ok (TysOK.cons ti28_ok (TysOK.cons ti29_ok (TysOK.cons ti30_ok (TysOK.cons ti31_ok (TysOK.cons ti32_ok (TysOK.cons ti33_ok (TysOK.cons ti35_ok (TysOK.cons ti36_ok (TysOK.cons ti37_ok (TysOK.cons ti38_ok (TysOK.cons ti39_ok (TysOK.cons ti40_ok (TysOK.cons ti42_ok (TysOK.cons ti43_ok (TysOK.cons ti44_ok (TysOK.cons ti45_ok (TysOK.cons ti46_ok (TysOK.cons ti47_ok (TysOK.cons ti48_ok (TysOK.cons ti50_ok (TysOK.cons ti52_ok (TysOK.cons ti53_ok (TysOK.cons ti54_ok (TysOK.cons ti55_ok (TysOK.cons ti56_ok (TysOK.cons ti57_ok (TysOK.cons ti58_ok (TysOK.cons ti59_ok (TysOK.cons ti60_ok (TysOK.cons ti61_ok (TysOK.cons ti62_ok (TysOK.cons ti63_ok (TysOK.cons ti64_ok (TysOK.cons ti65_ok (TysOK.cons ti66_ok (TysOK.cons ti67_ok (TysOK.cons ti68_ok (TysOK.cons ti69_ok (TysOK.cons ti70_ok (TysOK.cons ti71_ok (TysOK.cons ti72_ok (TysOK.cons ti73_ok (TysOK.cons ti74_ok (TysOK.cons ti75_ok (TysOK.cons ti76_ok (TysOK.cons ti77_ok (TysOK.cons ti78_ok (TysOK.cons ti79_ok (TysOK.cons ti80_ok (TysOK.cons ti81_ok (TysOK.cons ti82_ok (TysOK.cons ti83_ok (TysOK.cons ti84_ok (TysOK.cons ti85_ok (TysOK.cons ti86_ok (TysOK.cons ti87_ok (TysOK.cons ti88_ok (TysOK.cons ti89_ok (TysOK.cons ti90_ok (TysOK.cons ti91_ok (TysOK.cons ti92_ok (TysOK.cons ti93_ok (TysOK.cons ti94_ok (TysOK.cons ti95_ok (TysOK.cons ti96_ok (TysOK.cons ti97_ok (TysOK.cons ti101_ok (TysOK.cons ti102_ok (TysOK.cons ti103_ok (TysOK.cons ti105_ok (TysOK.cons ti106_ok (TysOK.cons ti107_ok (TysOK.cons ti108_ok (TysOK.cons ti109_ok (TysOK.cons ti110_ok (TysOK.cons ti111_ok (TysOK.cons ti112_ok (TysOK.cons ti113_ok (TysOK.cons ti114_ok (TysOK.cons ti116_ok (TysOK.cons ti117_ok (TysOK.cons ti118_ok (TysOK.cons ti119_ok (TysOK.cons ti120_ok (TysOK.cons ti121_ok (TysOK.cons ti122_ok (TysOK.cons ti123_ok (TysOK.cons ti124_ok (TysOK.cons ti125_ok (TysOK.cons ti126_ok (TysOK.cons ti127_ok (TysOK.cons ti128_ok (TysOK.cons ti129_ok (TysOK.cons ti130_ok TysOK.nil)))))))))))))))))))))))))))))))))))))))))))))))))))))))))))))))))))))))))))))))))))))))))))))))))))))))))))))))))))))))
/-! ### laws_f6big -/
noncomputable def laws_f6big.b : Code := bodyOf Tryd.f8
noncomputable def laws_f6big.C : Ctx := { ty := tys, fn := [], lp := [], n := 6, k := 2 }
theorem laws_f6big.hC : CtxOK Tryd.prog laws_f6big.C := CtxOK.of mo tys_ok FnsOK.nil
theorem laws_f6big.lp : LpOK Tryd.prog laws_f6big.C laws_f6big.b := (LpOK.nil (by kernel_rfl))
noncomputable def laws_f6big.t (x0 : Nat) (x1 : Int) (x2 : List Int) : T Bool :=
  .leaf (decide (((x0 : Nat) : Int) > (4096 : Int)))
noncomputable def laws_f6big (x0 : Nat) (x1 : Int) (x2 : List Int) : Bool := (laws_f6big.t x0 x1 x2).val
def laws_f6big.cd : Cd (Nat × Int × List Int) (List V × Hp) := Cd.iso (Cd.pair (Cd.cons (Cd.sl 1 (Cd.natc 0)) Cd.nil) (Cd.cons (Cd.ro 0 2 (Cd.vs (Cd.cons (Cd.it .i64) Cd.nil))) (Cd.cons (Cd.ro 0 0 (Cd.is .u8)) Cd.nil))) (fun a => (a.1.1.2, a.2.1.1, a.2.2.1)) (fun a => ((((), a.1), ()), ((a.2.1, ()), (a.2.2, ())))) (fun _ => rfl)
noncomputable def laws_f6big.tr (a : Nat × Int × List Int) : T Bool := laws_f6big.t a.1 a.2.1 a.2.2
def laws_f6big.enc : (Nat × Int × List Int) → Bool → V := fun a r => .bo r
noncomputable def laws_f6big.c : List V → Hp → T V := cdQ laws_f6big.cd (fun a => .leaf (laws_f6big.enc a (laws_f6big a.1 a.2.1 a.2.2)))
theorem laws_f6big.run (a : Nat × Int × List Int) : runF laws_f6big.C Tryd.f8.results.toList laws_f6big.b (laws_f6big.cd.enc a).1 (laws_f6big.cd.enc a).2 = (laws_f6big.tr a).map fun r => (laws_f6big.enc a r, (laws_f6big.cd.enc a).2) := by kernel_rfl
theorem laws_f6big.cok : OKq Tryd.prog 8 laws_f6big.c := con_q' laws_f6big.cd laws_f6big.hC Tryd.func8 (by kernel_rfl) (by kernel_rfl) (by kernel_rfl) laws_f6big.lp (fun a => by kernel_rfl) laws_f6big.run (Tells.val (tree := laws_f6big.tr) fun a => by kernel_rfl)
/-! ### spec_l00From -/
noncomputable def spec_l00From.b : Code := bodyOf Tryd.f35
noncomputable def spec_l00From.C : Ctx := { ty := tys, fn := [], lp := [], n := 6, k := 1 }
theorem spec_l00From.hC : CtxOK Tryd.prog spec_l00From.C := CtxOK.of mo tys_ok FnsOK.nil
theorem spec_l00From.lp : LpOK Tryd.prog spec_l00From.C spec_l00From.b := (LpOK.nil (by kernel_rfl))
noncomputable def spec_l00From.t (x0 : Nat) (x1 : List Int) : T (Nat × Int × Int) :=
  .leaf (x0, (0 : Int), (0 : Int))
noncomputable def spec_l00From (x0 : Nat) (x1 : List Int) : Nat × Int × Int := (spec_l00From.t x0 x1).val
def spec_l00From.cd : Cd (Nat × List Int) (List V × Hp) := Cd.iso (Cd.pair (Cd.cons (Cd.sl 0 (Cd.natc 0)) Cd.nil) (Cd.cons (Cd.ro 0 0 (Cd.is .u8)) Cd.nil)) (fun a => (a.1.1.2, a.2.1)) (fun a => ((((), a.1), ()), (a.2, ()))) (fun _ => rfl)
noncomputable def spec_l00From.tr (a : Nat × List Int) : T (Nat × Int × Int) := spec_l00From.t a.1 a.2
def spec_l00From.enc : (Nat × List Int) → (Nat × Int × Int) → V × Hp := fun a r => (.pt 1 0, [some ⟨false, 0, 0, .is .u8 a.2⟩, some ⟨true, 82, 3, .vs [.sl 0 0 r.1, .it .i64 r.2.1, .it .u64 r.2.2]⟩])
noncomputable def spec_l00From.c : List V → Hp → T (V × Hp) := cdE spec_l00From.cd (fun a => .leaf (spec_l00From.enc a (spec_l00From a.1 a.2)))
theorem spec_l00From.run (a : Nat × List Int) : runF spec_l00From.C Tryd.f35.results.toList spec_l00From.b (spec_l00From.cd.enc a).1 (spec_l00From.cd.enc a).2 = (spec_l00From.tr a).map (spec_l00From.enc a) := by kernel_rfl
theorem spec_l00From.cok : OKe Tryd.prog 35 spec_l00From.c := con_e' spec_l00From.cd spec_l00From.hC Tryd.func35 (by kernel_rfl) (by kernel_rfl) (by kernel_rfl) spec_l00From.lp (fun a => by kernel_rfl) spec_l00From.run (Tells.val (tree := spec_l00From.tr) fun a => by kernel_rfl)
/-! ### spec_l00Src_next -/
noncomputable def spec_l00Src_next.b : Code := bodyOf Tryd.f69
noncomputable def spec_l00Src_next.C : Ctx := { ty := tys, fn := [], lp := [], n := 62, k := 2 }
theorem spec_l00Src_next.hC : CtxOK Tryd.prog spec_l00Src_next.C := CtxOK.of mo tys_ok FnsOK.nil
theorem spec_l00Src_next.lp : LpOK Tryd.prog spec_l00Src_next.C spec_l00Src_next.b := (LpOK.nil (by kernel_rfl))
noncomputable def spec_l00Src_next.t (x0 : Nat) (x1 : Int) (x2 : Int) (x3 : List Int) : T (Int × Nat × Int × Int) :=
  .br (decide (x1 < ((x0 : Nat) : Int)))
  (.br (bounds x1 x0)
   (.br (Nat.ble ((0 + (Int.toNat x1 * 1)) + 1) (List.length x3))
    (.br (decide ((IntKind.wrap .i64 (x1 + (1 : Int))) ≤ ((x0 : Nat) : Int)))
     (.leaf ((IntKind.wrap .i64 (List.getD x3 (0 + (Int.toNat x1 * 1)) 0)), x0, (IntKind.wrap .i64 (x1 + (1 : Int))), (IntKind.wrap .u64 ((IntKind.wrap .u64 ((IntKind.wrap .u64 (x2 * (6364136223846793005 : Int))) + (IntKind.wrap .u64 (IntKind.wrap .i64 (List.getD x3 (0 + (Int.toNat x1 * 1)) 0))))) + (1442695040888963407 : Int)))))
     (.leaf ((IntKind.wrap .i64 (ibits .and .u64 (Int.fdiv (IntKind.wrap .u64 ((IntKind.wrap .u64 ((IntKind.wrap .u64 (x2 * (6364136223846793005 : Int))) + (IntKind.wrap .u64 (IntKind.wrap .i64 (List.getD x3 (0 + (Int.toNat x1 * 1)) 0))))) + (1442695040888963407 : Int))) (2 ^ min (Int.toNat (40 : Int)) 64)) (255 : Int))), x0, (IntKind.wrap .i64 (x1 + (1 : Int))), (IntKind.wrap .u64 ((IntKind.wrap .u64 ((IntKind.wrap .u64 (x2 * (6364136223846793005 : Int))) + (IntKind.wrap .u64 (IntKind.wrap .i64 (List.getD x3 (0 + (Int.toNat x1 * 1)) 0))))) + (1442695040888963407 : Int))))))
    .bad)
   .bad)
  (.br (decide ((IntKind.wrap .i64 (x1 + (1 : Int))) ≤ ((x0 : Nat) : Int)))
   (.leaf ((0 : Int), x0, (IntKind.wrap .i64 (x1 + (1 : Int))), (IntKind.wrap .u64 ((IntKind.wrap .u64 ((IntKind.wrap .u64 (x2 * (6364136223846793005 : Int))) + (IntKind.wrap .u64 (0 : Int)))) + (1442695040888963407 : Int)))))
   (.leaf ((IntKind.wrap .i64 (ibits .and .u64 (Int.fdiv (IntKind.wrap .u64 ((IntKind.wrap .u64 ((IntKind.wrap .u64 (x2 * (6364136223846793005 : Int))) + (IntKind.wrap .u64 (0 : Int)))) + (1442695040888963407 : Int))) (2 ^ min (Int.toNat (40 : Int)) 64)) (255 : Int))), x0, (IntKind.wrap .i64 (x1 + (1 : Int))), (IntKind.wrap .u64 ((IntKind.wrap .u64 ((IntKind.wrap .u64 (x2 * (6364136223846793005 : Int))) + (IntKind.wrap .u64 (0 : Int)))) + (1442695040888963407 : Int))))))
noncomputable def spec_l00Src_next (x0 : Nat) (x1 : Int) (x2 : Int) (x3 : List Int) : Int × Nat × Int × Int := (spec_l00Src_next.t x0 x1 x2 x3).val
noncomputable def spec_l00Src_next.ok (x0 : Nat) (x1 : Int) (x2 : Int) (x3 : List Int) : Bool := (spec_l00Src_next.t x0 x1 x2 x3).ok
def spec_l00Src_next.cd : Cd (Nat × Int × Int × List Int) (List V × Hp) := Cd.iso (Cd.pair (Cd.cons (Cd.pt 0 (Cd.natc 0)) Cd.nil) (Cd.cons (Cd.rw 82 3 (Cd.vs (Cd.cons (Cd.sl 1 (Cd.natc 0)) (Cd.cons (Cd.it .i64) (Cd.cons (Cd.it .u64) Cd.nil))))) (Cd.cons (Cd.ro 0 0 (Cd.is .u8)) Cd.nil))) (fun a => (a.2.1.1.2, a.2.1.2.1, a.2.1.2.2.1, a.2.2.1)) (fun a => (((), ()), ((((), a.1), (a.2.1, (a.2.2.1, ()))), (a.2.2.2, ())))) (fun _ => rfl)
noncomputable def spec_l00Src_next.tr (a : Nat × Int × Int × List Int) : T (Int × Nat × Int × Int) := spec_l00Src_next.t a.1 a.2.1 a.2.2.1 a.2.2.2
def spec_l00Src_next.enc : (Nat × Int × Int × List Int) → (Int × Nat × Int × Int) → V × Hp := fun a r => (.it .i64 r.1, [some ⟨true, 82, 3, .vs [.sl 1 0 r.2.1, .it .i64 r.2.2.1, .it .u64 r.2.2.2]⟩, some ⟨false, 0, 0, .is .u8 a.2.2.2⟩])
noncomputable def spec_l00Src_next.c : List V → Hp → T (V × Hp) := cdE spec_l00Src_next.cd (fun a => .br (spec_l00Src_next.ok a.1 a.2.1 a.2.2.1 a.2.2.2) (.leaf (spec_l00Src_next.enc a (spec_l00Src_next a.1 a.2.1 a.2.2.1 a.2.2.2))) .bad)
theorem spec_l00Src_next.run (a : Nat × Int × Int × List Int) : runF spec_l00Src_next.C Tryd.f69.results.toList spec_l00Src_next.b (spec_l00Src_next.cd.enc a).1 (spec_l00Src_next.cd.enc a).2 = (spec_l00Src_next.tr a).map (spec_l00Src_next.enc a) := by kernel_rfl
theorem spec_l00Src_next.cok : OKe Tryd.prog 69 spec_l00Src_next.c := con_e' spec_l00Src_next.cd spec_l00Src_next.hC Tryd.func69 (by kernel_rfl) (by kernel_rfl) (by kernel_rfl) spec_l00Src_next.lp (fun a => by kernel_rfl) spec_l00Src_next.run (Tells.ok (tree := spec_l00Src_next.tr))
/-! ### spec_l00Src_pick -/
noncomputable def spec_l00Src_pick.b : Code := bodyOf Tryd.f36
noncomputable def spec_l00Src_pick.C : Ctx := { ty := tys, fn := [(69, .e spec_l00Src_next.c)], lp := [], n := 20, k := 2 }
theorem spec_l00Src_pick.hC : CtxOK Tryd.prog spec_l00Src_pick.C := CtxOK.of mo tys_ok (FnsOK.cons spec_l00Src_next.cok FnsOK.nil)
theorem spec_l00Src_pick.lp : LpOK Tryd.prog spec_l00Src_pick.C spec_l00Src_pick.b := (LpOK.nil (by kernel_rfl))
noncomputable def spec_l00Src_pick.t (x0 : Int) (x1 : Nat) (x2 : Int) (x3 : Int) (x4 : List Int) : T (Int × Nat × Int × Int) :=
  .br (decide (x0 ≤ (1 : Int)))
  (.leaf ((0 : Int), x1, x2, x3))
  (.br (spec_l00Src_next.ok x1 x2 x3 x4)
   (.br (decide (x0 > (200 : Int)))
    (.br (spec_l00Src_next.ok ((spec_l00Src_next x1 x2 x3 x4).2.1) ((spec_l00Src_next x1 x2 x3 x4).2.2.1) ((spec_l00Src_next x1 x2 x3 x4).2.2.2) x4)
     (.br (x0 == 0)
      .bad
      (.leaf ((Int.tmod (IntKind.wrap .i64 ((IntKind.wrap .i64 ((spec_l00Src_next x1 x2 x3 x4).1 * (256 : Int))) + (spec_l00Src_next ((spec_l00Src_next x1 x2 x3 x4).2.1) ((spec_l00Src_next x1 x2 x3 x4).2.2.1) ((spec_l00Src_next x1 x2 x3 x4).2.2.2) x4).1)) x0), (spec_l00Src_next ((spec_l00Src_next x1 x2 x3 x4).2.1) ((spec_l00Src_next x1 x2 x3 x4).2.2.1) ((spec_l00Src_next x1 x2 x3 x4).2.2.2) x4).2.1, (spec_l00Src_next ((spec_l00Src_next x1 x2 x3 x4).2.1) ((spec_l00Src_next x1 x2 x3 x4).2.2.1) ((spec_l00Src_next x1 x2 x3 x4).2.2.2) x4).2.2.1, (spec_l00Src_next ((spec_l00Src_next x1 x2 x3 x4).2.1) ((spec_l00Src_next x1 x2 x3 x4).2.2.1) ((spec_l00Src_next x1 x2 x3 x4).2.2.2) x4).2.2.2)))
     .bad)
    (.br (x0 == 0)
     .bad
     (.leaf ((Int.tmod (spec_l00Src_next x1 x2 x3 x4).1 x0), (spec_l00Src_next x1 x2 x3 x4).2.1, (spec_l00Src_next x1 x2 x3 x4).2.2.1, (spec_l00Src_next x1 x2 x3 x4).2.2.2))))
   .bad)
noncomputable def spec_l00Src_pick (x0 : Int) (x1 : Nat) (x2 : Int) (x3 : Int) (x4 : List Int) : Int × Nat × Int × Int := (spec_l00Src_pick.t x0 x1 x2 x3 x4).val
noncomputable def spec_l00Src_pick.ok (x0 : Int) (x1 : Nat) (x2 : Int) (x3 : Int) (x4 : List Int) : Bool := (spec_l00Src_pick.t x0 x1 x2 x3 x4).ok
def spec_l00Src_pick.cd : Cd (Int × Nat × Int × Int × List Int) (List V × Hp) := Cd.iso (Cd.pair (Cd.cons (Cd.pt 0 (Cd.natc 0)) (Cd.cons (Cd.it .i64) Cd.nil)) (Cd.cons (Cd.rw 82 3 (Cd.vs (Cd.cons (Cd.sl 1 (Cd.natc 0)) (Cd.cons (Cd.it .i64) (Cd.cons (Cd.it .u64) Cd.nil))))) (Cd.cons (Cd.ro 0 0 (Cd.is .u8)) Cd.nil))) (fun a => (a.1.2.1, a.2.1.1.2, a.2.1.2.1, a.2.1.2.2.1, a.2.2.1)) (fun a => (((), (a.1, ())), ((((), a.2.1), (a.2.2.1, (a.2.2.2.1, ()))), (a.2.2.2.2, ())))) (fun _ => rfl)
noncomputable def spec_l00Src_pick.tr (a : Int × Nat × Int × Int × List Int) : T (Int × Nat × Int × Int) := spec_l00Src_pick.t a.1 a.2.1 a.2.2.1 a.2.2.2.1 a.2.2.2.2
def spec_l00Src_pick.enc : (Int × Nat × Int × Int × List Int) → (Int × Nat × Int × Int) → V × Hp := fun a r => (.it .i64 r.1, [some ⟨true, 82, 3, .vs [.sl 1 0 r.2.1, .it .i64 r.2.2.1, .it .u64 r.2.2.2]⟩, some ⟨false, 0, 0, .is .u8 a.2.2.2.2⟩])
noncomputable def spec_l00Src_pick.c : List V → Hp → T (V × Hp) := cdE spec_l00Src_pick.cd (fun a => .br (spec_l00Src_pick.ok a.1 a.2.1 a.2.2.1 a.2.2.2.1 a.2.2.2.2) (.leaf (spec_l00Src_pick.enc a (spec_l00Src_pick a.1 a.2.1 a.2.2.1 a.2.2.2.1 a.2.2.2.2))) .bad)
theorem spec_l00Src_pick.run (a : Int × Nat × Int × Int × List Int) : runF spec_l00Src_pick.C Tryd.f36.results.toList spec_l00Src_pick.b (spec_l00Src_pick.cd.enc a).1 (spec_l00Src_pick.cd.enc a).2 = (spec_l00Src_pick.tr a).map (spec_l00Src_pick.enc a) := by kernel_rfl
theorem spec_l00Src_pick.cok : OKe Tryd.prog 36 spec_l00Src_pick.c := con_e' spec_l00Src_pick.cd spec_l00Src_pick.hC Tryd.func36 (by kernel_rfl) (by kernel_rfl) (by kernel_rfl) spec_l00Src_pick.lp (fun a => by kernel_rfl) spec_l00Src_pick.run (Tells.ok (tree := spec_l00Src_pick.tr))
/-! ### spec_l00Src_one -/
noncomputable def spec_l00Src_one.b : Code := bodyOf Tryd.f68
noncomputable def spec_l00Src_one.C : Ctx := { ty := tys, fn := [(36, .e spec_l00Src_pick.c)], lp := [], n := 9, k := 2 }
theorem spec_l00Src_one.hC : CtxOK Tryd.prog spec_l00Src_one.C := CtxOK.of mo tys_ok (FnsOK.cons spec_l00Src_pick.cok FnsOK.nil)
theorem spec_l00Src_one.lp : LpOK Tryd.prog spec_l00Src_one.C spec_l00Src_one.b := (LpOK.nil (by kernel_rfl))
noncomputable def spec_l00Src_one.t (x0 : Int) (x1 : Nat) (x2 : Int) (x3 : Int) (x4 : List Int) : T (Bool × Nat × Int × Int) :=
  .br (spec_l00Src_pick.ok x0 x1 x2 x3 x4)
  (.leaf (((spec_l00Src_pick x0 x1 x2 x3 x4).1 == (0 : Int)), (spec_l00Src_pick x0 x1 x2 x3 x4).2.1, (spec_l00Src_pick x0 x1 x2 x3 x4).2.2.1, (spec_l00Src_pick x0 x1 x2 x3 x4).2.2.2))
  .bad
noncomputable def spec_l00Src_one (x0 : Int) (x1 : Nat) (x2 : Int) (x3 : Int) (x4 : List Int) : Bool × Nat × Int × Int := (spec_l00Src_one.t x0 x1 x2 x3 x4).val
noncomputable def spec_l00Src_one.ok (x0 : Int) (x1 : Nat) (x2 : Int) (x3 : Int) (x4 : List Int) : Bool := (spec_l00Src_one.t x0 x1 x2 x3 x4).ok
def spec_l00Src_one.cd : Cd (Int × Nat × Int × Int × List Int) (List V × Hp) := Cd.iso (Cd.pair (Cd.cons (Cd.pt 0 (Cd.natc 0)) (Cd.cons (Cd.it .i64) Cd.nil)) (Cd.cons (Cd.rw 82 3 (Cd.vs (Cd.cons (Cd.sl 1 (Cd.natc 0)) (Cd.cons (Cd.it .i64) (Cd.cons (Cd.it .u64) Cd.nil))))) (Cd.cons (Cd.ro 0 0 (Cd.is .u8)) Cd.nil))) (fun a => (a.1.2.1, a.2.1.1.2, a.2.1.2.1, a.2.1.2.2.1, a.2.2.1)) (fun a => (((), (a.1, ())), ((((), a.2.1), (a.2.2.1, (a.2.2.2.1, ()))), (a.2.2.2.2, ())))) (fun _ => rfl)
noncomputable def spec_l00Src_one.tr (a : Int × Nat × Int × Int × List Int) : T (Bool × Nat × Int × Int) := spec_l00Src_one.t a.1 a.2.1 a.2.2.1 a.2.2.2.1 a.2.2.2.2
def spec_l00Src_one.enc : (Int × Nat × Int × Int × List Int) → (Bool × Nat × Int × Int) → V × Hp := fun a r => (.bo r.1, [some ⟨true, 82, 3, .vs [.sl 1 0 r.2.1, .it .i64 r.2.2.1, .it .u64 r.2.2.2]⟩, some ⟨false, 0, 0, .is .u8 a.2.2.2.2⟩])
noncomputable def spec_l00Src_one.c : List V → Hp → T (V × Hp) := cdE spec_l00Src_one.cd (fun a => .br (spec_l00Src_one.ok a.1 a.2.1 a.2.2.1 a.2.2.2.1 a.2.2.2.2) (.leaf (spec_l00Src_one.enc a (spec_l00Src_one a.1 a.2.1 a.2.2.1 a.2.2.2.1 a.2.2.2.2))) .bad)
theorem spec_l00Src_one.run (a : Int × Nat × Int × Int × List Int) : runF spec_l00Src_one.C Tryd.f68.results.toList spec_l00Src_one.b (spec_l00Src_one.cd.enc a).1 (spec_l00Src_one.cd.enc a).2 = (spec_l00Src_one.tr a).map (spec_l00Src_one.enc a) := by kernel_rfl
theorem spec_l00Src_one.cok : OKe Tryd.prog 68 spec_l00Src_one.c := con_e' spec_l00Src_one.cd spec_l00Src_one.hC Tryd.func68 (by kernel_rfl) (by kernel_rfl) (by kernel_rfl) spec_l00Src_one.lp (fun a => by kernel_rfl) spec_l00Src_one.run (Tells.ok (tree := spec_l00Src_one.tr))
/-! ### spec_l04Drawn -/
noncomputable def spec_l04Drawn.b : Code := bodyOf Tryd.f34
noncomputable def spec_l04Drawn.C : Ctx := { ty := tys, fn := [(36, .e spec_l00Src_pick.c), (68, .e spec_l00Src_one.c)], lp := [], n := 27, k := 2 }
theorem spec_l04Drawn.hC : CtxOK Tryd.prog spec_l04Drawn.C := CtxOK.of mo tys_ok (FnsOK.cons spec_l00Src_pick.cok (FnsOK.cons spec_l00Src_one.cok FnsOK.nil))
theorem spec_l04Drawn.lp : LpOK Tryd.prog spec_l04Drawn.C spec_l04Drawn.b := (LpOK.nil (by kernel_rfl))
noncomputable def spec_l04Drawn.t (x0 : Nat) (x1 : Int) (x2 : Int) (x3 : List Int) : T (Nat × Nat × Nat × Nat × Nat × Int × Int) :=
  let y4 := (spec_l00Src_pick (32 : Int) x0 x1 x2 x3)
  .br (spec_l00Src_pick.ok (32 : Int) x0 x1 x2 x3)
  (let y5 := (spec_l00Src_pick (16 : Int) y4.2.1 y4.2.2.1 y4.2.2.2 x3)
   .br (spec_l00Src_pick.ok (16 : Int) y4.2.1 y4.2.2.1 y4.2.2.2 x3)
   (let y6 := (spec_l00Src_pick (24 : Int) y5.2.1 y5.2.2.1 y5.2.2.2 x3)
    .br (spec_l00Src_pick.ok (24 : Int) y5.2.1 y5.2.2.1 y5.2.2.2 x3)
    (let y7 := (spec_l00Src_one (2 : Int) y6.2.1 y6.2.2.1 y6.2.2.2 x3)
     .br (spec_l00Src_one.ok (2 : Int) y6.2.1 y6.2.2.1 y6.2.2.2 x3)
     (.br y7.1
      (let y8 := (spec_l00Src_pick (17 : Int) y7.2.1 y7.2.2.1 y7.2.2.2 x3)
       .br (spec_l00Src_pick.ok (17 : Int) y7.2.1 y7.2.2.1 y7.2.2.2 x3)
       (.leaf ((fdiv .f32 (fofint .f32 y4.1) 1082130432), (fdiv .f32 (fofint .f32 y5.1) 1090519040), (fdiv .f32 (fofint .f32 y6.1) 1090519040), (fdiv .f32 (fofint .f32 y8.1) 1098907648), y8.2.1, y8.2.2.1, y8.2.2.2))
       .bad)
      (.leaf ((fdiv .f32 (fofint .f32 y4.1) 1082130432), (fdiv .f32 (fofint .f32 y5.1) 1090519040), (fdiv .f32 (fofint .f32 y6.1) 1090519040), 1065353216, y7.2.1, y7.2.2.1, y7.2.2.2)))
     .bad)
    .bad)
   .bad)
  .bad
noncomputable def spec_l04Drawn (x0 : Nat) (x1 : Int) (x2 : Int) (x3 : List Int) : Nat × Nat × Nat × Nat × Nat × Int × Int := (spec_l04Drawn.t x0 x1 x2 x3).val
noncomputable def spec_l04Drawn.ok (x0 : Nat) (x1 : Int) (x2 : Int) (x3 : List Int) : Bool := (spec_l04Drawn.t x0 x1 x2 x3).ok
def spec_l04Drawn.cd : Cd (Nat × Int × Int × List Int) (List V × Hp) := Cd.iso (Cd.pair (Cd.cons (Cd.pt 0 (Cd.natc 0)) Cd.nil) (Cd.cons (Cd.rw 82 3 (Cd.vs (Cd.cons (Cd.sl 1 (Cd.natc 0)) (Cd.cons (Cd.it .i64) (Cd.cons (Cd.it .u64) Cd.nil))))) (Cd.cons (Cd.ro 0 0 (Cd.is .u8)) Cd.nil))) (fun a => (a.2.1.1.2, a.2.1.2.1, a.2.1.2.2.1, a.2.2.1)) (fun a => (((), ()), ((((), a.1), (a.2.1, (a.2.2.1, ()))), (a.2.2.2, ())))) (fun _ => rfl)
noncomputable def spec_l04Drawn.tr (a : Nat × Int × Int × List Int) : T (Nat × Nat × Nat × Nat × Nat × Int × Int) := spec_l04Drawn.t a.1 a.2.1 a.2.2.1 a.2.2.2
def spec_l04Drawn.enc : (Nat × Int × Int × List Int) → (Nat × Nat × Nat × Nat × Nat × Int × Int) → V × Hp := fun a r => (.agg [.fl .f32 r.1, .fl .f32 r.2.1, .fl .f32 r.2.2.1, .fl .f32 r.2.2.2.1], [some ⟨true, 82, 3, .vs [.sl 1 0 r.2.2.2.2.1, .it .i64 r.2.2.2.2.2.1, .it .u64 r.2.2.2.2.2.2]⟩, some ⟨false, 0, 0, .is .u8 a.2.2.2⟩])
noncomputable def spec_l04Drawn.c : List V → Hp → T (V × Hp) := cdE spec_l04Drawn.cd (fun a => .br (spec_l04Drawn.ok a.1 a.2.1 a.2.2.1 a.2.2.2) (.leaf (spec_l04Drawn.enc a (spec_l04Drawn a.1 a.2.1 a.2.2.1 a.2.2.2))) .bad)
theorem spec_l04Drawn.run (a : Nat × Int × Int × List Int) : runF spec_l04Drawn.C Tryd.f34.results.toList spec_l04Drawn.b (spec_l04Drawn.cd.enc a).1 (spec_l04Drawn.cd.enc a).2 = (spec_l04Drawn.tr a).map (spec_l04Drawn.enc a) := by kernel_rfl
theorem spec_l04Drawn.cok : OKe Tryd.prog 34 spec_l04Drawn.c := con_e' spec_l04Drawn.cd spec_l04Drawn.hC Tryd.func34 (by kernel_rfl) (by kernel_rfl) (by kernel_rfl) spec_l04Drawn.lp (fun a => by kernel_rfl) spec_l04Drawn.run (Tells.ok (tree := spec_l04Drawn.tr))
/-! ### spec_P6Stone -/
noncomputable def spec_P6Stone.b : Code := bodyOf Tryd.f9
noncomputable def spec_P6Stone.C : Ctx := { ty := tys, fn := [(35, .e spec_l00From.c), (34, .e spec_l04Drawn.c)], lp := [], n := 6, k := 2 }
theorem spec_P6Stone.hC : CtxOK Tryd.prog spec_P6Stone.C := CtxOK.of mo tys_ok (FnsOK.cons spec_l00From.cok (FnsOK.cons spec_l04Drawn.cok FnsOK.nil))
theorem spec_P6Stone.lp : LpOK Tryd.prog spec_P6Stone.C spec_P6Stone.b := (LpOK.nil (by kernel_rfl))
noncomputable def spec_P6Stone.t (x0 : Nat) (x1 : Int) (x2 : List Int) : T (Nat × Nat × Nat × Nat) :=
  let y3 := (spec_l00From x0 x2)
  let y9 := (spec_l04Drawn y3.1 y3.2.1 y3.2.2 x2)
  .br (spec_l04Drawn.ok y3.1 y3.2.1 y3.2.2 x2)
  (.leaf (y9.1, y9.2.1, y9.2.2.1, y9.2.2.2.1))
  .bad
noncomputable def spec_P6Stone (x0 : Nat) (x1 : Int) (x2 : List Int) : Nat × Nat × Nat × Nat := (spec_P6Stone.t x0 x1 x2).val
noncomputable def spec_P6Stone.ok (x0 : Nat) (x1 : Int) (x2 : List Int) : Bool := (spec_P6Stone.t x0 x1 x2).ok
def spec_P6Stone.cd : Cd (Nat × Int × List Int) (List V × Hp) := Cd.iso (Cd.pair (Cd.cons (Cd.sl 1 (Cd.natc 0)) Cd.nil) (Cd.cons (Cd.ro 0 2 (Cd.vs (Cd.cons (Cd.it .i64) Cd.nil))) (Cd.cons (Cd.ro 0 0 (Cd.is .u8)) Cd.nil))) (fun a => (a.1.1.2, a.2.1.1, a.2.2.1)) (fun a => ((((), a.1), ()), ((a.2.1, ()), (a.2.2, ())))) (fun _ => rfl)
noncomputable def spec_P6Stone.tr (a : Nat × Int × List Int) : T (Nat × Nat × Nat × Nat) := spec_P6Stone.t a.1 a.2.1 a.2.2
def spec_P6Stone.enc : (Nat × Int × List Int) → (Nat × Nat × Nat × Nat) → V := fun a r => .agg [.fl .f32 r.1, .fl .f32 r.2.1, .fl .f32 r.2.2.1, .fl .f32 r.2.2.2]
noncomputable def spec_P6Stone.c : List V → Hp → T V := cdQ spec_P6Stone.cd (fun a => .br (spec_P6Stone.ok a.1 a.2.1 a.2.2) (.leaf (spec_P6Stone.enc a (spec_P6Stone a.1 a.2.1 a.2.2))) .bad)
theorem spec_P6Stone.run (a : Nat × Int × List Int) : runF spec_P6Stone.C Tryd.f9.results.toList spec_P6Stone.b (spec_P6Stone.cd.enc a).1 (spec_P6Stone.cd.enc a).2 = (spec_P6Stone.tr a).map fun r => (spec_P6Stone.enc a r, (spec_P6Stone.cd.enc a).2) := by kernel_rfl
theorem spec_P6Stone.cok : OKq Tryd.prog 9 spec_P6Stone.c := con_q' spec_P6Stone.cd spec_P6Stone.hC Tryd.func9 (by kernel_rfl) (by kernel_rfl) (by kernel_rfl) spec_P6Stone.lp (fun a => by kernel_rfl) spec_P6Stone.run (Tells.ok (tree := spec_P6Stone.tr))
/-! ### spec_P6Pick -/
noncomputable def spec_P6Pick.b : Code := bodyOf Tryd.f10
noncomputable def spec_P6Pick.C : Ctx := { ty := tys, fn := [(35, .e spec_l00From.c), (36, .e spec_l00Src_pick.c)], lp := [], n := 9, k := 2 }
theorem spec_P6Pick.hC : CtxOK Tryd.prog spec_P6Pick.C := CtxOK.of mo tys_ok (FnsOK.cons spec_l00From.cok (FnsOK.cons spec_l00Src_pick.cok FnsOK.nil))
theorem spec_P6Pick.lp : LpOK Tryd.prog spec_P6Pick.C spec_P6Pick.b := (LpOK.nil (by kernel_rfl))
noncomputable def spec_P6Pick.t (x0 : Nat) (x1 : Int) (x2 : Int) (x3 : List Int) : T Int :=
  let y11 := (spec_l00From x0 x3)
  let y12 := (spec_l00Src_pick x1 y11.1 y11.2.1 y11.2.2 x3)
  .br (spec_l00Src_pick.ok x1 y11.1 y11.2.1 y11.2.2 x3)
  (.leaf y12.1)
  .bad
noncomputable def spec_P6Pick (x0 : Nat) (x1 : Int) (x2 : Int) (x3 : List Int) : Int := (spec_P6Pick.t x0 x1 x2 x3).val
noncomputable def spec_P6Pick.ok (x0 : Nat) (x1 : Int) (x2 : Int) (x3 : List Int) : Bool := (spec_P6Pick.t x0 x1 x2 x3).ok
def spec_P6Pick.cd : Cd (Nat × Int × Int × List Int) (List V × Hp) := Cd.iso (Cd.pair (Cd.cons (Cd.sl 1 (Cd.natc 0)) (Cd.cons (Cd.it .i64) Cd.nil)) (Cd.cons (Cd.ro 0 2 (Cd.vs (Cd.cons (Cd.it .i64) Cd.nil))) (Cd.cons (Cd.ro 0 0 (Cd.is .u8)) Cd.nil))) (fun a => (a.1.1.2, a.1.2.1, a.2.1.1, a.2.2.1)) (fun a => ((((), a.1), (a.2.1, ())), ((a.2.2.1, ()), (a.2.2.2, ())))) (fun _ => rfl)
noncomputable def spec_P6Pick.tr (a : Nat × Int × Int × List Int) : T Int := spec_P6Pick.t a.1 a.2.1 a.2.2.1 a.2.2.2
def spec_P6Pick.enc : (Nat × Int × Int × List Int) → Int → V := fun a r => .it .i64 r
noncomputable def spec_P6Pick.c : List V → Hp → T V := cdQ spec_P6Pick.cd (fun a => .br (spec_P6Pick.ok a.1 a.2.1 a.2.2.1 a.2.2.2) (.leaf (spec_P6Pick.enc a (spec_P6Pick a.1 a.2.1 a.2.2.1 a.2.2.2))) .bad)
theorem spec_P6Pick.run (a : Nat × Int × Int × List Int) : runF spec_P6Pick.C Tryd.f10.results.toList spec_P6Pick.b (spec_P6Pick.cd.enc a).1 (spec_P6Pick.cd.enc a).2 = (spec_P6Pick.tr a).map fun r => (spec_P6Pick.enc a r, (spec_P6Pick.cd.enc a).2) := by kernel_rfl
theorem spec_P6Pick.cok : OKq Tryd.prog 10 spec_P6Pick.c := con_q' spec_P6Pick.cd spec_P6Pick.hC Tryd.func10 (by kernel_rfl) (by kernel_rfl) (by kernel_rfl) spec_P6Pick.lp (fun a => by kernel_rfl) spec_P6Pick.run (Tells.ok (tree := spec_P6Pick.tr))
/-! ### impl_between -/
noncomputable def impl_between.b : Code := bodyOf Tryd.f72
noncomputable def impl_between.C : Ctx := { ty := tys, fn := [], lp := [], n := 15, k := 0 }
theorem impl_between.hC : CtxOK Tryd.prog impl_between.C := CtxOK.of mo tys_ok FnsOK.nil
theorem impl_between.lp : LpOK Tryd.prog impl_between.C impl_between.b := (LpOK.nil (by kernel_rfl))
noncomputable def impl_between.t (x0 : Nat) (x1 : Nat) (x2 : Nat) : T Bool :=
  .br (fle .f32 x1 x0)
  (.leaf (fle .f32 x0 x2))
  (.leaf false)
noncomputable def impl_between (x0 : Nat) (x1 : Nat) (x2 : Nat) : Bool := (impl_between.t x0 x1 x2).val
def impl_between.cd : Cd (Nat × Nat × Nat) (List V × Hp) := Cd.iso (Cd.pair (Cd.cons (Cd.fl .f32) (Cd.cons (Cd.fl .f32) (Cd.cons (Cd.fl .f32) Cd.nil))) Cd.nil) (fun a => (a.1.1, a.1.2.1, a.1.2.2.1)) (fun a => ((a.1, (a.2.1, (a.2.2, ()))), ())) (fun _ => rfl)
noncomputable def impl_between.tr (a : Nat × Nat × Nat) : T Bool := impl_between.t a.1 a.2.1 a.2.2
def impl_between.enc : (Nat × Nat × Nat) → Bool → V := fun a r => .bo r
noncomputable def impl_between.c : List V → Hp → T V := cdQ impl_between.cd (fun a => .leaf (impl_between.enc a (impl_between a.1 a.2.1 a.2.2)))
theorem impl_between.run (a : Nat × Nat × Nat) : runF impl_between.C Tryd.f72.results.toList impl_between.b (impl_between.cd.enc a).1 (impl_between.cd.enc a).2 = (impl_between.tr a).map fun r => (impl_between.enc a r, (impl_between.cd.enc a).2) := by kernel_rfl
theorem impl_between.cok : OKq Tryd.prog 72 impl_between.c := con_q' impl_between.cd impl_between.hC Tryd.func72 (by kernel_rfl) (by kernel_rfl) (by kernel_rfl) impl_between.lp (fun a => by kernel_rfl) impl_between.run (Tells.val (tree := impl_between.tr) fun a => by kernel_rfl)
/-! ### impl_IsRate -/
noncomputable def impl_IsRate.b : Code := bodyOf Tryd.f40
noncomputable def impl_IsRate.C : Ctx := { ty := tys, fn := [(72, .q impl_between.c)], lp := [], n := 5, k := 0 }
theorem impl_IsRate.hC : CtxOK Tryd.prog impl_IsRate.C := CtxOK.of mo tys_ok (FnsOK.cons impl_between.cok FnsOK.nil)
theorem impl_IsRate.lp : LpOK Tryd.prog impl_IsRate.C impl_IsRate.b := (LpOK.nil (by kernel_rfl))
noncomputable def impl_IsRate.t (x0 : Nat) : T Bool :=
  .leaf (impl_between x0 0 1149239296)
noncomputable def impl_IsRate (x0 : Nat) : Bool := (impl_IsRate.t x0).val
def impl_IsRate.cd : Cd Nat (List V × Hp) := Cd.iso (Cd.pair (Cd.cons (Cd.fl .f32) Cd.nil) Cd.nil) (fun a => a.1.1) (fun a => ((a, ()), ())) (fun _ => rfl)
noncomputable def impl_IsRate.tr (a : Nat) : T Bool := impl_IsRate.t a
def impl_IsRate.enc : Nat → Bool → V := fun a r => .bo r
noncomputable def impl_IsRate.c : List V → Hp → T V := cdQ impl_IsRate.cd (fun a => .leaf (impl_IsRate.enc a (impl_IsRate a)))
theorem impl_IsRate.run (a : Nat) : runF impl_IsRate.C Tryd.f40.results.toList impl_IsRate.b (impl_IsRate.cd.enc a).1 (impl_IsRate.cd.enc a).2 = (impl_IsRate.tr a).map fun r => (impl_IsRate.enc a r, (impl_IsRate.cd.enc a).2) := by kernel_rfl
theorem impl_IsRate.cok : OKq Tryd.prog 40 impl_IsRate.c := con_q' impl_IsRate.cd impl_IsRate.hC Tryd.func40 (by kernel_rfl) (by kernel_rfl) (by kernel_rfl) impl_IsRate.lp (fun a => by kernel_rfl) impl_IsRate.run (Tells.val (tree := impl_IsRate.tr) fun a => by kernel_rfl)
/-! ### impl_IsPart -/
noncomputable def impl_IsPart.b : Code := bodyOf Tryd.f52
noncomputable def impl_IsPart.C : Ctx := { ty := tys, fn := [(72, .q impl_between.c)], lp := [], n := 5, k := 0 }
theorem impl_IsPart.hC : CtxOK Tryd.prog impl_IsPart.C := CtxOK.of mo tys_ok (FnsOK.cons impl_between.cok FnsOK.nil)
theorem impl_IsPart.lp : LpOK Tryd.prog impl_IsPart.C impl_IsPart.b := (LpOK.nil (by kernel_rfl))
noncomputable def impl_IsPart.t (x0 : Nat) : T Bool :=
  .leaf (impl_between x0 0 1065353216)
noncomputable def impl_IsPart (x0 : Nat) : Bool := (impl_IsPart.t x0).val
def impl_IsPart.cd : Cd Nat (List V × Hp) := Cd.iso (Cd.pair (Cd.cons (Cd.fl .f32) Cd.nil) Cd.nil) (fun a => a.1.1) (fun a => ((a, ()), ())) (fun _ => rfl)
noncomputable def impl_IsPart.tr (a : Nat) : T Bool := impl_IsPart.t a
def impl_IsPart.enc : Nat → Bool → V := fun a r => .bo r
noncomputable def impl_IsPart.c : List V → Hp → T V := cdQ impl_IsPart.cd (fun a => .leaf (impl_IsPart.enc a (impl_IsPart a)))
theorem impl_IsPart.run (a : Nat) : runF impl_IsPart.C Tryd.f52.results.toList impl_IsPart.b (impl_IsPart.cd.enc a).1 (impl_IsPart.cd.enc a).2 = (impl_IsPart.tr a).map fun r => (impl_IsPart.enc a r, (impl_IsPart.cd.enc a).2) := by kernel_rfl
theorem impl_IsPart.cok : OKq Tryd.prog 52 impl_IsPart.c := con_q' impl_IsPart.cd impl_IsPart.hC Tryd.func52 (by kernel_rfl) (by kernel_rfl) (by kernel_rfl) impl_IsPart.lp (fun a => by kernel_rfl) impl_IsPart.run (Tells.val (tree := impl_IsPart.tr) fun a => by kernel_rfl)
/-! ### impl_ValidStone -/
noncomputable def impl_ValidStone.b : Code := bodyOf Tryd.f18
noncomputable def impl_ValidStone.C : Ctx := { ty := tys, fn := [(40, .q impl_IsRate.c), (52, .q impl_IsPart.c)], lp := [], n := 21, k := 0 }
theorem impl_ValidStone.hC : CtxOK Tryd.prog impl_ValidStone.C := CtxOK.of mo tys_ok (FnsOK.cons impl_IsRate.cok (FnsOK.cons impl_IsPart.cok FnsOK.nil))
theorem impl_ValidStone.lp : LpOK Tryd.prog impl_ValidStone.C impl_ValidStone.b := (LpOK.nil (by kernel_rfl))
noncomputable def impl_ValidStone.t (x0 : Nat) (x1 : Nat) (x2 : Nat) (x3 : Nat) : T Bool :=
  .br (impl_IsRate x0)
  (.br (impl_IsRate x1)
   (.br (impl_IsRate x2)
    (.leaf (impl_IsPart x3))
    (.leaf false))
   (.leaf false))
  (.leaf false)
noncomputable def impl_ValidStone (x0 : Nat) (x1 : Nat) (x2 : Nat) (x3 : Nat) : Bool := (impl_ValidStone.t x0 x1 x2 x3).val
def impl_ValidStone.cd : Cd (Nat × Nat × Nat × Nat) (List V × Hp) := Cd.iso (Cd.pair (Cd.cons (Cd.agg (Cd.cons (Cd.fl .f32) (Cd.cons (Cd.fl .f32) (Cd.cons (Cd.fl .f32) (Cd.cons (Cd.fl .f32) Cd.nil))))) Cd.nil) Cd.nil) (fun a => (a.1.1.1, a.1.1.2.1, a.1.1.2.2.1, a.1.1.2.2.2.1)) (fun a => (((a.1, (a.2.1, (a.2.2.1, (a.2.2.2, ())))), ()), ())) (fun _ => rfl)
noncomputable def impl_ValidStone.tr (a : Nat × Nat × Nat × Nat) : T Bool := impl_ValidStone.t a.1 a.2.1 a.2.2.1 a.2.2.2
def impl_ValidStone.enc : (Nat × Nat × Nat × Nat) → Bool → V := fun a r => .bo r
noncomputable def impl_ValidStone.c : List V → Hp → T V := cdQ impl_ValidStone.cd (fun a => .leaf (impl_ValidStone.enc a (impl_ValidStone a.1 a.2.1 a.2.2.1 a.2.2.2)))
theorem impl_ValidStone.run (a : Nat × Nat × Nat × Nat) : runF impl_ValidStone.C Tryd.f18.results.toList impl_ValidStone.b (impl_ValidStone.cd.enc a).1 (impl_ValidStone.cd.enc a).2 = (impl_ValidStone.tr a).map fun r => (impl_ValidStone.enc a r, (impl_ValidStone.cd.enc a).2) := by kernel_rfl
theorem impl_ValidStone.cok : OKq Tryd.prog 18 impl_ValidStone.c := con_q' impl_ValidStone.cd impl_ValidStone.hC Tryd.func18 (by kernel_rfl) (by kernel_rfl) (by kernel_rfl) impl_ValidStone.lp (fun a => by kernel_rfl) impl_ValidStone.run (Tells.val (tree := impl_ValidStone.tr) fun a => by kernel_rfl)
/-! ### impl_NumberText -/
noncomputable def impl_NumberText.b : Code := bodyOf Tryd.f70
noncomputable def impl_NumberText.l5.s (x0 : Nat) (x1 : Int) (x2 : List Int) : T (Unit ⊕ Unit) :=
  .br (decide (x1 ≥ (0 : Int)))
  .bad
  (.leaf (.inr ()))
noncomputable def impl_NumberText.l5.st (p : Nat × Int × List Int) (x : Unit) : T (Unit ⊕ Unit) := impl_NumberText.l5.s p.1 p.2.1 p.2.2
noncomputable def impl_NumberText.l5.r (p : Nat × Int × List Int) (x : Unit) : Option Unit := iterT (impl_NumberText.l5.st p) manyRounds x
def impl_NumberText.l5.cd : Cd ((Nat × Int × List Int) × Unit) (List V × Hp) := Cd.iso (Cd.pair (Cd.cons Cd.qn (Cd.cons (Cd.own 0) (Cd.cons (Cd.it .i64) Cd.nil))) (Cd.cons (Cd.rw 5 1 (Cd.is .u8)) Cd.nil)) (fun a => ((a.1.2.1, a.1.2.2.1, a.2.1), ())) (fun a => (((), (a.1.1, (a.1.2.1, ()))), (a.1.2.2, ()))) (fun _ => rfl)
def impl_NumberText.l5.out (p : Nat × Int × List Int) : Unit → X × List V × Hp := (fun r => (.ex 0, [.own 0 p.1], [some ⟨true, 5, 1, .is .u8 p.2.2⟩]))
def impl_NumberText.l5.ex (p : Nat × Int × List Int) : Unit → T (X × List V × Hp) := leafT (fun r => (.ex 0, [.own 0 p.1], [some ⟨true, 5, 1, .is .u8 p.2.2⟩]))
noncomputable def impl_NumberText.l5.c : List V → Hp → T (X × List V × Hp) := cdL impl_NumberText.l5.cd fun x => optT (impl_NumberText.l5.r x.1 x.2) (impl_NumberText.l5.ex x.1)
noncomputable def impl_NumberText.l5v1.s (x0 : Int) (x1 : Nat) (x2 : Int) (x3 : List Int) : T ((Nat × Int × List Int) ⊕ (Nat × List Int)) :=
  .br (decide (x2 ≥ (0 : Int)))
  (.br (decide (x2 < 0))
   .bad
   (.br (bounds (ibits .and .u32 (Int.fdiv x0 (2 ^ min (Int.toNat x2) 32)) (15 : Int)) (ByteArray.size (ByteArray.mk #[48, 49, 50, 51, 52, 53, 54, 55, 56, 57, 97, 98, 99, 100, 101, 102])))
    (.br ((Nat.ble 1 (List.length [(byteAt (ByteArray.mk #[48, 49, 50, 51, 52, 53, 54, 55, 56, 57, 97, 98, 99, 100, 101, 102]) (ibits .and .u32 (Int.fdiv x0 (2 ^ min (Int.toNat x2) 32)) (15 : Int)))])) && (Nat.beq (List.length x3) (x1 * 1) && Nat.ble ((x1 + 1) * 1) 35184372088832 && Nat.ble (x1 + 1) 35184372088832))
     (.leaf (.inl ((x1 + 1), (IntKind.wrap .i64 (x2 - (4 : Int))), (x3 ++ (List.take 1 (List.drop 0 [(byteAt (ByteArray.mk #[48, 49, 50, 51, 52, 53, 54, 55, 56, 57, 97, 98, 99, 100, 101, 102]) (ibits .and .u32 (Int.fdiv x0 (2 ^ min (Int.toNat x2) 32)) (15 : Int)))]))))))
     .bad)
    .bad))
  (.leaf (.inr (x1, x3)))
noncomputable def impl_NumberText.l5v1.st (p : Int) (x : Nat × Int × List Int) : T ((Nat × Int × List Int) ⊕ (Nat × List Int)) := impl_NumberText.l5v1.s p x.1 x.2.1 x.2.2
noncomputable def impl_NumberText.l5v1.r (p : Int) (x : Nat × Int × List Int) : Option (Nat × List Int) := iterT (impl_NumberText.l5v1.st p) manyRounds x
def impl_NumberText.l5v1.cd : Cd (Int × (Nat × Int × List Int)) (List V × Hp) := Cd.iso (Cd.pair (Cd.cons (Cd.it .u32) (Cd.cons (Cd.own 0) (Cd.cons (Cd.it .i64) Cd.nil))) (Cd.cons (Cd.rw 5 1 (Cd.is .u8)) Cd.nil)) (fun a => (a.1.1, (a.1.2.1, a.1.2.2.1, a.2.1))) (fun a => ((a.1, (a.2.1, (a.2.2.1, ()))), (a.2.2.2, ()))) (fun _ => rfl)
def impl_NumberText.l5v1.out (p : Int) : (Nat × List Int) → X × List V × Hp := (fun r => (.ex 0, [.own 0 r.1], [some ⟨true, 5, 1, .is .u8 r.2⟩]))
def impl_NumberText.l5v1.ex (p : Int) : (Nat × List Int) → T (X × List V × Hp) := leafT (fun r => (.ex 0, [.own 0 r.1], [some ⟨true, 5, 1, .is .u8 r.2⟩]))
noncomputable def impl_NumberText.l5v1.c : List V → Hp → T (X × List V × Hp) := cdL impl_NumberText.l5v1.cd fun x => optT (impl_NumberText.l5v1.r x.1 x.2) (impl_NumberText.l5v1.ex x.1)
noncomputable def impl_NumberText.C : Ctx := { ty := tys, fn := [(75, .q f32bitsC)], lp := [(5, ⟨[3, 4, 5], [4], altL impl_NumberText.l5.c impl_NumberText.l5v1.c⟩)], n := 26, k := 0 }
theorem impl_NumberText.hC : CtxOK Tryd.prog impl_NumberText.C := CtxOK.of mo tys_ok (FnsOK.cons (f32bits_ok Tryd.func75 (by kernel_rfl) (by kernel_rfl) (by kernel_rfl) (by kernel_rfl)) FnsOK.nil)
noncomputable def impl_NumberText.b5 : Code := (nthC (loopsOf impl_NumberText.b) 0)
theorem impl_NumberText.lp5 : LpOK Tryd.prog impl_NumberText.C impl_NumberText.b5 := (LpOK.nil (by kernel_rfl))
theorem impl_NumberText.l5.round (p : Nat × Int × List Int) (s : Unit) : roundL impl_NumberText.C [3, 4, 5] [4] impl_NumberText.b5 (impl_NumberText.l5.cd.enc (p, s)).1 (impl_NumberText.l5.cd.enc (p, s)).2 = (impl_NumberText.l5.st p s).map (encSum (fun s => impl_NumberText.l5.cd.enc (p, s)) (impl_NumberText.l5.out p)) := by kernel_rfl
theorem impl_NumberText.l5.lok : LoopOK Tryd.prog impl_NumberText.C ⟨[3, 4, 5], [4], impl_NumberText.l5.c⟩ impl_NumberText.b5 := loop_cd impl_NumberText.l5.cd impl_NumberText.hC impl_NumberText.lp5 impl_NumberText.l5.round fun p => Gets.leaf
theorem impl_NumberText.l5v1.round (p : Int) (s : Nat × Int × List Int) : roundL impl_NumberText.C [3, 4, 5] [4] impl_NumberText.b5 (impl_NumberText.l5v1.cd.enc (p, s)).1 (impl_NumberText.l5v1.cd.enc (p, s)).2 = (impl_NumberText.l5v1.st p s).map (encSum (fun s => impl_NumberText.l5v1.cd.enc (p, s)) (impl_NumberText.l5v1.out p)) := by kernel_rfl
theorem impl_NumberText.l5v1.lok : LoopOK Tryd.prog impl_NumberText.C ⟨[3, 4, 5], [4], impl_NumberText.l5v1.c⟩ impl_NumberText.b5 := loop_cd impl_NumberText.l5v1.cd impl_NumberText.hC impl_NumberText.lp5 impl_NumberText.l5v1.round fun p => Gets.leaf
theorem impl_NumberText.lp : LpOK Tryd.prog impl_NumberText.C impl_NumberText.b := lp_of (by kernel_rfl) (LpsOK.cons (k := 5) (by kernel_rfl) (by kernel_rfl) (LoopOK.alt impl_NumberText.l5.lok impl_NumberText.l5v1.lok) LpsOK.nil)
noncomputable def impl_NumberText.t (x0 : Nat) : T ByteArray :=
  .br (fne .f32 x0 x0)
  (.leaf (ByteArray.mk #[55, 102, 99, 48, 48, 48, 48, 48]))
  (.br (isNaN .f32 x0)
   (.br (Option.isSome (impl_NumberText.l5.r (0, (28 : Int), []) ()))
    (.br (Nat.ble 0 (List.length ([] : List Int)))
     (.leaf (strOf (List.take 0 ([] : List Int))))
     .bad)
    .bad)
   (.br (Option.isSome (impl_NumberText.l5v1.r ((x0 : Nat) : Int) (0, (28 : Int), [])))
    (.br (Nat.ble ((Option.getD (impl_NumberText.l5v1.r ((x0 : Nat) : Int) (0, (28 : Int), [])) default).1) (List.length ((Option.getD (impl_NumberText.l5v1.r ((x0 : Nat) : Int) (0, (28 : Int), [])) default).2)))
     (.leaf (strOf (List.take ((Option.getD (impl_NumberText.l5v1.r ((x0 : Nat) : Int) (0, (28 : Int), [])) default).1) ((Option.getD (impl_NumberText.l5v1.r ((x0 : Nat) : Int) (0, (28 : Int), [])) default).2))))
     .bad)
    .bad))
noncomputable def impl_NumberText (x0 : Nat) : ByteArray := (impl_NumberText.t x0).val
noncomputable def impl_NumberText.ok (x0 : Nat) : Bool := (impl_NumberText.t x0).ok
def impl_NumberText.cd : Cd Nat (List V × Hp) := Cd.iso (Cd.pair (Cd.cons (Cd.fl .f32) Cd.nil) Cd.nil) (fun a => a.1.1) (fun a => ((a, ()), ())) (fun _ => rfl)
noncomputable def impl_NumberText.tr (a : Nat) : T ByteArray := impl_NumberText.t a
def impl_NumberText.enc : Nat → ByteArray → V := fun a r => .st r
noncomputable def impl_NumberText.c : List V → Hp → T V := cdQ impl_NumberText.cd (fun a => .br (impl_NumberText.ok a) (.leaf (impl_NumberText.enc a (impl_NumberText a))) .bad)
theorem impl_NumberText.run (a : Nat) : runF impl_NumberText.C Tryd.f70.results.toList impl_NumberText.b (impl_NumberText.cd.enc a).1 (impl_NumberText.cd.enc a).2 = (impl_NumberText.tr a).map fun r => (impl_NumberText.enc a r, (impl_NumberText.cd.enc a).2) := by kernel_rfl
theorem impl_NumberText.cok : OKq Tryd.prog 70 impl_NumberText.c := con_q' impl_NumberText.cd impl_NumberText.hC Tryd.func70 (by kernel_rfl) (by kernel_rfl) (by kernel_rfl) impl_NumberText.lp (fun a => by kernel_rfl) impl_NumberText.run (Tells.ok (tree := impl_NumberText.tr))
/-! ### impl_texts -/
noncomputable def impl_texts.b : Code := bodyOf Tryd.f37
noncomputable def impl_texts.l3.s (x0 : ByteArray) (x1 : Nat) (x2 : Nat) (x3 : Int) (x4 : Int) (x5 : List Nat) (x6 : List ByteArray) : T ((Nat × Int × List ByteArray) ⊕ (Nat × List ByteArray)) :=
  .br (decide (x4 < x3))
  (.br (bounds x4 x2)
   (.br (Nat.ble ((Int.toNat x4 * 1) + 1) (List.length x5))
    (.br (impl_NumberText.ok (List.getD x5 (Int.toNat x4 * 1) 0))
     (.br ((Nat.ble 1 (List.length [(impl_NumberText (List.getD x5 (Int.toNat x4 * 1) 0))])) && (Nat.beq (List.length x6) (x1 * 1) && Nat.ble ((x1 + 1) * 16) 35184372088832 && Nat.ble (x1 + 1) 35184372088832))
      (.leaf (.inl ((x1 + 1), (IntKind.wrap .i64 (x4 + (1 : Int))), (x6 ++ (List.take 1 (List.drop 0 [(impl_NumberText (List.getD x5 (Int.toNat x4 * 1) 0))]))))))
      .bad)
     .bad)
    .bad)
   .bad)
  (.leaf (.inr (x1, x6)))
noncomputable def impl_texts.l3.st (p : ByteArray × Nat × Int × List Nat) (x : Nat × Int × List ByteArray) : T ((Nat × Int × List ByteArray) ⊕ (Nat × List ByteArray)) := impl_texts.l3.s p.1 x.1 p.2.1 p.2.2.1 x.2.1 p.2.2.2 x.2.2
noncomputable def impl_texts.l3.r (p : ByteArray × Nat × Int × List Nat) (x : Nat × Int × List ByteArray) : Option (Nat × List ByteArray) := iterT (impl_texts.l3.st p) manyRounds x
def impl_texts.l3.cd : Cd ((ByteArray × Nat × Int × List Nat) × (Nat × Int × List ByteArray)) (List V × Hp) := Cd.iso (Cd.pair (Cd.cons Cd.st (Cd.cons (Cd.own 1) (Cd.cons (Cd.own 0) (Cd.cons (Cd.it .i64) (Cd.cons (Cd.it .i64) Cd.nil))))) (Cd.cons (Cd.rw 22 1 (Cd.fs .f32)) (Cd.cons (Cd.rw 9 1 Cd.ss) Cd.nil))) (fun a => ((a.1.1, a.1.2.2.1, a.1.2.2.2.1, a.2.1), (a.1.2.1, a.1.2.2.2.2.1, a.2.2.1))) (fun a => ((a.1.1, (a.2.1, (a.1.2.1, (a.1.2.2.1, (a.2.2.1, ()))))), (a.1.2.2.2, (a.2.2.2, ())))) (fun _ => rfl)
def impl_texts.l3.out (p : ByteArray × Nat × Int × List Nat) : (Nat × List ByteArray) → X × List V × Hp := (fun r => (.ex 0, [.st p.1, .own 1 r.1], [some ⟨true, 22, 1, .fs .f32 p.2.2.2⟩, some ⟨true, 9, 1, .ss r.2⟩]))
def impl_texts.l3.ex (p : ByteArray × Nat × Int × List Nat) : (Nat × List ByteArray) → T (X × List V × Hp) := leafT (fun r => (.ex 0, [.st p.1, .own 1 r.1], [some ⟨true, 22, 1, .fs .f32 p.2.2.2⟩, some ⟨true, 9, 1, .ss r.2⟩]))
noncomputable def impl_texts.l3.c : List V → Hp → T (X × List V × Hp) := cdL impl_texts.l3.cd fun x => optT (impl_texts.l3.r x.1 x.2) (impl_texts.l3.ex x.1)
noncomputable def impl_texts.C : Ctx := { ty := tys, fn := [(70, .q impl_NumberText.c), (71, .q joinC)], lp := [(3, ⟨[0, 5, 9, 10, 11], [0, 5], impl_texts.l3.c⟩)], n := 24, k := 1 }
theorem impl_texts.hC : CtxOK Tryd.prog impl_texts.C := CtxOK.of mo tys_ok (FnsOK.cons impl_NumberText.cok (FnsOK.cons (join_ok Tryd.func71 (by kernel_rfl) (by kernel_rfl) (fun bk o c xs sep w h1 h2 h3 h4 h5 => Tryd.strings_Join bk o c xs sep w h1 h2 h3 h4 h5)) FnsOK.nil))
noncomputable def impl_texts.b3 : Code := (nthC (loopsOf impl_texts.b) 0)
theorem impl_texts.lp3 : LpOK Tryd.prog impl_texts.C impl_texts.b3 := (LpOK.nil (by kernel_rfl))
theorem impl_texts.l3.round (p : ByteArray × Nat × Int × List Nat) (s : Nat × Int × List ByteArray) : roundL impl_texts.C [0, 5, 9, 10, 11] [0, 5] impl_texts.b3 (impl_texts.l3.cd.enc (p, s)).1 (impl_texts.l3.cd.enc (p, s)).2 = (impl_texts.l3.st p s).map (encSum (fun s => impl_texts.l3.cd.enc (p, s)) (impl_texts.l3.out p)) := by kernel_rfl
theorem impl_texts.l3.lok : LoopOK Tryd.prog impl_texts.C ⟨[0, 5, 9, 10, 11], [0, 5], impl_texts.l3.c⟩ impl_texts.b3 := loop_cd impl_texts.l3.cd impl_texts.hC impl_texts.lp3 impl_texts.l3.round fun p => Gets.leaf
theorem impl_texts.lp : LpOK Tryd.prog impl_texts.C impl_texts.b := lp_of (by kernel_rfl) (LpsOK.cons (k := 3) (by kernel_rfl) (by kernel_rfl) impl_texts.l3.lok LpsOK.nil)
noncomputable def impl_texts.t (x0 : ByteArray) (x1 : Nat) (x2 : List Nat) : T ByteArray :=
  .br (Option.isSome (impl_texts.l3.r (x0, x1, ((x1 : Nat) : Int), x2) (0, (0 : Int), [])))
  (.br (joinOk ((Option.getD (impl_texts.l3.r (x0, x1, ((x1 : Nat) : Int), x2) (0, (0 : Int), [])) default).2) ((Option.getD (impl_texts.l3.r (x0, x1, ((x1 : Nat) : Int), x2) (0, (0 : Int), [])) default).1) x0)
   (.leaf (joinB ((Option.getD (impl_texts.l3.r (x0, x1, ((x1 : Nat) : Int), x2) (0, (0 : Int), [])) default).2) x0))
   .bad)
  .bad
noncomputable def impl_texts (x0 : ByteArray) (x1 : Nat) (x2 : List Nat) : ByteArray := (impl_texts.t x0 x1 x2).val
noncomputable def impl_texts.ok (x0 : ByteArray) (x1 : Nat) (x2 : List Nat) : Bool := (impl_texts.t x0 x1 x2).ok
def impl_texts.cd : Cd (ByteArray × Nat × List Nat) (List V × Hp) := Cd.iso (Cd.pair (Cd.cons Cd.st (Cd.cons (Cd.own 0) Cd.nil)) (Cd.cons (Cd.rw 22 1 (Cd.fs .f32)) Cd.nil)) (fun a => (a.1.1, a.1.2.1, a.2.1)) (fun a => ((a.1, (a.2.1, ())), (a.2.2, ()))) (fun _ => rfl)
noncomputable def impl_texts.tr (a : ByteArray × Nat × List Nat) : T ByteArray := impl_texts.t a.1 a.2.1 a.2.2
def impl_texts.enc : (ByteArray × Nat × List Nat) → ByteArray → V := fun a r => .st r
noncomputable def impl_texts.c : List V → Hp → T V := cdQ impl_texts.cd (fun a => .br (impl_texts.ok a.1 a.2.1 a.2.2) (.leaf (impl_texts.enc a (impl_texts a.1 a.2.1 a.2.2))) .bad)
theorem impl_texts.run (a : ByteArray × Nat × List Nat) : runF impl_texts.C Tryd.f37.results.toList impl_texts.b (impl_texts.cd.enc a).1 (impl_texts.cd.enc a).2 = (impl_texts.tr a).map fun r => (impl_texts.enc a r, (impl_texts.cd.enc a).2) := by kernel_rfl
theorem impl_texts.cok : OKq Tryd.prog 37 impl_texts.c := con_q' impl_texts.cd impl_texts.hC Tryd.func37 (by kernel_rfl) (by kernel_rfl) (by kernel_rfl) impl_texts.lp (fun a => by kernel_rfl) impl_texts.run (Tells.ok (tree := impl_texts.tr))
/-! ### impl_StoneText -/
noncomputable def impl_StoneText.b : Code := bodyOf Tryd.f11
noncomputable def impl_StoneText.C : Ctx := { ty := tys, fn := [(18, .q impl_ValidStone.c), (37, .q impl_texts.c)], lp := [], n := 16, k := 1 }
theorem impl_StoneText.hC : CtxOK Tryd.prog impl_StoneText.C := CtxOK.of mo tys_ok (FnsOK.cons impl_ValidStone.cok (FnsOK.cons impl_texts.cok FnsOK.nil))
theorem impl_StoneText.lp : LpOK Tryd.prog impl_StoneText.C impl_StoneText.b := (LpOK.nil (by kernel_rfl))
noncomputable def impl_StoneText.t (x0 : Nat) (x1 : Nat) (x2 : Nat) (x3 : Nat) (x4 : Int) : T ByteArray :=
  .br (!(impl_ValidStone x0 x1 x2 x3))
  (.leaf (ByteArray.mk #[]))
  (.br (impl_texts.ok (ByteArray.mk #[47]) 4 [x0, x1, x2, x3])
   (.leaf (impl_texts (ByteArray.mk #[47]) 4 [x0, x1, x2, x3]))
   .bad)
noncomputable def impl_StoneText (x0 : Nat) (x1 : Nat) (x2 : Nat) (x3 : Nat) (x4 : Int) : ByteArray := (impl_StoneText.t x0 x1 x2 x3 x4).val
noncomputable def impl_StoneText.ok (x0 : Nat) (x1 : Nat) (x2 : Nat) (x3 : Nat) (x4 : Int) : Bool := (impl_StoneText.t x0 x1 x2 x3 x4).ok
def impl_StoneText.cd : Cd (Nat × Nat × Nat × Nat × Int) (List V × Hp) := Cd.iso (Cd.pair (Cd.cons (Cd.agg (Cd.cons (Cd.fl .f32) (Cd.cons (Cd.fl .f32) (Cd.cons (Cd.fl .f32) (Cd.cons (Cd.fl .f32) Cd.nil))))) Cd.nil) (Cd.cons (Cd.ro 0 2 (Cd.vs (Cd.cons (Cd.it .i64) Cd.nil))) Cd.nil)) (fun a => (a.1.1.1, a.1.1.2.1, a.1.1.2.2.1, a.1.1.2.2.2.1, a.2.1.1)) (fun a => (((a.1, (a.2.1, (a.2.2.1, (a.2.2.2.1, ())))), ()), ((a.2.2.2.2, ()), ()))) (fun _ => rfl)
noncomputable def impl_StoneText.tr (a : Nat × Nat × Nat × Nat × Int) : T ByteArray := impl_StoneText.t a.1 a.2.1 a.2.2.1 a.2.2.2.1 a.2.2.2.2
def impl_StoneText.enc : (Nat × Nat × Nat × Nat × Int) → ByteArray → V := fun a r => .st r
noncomputable def impl_StoneText.c : List V → Hp → T V := cdQ impl_StoneText.cd (fun a => .br (impl_StoneText.ok a.1 a.2.1 a.2.2.1 a.2.2.2.1 a.2.2.2.2) (.leaf (impl_StoneText.enc a (impl_StoneText a.1 a.2.1 a.2.2.1 a.2.2.2.1 a.2.2.2.2))) .bad)
theorem impl_StoneText.run (a : Nat × Nat × Nat × Nat × Int) : runF impl_StoneText.C Tryd.f11.results.toList impl_StoneText.b (impl_StoneText.cd.enc a).1 (impl_StoneText.cd.enc a).2 = (impl_StoneText.tr a).map fun r => (impl_StoneText.enc a r, (impl_StoneText.cd.enc a).2) := by kernel_rfl
theorem impl_StoneText.cok : OKq Tryd.prog 11 impl_StoneText.c := con_q' impl_StoneText.cd impl_StoneText.hC Tryd.func11 (by kernel_rfl) (by kernel_rfl) (by kernel_rfl) impl_StoneText.lp (fun a => by kernel_rfl) impl_StoneText.run (Tells.ok (tree := impl_StoneText.tr))
/-! ### impl_ReadNumber -/
noncomputable def impl_ReadNumber.b : Code := bodyOf Tryd.f66
noncomputable def impl_ReadNumber.l3.s (x0 : ByteArray) (x1 : Int) (x2 : Int) (x3 : Int) : T ((Int × Int) ⊕ Int) :=
  .br (decide (x3 < x2))
  (.br (bounds x3 (ByteArray.size x0))
   (.leaf (.inl ((ibits .or .u32 (IntKind.wrap .u32 (x1 * (2 ^ min (Int.toNat (4 : Int)) 32))) (IntKind.wrap .u32 (if (0 : Int) > (Go.Lib.indexByte (ByteArray.data (ByteArray.mk #[48, 49, 50, 51, 52, 53, 54, 55, 56, 57, 97, 98, 99, 100, 101, 102])).toList (Nat.toUInt8 (Int.toNat (byteAt x0 x3)))) then (0 : Int) else (Go.Lib.indexByte (ByteArray.data (ByteArray.mk #[48, 49, 50, 51, 52, 53, 54, 55, 56, 57, 97, 98, 99, 100, 101, 102])).toList (Nat.toUInt8 (Int.toNat (byteAt x0 x3))))))), (IntKind.wrap .i64 (x3 + (1 : Int))))))
   .bad)
  (.leaf (.inr x1))
noncomputable def impl_ReadNumber.l3.st (p : ByteArray × Int) (x : Int × Int) : T ((Int × Int) ⊕ Int) := impl_ReadNumber.l3.s p.1 x.1 p.2 x.2
noncomputable def impl_ReadNumber.l3.r (p : ByteArray × Int) (x : Int × Int) : Option Int := iterT (impl_ReadNumber.l3.st p) manyRounds x
def impl_ReadNumber.l3.cd : Cd ((ByteArray × Int) × (Int × Int)) (List V × Hp) := Cd.iso (Cd.pair (Cd.cons Cd.st (Cd.cons (Cd.it .u32) (Cd.cons (Cd.it .i64) (Cd.cons (Cd.it .i64) Cd.nil)))) Cd.nil) (fun a => ((a.1.1, a.1.2.2.1), (a.1.2.1, a.1.2.2.2.1))) (fun a => ((a.1.1, (a.2.1, (a.1.2, (a.2.2, ())))), ())) (fun _ => rfl)
def impl_ReadNumber.l3.out (p : ByteArray × Int) : Int → X × List V × Hp := (fun r => (.ex 0, [.st p.1, .it .u32 r], []))
def impl_ReadNumber.l3.ex (p : ByteArray × Int) : Int → T (X × List V × Hp) := leafT (fun r => (.ex 0, [.st p.1, .it .u32 r], []))
noncomputable def impl_ReadNumber.l3.c : List V → Hp → T (X × List V × Hp) := cdL impl_ReadNumber.l3.cd fun x => optT (impl_ReadNumber.l3.r x.1 x.2) (impl_ReadNumber.l3.ex x.1)
noncomputable def impl_ReadNumber.C : Ctx := { ty := tys, fn := [(78, .q indexByteC), (63, .q f32fromC), (70, .q impl_NumberText.c)], lp := [(3, ⟨[0, 4, 9, 10], [0, 4], impl_ReadNumber.l3.c⟩)], n := 30, k := 0 }
theorem impl_ReadNumber.hC : CtxOK Tryd.prog impl_ReadNumber.C := CtxOK.of mo tys_ok (FnsOK.cons (indexByte_ok Tryd.func78 (by kernel_rfl) (by kernel_rfl) (fun s c w => Tryd.strings_IndexByte s c w)) (FnsOK.cons (f32from_ok Tryd.func63 (by kernel_rfl) (by kernel_rfl) (by kernel_rfl) (by kernel_rfl)) (FnsOK.cons impl_NumberText.cok FnsOK.nil)))
noncomputable def impl_ReadNumber.b3 : Code := (nthC (loopsOf impl_ReadNumber.b) 0)
theorem impl_ReadNumber.lp3 : LpOK Tryd.prog impl_ReadNumber.C impl_ReadNumber.b3 := (LpOK.nil (by kernel_rfl))
theorem impl_ReadNumber.l3.round (p : ByteArray × Int) (s : Int × Int) : roundL impl_ReadNumber.C [0, 4, 9, 10] [0, 4] impl_ReadNumber.b3 (impl_ReadNumber.l3.cd.enc (p, s)).1 (impl_ReadNumber.l3.cd.enc (p, s)).2 = (impl_ReadNumber.l3.st p s).map (encSum (fun s => impl_ReadNumber.l3.cd.enc (p, s)) (impl_ReadNumber.l3.out p)) := by kernel_rfl
theorem impl_ReadNumber.l3.lok : LoopOK Tryd.prog impl_ReadNumber.C ⟨[0, 4, 9, 10], [0, 4], impl_ReadNumber.l3.c⟩ impl_ReadNumber.b3 := loop_cd impl_ReadNumber.l3.cd impl_ReadNumber.hC impl_ReadNumber.lp3 impl_ReadNumber.l3.round fun p => Gets.leaf
theorem impl_ReadNumber.lp : LpOK Tryd.prog impl_ReadNumber.C impl_ReadNumber.b := lp_of (by kernel_rfl) (LpsOK.cons (k := 3) (by kernel_rfl) (by kernel_rfl) impl_ReadNumber.l3.lok LpsOK.nil)
noncomputable def impl_ReadNumber.t (x0 : ByteArray) : T (Nat × Int) :=
  .br (Option.isSome (impl_ReadNumber.l3.r (x0, (if (8 : Int) < ((ByteArray.size x0 : Nat) : Int) then (8 : Int) else ((ByteArray.size x0 : Nat) : Int))) ((0 : Int), (0 : Int))))
  (.br (impl_NumberText.ok (nz .f32 (Int.toNat (Option.getD (impl_ReadNumber.l3.r (x0, (if (8 : Int) < ((ByteArray.size x0 : Nat) : Int) then (8 : Int) else ((ByteArray.size x0 : Nat) : Int))) ((0 : Int), (0 : Int))) default))))
   (.br (seq? (impl_NumberText (nz .f32 (Int.toNat (Option.getD (impl_ReadNumber.l3.r (x0, (if (8 : Int) < ((ByteArray.size x0 : Nat) : Int) then (8 : Int) else ((ByteArray.size x0 : Nat) : Int))) ((0 : Int), (0 : Int))) default)))) x0)
    (.leaf ((nz .f32 (Int.toNat (Option.getD (impl_ReadNumber.l3.r (x0, (if (8 : Int) < ((ByteArray.size x0 : Nat) : Int) then (8 : Int) else ((ByteArray.size x0 : Nat) : Int))) ((0 : Int), (0 : Int))) default))), (0 : Int)))
    (.leaf (0, (5 : Int))))
   .bad)
  .bad
noncomputable def impl_ReadNumber (x0 : ByteArray) : Nat × Int := (impl_ReadNumber.t x0).val
noncomputable def impl_ReadNumber.ok (x0 : ByteArray) : Bool := (impl_ReadNumber.t x0).ok
def impl_ReadNumber.cd : Cd ByteArray (List V × Hp) := Cd.iso (Cd.pair (Cd.cons Cd.st Cd.nil) Cd.nil) (fun a => a.1.1) (fun a => ((a, ()), ())) (fun _ => rfl)
noncomputable def impl_ReadNumber.tr (a : ByteArray) : T (Nat × Int) := impl_ReadNumber.t a
def impl_ReadNumber.enc : ByteArray → (Nat × Int) → V := fun a r => .tup [.fl .f32 r.1, .it .i64 r.2]
noncomputable def impl_ReadNumber.c : List V → Hp → T V := cdQ impl_ReadNumber.cd (fun a => .br (impl_ReadNumber.ok a) (.leaf (impl_ReadNumber.enc a (impl_ReadNumber a))) .bad)
theorem impl_ReadNumber.run (a : ByteArray) : runF impl_ReadNumber.C Tryd.f66.results.toList impl_ReadNumber.b (impl_ReadNumber.cd.enc a).1 (impl_ReadNumber.cd.enc a).2 = (impl_ReadNumber.tr a).map fun r => (impl_ReadNumber.enc a r, (impl_ReadNumber.cd.enc a).2) := by kernel_rfl
theorem impl_ReadNumber.cok : OKq Tryd.prog 66 impl_ReadNumber.c := con_q' impl_ReadNumber.cd impl_ReadNumber.hC Tryd.func66 (by kernel_rfl) (by kernel_rfl) (by kernel_rfl) impl_ReadNumber.lp (fun a => by kernel_rfl) impl_ReadNumber.run (Tells.ok (tree := impl_ReadNumber.tr))
/-! ### impl_numbersOf -/
noncomputable def impl_numbersOf.b : Code := bodyOf Tryd.f31
noncomputable def impl_numbersOf.l3.s (x0 : Nat) (x1 : Nat) (x2 : Int) (x3 : Int) (x4 : Int) (x5 : List ByteArray) (x6 : List Nat) : T ((Nat × Int × List Nat) ⊕ ((Bool × Nat × List Nat) ⊕ (Nat × List Nat))) :=
  .br (decide (x3 < x2))
  (.br (bounds x3 x1)
   (.br (Nat.ble ((Int.toNat x3 * 1) + 1) (List.length x5))
    (.br (impl_ReadNumber.ok (List.getD x5 (Int.toNat x3 * 1) ByteArray.empty))
     (.br ((impl_ReadNumber (List.getD x5 (Int.toNat x3 * 1) ByteArray.empty)).2 != (0 : Int))
      (.leaf (.inr (.inl (false, x0, x6))))
      (.br ((Nat.ble 1 (List.length [(impl_ReadNumber (List.getD x5 (Int.toNat x3 * 1) ByteArray.empty)).1])) && (Nat.beq (List.length x6) (x0 * 1) && Nat.ble ((x0 + 1) * 4) 35184372088832 && Nat.ble (x0 + 1) 35184372088832))
       (.leaf (.inl ((x0 + 1), (IntKind.wrap .i64 (x3 + (1 : Int))), (x6 ++ (List.take 1 (List.drop 0 [(impl_ReadNumber (List.getD x5 (Int.toNat x3 * 1) ByteArray.empty)).1]))))))
       .bad))
     .bad)
    .bad)
   .bad)
  (.leaf (.inr (.inr (x0, x6))))
noncomputable def impl_numbersOf.l3.st (p : Nat × Int × Int × List ByteArray) (x : Nat × Int × List Nat) : T ((Nat × Int × List Nat) ⊕ ((Bool × Nat × List Nat) ⊕ (Nat × List Nat))) := impl_numbersOf.l3.s x.1 p.1 p.2.1 x.2.1 p.2.2.1 p.2.2.2 x.2.2
noncomputable def impl_numbersOf.l3.r (p : Nat × Int × Int × List ByteArray) (x : Nat × Int × List Nat) : Option ((Bool × Nat × List Nat) ⊕ (Nat × List Nat)) := iterT (impl_numbersOf.l3.st p) manyRounds x
def impl_numbersOf.l3.cd : Cd ((Nat × Int × Int × List ByteArray) × (Nat × Int × List Nat)) (List V × Hp) := Cd.iso (Cd.pair (Cd.cons (Cd.own 2) (Cd.cons (Cd.own 1) (Cd.cons (Cd.it .i64) (Cd.cons (Cd.it .i64) Cd.nil)))) (Cd.cons (Cd.ro 0 2 (Cd.vs (Cd.cons (Cd.it .i64) Cd.nil))) (Cd.cons (Cd.rw 9 1 Cd.ss) (Cd.cons (Cd.rw 22 1 (Cd.fs .f32)) Cd.nil)))) (fun a => ((a.1.2.1, a.1.2.2.1, a.2.1.1, a.2.2.1), (a.1.1, a.1.2.2.2.1, a.2.2.2.1))) (fun a => ((a.2.1, (a.1.1, (a.1.2.1, (a.2.2.1, ())))), ((a.1.2.2.1, ()), (a.1.2.2.2, (a.2.2.2, ()))))) (fun _ => rfl)
def impl_numbersOf.l3.out (p : Nat × Int × Int × List ByteArray) : ((Bool × Nat × List Nat) ⊕ (Nat × List Nat)) → X × List V × Hp := sumO (fun r => (.ret, [.sn, .bo r.1, .own 2 r.2.1], [some ⟨false, 0, 2, .vs [.it .i64 p.2.2.1]⟩, some ⟨true, 9, 1, .ss p.2.2.2⟩, some ⟨true, 22, 1, .fs .f32 r.2.2⟩])) (fun r => (.ex 0, [.unk, .unk, .own 2 r.1], [some ⟨false, 0, 2, .vs [.it .i64 p.2.2.1]⟩, some ⟨true, 9, 1, .ss p.2.2.2⟩, some ⟨true, 22, 1, .fs .f32 r.2⟩]))
def impl_numbersOf.l3.ex (p : Nat × Int × Int × List ByteArray) : ((Bool × Nat × List Nat) ⊕ (Nat × List Nat)) → T (X × List V × Hp) := sumT (leafT (fun r => (.ret, [.sn, .bo r.1, .own 2 r.2.1], [some ⟨false, 0, 2, .vs [.it .i64 p.2.2.1]⟩, some ⟨true, 9, 1, .ss p.2.2.2⟩, some ⟨true, 22, 1, .fs .f32 r.2.2⟩]))) (leafT (fun r => (.ex 0, [.unk, .unk, .own 2 r.1], [some ⟨false, 0, 2, .vs [.it .i64 p.2.2.1]⟩, some ⟨true, 9, 1, .ss p.2.2.2⟩, some ⟨true, 22, 1, .fs .f32 r.2⟩])))
noncomputable def impl_numbersOf.l3.c : List V → Hp → T (X × List V × Hp) := cdL impl_numbersOf.l3.cd fun x => optT (impl_numbersOf.l3.r x.1 x.2) (impl_numbersOf.l3.ex x.1)
noncomputable def impl_numbersOf.C : Ctx := { ty := tys, fn := [(66, .q impl_ReadNumber.c)], lp := [(3, ⟨[4, 10, 11, 12], [2, 3, 4], impl_numbersOf.l3.c⟩)], n := 29, k := 2 }
theorem impl_numbersOf.hC : CtxOK Tryd.prog impl_numbersOf.C := CtxOK.of mo tys_ok (FnsOK.cons impl_ReadNumber.cok FnsOK.nil)
noncomputable def impl_numbersOf.b3 : Code := (nthC (loopsOf impl_numbersOf.b) 0)
theorem impl_numbersOf.lp3 : LpOK Tryd.prog impl_numbersOf.C impl_numbersOf.b3 := (LpOK.nil (by kernel_rfl))
theorem impl_numbersOf.l3.round (p : Nat × Int × Int × List ByteArray) (s : Nat × Int × List Nat) : roundL impl_numbersOf.C [4, 10, 11, 12] [2, 3, 4] impl_numbersOf.b3 (impl_numbersOf.l3.cd.enc (p, s)).1 (impl_numbersOf.l3.cd.enc (p, s)).2 = (impl_numbersOf.l3.st p s).map (encSum (fun s => impl_numbersOf.l3.cd.enc (p, s)) (impl_numbersOf.l3.out p)) := by kernel_rfl
theorem impl_numbersOf.l3.lok : LoopOK Tryd.prog impl_numbersOf.C ⟨[4, 10, 11, 12], [2, 3, 4], impl_numbersOf.l3.c⟩ impl_numbersOf.b3 := loop_cd impl_numbersOf.l3.cd impl_numbersOf.hC impl_numbersOf.lp3 impl_numbersOf.l3.round fun p => (Gets.sum Gets.leaf Gets.leaf)
theorem impl_numbersOf.lp : LpOK Tryd.prog impl_numbersOf.C impl_numbersOf.b := lp_of (by kernel_rfl) (LpsOK.cons (k := 3) (by kernel_rfl) (by kernel_rfl) impl_numbersOf.l3.lok LpsOK.nil)
noncomputable def impl_numbersOf.t (x0 : Nat) (x1 : Int) (x2 : List ByteArray) : T (Bool ⊕ (Nat × Bool × List Nat)) :=
  .br (Option.isSome (impl_numbersOf.l3.r (x0, ((x0 : Nat) : Int), x1, x2) (0, (0 : Int), [])))
  (.br (Sum.isLeft (Option.getD (impl_numbersOf.l3.r (x0, ((x0 : Nat) : Int), x1, x2) (0, (0 : Int), [])) default))
   (.leaf (.inl ((getLeftD (Option.getD (impl_numbersOf.l3.r (x0, ((x0 : Nat) : Int), x1, x2) (0, (0 : Int), [])) default)).1)))
   (.leaf (.inr ((getRightD (Option.getD (impl_numbersOf.l3.r (x0, ((x0 : Nat) : Int), x1, x2) (0, (0 : Int), [])) default)).1, true, (getRightD (Option.getD (impl_numbersOf.l3.r (x0, ((x0 : Nat) : Int), x1, x2) (0, (0 : Int), [])) default)).2))))
  .bad
noncomputable def impl_numbersOf (x0 : Nat) (x1 : Int) (x2 : List ByteArray) : Bool ⊕ (Nat × Bool × List Nat) := (impl_numbersOf.t x0 x1 x2).val
noncomputable def impl_numbersOf.ok (x0 : Nat) (x1 : Int) (x2 : List ByteArray) : Bool := (impl_numbersOf.t x0 x1 x2).ok
def impl_numbersOf.cd : Cd (Nat × Int × List ByteArray) (List V × Hp) := Cd.iso (Cd.pair (Cd.cons (Cd.own 1) Cd.nil) (Cd.cons (Cd.ro 0 2 (Cd.vs (Cd.cons (Cd.it .i64) Cd.nil))) (Cd.cons (Cd.rw 9 1 Cd.ss) Cd.nil))) (fun a => (a.1.1, a.2.1.1, a.2.2.1)) (fun a => ((a.1, ()), ((a.2.1, ()), (a.2.2, ())))) (fun _ => rfl)
noncomputable def impl_numbersOf.tr (a : Nat × Int × List ByteArray) : T (Bool ⊕ (Nat × Bool × List Nat)) := impl_numbersOf.t a.1 a.2.1 a.2.2
def impl_numbersOf.enc : (Nat × Int × List ByteArray) → (Bool ⊕ (Nat × Bool × List Nat)) → V × Hp := fun a => sumO (fun r => (.tup [.sn, .bo r], [some ⟨false, 0, 2, .vs [.it .i64 a.2.1]⟩, some ⟨true, 9, 1, .ss a.2.2⟩])) (fun r => (.tup [.own 2 r.1, .bo r.2.1], [some ⟨false, 0, 2, .vs [.it .i64 a.2.1]⟩, some ⟨true, 9, 1, .ss a.2.2⟩, some ⟨true, 22, 1, .fs .f32 r.2.2⟩]))
noncomputable def impl_numbersOf.ex : (Nat × Int × List ByteArray) → (Bool ⊕ (Nat × Bool × List Nat)) → T (V × Hp) := fun a => sumT (leafT (fun r => (.tup [.sn, .bo r], [some ⟨false, 0, 2, .vs [.it .i64 a.2.1]⟩, some ⟨true, 9, 1, .ss a.2.2⟩]))) (leafT (fun r => (.tup [.own 2 r.1, .bo r.2.1], [some ⟨false, 0, 2, .vs [.it .i64 a.2.1]⟩, some ⟨true, 9, 1, .ss a.2.2⟩, some ⟨true, 22, 1, .fs .f32 r.2.2⟩])))
noncomputable def impl_numbersOf.c : List V → Hp → T (V × Hp) := cdE impl_numbersOf.cd (fun a => .br (impl_numbersOf.ok a.1 a.2.1 a.2.2) (impl_numbersOf.ex a (impl_numbersOf a.1 a.2.1 a.2.2)) .bad)
theorem impl_numbersOf.run (a : Nat × Int × List ByteArray) : runF impl_numbersOf.C Tryd.f31.results.toList impl_numbersOf.b (impl_numbersOf.cd.enc a).1 (impl_numbersOf.cd.enc a).2 = (impl_numbersOf.tr a).map (impl_numbersOf.enc a) := by kernel_rfl
theorem impl_numbersOf.cok : OKe Tryd.prog 31 impl_numbersOf.c := con_e' impl_numbersOf.cd impl_numbersOf.hC Tryd.func31 (by kernel_rfl) (by kernel_rfl) (by kernel_rfl) impl_numbersOf.lp (fun a => by kernel_rfl) impl_numbersOf.run (Tells.okS (tree := impl_numbersOf.tr) (ex := impl_numbersOf.ex) fun a => (Gets.sum Gets.leaf Gets.leaf))
/-! ### impl_ReadStone -/
noncomputable def impl_ReadStone.b : Code := bodyOf Tryd.f6
noncomputable def impl_ReadStone.C : Ctx := { ty := tys, fn := [(32, .e (splitC 2 9)), (31, .e impl_numbersOf.c), (11, .q impl_StoneText.c)], lp := [], n := 40, k := 1, g := 1 }
theorem impl_ReadStone.hC : CtxOK Tryd.prog impl_ReadStone.C := CtxOK.of mo tys_ok (FnsOK.cons (split_ok Tryd.func32 (by kernel_rfl) (by kernel_rfl) (fun s sep m w h1 h2 h3 => Tryd.strings_Split s sep m w h1 h2 h3)) (FnsOK.cons impl_numbersOf.cok (FnsOK.cons impl_StoneText.cok FnsOK.nil)))
theorem impl_ReadStone.lp : LpOK Tryd.prog impl_ReadStone.C impl_ReadStone.b := (LpOK.nil (by kernel_rfl))
noncomputable def impl_ReadStone.t (x0 : ByteArray) (x1 : Int) : T (Nat × Nat × Nat × Nat × Int) :=
  .br (Nat.ble (ByteArray.size x0) 1048576 && Nat.ble 1 (ByteArray.size (ByteArray.mk #[47])))
  (.br (impl_numbersOf.ok (List.length (splitL x0 (ByteArray.mk #[47]))) x1 (splitL x0 (ByteArray.mk #[47])))
   (.br (Sum.isLeft (impl_numbersOf (List.length (splitL x0 (ByteArray.mk #[47]))) x1 (splitL x0 (ByteArray.mk #[47]))))
    (.br (!(getLeftD (impl_numbersOf (List.length (splitL x0 (ByteArray.mk #[47]))) x1 (splitL x0 (ByteArray.mk #[47])))))
     (.leaf (0, 0, 0, 0, (5 : Int)))
     (.br (((0 : Nat) : Int) != (4 : Int))
      (.leaf (0, 0, 0, 0, (5 : Int)))
      .bad))
    (.br (!(getRightD (impl_numbersOf (List.length (splitL x0 (ByteArray.mk #[47]))) x1 (splitL x0 (ByteArray.mk #[47])))).2.1)
     (.leaf (0, 0, 0, 0, (5 : Int)))
     (.br ((((getRightD (impl_numbersOf (List.length (splitL x0 (ByteArray.mk #[47]))) x1 (splitL x0 (ByteArray.mk #[47])))).1 : Nat) : Int) != (4 : Int))
      (.leaf (0, 0, 0, 0, (5 : Int)))
      (.br (bounds (0 : Int) ((getRightD (impl_numbersOf (List.length (splitL x0 (ByteArray.mk #[47]))) x1 (splitL x0 (ByteArray.mk #[47])))).1))
       (.br (Nat.ble 1 (List.length ((getRightD (impl_numbersOf (List.length (splitL x0 (ByteArray.mk #[47]))) x1 (splitL x0 (ByteArray.mk #[47])))).2.2)))
        (.br (bounds (1 : Int) ((getRightD (impl_numbersOf (List.length (splitL x0 (ByteArray.mk #[47]))) x1 (splitL x0 (ByteArray.mk #[47])))).1))
         (.br (Nat.ble 2 (List.length ((getRightD (impl_numbersOf (List.length (splitL x0 (ByteArray.mk #[47]))) x1 (splitL x0 (ByteArray.mk #[47])))).2.2)))
          (.br (bounds (2 : Int) ((getRightD (impl_numbersOf (List.length (splitL x0 (ByteArray.mk #[47]))) x1 (splitL x0 (ByteArray.mk #[47])))).1))
           (.br (Nat.ble 3 (List.length ((getRightD (impl_numbersOf (List.length (splitL x0 (ByteArray.mk #[47]))) x1 (splitL x0 (ByteArray.mk #[47])))).2.2)))
            (.br (bounds (3 : Int) ((getRightD (impl_numbersOf (List.length (splitL x0 (ByteArray.mk #[47]))) x1 (splitL x0 (ByteArray.mk #[47])))).1))
             (.br (Nat.ble 4 (List.length ((getRightD (impl_numbersOf (List.length (splitL x0 (ByteArray.mk #[47]))) x1 (splitL x0 (ByteArray.mk #[47])))).2.2)))
              (.br (impl_StoneText.ok (List.getD ((getRightD (impl_numbersOf (List.length (splitL x0 (ByteArray.mk #[47]))) x1 (splitL x0 (ByteArray.mk #[47])))).2.2) 0 0) (List.getD ((getRightD (impl_numbersOf (List.length (splitL x0 (ByteArray.mk #[47]))) x1 (splitL x0 (ByteArray.mk #[47])))).2.2) 1 0) (List.getD ((getRightD (impl_numbersOf (List.length (splitL x0 (ByteArray.mk #[47]))) x1 (splitL x0 (ByteArray.mk #[47])))).2.2) 2 0) (List.getD ((getRightD (impl_numbersOf (List.length (splitL x0 (ByteArray.mk #[47]))) x1 (splitL x0 (ByteArray.mk #[47])))).2.2) 3 0) x1)
               (.br (!seq? (impl_StoneText (List.getD ((getRightD (impl_numbersOf (List.length (splitL x0 (ByteArray.mk #[47]))) x1 (splitL x0 (ByteArray.mk #[47])))).2.2) 0 0) (List.getD ((getRightD (impl_numbersOf (List.length (splitL x0 (ByteArray.mk #[47]))) x1 (splitL x0 (ByteArray.mk #[47])))).2.2) 1 0) (List.getD ((getRightD (impl_numbersOf (List.length (splitL x0 (ByteArray.mk #[47]))) x1 (splitL x0 (ByteArray.mk #[47])))).2.2) 2 0) (List.getD ((getRightD (impl_numbersOf (List.length (splitL x0 (ByteArray.mk #[47]))) x1 (splitL x0 (ByteArray.mk #[47])))).2.2) 3 0) x1) x0)
                (.leaf (0, 0, 0, 0, (5 : Int)))
                (.leaf ((List.getD ((getRightD (impl_numbersOf (List.length (splitL x0 (ByteArray.mk #[47]))) x1 (splitL x0 (ByteArray.mk #[47])))).2.2) 0 0), (List.getD ((getRightD (impl_numbersOf (List.length (splitL x0 (ByteArray.mk #[47]))) x1 (splitL x0 (ByteArray.mk #[47])))).2.2) 1 0), (List.getD ((getRightD (impl_numbersOf (List.length (splitL x0 (ByteArray.mk #[47]))) x1 (splitL x0 (ByteArray.mk #[47])))).2.2) 2 0), (List.getD ((getRightD (impl_numbersOf (List.length (splitL x0 (ByteArray.mk #[47]))) x1 (splitL x0 (ByteArray.mk #[47])))).2.2) 3 0), (0 : Int))))
               .bad)
              .bad)
             .bad)
            .bad)
           .bad)
          .bad)
         .bad)
        .bad)
       .bad))))
   .bad)
  .bad
noncomputable def impl_ReadStone (x0 : ByteArray) (x1 : Int) : Nat × Nat × Nat × Nat × Int := (impl_ReadStone.t x0 x1).val
noncomputable def impl_ReadStone.ok (x0 : ByteArray) (x1 : Int) : Bool := (impl_ReadStone.t x0 x1).ok
def impl_ReadStone.cd : Cd (ByteArray × Int) (List V × Hp) := Cd.iso (Cd.pair (Cd.cons Cd.st Cd.nil) (Cd.cons (Cd.ro 0 2 (Cd.vs (Cd.cons (Cd.it .i64) Cd.nil))) Cd.nil)) (fun a => (a.1.1, a.2.1.1)) (fun a => ((a.1, ()), ((a.2, ()), ()))) (fun _ => rfl)
noncomputable def impl_ReadStone.tr (a : ByteArray × Int) : T (Nat × Nat × Nat × Nat × Int) := impl_ReadStone.t a.1 a.2
def impl_ReadStone.enc : (ByteArray × Int) → (Nat × Nat × Nat × Nat × Int) → V := fun a r => .tup [.agg [.fl .f32 r.1, .fl .f32 r.2.1, .fl .f32 r.2.2.1, .fl .f32 r.2.2.2.1], .it .i64 r.2.2.2.2]
noncomputable def impl_ReadStone.c : List V → Hp → T V := cdQ impl_ReadStone.cd (fun a => .br (impl_ReadStone.ok a.1 a.2) (.leaf (impl_ReadStone.enc a (impl_ReadStone a.1 a.2))) .bad)
theorem impl_ReadStone.run (a : ByteArray × Int) : runF impl_ReadStone.C Tryd.f6.results.toList impl_ReadStone.b (impl_ReadStone.cd.enc a).1 (impl_ReadStone.cd.enc a).2 = (impl_ReadStone.tr a).map fun r => (impl_ReadStone.enc a r, (impl_ReadStone.cd.enc a).2) := by kernel_rfl
theorem impl_ReadStone.cok : OKq Tryd.prog 6 impl_ReadStone.c := con_q' impl_ReadStone.cd impl_ReadStone.hC Tryd.func6 (by kernel_rfl) (by kernel_rfl) (by kernel_rfl) impl_ReadStone.lp (fun a => by kernel_rfl) impl_ReadStone.run (Tells.ok (tree := impl_ReadStone.tr))
/-! ### impl_isAmount -/
noncomputable def impl_isAmount.b : Code := bodyOf Tryd.f39
noncomputable def impl_isAmount.C : Ctx := { ty := tys, fn := [(72, .q impl_between.c)], lp := [], n := 5, k := 0 }
theorem impl_isAmount.hC : CtxOK Tryd.prog impl_isAmount.C := CtxOK.of mo tys_ok (FnsOK.cons impl_between.cok FnsOK.nil)
theorem impl_isAmount.lp : LpOK Tryd.prog impl_isAmount.C impl_isAmount.b := (LpOK.nil (by kernel_rfl))
noncomputable def impl_isAmount.t (x0 : Nat) : T Bool :=
  .leaf (impl_between x0 0 1233125376)
noncomputable def impl_isAmount (x0 : Nat) : Bool := (impl_isAmount.t x0).val
def impl_isAmount.cd : Cd Nat (List V × Hp) := Cd.iso (Cd.pair (Cd.cons (Cd.fl .f32) Cd.nil) Cd.nil) (fun a => a.1.1) (fun a => ((a, ()), ())) (fun _ => rfl)
noncomputable def impl_isAmount.tr (a : Nat) : T Bool := impl_isAmount.t a
def impl_isAmount.enc : Nat → Bool → V := fun a r => .bo r
noncomputable def impl_isAmount.c : List V → Hp → T V := cdQ impl_isAmount.cd (fun a => .leaf (impl_isAmount.enc a (impl_isAmount a)))
theorem impl_isAmount.run (a : Nat) : runF impl_isAmount.C Tryd.f39.results.toList impl_isAmount.b (impl_isAmount.cd.enc a).1 (impl_isAmount.cd.enc a).2 = (impl_isAmount.tr a).map fun r => (impl_isAmount.enc a r, (impl_isAmount.cd.enc a).2) := by kernel_rfl
theorem impl_isAmount.cok : OKq Tryd.prog 39 impl_isAmount.c := con_q' impl_isAmount.cd impl_isAmount.hC Tryd.func39 (by kernel_rfl) (by kernel_rfl) (by kernel_rfl) impl_isAmount.lp (fun a => by kernel_rfl) impl_isAmount.run (Tells.val (tree := impl_isAmount.tr) fun a => by kernel_rfl)
/-! ### impl_within -/
noncomputable def impl_within.b : Code := bodyOf Tryd.f41
noncomputable def impl_within.C : Ctx := { ty := tys, fn := [], lp := [], n := 15, k := 0 }
theorem impl_within.hC : CtxOK Tryd.prog impl_within.C := CtxOK.of mo tys_ok FnsOK.nil
theorem impl_within.lp : LpOK Tryd.prog impl_within.C impl_within.b := (LpOK.nil (by kernel_rfl))
noncomputable def impl_within.t (x0 : Int) (x1 : Int) (x2 : Int) : T Bool :=
  .br (decide (x1 ≤ x0))
  (.leaf (decide (x0 ≤ x2)))
  (.leaf false)
noncomputable def impl_within (x0 : Int) (x1 : Int) (x2 : Int) : Bool := (impl_within.t x0 x1 x2).val
def impl_within.cd : Cd (Int × Int × Int) (List V × Hp) := Cd.iso (Cd.pair (Cd.cons (Cd.it .i64) (Cd.cons (Cd.it .i64) (Cd.cons (Cd.it .i64) Cd.nil))) Cd.nil) (fun a => (a.1.1, a.1.2.1, a.1.2.2.1)) (fun a => ((a.1, (a.2.1, (a.2.2, ()))), ())) (fun _ => rfl)
noncomputable def impl_within.tr (a : Int × Int × Int) : T Bool := impl_within.t a.1 a.2.1 a.2.2
def impl_within.enc : (Int × Int × Int) → Bool → V := fun a r => .bo r
noncomputable def impl_within.c : List V → Hp → T V := cdQ impl_within.cd (fun a => .leaf (impl_within.enc a (impl_within a.1 a.2.1 a.2.2)))
theorem impl_within.run (a : Int × Int × Int) : runF impl_within.C Tryd.f41.results.toList impl_within.b (impl_within.cd.enc a).1 (impl_within.cd.enc a).2 = (impl_within.tr a).map fun r => (impl_within.enc a r, (impl_within.cd.enc a).2) := by kernel_rfl
theorem impl_within.cok : OKq Tryd.prog 41 impl_within.c := con_q' impl_within.cd impl_within.hC Tryd.func41 (by kernel_rfl) (by kernel_rfl) (by kernel_rfl) impl_within.lp (fun a => by kernel_rfl) impl_within.run (Tells.val (tree := impl_within.tr) fun a => by kernel_rfl)
/-! ### impl_stoneCode -/
noncomputable def impl_stoneCode.b : Code := bodyOf Tryd.f38
noncomputable def impl_stoneCode.C : Ctx := { ty := tys, fn := [(18, .q impl_ValidStone.c)], lp := [], n := 12, k := 0 }
theorem impl_stoneCode.hC : CtxOK Tryd.prog impl_stoneCode.C := CtxOK.of mo tys_ok (FnsOK.cons impl_ValidStone.cok FnsOK.nil)
theorem impl_stoneCode.lp : LpOK Tryd.prog impl_stoneCode.C impl_stoneCode.b := (LpOK.nil (by kernel_rfl))
noncomputable def impl_stoneCode.t (x0 : Nat) (x1 : Nat) (x2 : Nat) (x3 : Nat) (x4 : Bool) : T Int :=
  .br (!(impl_ValidStone x0 x1 x2 x3))
  (.leaf (1 : Int))
  (.br (!x4)
   (.leaf (2 : Int))
   (.leaf (0 : Int)))
noncomputable def impl_stoneCode (x0 : Nat) (x1 : Nat) (x2 : Nat) (x3 : Nat) (x4 : Bool) : Int := (impl_stoneCode.t x0 x1 x2 x3 x4).val
def impl_stoneCode.cd : Cd (Nat × Nat × Nat × Nat × Bool) (List V × Hp) := Cd.iso (Cd.pair (Cd.cons (Cd.agg (Cd.cons (Cd.fl .f32) (Cd.cons (Cd.fl .f32) (Cd.cons (Cd.fl .f32) (Cd.cons (Cd.fl .f32) Cd.nil))))) (Cd.cons Cd.bo Cd.nil)) Cd.nil) (fun a => (a.1.1.1, a.1.1.2.1, a.1.1.2.2.1, a.1.1.2.2.2.1, a.1.2.1)) (fun a => (((a.1, (a.2.1, (a.2.2.1, (a.2.2.2.1, ())))), (a.2.2.2.2, ())), ())) (fun _ => rfl)
noncomputable def impl_stoneCode.tr (a : Nat × Nat × Nat × Nat × Bool) : T Int := impl_stoneCode.t a.1 a.2.1 a.2.2.1 a.2.2.2.1 a.2.2.2.2
def impl_stoneCode.enc : (Nat × Nat × Nat × Nat × Bool) → Int → V := fun a r => .it .i64 r
noncomputable def impl_stoneCode.c : List V → Hp → T V := cdQ impl_stoneCode.cd (fun a => .leaf (impl_stoneCode.enc a (impl_stoneCode a.1 a.2.1 a.2.2.1 a.2.2.2.1 a.2.2.2.2)))
theorem impl_stoneCode.run (a : Nat × Nat × Nat × Nat × Bool) : runF impl_stoneCode.C Tryd.f38.results.toList impl_stoneCode.b (impl_stoneCode.cd.enc a).1 (impl_stoneCode.cd.enc a).2 = (impl_stoneCode.tr a).map fun r => (impl_stoneCode.enc a r, (impl_stoneCode.cd.enc a).2) := by kernel_rfl
theorem impl_stoneCode.cok : OKq Tryd.prog 38 impl_stoneCode.c := con_q' impl_stoneCode.cd impl_stoneCode.hC Tryd.func38 (by kernel_rfl) (by kernel_rfl) (by kernel_rfl) impl_stoneCode.lp (fun a => by kernel_rfl) impl_stoneCode.run (Tells.val (tree := impl_stoneCode.tr) fun a => by kernel_rfl)
/-! ### impl_Stone_rubbed -/
noncomputable def impl_Stone_rubbed.b : Code := bodyOf Tryd.f55
noncomputable def impl_Stone_rubbed.C : Ctx := { ty := tys, fn := [], lp := [], n := 16, k := 1 }
theorem impl_Stone_rubbed.hC : CtxOK Tryd.prog impl_Stone_rubbed.C := CtxOK.of mo tys_ok FnsOK.nil
theorem impl_Stone_rubbed.lp : LpOK Tryd.prog impl_Stone_rubbed.C impl_Stone_rubbed.b := (LpOK.nil (by kernel_rfl))
noncomputable def impl_Stone_rubbed.t (x0 : Nat) (x1 : Nat) (x2 : Nat) (x3 : Nat) (x4 : Nat) : T Nat :=
  .leaf (fadd .f32 x1 (fmul .f32 x2 x0))
noncomputable def impl_Stone_rubbed (x0 : Nat) (x1 : Nat) (x2 : Nat) (x3 : Nat) (x4 : Nat) : Nat := (impl_Stone_rubbed.t x0 x1 x2 x3 x4).val
def impl_Stone_rubbed.cd : Cd (Nat × Nat × Nat × Nat × Nat) (List V × Hp) := Cd.iso (Cd.pair (Cd.cons (Cd.pt 0 (Cd.natc 0)) (Cd.cons (Cd.fl .f32) Cd.nil)) (Cd.cons (Cd.rw 24 4 (Cd.vs (Cd.cons (Cd.fl .f32) (Cd.cons (Cd.fl .f32) (Cd.cons (Cd.fl .f32) (Cd.cons (Cd.fl .f32) Cd.nil)))))) Cd.nil)) (fun a => (a.1.2.1, a.2.1.1, a.2.1.2.1, a.2.1.2.2.1, a.2.1.2.2.2.1)) (fun a => (((), (a.1, ())), ((a.2.1, (a.2.2.1, (a.2.2.2.1, (a.2.2.2.2, ())))), ()))) (fun _ => rfl)
noncomputable def impl_Stone_rubbed.tr (a : Nat × Nat × Nat × Nat × Nat) : T Nat := impl_Stone_rubbed.t a.1 a.2.1 a.2.2.1 a.2.2.2.1 a.2.2.2.2
def impl_Stone_rubbed.enc : (Nat × Nat × Nat × Nat × Nat) → Nat → V := fun a r => .fl .f32 r
noncomputable def impl_Stone_rubbed.c : List V → Hp → T V := cdQ impl_Stone_rubbed.cd (fun a => .leaf (impl_Stone_rubbed.enc a (impl_Stone_rubbed a.1 a.2.1 a.2.2.1 a.2.2.2.1 a.2.2.2.2)))
theorem impl_Stone_rubbed.run (a : Nat × Nat × Nat × Nat × Nat) : runF impl_Stone_rubbed.C Tryd.f55.results.toList impl_Stone_rubbed.b (impl_Stone_rubbed.cd.enc a).1 (impl_Stone_rubbed.cd.enc a).2 = (impl_Stone_rubbed.tr a).map fun r => (impl_Stone_rubbed.enc a r, (impl_Stone_rubbed.cd.enc a).2) := by kernel_rfl
theorem impl_Stone_rubbed.cok : OKq Tryd.prog 55 impl_Stone_rubbed.c := con_q' impl_Stone_rubbed.cd impl_Stone_rubbed.hC Tryd.func55 (by kernel_rfl) (by kernel_rfl) (by kernel_rfl) impl_Stone_rubbed.lp (fun a => by kernel_rfl) impl_Stone_rubbed.run (Tells.val (tree := impl_Stone_rubbed.tr) fun a => by kernel_rfl)
/-! ### impl_Stone_load -/
noncomputable def impl_Stone_load.b : Code := bodyOf Tryd.f47
noncomputable def impl_Stone_load.C : Ctx := { ty := tys, fn := [(55, .q impl_Stone_rubbed.c)], lp := [], n := 17, k := 1 }
theorem impl_Stone_load.hC : CtxOK Tryd.prog impl_Stone_load.C := CtxOK.of mo tys_ok (FnsOK.cons impl_Stone_rubbed.cok FnsOK.nil)
theorem impl_Stone_load.lp : LpOK Tryd.prog impl_Stone_load.C impl_Stone_load.b := (LpOK.nil (by kernel_rfl))
noncomputable def impl_Stone_load.t (x0 : Nat) (x1 : Nat) (x2 : Nat) (x3 : Nat) (x4 : Nat) (x5 : Nat) : T Nat :=
  .leaf (fadd .f32 (impl_Stone_rubbed x0 x2 x3 x4 x5) (fmul .f32 x4 x1))
noncomputable def impl_Stone_load (x0 : Nat) (x1 : Nat) (x2 : Nat) (x3 : Nat) (x4 : Nat) (x5 : Nat) : Nat := (impl_Stone_load.t x0 x1 x2 x3 x4 x5).val
def impl_Stone_load.cd : Cd (Nat × Nat × Nat × Nat × Nat × Nat) (List V × Hp) := Cd.iso (Cd.pair (Cd.cons (Cd.pt 0 (Cd.natc 0)) (Cd.cons (Cd.fl .f32) (Cd.cons (Cd.fl .f32) Cd.nil))) (Cd.cons (Cd.rw 24 4 (Cd.vs (Cd.cons (Cd.fl .f32) (Cd.cons (Cd.fl .f32) (Cd.cons (Cd.fl .f32) (Cd.cons (Cd.fl .f32) Cd.nil)))))) Cd.nil)) (fun a => (a.1.2.1, a.1.2.2.1, a.2.1.1, a.2.1.2.1, a.2.1.2.2.1, a.2.1.2.2.2.1)) (fun a => (((), (a.1, (a.2.1, ()))), ((a.2.2.1, (a.2.2.2.1, (a.2.2.2.2.1, (a.2.2.2.2.2, ())))), ()))) (fun _ => rfl)
noncomputable def impl_Stone_load.tr (a : Nat × Nat × Nat × Nat × Nat × Nat) : T Nat := impl_Stone_load.t a.1 a.2.1 a.2.2.1 a.2.2.2.1 a.2.2.2.2.1 a.2.2.2.2.2
def impl_Stone_load.enc : (Nat × Nat × Nat × Nat × Nat × Nat) → Nat → V := fun a r => .fl .f32 r
noncomputable def impl_Stone_load.c : List V → Hp → T V := cdQ impl_Stone_load.cd (fun a => .leaf (impl_Stone_load.enc a (impl_Stone_load a.1 a.2.1 a.2.2.1 a.2.2.2.1 a.2.2.2.2.1 a.2.2.2.2.2)))
theorem impl_Stone_load.run (a : Nat × Nat × Nat × Nat × Nat × Nat) : runF impl_Stone_load.C Tryd.f47.results.toList impl_Stone_load.b (impl_Stone_load.cd.enc a).1 (impl_Stone_load.cd.enc a).2 = (impl_Stone_load.tr a).map fun r => (impl_Stone_load.enc a r, (impl_Stone_load.cd.enc a).2) := by kernel_rfl
theorem impl_Stone_load.cok : OKq Tryd.prog 47 impl_Stone_load.c := con_q' impl_Stone_load.cd impl_Stone_load.hC Tryd.func47 (by kernel_rfl) (by kernel_rfl) (by kernel_rfl) impl_Stone_load.lp (fun a => by kernel_rfl) impl_Stone_load.run (Tells.val (tree := impl_Stone_load.tr) fun a => by kernel_rfl)
/-! ### impl_Stone_steadySpeed_1 -/
noncomputable def impl_Stone_steadySpeed_1.b : Code := bodyOf Tryd.f73
noncomputable def impl_Stone_steadySpeed_1.C : Ctx := { ty := tys, fn := [(47, .q impl_Stone_load.c)], lp := [], n := 9, k := 3 }
theorem impl_Stone_steadySpeed_1.hC : CtxOK Tryd.prog impl_Stone_steadySpeed_1.C := CtxOK.of mo tys_ok (FnsOK.cons impl_Stone_load.cok FnsOK.nil)
theorem impl_Stone_steadySpeed_1.lp : LpOK Tryd.prog impl_Stone_steadySpeed_1.C impl_Stone_steadySpeed_1.b := (LpOK.nil (by kernel_rfl))
noncomputable def impl_Stone_steadySpeed_1.t (x0 : Nat) (x1 : Nat) (x2 : Nat) (x3 : Nat) (x4 : Nat) (x5 : Nat) : T Nat :=
  .leaf (impl_Stone_load x0 x1 x2 x3 x4 x5)
noncomputable def impl_Stone_steadySpeed_1 (x0 : Nat) (x1 : Nat) (x2 : Nat) (x3 : Nat) (x4 : Nat) (x5 : Nat) : Nat := (impl_Stone_steadySpeed_1.t x0 x1 x2 x3 x4 x5).val
def impl_Stone_steadySpeed_1.cd : Cd (Nat × Nat × Nat × Nat × Nat × Nat) (List V × Hp) := Cd.iso (Cd.pair (Cd.cons (Cd.fl .f32) (Cd.cons (Cd.pt 0 (Cd.natc 0)) (Cd.cons (Cd.pt 1 (Cd.natc 0)) Cd.nil))) (Cd.cons (Cd.rw 87 1 (Cd.vs (Cd.cons (Cd.pt 2 (Cd.natc 0)) Cd.nil))) (Cd.cons (Cd.rw 22 1 (Cd.vs (Cd.cons (Cd.fl .f32) Cd.nil))) (Cd.cons (Cd.rw 24 4 (Cd.vs (Cd.cons (Cd.fl .f32) (Cd.cons (Cd.fl .f32) (Cd.cons (Cd.fl .f32) (Cd.cons (Cd.fl .f32) Cd.nil)))))) Cd.nil)))) (fun a => (a.1.1, a.2.2.1.1, a.2.2.2.1.1, a.2.2.2.1.2.1, a.2.2.2.1.2.2.1, a.2.2.2.1.2.2.2.1)) (fun a => ((a.1, ((), ((), ()))), (((), ()), ((a.2.1, ()), ((a.2.2.1, (a.2.2.2.1, (a.2.2.2.2.1, (a.2.2.2.2.2, ())))), ()))))) (fun _ => rfl)
noncomputable def impl_Stone_steadySpeed_1.tr (a : Nat × Nat × Nat × Nat × Nat × Nat) : T Nat := impl_Stone_steadySpeed_1.t a.1 a.2.1 a.2.2.1 a.2.2.2.1 a.2.2.2.2.1 a.2.2.2.2.2
def impl_Stone_steadySpeed_1.enc : (Nat × Nat × Nat × Nat × Nat × Nat) → Nat → V := fun a r => .fl .f32 r
noncomputable def impl_Stone_steadySpeed_1.c : List V → Hp → T V := cdQ impl_Stone_steadySpeed_1.cd (fun a => .leaf (impl_Stone_steadySpeed_1.enc a (impl_Stone_steadySpeed_1 a.1 a.2.1 a.2.2.1 a.2.2.2.1 a.2.2.2.2.1 a.2.2.2.2.2)))
theorem impl_Stone_steadySpeed_1.run (a : Nat × Nat × Nat × Nat × Nat × Nat) : runF impl_Stone_steadySpeed_1.C Tryd.f73.results.toList impl_Stone_steadySpeed_1.b (impl_Stone_steadySpeed_1.cd.enc a).1 (impl_Stone_steadySpeed_1.cd.enc a).2 = (impl_Stone_steadySpeed_1.tr a).map fun r => (impl_Stone_steadySpeed_1.enc a r, (impl_Stone_steadySpeed_1.cd.enc a).2) := by kernel_rfl
theorem impl_Stone_steadySpeed_1.cok : OKq Tryd.prog 73 impl_Stone_steadySpeed_1.c := con_q' impl_Stone_steadySpeed_1.cd impl_Stone_steadySpeed_1.hC Tryd.func73 (by kernel_rfl) (by kernel_rfl) (by kernel_rfl) impl_Stone_steadySpeed_1.lp (fun a => by kernel_rfl) impl_Stone_steadySpeed_1.run (Tells.val (tree := impl_Stone_steadySpeed_1.tr) fun a => by kernel_rfl)
/-! ### impl_halved -/
noncomputable def impl_halved.b : Code := bodyOf Tryd.f77
noncomputable def impl_halved.C : Ctx := { ty := tys, fn := [], lp := [], n := 9, k := 0 }
theorem impl_halved.hC : CtxOK Tryd.prog impl_halved.C := CtxOK.of mo tys_ok FnsOK.nil
theorem impl_halved.lp : LpOK Tryd.prog impl_halved.C impl_halved.b := (LpOK.nil (by kernel_rfl))
noncomputable def impl_halved.t (x0 : Nat) (x1 : Nat) : T Nat :=
  .leaf (fdiv .f32 (fadd .f32 x0 x1) 1073741824)
noncomputable def impl_halved (x0 : Nat) (x1 : Nat) : Nat := (impl_halved.t x0 x1).val
def impl_halved.cd : Cd (Nat × Nat) (List V × Hp) := Cd.iso (Cd.pair (Cd.cons (Cd.fl .f32) (Cd.cons (Cd.fl .f32) Cd.nil)) Cd.nil) (fun a => (a.1.1, a.1.2.1)) (fun a => ((a.1, (a.2, ())), ())) (fun _ => rfl)
noncomputable def impl_halved.tr (a : Nat × Nat) : T Nat := impl_halved.t a.1 a.2
def impl_halved.enc : (Nat × Nat) → Nat → V := fun a r => .fl .f32 r
noncomputable def impl_halved.c : List V → Hp → T V := cdQ impl_halved.cd (fun a => .leaf (impl_halved.enc a (impl_halved a.1 a.2)))
theorem impl_halved.run (a : Nat × Nat) : runF impl_halved.C Tryd.f77.results.toList impl_halved.b (impl_halved.cd.enc a).1 (impl_halved.cd.enc a).2 = (impl_halved.tr a).map fun r => (impl_halved.enc a r, (impl_halved.cd.enc a).2) := by kernel_rfl
theorem impl_halved.cok : OKq Tryd.prog 77 impl_halved.c := con_q' impl_halved.cd impl_halved.hC Tryd.func77 (by kernel_rfl) (by kernel_rfl) (by kernel_rfl) impl_halved.lp (fun a => by kernel_rfl) impl_halved.run (Tells.val (tree := impl_halved.tr) fun a => by kernel_rfl)
/-! ### impl_steady -/
noncomputable def impl_steady.b : Code := bodyOf Tryd.f60
noncomputable def impl_steady.l3.s (x0 : Nat) (x1 : Nat) (x2 : Nat) (x3 : Int) (x4 : Int) (x5 : Nat) (x6 : Nat) (x7 : Nat) (x8 : Nat) (x9 : Nat) : T ((Nat × Nat × Int) ⊕ Nat) :=
  .br (decide (x4 < x3))
  (.br (fgt .f32 (impl_Stone_steadySpeed_1 (impl_halved x1 x2) x5 x6 x7 x8 x9) x0)
   (.leaf (.inl (x1, (impl_halved x1 x2), (IntKind.wrap .i64 (x4 + (1 : Int))))))
   (.leaf (.inl ((impl_halved x1 x2), x2, (IntKind.wrap .i64 (x4 + (1 : Int)))))))
  (.leaf (.inr x1))
noncomputable def impl_steady.l3.st (p : Nat × Int × Nat × Nat × Nat × Nat × Nat) (x : Nat × Nat × Int) : T ((Nat × Nat × Int) ⊕ Nat) := impl_steady.l3.s p.1 x.1 x.2.1 p.2.1 x.2.2 p.2.2.1 p.2.2.2.1 p.2.2.2.2.1 p.2.2.2.2.2.1 p.2.2.2.2.2.2
noncomputable def impl_steady.l3.r (p : Nat × Int × Nat × Nat × Nat × Nat × Nat) (x : Nat × Nat × Int) : Option Nat := iterT (impl_steady.l3.st p) manyRounds x
def impl_steady.l3.cd : Cd ((Nat × Int × Nat × Nat × Nat × Nat × Nat) × (Nat × Nat × Int)) (List V × Hp) := Cd.iso (Cd.pair (Cd.cons (Cd.fl .f32) (Cd.cons (Cd.fu 73 (Cd.cons (Cd.pt 0 (Cd.natc 0)) (Cd.cons (Cd.pt 1 (Cd.natc 0)) Cd.nil))) (Cd.cons (Cd.fl .f32) (Cd.cons (Cd.fl .f32) (Cd.cons (Cd.it .i64) (Cd.cons (Cd.it .i64) Cd.nil)))))) (Cd.cons (Cd.rw 87 1 (Cd.vs (Cd.cons (Cd.pt 2 (Cd.natc 0)) Cd.nil))) (Cd.cons (Cd.rw 22 1 (Cd.vs (Cd.cons (Cd.fl .f32) Cd.nil))) (Cd.cons (Cd.rw 24 4 (Cd.vs (Cd.cons (Cd.fl .f32) (Cd.cons (Cd.fl .f32) (Cd.cons (Cd.fl .f32) (Cd.cons (Cd.fl .f32) Cd.nil)))))) Cd.nil)))) (fun a => ((a.1.1, a.1.2.2.2.2.1, a.2.2.1.1, a.2.2.2.1.1, a.2.2.2.1.2.1, a.2.2.2.1.2.2.1, a.2.2.2.1.2.2.2.1), (a.1.2.2.1, a.1.2.2.2.1, a.1.2.2.2.2.2.1))) (fun a => ((a.1.1, (((), ((), ())), (a.2.1, (a.2.2.1, (a.1.2.1, (a.2.2.2, ())))))), (((), ()), ((a.1.2.2.1, ()), ((a.1.2.2.2.1, (a.1.2.2.2.2.1, (a.1.2.2.2.2.2.1, (a.1.2.2.2.2.2.2, ())))), ()))))) (fun _ => rfl)
def impl_steady.l3.out (p : Nat × Int × Nat × Nat × Nat × Nat × Nat) : Nat → X × List V × Hp := (fun r => (.ex 0, [.fl .f32 r], [some ⟨true, 87, 1, .vs [.pt 2 0]⟩, some ⟨true, 22, 1, .vs [.fl .f32 p.2.2.1]⟩, some ⟨true, 24, 4, .vs [.fl .f32 p.2.2.2.1, .fl .f32 p.2.2.2.2.1, .fl .f32 p.2.2.2.2.2.1, .fl .f32 p.2.2.2.2.2.2]⟩]))
def impl_steady.l3.ex (p : Nat × Int × Nat × Nat × Nat × Nat × Nat) : Nat → T (X × List V × Hp) := leafT (fun r => (.ex 0, [.fl .f32 r], [some ⟨true, 87, 1, .vs [.pt 2 0]⟩, some ⟨true, 22, 1, .vs [.fl .f32 p.2.2.1]⟩, some ⟨true, 24, 4, .vs [.fl .f32 p.2.2.2.1, .fl .f32 p.2.2.2.2.1, .fl .f32 p.2.2.2.2.2.1, .fl .f32 p.2.2.2.2.2.2]⟩]))
noncomputable def impl_steady.l3.c : List V → Hp → T (X × List V × Hp) := cdL impl_steady.l3.cd fun x => optT (impl_steady.l3.r x.1 x.2) (impl_steady.l3.ex x.1)
noncomputable def impl_steady.C : Ctx := { ty := tys, fn := [(77, .q impl_halved.c), (73, .q impl_Stone_steadySpeed_1.c)], lp := [(3, ⟨[0, 2, 7, 8, 10, 11], [7], impl_steady.l3.c⟩)], n := 25, k := 3 }
theorem impl_steady.hC : CtxOK Tryd.prog impl_steady.C := CtxOK.of mo tys_ok (FnsOK.cons impl_halved.cok (FnsOK.cons impl_Stone_steadySpeed_1.cok FnsOK.nil))
noncomputable def impl_steady.b3 : Code := (nthC (loopsOf impl_steady.b) 0)
theorem impl_steady.lp3 : LpOK Tryd.prog impl_steady.C impl_steady.b3 := (LpOK.nil (by kernel_rfl))
theorem impl_steady.l3.round (p : Nat × Int × Nat × Nat × Nat × Nat × Nat) (s : Nat × Nat × Int) : roundL impl_steady.C [0, 2, 7, 8, 10, 11] [7] impl_steady.b3 (impl_steady.l3.cd.enc (p, s)).1 (impl_steady.l3.cd.enc (p, s)).2 = (impl_steady.l3.st p s).map (encSum (fun s => impl_steady.l3.cd.enc (p, s)) (impl_steady.l3.out p)) := by kernel_rfl
theorem impl_steady.l3.lok : LoopOK Tryd.prog impl_steady.C ⟨[0, 2, 7, 8, 10, 11], [7], impl_steady.l3.c⟩ impl_steady.b3 := loop_cd impl_steady.l3.cd impl_steady.hC impl_steady.lp3 impl_steady.l3.round fun p => Gets.leaf
theorem impl_steady.lp : LpOK Tryd.prog impl_steady.C impl_steady.b := lp_of (by kernel_rfl) (LpsOK.cons (k := 3) (by kernel_rfl) (by kernel_rfl) impl_steady.l3.lok LpsOK.nil)
noncomputable def impl_steady.t (x0 : Nat) (x1 : Int) (x2 : Nat) (x3 : Nat) (x4 : Nat) (x5 : Nat) (x6 : Nat) : T Nat :=
  .br (Option.isSome (impl_steady.l3.r (x0, x1, x2, x3, x4, x5, x6) (0, 1149239296, (0 : Int))))
  (.leaf (Option.getD (impl_steady.l3.r (x0, x1, x2, x3, x4, x5, x6) (0, 1149239296, (0 : Int))) default))
  .bad
noncomputable def impl_steady (x0 : Nat) (x1 : Int) (x2 : Nat) (x3 : Nat) (x4 : Nat) (x5 : Nat) (x6 : Nat) : Nat := (impl_steady.t x0 x1 x2 x3 x4 x5 x6).val
noncomputable def impl_steady.ok (x0 : Nat) (x1 : Int) (x2 : Nat) (x3 : Nat) (x4 : Nat) (x5 : Nat) (x6 : Nat) : Bool := (impl_steady.t x0 x1 x2 x3 x4 x5 x6).ok
def impl_steady.cd : Cd (Nat × Int × Nat × Nat × Nat × Nat × Nat) (List V × Hp) := Cd.iso (Cd.pair (Cd.cons (Cd.fl .f32) (Cd.cons (Cd.it .i64) (Cd.cons (Cd.fu 73 (Cd.cons (Cd.pt 0 (Cd.natc 0)) (Cd.cons (Cd.pt 1 (Cd.natc 0)) Cd.nil))) Cd.nil))) (Cd.cons (Cd.rw 87 1 (Cd.vs (Cd.cons (Cd.pt 2 (Cd.natc 0)) Cd.nil))) (Cd.cons (Cd.rw 22 1 (Cd.vs (Cd.cons (Cd.fl .f32) Cd.nil))) (Cd.cons (Cd.rw 24 4 (Cd.vs (Cd.cons (Cd.fl .f32) (Cd.cons (Cd.fl .f32) (Cd.cons (Cd.fl .f32) (Cd.cons (Cd.fl .f32) Cd.nil)))))) Cd.nil)))) (fun a => (a.1.1, a.1.2.1, a.2.2.1.1, a.2.2.2.1.1, a.2.2.2.1.2.1, a.2.2.2.1.2.2.1, a.2.2.2.1.2.2.2.1)) (fun a => ((a.1, (a.2.1, (((), ((), ())), ()))), (((), ()), ((a.2.2.1, ()), ((a.2.2.2.1, (a.2.2.2.2.1, (a.2.2.2.2.2.1, (a.2.2.2.2.2.2, ())))), ()))))) (fun _ => rfl)
noncomputable def impl_steady.tr (a : Nat × Int × Nat × Nat × Nat × Nat × Nat) : T Nat := impl_steady.t a.1 a.2.1 a.2.2.1 a.2.2.2.1 a.2.2.2.2.1 a.2.2.2.2.2.1 a.2.2.2.2.2.2
def impl_steady.enc : (Nat × Int × Nat × Nat × Nat × Nat × Nat) → Nat → V := fun a r => .fl .f32 r
noncomputable def impl_steady.c : List V → Hp → T V := cdQ impl_steady.cd (fun a => .br (impl_steady.ok a.1 a.2.1 a.2.2.1 a.2.2.2.1 a.2.2.2.2.1 a.2.2.2.2.2.1 a.2.2.2.2.2.2) (.leaf (impl_steady.enc a (impl_steady a.1 a.2.1 a.2.2.1 a.2.2.2.1 a.2.2.2.2.1 a.2.2.2.2.2.1 a.2.2.2.2.2.2))) .bad)
theorem impl_steady.run (a : Nat × Int × Nat × Nat × Nat × Nat × Nat) : runF impl_steady.C Tryd.f60.results.toList impl_steady.b (impl_steady.cd.enc a).1 (impl_steady.cd.enc a).2 = (impl_steady.tr a).map fun r => (impl_steady.enc a r, (impl_steady.cd.enc a).2) := by kernel_rfl
theorem impl_steady.cok : OKq Tryd.prog 60 impl_steady.c := con_q' impl_steady.cd impl_steady.hC Tryd.func60 (by kernel_rfl) (by kernel_rfl) (by kernel_rfl) impl_steady.lp (fun a => by kernel_rfl) impl_steady.run (Tells.ok (tree := impl_steady.tr))
/-! ### impl_Stone_steadySpeed -/
noncomputable def impl_Stone_steadySpeed.b : Code := bodyOf Tryd.f42
noncomputable def impl_Stone_steadySpeed.C : Ctx := { ty := tys, fn := [(73, .q impl_Stone_steadySpeed_1.c), (60, .q impl_steady.c)], lp := [], n := 20, k := 1 }
theorem impl_Stone_steadySpeed.hC : CtxOK Tryd.prog impl_Stone_steadySpeed.C := CtxOK.of mo tys_ok (FnsOK.cons impl_Stone_steadySpeed_1.cok (FnsOK.cons impl_steady.cok FnsOK.nil))
theorem impl_Stone_steadySpeed.lp : LpOK Tryd.prog impl_Stone_steadySpeed.C impl_Stone_steadySpeed.b := (LpOK.nil (by kernel_rfl))
noncomputable def impl_Stone_steadySpeed.t (x0 : Nat) (x1 : Nat) (x2 : Int) (x3 : Nat) (x4 : Nat) (x5 : Nat) (x6 : Nat) : T (Nat × Bool) :=
  .br (fgt .f32 (impl_Stone_steadySpeed_1 0 x1 x3 x4 x5 x6) x0)
  (.leaf (0, false))
  (.br (impl_steady.ok x0 x2 x1 x3 x4 x5 x6)
   (.leaf ((impl_steady x0 x2 x1 x3 x4 x5 x6), true))
   .bad)
noncomputable def impl_Stone_steadySpeed (x0 : Nat) (x1 : Nat) (x2 : Int) (x3 : Nat) (x4 : Nat) (x5 : Nat) (x6 : Nat) : Nat × Bool := (impl_Stone_steadySpeed.t x0 x1 x2 x3 x4 x5 x6).val
noncomputable def impl_Stone_steadySpeed.ok (x0 : Nat) (x1 : Nat) (x2 : Int) (x3 : Nat) (x4 : Nat) (x5 : Nat) (x6 : Nat) : Bool := (impl_Stone_steadySpeed.t x0 x1 x2 x3 x4 x5 x6).ok
def impl_Stone_steadySpeed.cd : Cd (Nat × Nat × Int × Nat × Nat × Nat × Nat) (List V × Hp) := Cd.iso (Cd.pair (Cd.cons (Cd.pt 0 (Cd.natc 0)) (Cd.cons (Cd.fl .f32) (Cd.cons (Cd.fl .f32) (Cd.cons (Cd.it .i64) Cd.nil)))) (Cd.cons (Cd.rw 24 4 (Cd.vs (Cd.cons (Cd.fl .f32) (Cd.cons (Cd.fl .f32) (Cd.cons (Cd.fl .f32) (Cd.cons (Cd.fl .f32) Cd.nil)))))) Cd.nil)) (fun a => (a.1.2.1, a.1.2.2.1, a.1.2.2.2.1, a.2.1.1, a.2.1.2.1, a.2.1.2.2.1, a.2.1.2.2.2.1)) (fun a => (((), (a.1, (a.2.1, (a.2.2.1, ())))), ((a.2.2.2.1, (a.2.2.2.2.1, (a.2.2.2.2.2.1, (a.2.2.2.2.2.2, ())))), ()))) (fun _ => rfl)
noncomputable def impl_Stone_steadySpeed.tr (a : Nat × Nat × Int × Nat × Nat × Nat × Nat) : T (Nat × Bool) := impl_Stone_steadySpeed.t a.1 a.2.1 a.2.2.1 a.2.2.2.1 a.2.2.2.2.1 a.2.2.2.2.2.1 a.2.2.2.2.2.2
def impl_Stone_steadySpeed.enc : (Nat × Nat × Int × Nat × Nat × Nat × Nat) → (Nat × Bool) → V := fun a r => .tup [.fl .f32 r.1, .bo r.2]
noncomputable def impl_Stone_steadySpeed.c : List V → Hp → T V := cdQ impl_Stone_steadySpeed.cd (fun a => .br (impl_Stone_steadySpeed.ok a.1 a.2.1 a.2.2.1 a.2.2.2.1 a.2.2.2.2.1 a.2.2.2.2.2.1 a.2.2.2.2.2.2) (.leaf (impl_Stone_steadySpeed.enc a (impl_Stone_steadySpeed a.1 a.2.1 a.2.2.1 a.2.2.2.1 a.2.2.2.2.1 a.2.2.2.2.2.1 a.2.2.2.2.2.2))) .bad)
theorem impl_Stone_steadySpeed.run (a : Nat × Nat × Int × Nat × Nat × Nat × Nat) : runF impl_Stone_steadySpeed.C Tryd.f42.results.toList impl_Stone_steadySpeed.b (impl_Stone_steadySpeed.cd.enc a).1 (impl_Stone_steadySpeed.cd.enc a).2 = (impl_Stone_steadySpeed.tr a).map fun r => (impl_Stone_steadySpeed.enc a r, (impl_Stone_steadySpeed.cd.enc a).2) := by kernel_rfl
theorem impl_Stone_steadySpeed.cok : OKq Tryd.prog 42 impl_Stone_steadySpeed.c := con_q' impl_Stone_steadySpeed.cd impl_Stone_steadySpeed.hC Tryd.func42 (by kernel_rfl) (by kernel_rfl) (by kernel_rfl) impl_Stone_steadySpeed.lp (fun a => by kernel_rfl) impl_Stone_steadySpeed.run (Tells.ok (tree := impl_Stone_steadySpeed.tr))
/-! ### impl_SteadySpeed -/
noncomputable def impl_SteadySpeed.b : Code := bodyOf Tryd.f12
noncomputable def impl_SteadySpeed.C : Ctx := { ty := tys, fn := [(39, .q impl_isAmount.c), (40, .q impl_IsRate.c), (41, .q impl_within.c), (38, .q impl_stoneCode.c), (42, .q impl_Stone_steadySpeed.c)], lp := [], n := 38, k := 1 }
theorem impl_SteadySpeed.hC : CtxOK Tryd.prog impl_SteadySpeed.C := CtxOK.of mo tys_ok (FnsOK.cons impl_isAmount.cok (FnsOK.cons impl_IsRate.cok (FnsOK.cons impl_within.cok (FnsOK.cons impl_stoneCode.cok (FnsOK.cons impl_Stone_steadySpeed.cok FnsOK.nil)))))
theorem impl_SteadySpeed.lp : LpOK Tryd.prog impl_SteadySpeed.C impl_SteadySpeed.b := (LpOK.nil (by kernel_rfl))
noncomputable def impl_SteadySpeed.t (x0 : Nat) (x1 : Nat) (x2 : Nat) (x3 : Nat) (x4 : Nat) (x5 : Nat) (x6 : Int) (x7 : Int) : T (Nat × Int) :=
  .br (impl_isAmount x4)
  (.br (impl_IsRate x5)
   (.br ((impl_stoneCode x0 x1 x2 x3 (impl_within x6 (0 : Int) (60 : Int))) != (0 : Int))
    (.leaf (0, (impl_stoneCode x0 x1 x2 x3 (impl_within x6 (0 : Int) (60 : Int)))))
    (.br (impl_Stone_steadySpeed.ok x4 x5 x6 x0 x1 x2 x3)
     (.br (!(impl_Stone_steadySpeed x4 x5 x6 x0 x1 x2 x3).2)
      (.leaf (0, (6 : Int)))
      (.leaf ((impl_Stone_steadySpeed x4 x5 x6 x0 x1 x2 x3).1, (0 : Int))))
     .bad))
   (.br ((impl_stoneCode x0 x1 x2 x3 false) != (0 : Int))
    (.leaf (0, (impl_stoneCode x0 x1 x2 x3 false)))
    (.br (impl_Stone_steadySpeed.ok x4 x5 x6 x0 x1 x2 x3)
     (.br (!(impl_Stone_steadySpeed x4 x5 x6 x0 x1 x2 x3).2)
      (.leaf (0, (6 : Int)))
      (.leaf ((impl_Stone_steadySpeed x4 x5 x6 x0 x1 x2 x3).1, (0 : Int))))
     .bad)))
  (.br ((impl_stoneCode x0 x1 x2 x3 false) != (0 : Int))
   (.leaf (0, (impl_stoneCode x0 x1 x2 x3 false)))
   (.br (impl_Stone_steadySpeed.ok x4 x5 x6 x0 x1 x2 x3)
    (.br (!(impl_Stone_steadySpeed x4 x5 x6 x0 x1 x2 x3).2)
     (.leaf (0, (6 : Int)))
     (.leaf ((impl_Stone_steadySpeed x4 x5 x6 x0 x1 x2 x3).1, (0 : Int))))
    .bad))
noncomputable def impl_SteadySpeed (x0 : Nat) (x1 : Nat) (x2 : Nat) (x3 : Nat) (x4 : Nat) (x5 : Nat) (x6 : Int) (x7 : Int) : Nat × Int := (impl_SteadySpeed.t x0 x1 x2 x3 x4 x5 x6 x7).val
noncomputable def impl_SteadySpeed.ok (x0 : Nat) (x1 : Nat) (x2 : Nat) (x3 : Nat) (x4 : Nat) (x5 : Nat) (x6 : Int) (x7 : Int) : Bool := (impl_SteadySpeed.t x0 x1 x2 x3 x4 x5 x6 x7).ok
def impl_SteadySpeed.cd : Cd (Nat × Nat × Nat × Nat × Nat × Nat × Int × Int) (List V × Hp) := Cd.iso (Cd.pair (Cd.cons (Cd.agg (Cd.cons (Cd.fl .f32) (Cd.cons (Cd.fl .f32) (Cd.cons (Cd.fl .f32) (Cd.cons (Cd.fl .f32) Cd.nil))))) (Cd.cons (Cd.fl .f32) (Cd.cons (Cd.fl .f32) (Cd.cons (Cd.it .i64) Cd.nil)))) (Cd.cons (Cd.ro 0 2 (Cd.vs (Cd.cons (Cd.it .i64) Cd.nil))) Cd.nil)) (fun a => (a.1.1.1, a.1.1.2.1, a.1.1.2.2.1, a.1.1.2.2.2.1, a.1.2.1, a.1.2.2.1, a.1.2.2.2.1, a.2.1.1)) (fun a => (((a.1, (a.2.1, (a.2.2.1, (a.2.2.2.1, ())))), (a.2.2.2.2.1, (a.2.2.2.2.2.1, (a.2.2.2.2.2.2.1, ())))), ((a.2.2.2.2.2.2.2, ()), ()))) (fun _ => rfl)
noncomputable def impl_SteadySpeed.tr (a : Nat × Nat × Nat × Nat × Nat × Nat × Int × Int) : T (Nat × Int) := impl_SteadySpeed.t a.1 a.2.1 a.2.2.1 a.2.2.2.1 a.2.2.2.2.1 a.2.2.2.2.2.1 a.2.2.2.2.2.2.1 a.2.2.2.2.2.2.2
def impl_SteadySpeed.enc : (Nat × Nat × Nat × Nat × Nat × Nat × Int × Int) → (Nat × Int) → V := fun a r => .tup [.fl .f32 r.1, .it .i64 r.2]
noncomputable def impl_SteadySpeed.c : List V → Hp → T V := cdQ impl_SteadySpeed.cd (fun a => .br (impl_SteadySpeed.ok a.1 a.2.1 a.2.2.1 a.2.2.2.1 a.2.2.2.2.1 a.2.2.2.2.2.1 a.2.2.2.2.2.2.1 a.2.2.2.2.2.2.2) (.leaf (impl_SteadySpeed.enc a (impl_SteadySpeed a.1 a.2.1 a.2.2.1 a.2.2.2.1 a.2.2.2.2.1 a.2.2.2.2.2.1 a.2.2.2.2.2.2.1 a.2.2.2.2.2.2.2))) .bad)
theorem impl_SteadySpeed.run (a : Nat × Nat × Nat × Nat × Nat × Nat × Int × Int) : runF impl_SteadySpeed.C Tryd.f12.results.toList impl_SteadySpeed.b (impl_SteadySpeed.cd.enc a).1 (impl_SteadySpeed.cd.enc a).2 = (impl_SteadySpeed.tr a).map fun r => (impl_SteadySpeed.enc a r, (impl_SteadySpeed.cd.enc a).2) := by kernel_rfl
theorem impl_SteadySpeed.cok : OKq Tryd.prog 12 impl_SteadySpeed.c := con_q' impl_SteadySpeed.cd impl_SteadySpeed.hC Tryd.func12 (by kernel_rfl) (by kernel_rfl) (by kernel_rfl) impl_SteadySpeed.lp (fun a => by kernel_rfl) impl_SteadySpeed.run (Tells.ok (tree := impl_SteadySpeed.tr))
/-! ### spec_l04Rate -/
noncomputable def spec_l04Rate.b : Code := bodyOf Tryd.f62
noncomputable def spec_l04Rate.C : Ctx := { ty := tys, fn := [], lp := [], n := 9, k := 0 }
theorem spec_l04Rate.hC : CtxOK Tryd.prog spec_l04Rate.C := CtxOK.of mo tys_ok FnsOK.nil
theorem spec_l04Rate.lp : LpOK Tryd.prog spec_l04Rate.C spec_l04Rate.b := (LpOK.nil (by kernel_rfl))
noncomputable def spec_l04Rate.t (x0 : Nat) : T Bool :=
  .br (fge .f32 x0 0)
  (.leaf (fle .f32 x0 1149239296))
  (.leaf false)
noncomputable def spec_l04Rate (x0 : Nat) : Bool := (spec_l04Rate.t x0).val
def spec_l04Rate.cd : Cd Nat (List V × Hp) := Cd.iso (Cd.pair (Cd.cons (Cd.fl .f32) Cd.nil) Cd.nil) (fun a => a.1.1) (fun a => ((a, ()), ())) (fun _ => rfl)
noncomputable def spec_l04Rate.tr (a : Nat) : T Bool := spec_l04Rate.t a
def spec_l04Rate.enc : Nat → Bool → V := fun a r => .bo r
noncomputable def spec_l04Rate.c : List V → Hp → T V := cdQ spec_l04Rate.cd (fun a => .leaf (spec_l04Rate.enc a (spec_l04Rate a)))
theorem spec_l04Rate.run (a : Nat) : runF spec_l04Rate.C Tryd.f62.results.toList spec_l04Rate.b (spec_l04Rate.cd.enc a).1 (spec_l04Rate.cd.enc a).2 = (spec_l04Rate.tr a).map fun r => (spec_l04Rate.enc a r, (spec_l04Rate.cd.enc a).2) := by kernel_rfl
theorem spec_l04Rate.cok : OKq Tryd.prog 62 spec_l04Rate.c := con_q' spec_l04Rate.cd spec_l04Rate.hC Tryd.func62 (by kernel_rfl) (by kernel_rfl) (by kernel_rfl) spec_l04Rate.lp (fun a => by kernel_rfl) spec_l04Rate.run (Tells.val (tree := spec_l04Rate.tr) fun a => by kernel_rfl)
/-! ### spec_l01Part -/
noncomputable def spec_l01Part.b : Code := bodyOf Tryd.f65
noncomputable def spec_l01Part.C : Ctx := { ty := tys, fn := [], lp := [], n := 9, k := 0 }
theorem spec_l01Part.hC : CtxOK Tryd.prog spec_l01Part.C := CtxOK.of mo tys_ok FnsOK.nil
theorem spec_l01Part.lp : LpOK Tryd.prog spec_l01Part.C spec_l01Part.b := (LpOK.nil (by kernel_rfl))
noncomputable def spec_l01Part.t (x0 : Nat) : T Bool :=
  .br (fge .f32 x0 0)
  (.leaf (fle .f32 x0 1065353216))
  (.leaf false)
noncomputable def spec_l01Part (x0 : Nat) : Bool := (spec_l01Part.t x0).val
def spec_l01Part.cd : Cd Nat (List V × Hp) := Cd.iso (Cd.pair (Cd.cons (Cd.fl .f32) Cd.nil) Cd.nil) (fun a => a.1.1) (fun a => ((a, ()), ())) (fun _ => rfl)
noncomputable def spec_l01Part.tr (a : Nat) : T Bool := spec_l01Part.t a
def spec_l01Part.enc : Nat → Bool → V := fun a r => .bo r
noncomputable def spec_l01Part.c : List V → Hp → T V := cdQ spec_l01Part.cd (fun a => .leaf (spec_l01Part.enc a (spec_l01Part a)))
theorem spec_l01Part.run (a : Nat) : runF spec_l01Part.C Tryd.f65.results.toList spec_l01Part.b (spec_l01Part.cd.enc a).1 (spec_l01Part.cd.enc a).2 = (spec_l01Part.tr a).map fun r => (spec_l01Part.enc a r, (spec_l01Part.cd.enc a).2) := by kernel_rfl
theorem spec_l01Part.cok : OKq Tryd.prog 65 spec_l01Part.c := con_q' spec_l01Part.cd spec_l01Part.hC Tryd.func65 (by kernel_rfl) (by kernel_rfl) (by kernel_rfl) spec_l01Part.lp (fun a => by kernel_rfl) spec_l01Part.run (Tells.val (tree := spec_l01Part.tr) fun a => by kernel_rfl)
/-! ### spec_l04Ok -/
noncomputable def spec_l04Ok.b : Code := bodyOf Tryd.f30
noncomputable def spec_l04Ok.C : Ctx := { ty := tys, fn := [(62, .q spec_l04Rate.c), (65, .q spec_l01Part.c)], lp := [], n := 21, k := 0 }
theorem spec_l04Ok.hC : CtxOK Tryd.prog spec_l04Ok.C := CtxOK.of mo tys_ok (FnsOK.cons spec_l04Rate.cok (FnsOK.cons spec_l01Part.cok FnsOK.nil))
theorem spec_l04Ok.lp : LpOK Tryd.prog spec_l04Ok.C spec_l04Ok.b := (LpOK.nil (by kernel_rfl))
noncomputable def spec_l04Ok.t (x0 : Nat) (x1 : Nat) (x2 : Nat) (x3 : Nat) : T Bool :=
  .br (spec_l04Rate x0)
  (.br (spec_l04Rate x1)
   (.br (spec_l04Rate x2)
    (.leaf (spec_l01Part x3))
    (.leaf false))
   (.leaf false))
  (.leaf false)
noncomputable def spec_l04Ok (x0 : Nat) (x1 : Nat) (x2 : Nat) (x3 : Nat) : Bool := (spec_l04Ok.t x0 x1 x2 x3).val
def spec_l04Ok.cd : Cd (Nat × Nat × Nat × Nat) (List V × Hp) := Cd.iso (Cd.pair (Cd.cons (Cd.agg (Cd.cons (Cd.fl .f32) (Cd.cons (Cd.fl .f32) (Cd.cons (Cd.fl .f32) (Cd.cons (Cd.fl .f32) Cd.nil))))) Cd.nil) Cd.nil) (fun a => (a.1.1.1, a.1.1.2.1, a.1.1.2.2.1, a.1.1.2.2.2.1)) (fun a => (((a.1, (a.2.1, (a.2.2.1, (a.2.2.2, ())))), ()), ())) (fun _ => rfl)
noncomputable def spec_l04Ok.tr (a : Nat × Nat × Nat × Nat) : T Bool := spec_l04Ok.t a.1 a.2.1 a.2.2.1 a.2.2.2
def spec_l04Ok.enc : (Nat × Nat × Nat × Nat) → Bool → V := fun a r => .bo r
noncomputable def spec_l04Ok.c : List V → Hp → T V := cdQ spec_l04Ok.cd (fun a => .leaf (spec_l04Ok.enc a (spec_l04Ok a.1 a.2.1 a.2.2.1 a.2.2.2)))
theorem spec_l04Ok.run (a : Nat × Nat × Nat × Nat) : runF spec_l04Ok.C Tryd.f30.results.toList spec_l04Ok.b (spec_l04Ok.cd.enc a).1 (spec_l04Ok.cd.enc a).2 = (spec_l04Ok.tr a).map fun r => (spec_l04Ok.enc a r, (spec_l04Ok.cd.enc a).2) := by kernel_rfl
theorem spec_l04Ok.cok : OKq Tryd.prog 30 spec_l04Ok.c := con_q' spec_l04Ok.cd spec_l04Ok.hC Tryd.func30 (by kernel_rfl) (by kernel_rfl) (by kernel_rfl) spec_l04Ok.lp (fun a => by kernel_rfl) spec_l04Ok.run (Tells.val (tree := spec_l04Ok.tr) fun a => by kernel_rfl)
/-! ### spec_l04Asked -/
noncomputable def spec_l04Asked.b : Code := bodyOf Tryd.f48
noncomputable def spec_l04Asked.C : Ctx := { ty := tys, fn := [(30, .q spec_l04Ok.c), (62, .q spec_l04Rate.c)], lp := [], n := 18, k := 0 }
theorem spec_l04Asked.hC : CtxOK Tryd.prog spec_l04Asked.C := CtxOK.of mo tys_ok (FnsOK.cons spec_l04Ok.cok (FnsOK.cons spec_l04Rate.cok FnsOK.nil))
theorem spec_l04Asked.lp : LpOK Tryd.prog spec_l04Asked.C spec_l04Asked.b := (LpOK.nil (by kernel_rfl))
noncomputable def spec_l04Asked.t (x0 : Nat) (x1 : Nat) (x2 : Nat) (x3 : Nat) (x4 : Nat) (x5 : Nat) : T Int :=
  .br (!(spec_l04Ok x0 x1 x2 x3))
  (.leaf (1 : Int))
  (.br (!(spec_l04Rate x4))
   (.leaf (2 : Int))
   (.br (!(spec_l04Rate x5))
    (.leaf (2 : Int))
    (.leaf (0 : Int))))
noncomputable def spec_l04Asked (x0 : Nat) (x1 : Nat) (x2 : Nat) (x3 : Nat) (x4 : Nat) (x5 : Nat) : Int := (spec_l04Asked.t x0 x1 x2 x3 x4 x5).val
def spec_l04Asked.cd : Cd (Nat × Nat × Nat × Nat × Nat × Nat) (List V × Hp) := Cd.iso (Cd.pair (Cd.cons (Cd.agg (Cd.cons (Cd.fl .f32) (Cd.cons (Cd.fl .f32) (Cd.cons (Cd.fl .f32) (Cd.cons (Cd.fl .f32) Cd.nil))))) (Cd.cons (Cd.fl .f32) (Cd.cons (Cd.fl .f32) Cd.nil))) Cd.nil) (fun a => (a.1.1.1, a.1.1.2.1, a.1.1.2.2.1, a.1.1.2.2.2.1, a.1.2.1, a.1.2.2.1)) (fun a => (((a.1, (a.2.1, (a.2.2.1, (a.2.2.2.1, ())))), (a.2.2.2.2.1, (a.2.2.2.2.2, ()))), ())) (fun _ => rfl)
noncomputable def spec_l04Asked.tr (a : Nat × Nat × Nat × Nat × Nat × Nat) : T Int := spec_l04Asked.t a.1 a.2.1 a.2.2.1 a.2.2.2.1 a.2.2.2.2.1 a.2.2.2.2.2
def spec_l04Asked.enc : (Nat × Nat × Nat × Nat × Nat × Nat) → Int → V := fun a r => .it .i64 r
noncomputable def spec_l04Asked.c : List V → Hp → T V := cdQ spec_l04Asked.cd (fun a => .leaf (spec_l04Asked.enc a (spec_l04Asked a.1 a.2.1 a.2.2.1 a.2.2.2.1 a.2.2.2.2.1 a.2.2.2.2.2)))
theorem spec_l04Asked.run (a : Nat × Nat × Nat × Nat × Nat × Nat) : runF spec_l04Asked.C Tryd.f48.results.toList spec_l04Asked.b (spec_l04Asked.cd.enc a).1 (spec_l04Asked.cd.enc a).2 = (spec_l04Asked.tr a).map fun r => (spec_l04Asked.enc a r, (spec_l04Asked.cd.enc a).2) := by kernel_rfl
theorem spec_l04Asked.cok : OKq Tryd.prog 48 spec_l04Asked.c := con_q' spec_l04Asked.cd spec_l04Asked.hC Tryd.func48 (by kernel_rfl) (by kernel_rfl) (by kernel_rfl) spec_l04Asked.lp (fun a => by kernel_rfl) spec_l04Asked.run (Tells.val (tree := spec_l04Asked.tr) fun a => by kernel_rfl)
/-! ### spec_l03Amount -/
noncomputable def spec_l03Amount.b : Code := bodyOf Tryd.f61
noncomputable def spec_l03Amount.C : Ctx := { ty := tys, fn := [], lp := [], n := 9, k := 0 }
theorem spec_l03Amount.hC : CtxOK Tryd.prog spec_l03Amount.C := CtxOK.of mo tys_ok FnsOK.nil
theorem spec_l03Amount.lp : LpOK Tryd.prog spec_l03Amount.C spec_l03Amount.b := (LpOK.nil (by kernel_rfl))
noncomputable def spec_l03Amount.t (x0 : Nat) : T Bool :=
  .br (fge .f32 x0 0)
  (.leaf (fle .f32 x0 1233125376))
  (.leaf false)
noncomputable def spec_l03Amount (x0 : Nat) : Bool := (spec_l03Amount.t x0).val
def spec_l03Amount.cd : Cd Nat (List V × Hp) := Cd.iso (Cd.pair (Cd.cons (Cd.fl .f32) Cd.nil) Cd.nil) (fun a => a.1.1) (fun a => ((a, ()), ())) (fun _ => rfl)
noncomputable def spec_l03Amount.tr (a : Nat) : T Bool := spec_l03Amount.t a
def spec_l03Amount.enc : Nat → Bool → V := fun a r => .bo r
noncomputable def spec_l03Amount.c : List V → Hp → T V := cdQ spec_l03Amount.cd (fun a => .leaf (spec_l03Amount.enc a (spec_l03Amount a)))
theorem spec_l03Amount.run (a : Nat) : runF spec_l03Amount.C Tryd.f61.results.toList spec_l03Amount.b (spec_l03Amount.cd.enc a).1 (spec_l03Amount.cd.enc a).2 = (spec_l03Amount.tr a).map fun r => (spec_l03Amount.enc a r, (spec_l03Amount.cd.enc a).2) := by kernel_rfl
theorem spec_l03Amount.cok : OKq Tryd.prog 61 spec_l03Amount.c := con_q' spec_l03Amount.cd spec_l03Amount.hC Tryd.func61 (by kernel_rfl) (by kernel_rfl) (by kernel_rfl) spec_l03Amount.lp (fun a => by kernel_rfl) spec_l03Amount.run (Tells.val (tree := spec_l03Amount.tr) fun a => by kernel_rfl)
/-! ### spec_l04Turned -/
noncomputable def spec_l04Turned.b : Code := bodyOf Tryd.f43
noncomputable def spec_l04Turned.C : Ctx := { ty := tys, fn := [(48, .q spec_l04Asked.c), (61, .q spec_l03Amount.c)], lp := [], n := 19, k := 0 }
theorem spec_l04Turned.hC : CtxOK Tryd.prog spec_l04Turned.C := CtxOK.of mo tys_ok (FnsOK.cons spec_l04Asked.cok (FnsOK.cons spec_l03Amount.cok FnsOK.nil))
theorem spec_l04Turned.lp : LpOK Tryd.prog spec_l04Turned.C spec_l04Turned.b := (LpOK.nil (by kernel_rfl))
noncomputable def spec_l04Turned.t (x0 : Nat) (x1 : Nat) (x2 : Nat) (x3 : Nat) (x4 : Nat) (x5 : Nat) : T Int :=
  .br ((spec_l04Asked x0 x1 x2 x3 x5 0) == (0 : Int))
  (.br (!(spec_l03Amount x4))
   (.leaf (2 : Int))
   (.leaf (spec_l04Asked x0 x1 x2 x3 x5 0)))
  (.leaf (spec_l04Asked x0 x1 x2 x3 x5 0))
noncomputable def spec_l04Turned (x0 : Nat) (x1 : Nat) (x2 : Nat) (x3 : Nat) (x4 : Nat) (x5 : Nat) : Int := (spec_l04Turned.t x0 x1 x2 x3 x4 x5).val
def spec_l04Turned.cd : Cd (Nat × Nat × Nat × Nat × Nat × Nat) (List V × Hp) := Cd.iso (Cd.pair (Cd.cons (Cd.agg (Cd.cons (Cd.fl .f32) (Cd.cons (Cd.fl .f32) (Cd.cons (Cd.fl .f32) (Cd.cons (Cd.fl .f32) Cd.nil))))) (Cd.cons (Cd.fl .f32) (Cd.cons (Cd.fl .f32) Cd.nil))) Cd.nil) (fun a => (a.1.1.1, a.1.1.2.1, a.1.1.2.2.1, a.1.1.2.2.2.1, a.1.2.1, a.1.2.2.1)) (fun a => (((a.1, (a.2.1, (a.2.2.1, (a.2.2.2.1, ())))), (a.2.2.2.2.1, (a.2.2.2.2.2, ()))), ())) (fun _ => rfl)
noncomputable def spec_l04Turned.tr (a : Nat × Nat × Nat × Nat × Nat × Nat) : T Int := spec_l04Turned.t a.1 a.2.1 a.2.2.1 a.2.2.2.1 a.2.2.2.2.1 a.2.2.2.2.2
def spec_l04Turned.enc : (Nat × Nat × Nat × Nat × Nat × Nat) → Int → V := fun a r => .it .i64 r
noncomputable def spec_l04Turned.c : List V → Hp → T V := cdQ spec_l04Turned.cd (fun a => .leaf (spec_l04Turned.enc a (spec_l04Turned a.1 a.2.1 a.2.2.1 a.2.2.2.1 a.2.2.2.2.1 a.2.2.2.2.2)))
theorem spec_l04Turned.run (a : Nat × Nat × Nat × Nat × Nat × Nat) : runF spec_l04Turned.C Tryd.f43.results.toList spec_l04Turned.b (spec_l04Turned.cd.enc a).1 (spec_l04Turned.cd.enc a).2 = (spec_l04Turned.tr a).map fun r => (spec_l04Turned.enc a r, (spec_l04Turned.cd.enc a).2) := by kernel_rfl
theorem spec_l04Turned.cok : OKq Tryd.prog 43 spec_l04Turned.c := con_q' spec_l04Turned.cd spec_l04Turned.hC Tryd.func43 (by kernel_rfl) (by kernel_rfl) (by kernel_rfl) spec_l04Turned.lp (fun a => by kernel_rfl) spec_l04Turned.run (Tells.val (tree := spec_l04Turned.tr) fun a => by kernel_rfl)
/-! ### spec_l00In -/
noncomputable def spec_l00In.b : Code := bodyOf Tryd.f44
noncomputable def spec_l00In.C : Ctx := { ty := tys, fn := [], lp := [], n := 15, k := 0 }
theorem spec_l00In.hC : CtxOK Tryd.prog spec_l00In.C := CtxOK.of mo tys_ok FnsOK.nil
theorem spec_l00In.lp : LpOK Tryd.prog spec_l00In.C spec_l00In.b := (LpOK.nil (by kernel_rfl))
noncomputable def spec_l00In.t (x0 : Int) (x1 : Int) (x2 : Int) : T Bool :=
  .br (decide (x0 ≥ x1))
  (.leaf (decide (x0 ≤ x2)))
  (.leaf false)
noncomputable def spec_l00In (x0 : Int) (x1 : Int) (x2 : Int) : Bool := (spec_l00In.t x0 x1 x2).val
def spec_l00In.cd : Cd (Int × Int × Int) (List V × Hp) := Cd.iso (Cd.pair (Cd.cons (Cd.it .i64) (Cd.cons (Cd.it .i64) (Cd.cons (Cd.it .i64) Cd.nil))) Cd.nil) (fun a => (a.1.1, a.1.2.1, a.1.2.2.1)) (fun a => ((a.1, (a.2.1, (a.2.2, ()))), ())) (fun _ => rfl)
noncomputable def spec_l00In.tr (a : Int × Int × Int) : T Bool := spec_l00In.t a.1 a.2.1 a.2.2
def spec_l00In.enc : (Int × Int × Int) → Bool → V := fun a r => .bo r
noncomputable def spec_l00In.c : List V → Hp → T V := cdQ spec_l00In.cd (fun a => .leaf (spec_l00In.enc a (spec_l00In a.1 a.2.1 a.2.2)))
theorem spec_l00In.run (a : Int × Int × Int) : runF spec_l00In.C Tryd.f44.results.toList spec_l00In.b (spec_l00In.cd.enc a).1 (spec_l00In.cd.enc a).2 = (spec_l00In.tr a).map fun r => (spec_l00In.enc a r, (spec_l00In.cd.enc a).2) := by kernel_rfl
theorem spec_l00In.cok : OKq Tryd.prog 44 spec_l00In.c := con_q' spec_l00In.cd spec_l00In.hC Tryd.func44 (by kernel_rfl) (by kernel_rfl) (by kernel_rfl) spec_l00In.lp (fun a => by kernel_rfl) spec_l00In.run (Tells.val (tree := spec_l00In.tr) fun a => by kernel_rfl)
/-! ### spec_l04Idle -/
noncomputable def spec_l04Idle.b : Code := bodyOf Tryd.f56
noncomputable def spec_l04Idle.C : Ctx := { ty := tys, fn := [], lp := [], n := 12, k := 0 }
theorem spec_l04Idle.hC : CtxOK Tryd.prog spec_l04Idle.C := CtxOK.of mo tys_ok FnsOK.nil
theorem spec_l04Idle.lp : LpOK Tryd.prog spec_l04Idle.C spec_l04Idle.b := (LpOK.nil (by kernel_rfl))
noncomputable def spec_l04Idle.t (x0 : Nat) (x1 : Nat) (x2 : Nat) (x3 : Nat) (x4 : Nat) : T Nat :=
  .leaf (fadd .f32 x0 (fmul .f32 x1 x4))
noncomputable def spec_l04Idle (x0 : Nat) (x1 : Nat) (x2 : Nat) (x3 : Nat) (x4 : Nat) : Nat := (spec_l04Idle.t x0 x1 x2 x3 x4).val
def spec_l04Idle.cd : Cd (Nat × Nat × Nat × Nat × Nat) (List V × Hp) := Cd.iso (Cd.pair (Cd.cons (Cd.agg (Cd.cons (Cd.fl .f32) (Cd.cons (Cd.fl .f32) (Cd.cons (Cd.fl .f32) (Cd.cons (Cd.fl .f32) Cd.nil))))) (Cd.cons (Cd.fl .f32) Cd.nil)) Cd.nil) (fun a => (a.1.1.1, a.1.1.2.1, a.1.1.2.2.1, a.1.1.2.2.2.1, a.1.2.1)) (fun a => (((a.1, (a.2.1, (a.2.2.1, (a.2.2.2.1, ())))), (a.2.2.2.2, ())), ())) (fun _ => rfl)
noncomputable def spec_l04Idle.tr (a : Nat × Nat × Nat × Nat × Nat) : T Nat := spec_l04Idle.t a.1 a.2.1 a.2.2.1 a.2.2.2.1 a.2.2.2.2
def spec_l04Idle.enc : (Nat × Nat × Nat × Nat × Nat) → Nat → V := fun a r => .fl .f32 r
noncomputable def spec_l04Idle.c : List V → Hp → T V := cdQ spec_l04Idle.cd (fun a => .leaf (spec_l04Idle.enc a (spec_l04Idle a.1 a.2.1 a.2.2.1 a.2.2.2.1 a.2.2.2.2)))
theorem spec_l04Idle.run (a : Nat × Nat × Nat × Nat × Nat) : runF spec_l04Idle.C Tryd.f56.results.toList spec_l04Idle.b (spec_l04Idle.cd.enc a).1 (spec_l04Idle.cd.enc a).2 = (spec_l04Idle.tr a).map fun r => (spec_l04Idle.enc a r, (spec_l04Idle.cd.enc a).2) := by kernel_rfl
theorem spec_l04Idle.cok : OKq Tryd.prog 56 spec_l04Idle.c := con_q' spec_l04Idle.cd spec_l04Idle.hC Tryd.func56 (by kernel_rfl) (by kernel_rfl) (by kernel_rfl) spec_l04Idle.lp (fun a => by kernel_rfl) spec_l04Idle.run (Tells.val (tree := spec_l04Idle.tr) fun a => by kernel_rfl)
/-! ### spec_l04Load -/
noncomputable def spec_l04Load.b : Code := bodyOf Tryd.f49
noncomputable def spec_l04Load.C : Ctx := { ty := tys, fn := [(56, .q spec_l04Idle.c)], lp := [], n := 15, k := 0 }
theorem spec_l04Load.hC : CtxOK Tryd.prog spec_l04Load.C := CtxOK.of mo tys_ok (FnsOK.cons spec_l04Idle.cok FnsOK.nil)
theorem spec_l04Load.lp : LpOK Tryd.prog spec_l04Load.C spec_l04Load.b := (LpOK.nil (by kernel_rfl))
noncomputable def spec_l04Load.t (x0 : Nat) (x1 : Nat) (x2 : Nat) (x3 : Nat) (x4 : Nat) (x5 : Nat) : T Nat :=
  .leaf (fadd .f32 (spec_l04Idle x0 x1 x2 x3 x4) (fmul .f32 x2 x5))
noncomputable def spec_l04Load (x0 : Nat) (x1 : Nat) (x2 : Nat) (x3 : Nat) (x4 : Nat) (x5 : Nat) : Nat := (spec_l04Load.t x0 x1 x2 x3 x4 x5).val
def spec_l04Load.cd : Cd (Nat × Nat × Nat × Nat × Nat × Nat) (List V × Hp) := Cd.iso (Cd.pair (Cd.cons (Cd.agg (Cd.cons (Cd.fl .f32) (Cd.cons (Cd.fl .f32) (Cd.cons (Cd.fl .f32) (Cd.cons (Cd.fl .f32) Cd.nil))))) (Cd.cons (Cd.fl .f32) (Cd.cons (Cd.fl .f32) Cd.nil))) Cd.nil) (fun a => (a.1.1.1, a.1.1.2.1, a.1.1.2.2.1, a.1.1.2.2.2.1, a.1.2.1, a.1.2.2.1)) (fun a => (((a.1, (a.2.1, (a.2.2.1, (a.2.2.2.1, ())))), (a.2.2.2.2.1, (a.2.2.2.2.2, ()))), ())) (fun _ => rfl)
noncomputable def spec_l04Load.tr (a : Nat × Nat × Nat × Nat × Nat × Nat) : T Nat := spec_l04Load.t a.1 a.2.1 a.2.2.1 a.2.2.2.1 a.2.2.2.2.1 a.2.2.2.2.2
def spec_l04Load.enc : (Nat × Nat × Nat × Nat × Nat × Nat) → Nat → V := fun a r => .fl .f32 r
noncomputable def spec_l04Load.c : List V → Hp → T V := cdQ spec_l04Load.cd (fun a => .leaf (spec_l04Load.enc a (spec_l04Load a.1 a.2.1 a.2.2.1 a.2.2.2.1 a.2.2.2.2.1 a.2.2.2.2.2)))
theorem spec_l04Load.run (a : Nat × Nat × Nat × Nat × Nat × Nat) : runF spec_l04Load.C Tryd.f49.results.toList spec_l04Load.b (spec_l04Load.cd.enc a).1 (spec_l04Load.cd.enc a).2 = (spec_l04Load.tr a).map fun r => (spec_l04Load.enc a r, (spec_l04Load.cd.enc a).2) := by kernel_rfl
theorem spec_l04Load.cok : OKq Tryd.prog 49 spec_l04Load.c := con_q' spec_l04Load.cd spec_l04Load.hC Tryd.func49 (by kernel_rfl) (by kernel_rfl) (by kernel_rfl) spec_l04Load.lp (fun a => by kernel_rfl) spec_l04Load.run (Tells.val (tree := spec_l04Load.tr) fun a => by kernel_rfl)
/-! ### spec_l04Sum -/
noncomputable def spec_l04Sum.b : Code := bodyOf Tryd.f74
noncomputable def spec_l04Sum.l3.s (x0 : Nat) (x1 : Nat) (x2 : Nat) (x3 : Nat) (x4 : Int) (x5 : List Nat) : T ((Nat × Int) ⊕ Nat) :=
  .br (decide (x4 < ((x0 : Nat) : Int)))
  (.br (bounds x4 x0)
   (.br (Nat.ble ((Int.toNat x4 * 4) + 4) (List.length x5))
    (.leaf (.inl ((fadd .f32 x3 (spec_l04Load (List.getD x5 (Int.toNat x4 * 4) 0) (List.getD x5 ((Int.toNat x4 * 4) + 1) 0) (List.getD x5 (((Int.toNat x4 * 4) + 1) + 1) 0) (List.getD x5 ((((Int.toNat x4 * 4) + 1) + 1) + 1) 0) x1 x2)), (IntKind.wrap .i64 (x4 + (1 : Int))))))
    .bad)
   .bad)
  (.leaf (.inr x3))
noncomputable def spec_l04Sum.l3.st (p : Nat × Nat × Nat × List Nat) (x : Nat × Int) : T ((Nat × Int) ⊕ Nat) := spec_l04Sum.l3.s p.1 p.2.1 p.2.2.1 x.1 x.2 p.2.2.2
noncomputable def spec_l04Sum.l3.r (p : Nat × Nat × Nat × List Nat) (x : Nat × Int) : Option Nat := iterT (spec_l04Sum.l3.st p) manyRounds x
def spec_l04Sum.l3.cd : Cd ((Nat × Nat × Nat × List Nat) × (Nat × Int)) (List V × Hp) := Cd.iso (Cd.pair (Cd.cons (Cd.own 0) (Cd.cons (Cd.fl .f32) (Cd.cons (Cd.fl .f32) (Cd.cons (Cd.fl .f32) (Cd.cons (Cd.it .i64) Cd.nil))))) (Cd.cons (Cd.rw 24 4 (Cd.fs .f32)) Cd.nil)) (fun a => ((a.1.1, a.1.2.1, a.1.2.2.1, a.2.1), (a.1.2.2.2.1, a.1.2.2.2.2.1))) (fun a => ((a.1.1, (a.1.2.1, (a.1.2.2.1, (a.2.1, (a.2.2, ()))))), (a.1.2.2.2, ()))) (fun _ => rfl)
def spec_l04Sum.l3.out (p : Nat × Nat × Nat × List Nat) : Nat → X × List V × Hp := (fun r => (.ex 0, [.fl .f32 r], [some ⟨true, 24, 4, .fs .f32 p.2.2.2⟩]))
def spec_l04Sum.l3.ex (p : Nat × Nat × Nat × List Nat) : Nat → T (X × List V × Hp) := leafT (fun r => (.ex 0, [.fl .f32 r], [some ⟨true, 24, 4, .fs .f32 p.2.2.2⟩]))
noncomputable def spec_l04Sum.l3.c : List V → Hp → T (X × List V × Hp) := cdL spec_l04Sum.l3.cd fun x => optT (spec_l04Sum.l3.r x.1 x.2) (spec_l04Sum.l3.ex x.1)
noncomputable def spec_l04Sum.C : Ctx := { ty := tys, fn := [(49, .q spec_l04Load.c)], lp := [(3, ⟨[0, 1, 2, 7, 8], [7], spec_l04Sum.l3.c⟩)], n := 25, k := 1 }
theorem spec_l04Sum.hC : CtxOK Tryd.prog spec_l04Sum.C := CtxOK.of mo tys_ok (FnsOK.cons spec_l04Load.cok FnsOK.nil)
noncomputable def spec_l04Sum.b3 : Code := (nthC (loopsOf spec_l04Sum.b) 0)
theorem spec_l04Sum.lp3 : LpOK Tryd.prog spec_l04Sum.C spec_l04Sum.b3 := (LpOK.nil (by kernel_rfl))
theorem spec_l04Sum.l3.round (p : Nat × Nat × Nat × List Nat) (s : Nat × Int) : roundL spec_l04Sum.C [0, 1, 2, 7, 8] [7] spec_l04Sum.b3 (spec_l04Sum.l3.cd.enc (p, s)).1 (spec_l04Sum.l3.cd.enc (p, s)).2 = (spec_l04Sum.l3.st p s).map (encSum (fun s => spec_l04Sum.l3.cd.enc (p, s)) (spec_l04Sum.l3.out p)) := by kernel_rfl
theorem spec_l04Sum.l3.lok : LoopOK Tryd.prog spec_l04Sum.C ⟨[0, 1, 2, 7, 8], [7], spec_l04Sum.l3.c⟩ spec_l04Sum.b3 := loop_cd spec_l04Sum.l3.cd spec_l04Sum.hC spec_l04Sum.lp3 spec_l04Sum.l3.round fun p => Gets.leaf
theorem spec_l04Sum.lp : LpOK Tryd.prog spec_l04Sum.C spec_l04Sum.b := lp_of (by kernel_rfl) (LpsOK.cons (k := 3) (by kernel_rfl) (by kernel_rfl) spec_l04Sum.l3.lok LpsOK.nil)
noncomputable def spec_l04Sum.t (x0 : Nat) (x1 : Nat) (x2 : Nat) (x3 : List Nat) : T Nat :=
  .br (Option.isSome (spec_l04Sum.l3.r (x0, x1, x2, x3) (0, (0 : Int))))
  (.leaf (Option.getD (spec_l04Sum.l3.r (x0, x1, x2, x3) (0, (0 : Int))) default))
  .bad
noncomputable def spec_l04Sum (x0 : Nat) (x1 : Nat) (x2 : Nat) (x3 : List Nat) : Nat := (spec_l04Sum.t x0 x1 x2 x3).val
noncomputable def spec_l04Sum.ok (x0 : Nat) (x1 : Nat) (x2 : Nat) (x3 : List Nat) : Bool := (spec_l04Sum.t x0 x1 x2 x3).ok
def spec_l04Sum.cd : Cd (Nat × Nat × Nat × List Nat) (List V × Hp) := Cd.iso (Cd.pair (Cd.cons (Cd.own 0) (Cd.cons (Cd.fl .f32) (Cd.cons (Cd.fl .f32) Cd.nil))) (Cd.cons (Cd.rw 24 4 (Cd.fs .f32)) Cd.nil)) (fun a => (a.1.1, a.1.2.1, a.1.2.2.1, a.2.1)) (fun a => ((a.1, (a.2.1, (a.2.2.1, ()))), (a.2.2.2, ()))) (fun _ => rfl)
noncomputable def spec_l04Sum.tr (a : Nat × Nat × Nat × List Nat) : T Nat := spec_l04Sum.t a.1 a.2.1 a.2.2.1 a.2.2.2
def spec_l04Sum.enc : (Nat × Nat × Nat × List Nat) → Nat → V := fun a r => .fl .f32 r
noncomputable def spec_l04Sum.c : List V → Hp → T V := cdQ spec_l04Sum.cd (fun a => .br (spec_l04Sum.ok a.1 a.2.1 a.2.2.1 a.2.2.2) (.leaf (spec_l04Sum.enc a (spec_l04Sum a.1 a.2.1 a.2.2.1 a.2.2.2))) .bad)
theorem spec_l04Sum.run (a : Nat × Nat × Nat × List Nat) : runF spec_l04Sum.C Tryd.f74.results.toList spec_l04Sum.b (spec_l04Sum.cd.enc a).1 (spec_l04Sum.cd.enc a).2 = (spec_l04Sum.tr a).map fun r => (spec_l04Sum.enc a r, (spec_l04Sum.cd.enc a).2) := by kernel_rfl
theorem spec_l04Sum.cok : OKq Tryd.prog 74 spec_l04Sum.c := con_q' spec_l04Sum.cd spec_l04Sum.hC Tryd.func74 (by kernel_rfl) (by kernel_rfl) (by kernel_rfl) spec_l04Sum.lp (fun a => by kernel_rfl) spec_l04Sum.run (Tells.ok (tree := spec_l04Sum.tr))
/-! ### spec_l04Steady -/
noncomputable def spec_l04Steady.b : Code := bodyOf Tryd.f45
noncomputable def spec_l04Steady.l6.s (x0 : Nat) (x1 : Nat) (x2 : Nat) (x3 : Int) (x4 : Nat) (x5 : Nat) (x6 : Int) (x7 : List Nat) : T ((Nat × Nat × Int) ⊕ Nat) :=
  .br (decide (x6 < x3))
  (.br (spec_l04Sum.ok x0 (fdiv .f32 (fadd .f32 x4 x5) 1073741824) x2 x7)
   (.br (fgt .f32 (spec_l04Sum x0 (fdiv .f32 (fadd .f32 x4 x5) 1073741824) x2 x7) x1)
    (.leaf (.inl (x4, (fdiv .f32 (fadd .f32 x4 x5) 1073741824), (IntKind.wrap .i64 (x6 + (1 : Int))))))
    (.leaf (.inl ((fdiv .f32 (fadd .f32 x4 x5) 1073741824), x5, (IntKind.wrap .i64 (x6 + (1 : Int)))))))
   .bad)
  (.leaf (.inr x4))
noncomputable def spec_l04Steady.l6.st (p : Nat × Nat × Nat × Int × List Nat) (x : Nat × Nat × Int) : T ((Nat × Nat × Int) ⊕ Nat) := spec_l04Steady.l6.s p.1 p.2.1 p.2.2.1 p.2.2.2.1 x.1 x.2.1 x.2.2 p.2.2.2.2
noncomputable def spec_l04Steady.l6.r (p : Nat × Nat × Nat × Int × List Nat) (x : Nat × Nat × Int) : Option Nat := iterT (spec_l04Steady.l6.st p) manyRounds x
def spec_l04Steady.l6.cd : Cd ((Nat × Nat × Nat × Int × List Nat) × (Nat × Nat × Int)) (List V × Hp) := Cd.iso (Cd.pair (Cd.cons (Cd.own 0) (Cd.cons (Cd.fl .f32) (Cd.cons (Cd.fl .f32) (Cd.cons (Cd.it .i64) (Cd.cons (Cd.fl .f32) (Cd.cons (Cd.fl .f32) (Cd.cons (Cd.it .i64) Cd.nil))))))) (Cd.cons (Cd.rw 24 4 (Cd.fs .f32)) Cd.nil)) (fun a => ((a.1.1, a.1.2.1, a.1.2.2.1, a.1.2.2.2.1, a.2.1), (a.1.2.2.2.2.1, a.1.2.2.2.2.2.1, a.1.2.2.2.2.2.2.1))) (fun a => ((a.1.1, (a.1.2.1, (a.1.2.2.1, (a.1.2.2.2.1, (a.2.1, (a.2.2.1, (a.2.2.2, ()))))))), (a.1.2.2.2.2, ()))) (fun _ => rfl)
def spec_l04Steady.l6.out (p : Nat × Nat × Nat × Int × List Nat) : Nat → X × List V × Hp := (fun r => (.ex 0, [.fl .f32 r], [some ⟨true, 24, 4, .fs .f32 p.2.2.2.2⟩]))
def spec_l04Steady.l6.ex (p : Nat × Nat × Nat × Int × List Nat) : Nat → T (X × List V × Hp) := leafT (fun r => (.ex 0, [.fl .f32 r], [some ⟨true, 24, 4, .fs .f32 p.2.2.2.2⟩]))
noncomputable def spec_l04Steady.l6.c : List V → Hp → T (X × List V × Hp) := cdL spec_l04Steady.l6.cd fun x => optT (spec_l04Steady.l6.r x.1 x.2) (spec_l04Steady.l6.ex x.1)
noncomputable def spec_l04Steady.C : Ctx := { ty := tys, fn := [(74, .q spec_l04Sum.c)], lp := [(6, ⟨[0, 1, 2, 3, 10, 11, 12], [10], spec_l04Steady.l6.c⟩)], n := 37, k := 1 }
theorem spec_l04Steady.hC : CtxOK Tryd.prog spec_l04Steady.C := CtxOK.of mo tys_ok (FnsOK.cons spec_l04Sum.cok FnsOK.nil)
noncomputable def spec_l04Steady.b6 : Code := (nthC (loopsOf spec_l04Steady.b) 0)
theorem spec_l04Steady.lp6 : LpOK Tryd.prog spec_l04Steady.C spec_l04Steady.b6 := (LpOK.nil (by kernel_rfl))
theorem spec_l04Steady.l6.round (p : Nat × Nat × Nat × Int × List Nat) (s : Nat × Nat × Int) : roundL spec_l04Steady.C [0, 1, 2, 3, 10, 11, 12] [10] spec_l04Steady.b6 (spec_l04Steady.l6.cd.enc (p, s)).1 (spec_l04Steady.l6.cd.enc (p, s)).2 = (spec_l04Steady.l6.st p s).map (encSum (fun s => spec_l04Steady.l6.cd.enc (p, s)) (spec_l04Steady.l6.out p)) := by kernel_rfl
theorem spec_l04Steady.l6.lok : LoopOK Tryd.prog spec_l04Steady.C ⟨[0, 1, 2, 3, 10, 11, 12], [10], spec_l04Steady.l6.c⟩ spec_l04Steady.b6 := loop_cd spec_l04Steady.l6.cd spec_l04Steady.hC spec_l04Steady.lp6 spec_l04Steady.l6.round fun p => Gets.leaf
theorem spec_l04Steady.lp : LpOK Tryd.prog spec_l04Steady.C spec_l04Steady.b := lp_of (by kernel_rfl) (LpsOK.cons (k := 6) (by kernel_rfl) (by kernel_rfl) spec_l04Steady.l6.lok LpsOK.nil)
noncomputable def spec_l04Steady.t (x0 : Nat) (x1 : Nat) (x2 : Nat) (x3 : Int) (x4 : List Nat) : T (Nat × Bool) :=
  .br (spec_l04Sum.ok x0 0 x2 x4)
  (.br (fgt .f32 (spec_l04Sum x0 0 x2 x4) x1)
   (.leaf (0, false))
   (.br (Option.isSome (spec_l04Steady.l6.r (x0, x1, x2, x3, x4) (0, 1149239296, (0 : Int))))
    (.leaf ((Option.getD (spec_l04Steady.l6.r (x0, x1, x2, x3, x4) (0, 1149239296, (0 : Int))) default), true))
    .bad))
  .bad
noncomputable def spec_l04Steady (x0 : Nat) (x1 : Nat) (x2 : Nat) (x3 : Int) (x4 : List Nat) : Nat × Bool := (spec_l04Steady.t x0 x1 x2 x3 x4).val
noncomputable def spec_l04Steady.ok (x0 : Nat) (x1 : Nat) (x2 : Nat) (x3 : Int) (x4 : List Nat) : Bool := (spec_l04Steady.t x0 x1 x2 x3 x4).ok
def spec_l04Steady.cd : Cd (Nat × Nat × Nat × Int × List Nat) (List V × Hp) := Cd.iso (Cd.pair (Cd.cons (Cd.own 0) (Cd.cons (Cd.fl .f32) (Cd.cons (Cd.fl .f32) (Cd.cons (Cd.it .i64) Cd.nil)))) (Cd.cons (Cd.rw 24 4 (Cd.fs .f32)) Cd.nil)) (fun a => (a.1.1, a.1.2.1, a.1.2.2.1, a.1.2.2.2.1, a.2.1)) (fun a => ((a.1, (a.2.1, (a.2.2.1, (a.2.2.2.1, ())))), (a.2.2.2.2, ()))) (fun _ => rfl)
noncomputable def spec_l04Steady.tr (a : Nat × Nat × Nat × Int × List Nat) : T (Nat × Bool) := spec_l04Steady.t a.1 a.2.1 a.2.2.1 a.2.2.2.1 a.2.2.2.2
def spec_l04Steady.enc : (Nat × Nat × Nat × Int × List Nat) → (Nat × Bool) → V := fun a r => .tup [.fl .f32 r.1, .bo r.2]
noncomputable def spec_l04Steady.c : List V → Hp → T V := cdQ spec_l04Steady.cd (fun a => .br (spec_l04Steady.ok a.1 a.2.1 a.2.2.1 a.2.2.2.1 a.2.2.2.2) (.leaf (spec_l04Steady.enc a (spec_l04Steady a.1 a.2.1 a.2.2.1 a.2.2.2.1 a.2.2.2.2))) .bad)
theorem spec_l04Steady.run (a : Nat × Nat × Nat × Int × List Nat) : runF spec_l04Steady.C Tryd.f45.results.toList spec_l04Steady.b (spec_l04Steady.cd.enc a).1 (spec_l04Steady.cd.enc a).2 = (spec_l04Steady.tr a).map fun r => (spec_l04Steady.enc a r, (spec_l04Steady.cd.enc a).2) := by kernel_rfl
theorem spec_l04Steady.cok : OKq Tryd.prog 45 spec_l04Steady.c := con_q' spec_l04Steady.cd spec_l04Steady.hC Tryd.func45 (by kernel_rfl) (by kernel_rfl) (by kernel_rfl) spec_l04Steady.lp (fun a => by kernel_rfl) spec_l04Steady.run (Tells.ok (tree := spec_l04Steady.tr))
/-! ### spec_SteadySpeed -/
noncomputable def spec_SteadySpeed.b : Code := bodyOf Tryd.f13
noncomputable def spec_SteadySpeed.C : Ctx := { ty := tys, fn := [(43, .q spec_l04Turned.c), (44, .q spec_l00In.c), (45, .q spec_l04Steady.c)], lp := [], n := 39, k := 1 }
theorem spec_SteadySpeed.hC : CtxOK Tryd.prog spec_SteadySpeed.C := CtxOK.of mo tys_ok (FnsOK.cons spec_l04Turned.cok (FnsOK.cons spec_l00In.cok (FnsOK.cons spec_l04Steady.cok FnsOK.nil)))
theorem spec_SteadySpeed.lp : LpOK Tryd.prog spec_SteadySpeed.C spec_SteadySpeed.b := (LpOK.nil (by kernel_rfl))
noncomputable def spec_SteadySpeed.t (x0 : Nat) (x1 : Nat) (x2 : Nat) (x3 : Nat) (x4 : Nat) (x5 : Nat) (x6 : Int) (x7 : Int) : T (Nat × Int) :=
  .br ((spec_l04Turned x0 x1 x2 x3 x4 x5) == (0 : Int))
  (.br (!(spec_l00In x6 (0 : Int) (60 : Int)))
   (.br ((2 : Int) != (0 : Int))
    (.leaf (0, (2 : Int)))
    (.br (spec_l04Steady.ok 1 x4 x5 x6 [x0, x1, x2, x3])
     (.br (!(spec_l04Steady 1 x4 x5 x6 [x0, x1, x2, x3]).2)
      (.leaf (0, (6 : Int)))
      (.leaf ((spec_l04Steady 1 x4 x5 x6 [x0, x1, x2, x3]).1, (0 : Int))))
     .bad))
   (.br ((spec_l04Turned x0 x1 x2 x3 x4 x5) != (0 : Int))
    (.leaf (0, (spec_l04Turned x0 x1 x2 x3 x4 x5)))
    (.br (spec_l04Steady.ok 1 x4 x5 x6 [x0, x1, x2, x3])
     (.br (!(spec_l04Steady 1 x4 x5 x6 [x0, x1, x2, x3]).2)
      (.leaf (0, (6 : Int)))
      (.leaf ((spec_l04Steady 1 x4 x5 x6 [x0, x1, x2, x3]).1, (0 : Int))))
     .bad)))
  (.br ((spec_l04Turned x0 x1 x2 x3 x4 x5) != (0 : Int))
   (.leaf (0, (spec_l04Turned x0 x1 x2 x3 x4 x5)))
   (.br (spec_l04Steady.ok 1 x4 x5 x6 [x0, x1, x2, x3])
    (.br (!(spec_l04Steady 1 x4 x5 x6 [x0, x1, x2, x3]).2)
     (.leaf (0, (6 : Int)))
     (.leaf ((spec_l04Steady 1 x4 x5 x6 [x0, x1, x2, x3]).1, (0 : Int))))
    .bad))
noncomputable def spec_SteadySpeed (x0 : Nat) (x1 : Nat) (x2 : Nat) (x3 : Nat) (x4 : Nat) (x5 : Nat) (x6 : Int) (x7 : Int) : Nat × Int := (spec_SteadySpeed.t x0 x1 x2 x3 x4 x5 x6 x7).val
noncomputable def spec_SteadySpeed.ok (x0 : Nat) (x1 : Nat) (x2 : Nat) (x3 : Nat) (x4 : Nat) (x5 : Nat) (x6 : Int) (x7 : Int) : Bool := (spec_SteadySpeed.t x0 x1 x2 x3 x4 x5 x6 x7).ok
def spec_SteadySpeed.cd : Cd (Nat × Nat × Nat × Nat × Nat × Nat × Int × Int) (List V × Hp) := Cd.iso (Cd.pair (Cd.cons (Cd.agg (Cd.cons (Cd.fl .f32) (Cd.cons (Cd.fl .f32) (Cd.cons (Cd.fl .f32) (Cd.cons (Cd.fl .f32) Cd.nil))))) (Cd.cons (Cd.fl .f32) (Cd.cons (Cd.fl .f32) (Cd.cons (Cd.it .i64) Cd.nil)))) (Cd.cons (Cd.ro 0 2 (Cd.vs (Cd.cons (Cd.it .i64) Cd.nil))) Cd.nil)) (fun a => (a.1.1.1, a.1.1.2.1, a.1.1.2.2.1, a.1.1.2.2.2.1, a.1.2.1, a.1.2.2.1, a.1.2.2.2.1, a.2.1.1)) (fun a => (((a.1, (a.2.1, (a.2.2.1, (a.2.2.2.1, ())))), (a.2.2.2.2.1, (a.2.2.2.2.2.1, (a.2.2.2.2.2.2.1, ())))), ((a.2.2.2.2.2.2.2, ()), ()))) (fun _ => rfl)
noncomputable def spec_SteadySpeed.tr (a : Nat × Nat × Nat × Nat × Nat × Nat × Int × Int) : T (Nat × Int) := spec_SteadySpeed.t a.1 a.2.1 a.2.2.1 a.2.2.2.1 a.2.2.2.2.1 a.2.2.2.2.2.1 a.2.2.2.2.2.2.1 a.2.2.2.2.2.2.2
def spec_SteadySpeed.enc : (Nat × Nat × Nat × Nat × Nat × Nat × Int × Int) → (Nat × Int) → V := fun a r => .tup [.fl .f32 r.1, .it .i64 r.2]
noncomputable def spec_SteadySpeed.c : List V → Hp → T V := cdQ spec_SteadySpeed.cd (fun a => .br (spec_SteadySpeed.ok a.1 a.2.1 a.2.2.1 a.2.2.2.1 a.2.2.2.2.1 a.2.2.2.2.2.1 a.2.2.2.2.2.2.1 a.2.2.2.2.2.2.2) (.leaf (spec_SteadySpeed.enc a (spec_SteadySpeed a.1 a.2.1 a.2.2.1 a.2.2.2.1 a.2.2.2.2.1 a.2.2.2.2.2.1 a.2.2.2.2.2.2.1 a.2.2.2.2.2.2.2))) .bad)
theorem spec_SteadySpeed.run (a : Nat × Nat × Nat × Nat × Nat × Nat × Int × Int) : runF spec_SteadySpeed.C Tryd.f13.results.toList spec_SteadySpeed.b (spec_SteadySpeed.cd.enc a).1 (spec_SteadySpeed.cd.enc a).2 = (spec_SteadySpeed.tr a).map fun r => (spec_SteadySpeed.enc a r, (spec_SteadySpeed.cd.enc a).2) := by kernel_rfl
theorem spec_SteadySpeed.cok : OKq Tryd.prog 13 spec_SteadySpeed.c := con_q' spec_SteadySpeed.cd spec_SteadySpeed.hC Tryd.func13 (by kernel_rfl) (by kernel_rfl) (by kernel_rfl) spec_SteadySpeed.lp (fun a => by kernel_rfl) spec_SteadySpeed.run (Tells.ok (tree := spec_SteadySpeed.tr))
/-! ### impl_orZero -/
noncomputable def impl_orZero.b : Code := bodyOf Tryd.f46
noncomputable def impl_orZero.C : Ctx := { ty := tys, fn := [], lp := [], n := 10, k := 0 }
theorem impl_orZero.hC : CtxOK Tryd.prog impl_orZero.C := CtxOK.of mo tys_ok FnsOK.nil
theorem impl_orZero.lp : LpOK Tryd.prog impl_orZero.C impl_orZero.b := (LpOK.nil (by kernel_rfl))
noncomputable def impl_orZero.t (x0 : Nat) (x1 : Int) : T (Nat × Int) :=
  .br (x1 != (0 : Int))
  (.leaf (0, x1))
  (.leaf (x0, (0 : Int)))
noncomputable def impl_orZero (x0 : Nat) (x1 : Int) : Nat × Int := (impl_orZero.t x0 x1).val
def impl_orZero.cd : Cd (Nat × Int) (List V × Hp) := Cd.iso (Cd.pair (Cd.cons (Cd.fl .f32) (Cd.cons (Cd.it .i64) Cd.nil)) Cd.nil) (fun a => (a.1.1, a.1.2.1)) (fun a => ((a.1, (a.2, ())), ())) (fun _ => rfl)
noncomputable def impl_orZero.tr (a : Nat × Int) : T (Nat × Int) := impl_orZero.t a.1 a.2
def impl_orZero.enc : (Nat × Int) → (Nat × Int) → V := fun a r => .tup [.fl .f32 r.1, .it .i64 r.2]
noncomputable def impl_orZero.c : List V → Hp → T V := cdQ impl_orZero.cd (fun a => .leaf (impl_orZero.enc a (impl_orZero a.1 a.2)))
theorem impl_orZero.run (a : Nat × Int) : runF impl_orZero.C Tryd.f46.results.toList impl_orZero.b (impl_orZero.cd.enc a).1 (impl_orZero.cd.enc a).2 = (impl_orZero.tr a).map fun r => (impl_orZero.enc a r, (impl_orZero.cd.enc a).2) := by kernel_rfl
theorem impl_orZero.cok : OKq Tryd.prog 46 impl_orZero.c := con_q' impl_orZero.cd impl_orZero.hC Tryd.func46 (by kernel_rfl) (by kernel_rfl) (by kernel_rfl) impl_orZero.lp (fun a => by kernel_rfl) impl_orZero.run (Tells.val (tree := impl_orZero.tr) fun a => by kernel_rfl)
/-! ### impl_LoadOf -/
noncomputable def impl_LoadOf.b : Code := bodyOf Tryd.f14
noncomputable def impl_LoadOf.C : Ctx := { ty := tys, fn := [(47, .q impl_Stone_load.c), (40, .q impl_IsRate.c), (38, .q impl_stoneCode.c), (46, .q impl_orZero.c)], lp := [], n := 22, k := 1 }
theorem impl_LoadOf.hC : CtxOK Tryd.prog impl_LoadOf.C := CtxOK.of mo tys_ok (FnsOK.cons impl_Stone_load.cok (FnsOK.cons impl_IsRate.cok (FnsOK.cons impl_stoneCode.cok (FnsOK.cons impl_orZero.cok FnsOK.nil))))
theorem impl_LoadOf.lp : LpOK Tryd.prog impl_LoadOf.C impl_LoadOf.b := (LpOK.nil (by kernel_rfl))
noncomputable def impl_LoadOf.t (x0 : Nat) (x1 : Nat) (x2 : Nat) (x3 : Nat) (x4 : Nat) (x5 : Nat) (x6 : Int) : T (Nat × Int) :=
  .br (impl_IsRate x4)
  (.leaf ((impl_orZero (impl_Stone_load x4 x5 x0 x1 x2 x3) (impl_stoneCode x0 x1 x2 x3 (impl_IsRate x5))).1, (impl_orZero (impl_Stone_load x4 x5 x0 x1 x2 x3) (impl_stoneCode x0 x1 x2 x3 (impl_IsRate x5))).2))
  (.leaf ((impl_orZero (impl_Stone_load x4 x5 x0 x1 x2 x3) (impl_stoneCode x0 x1 x2 x3 false)).1, (impl_orZero (impl_Stone_load x4 x5 x0 x1 x2 x3) (impl_stoneCode x0 x1 x2 x3 false)).2))
noncomputable def impl_LoadOf (x0 : Nat) (x1 : Nat) (x2 : Nat) (x3 : Nat) (x4 : Nat) (x5 : Nat) (x6 : Int) : Nat × Int := (impl_LoadOf.t x0 x1 x2 x3 x4 x5 x6).val
def impl_LoadOf.cd : Cd (Nat × Nat × Nat × Nat × Nat × Nat × Int) (List V × Hp) := Cd.iso (Cd.pair (Cd.cons (Cd.agg (Cd.cons (Cd.fl .f32) (Cd.cons (Cd.fl .f32) (Cd.cons (Cd.fl .f32) (Cd.cons (Cd.fl .f32) Cd.nil))))) (Cd.cons (Cd.fl .f32) (Cd.cons (Cd.fl .f32) Cd.nil))) (Cd.cons (Cd.ro 0 2 (Cd.vs (Cd.cons (Cd.it .i64) Cd.nil))) Cd.nil)) (fun a => (a.1.1.1, a.1.1.2.1, a.1.1.2.2.1, a.1.1.2.2.2.1, a.1.2.1, a.1.2.2.1, a.2.1.1)) (fun a => (((a.1, (a.2.1, (a.2.2.1, (a.2.2.2.1, ())))), (a.2.2.2.2.1, (a.2.2.2.2.2.1, ()))), ((a.2.2.2.2.2.2, ()), ()))) (fun _ => rfl)
noncomputable def impl_LoadOf.tr (a : Nat × Nat × Nat × Nat × Nat × Nat × Int) : T (Nat × Int) := impl_LoadOf.t a.1 a.2.1 a.2.2.1 a.2.2.2.1 a.2.2.2.2.1 a.2.2.2.2.2.1 a.2.2.2.2.2.2
def impl_LoadOf.enc : (Nat × Nat × Nat × Nat × Nat × Nat × Int) → (Nat × Int) → V := fun a r => .tup [.fl .f32 r.1, .it .i64 r.2]
noncomputable def impl_LoadOf.c : List V → Hp → T V := cdQ impl_LoadOf.cd (fun a => .leaf (impl_LoadOf.enc a (impl_LoadOf a.1 a.2.1 a.2.2.1 a.2.2.2.1 a.2.2.2.2.1 a.2.2.2.2.2.1 a.2.2.2.2.2.2)))
theorem impl_LoadOf.run (a : Nat × Nat × Nat × Nat × Nat × Nat × Int) : runF impl_LoadOf.C Tryd.f14.results.toList impl_LoadOf.b (impl_LoadOf.cd.enc a).1 (impl_LoadOf.cd.enc a).2 = (impl_LoadOf.tr a).map fun r => (impl_LoadOf.enc a r, (impl_LoadOf.cd.enc a).2) := by kernel_rfl
theorem impl_LoadOf.cok : OKq Tryd.prog 14 impl_LoadOf.c := con_q' impl_LoadOf.cd impl_LoadOf.hC Tryd.func14 (by kernel_rfl) (by kernel_rfl) (by kernel_rfl) impl_LoadOf.lp (fun a => by kernel_rfl) impl_LoadOf.run (Tells.val (tree := impl_LoadOf.tr) fun a => by kernel_rfl)
/-! ### spec_LoadOf -/
noncomputable def spec_LoadOf.b : Code := bodyOf Tryd.f15
noncomputable def spec_LoadOf.C : Ctx := { ty := tys, fn := [(48, .q spec_l04Asked.c), (49, .q spec_l04Load.c)], lp := [], n := 20, k := 1 }
theorem spec_LoadOf.hC : CtxOK Tryd.prog spec_LoadOf.C := CtxOK.of mo tys_ok (FnsOK.cons spec_l04Asked.cok (FnsOK.cons spec_l04Load.cok FnsOK.nil))
theorem spec_LoadOf.lp : LpOK Tryd.prog spec_LoadOf.C spec_LoadOf.b := (LpOK.nil (by kernel_rfl))
noncomputable def spec_LoadOf.t (x0 : Nat) (x1 : Nat) (x2 : Nat) (x3 : Nat) (x4 : Nat) (x5 : Nat) (x6 : Int) : T (Nat × Int) :=
  .br ((spec_l04Asked x0 x1 x2 x3 x4 x5) != (0 : Int))
  (.leaf (0, (spec_l04Asked x0 x1 x2 x3 x4 x5)))
  (.leaf ((spec_l04Load x0 x1 x2 x3 x4 x5), (0 : Int)))
noncomputable def spec_LoadOf (x0 : Nat) (x1 : Nat) (x2 : Nat) (x3 : Nat) (x4 : Nat) (x5 : Nat) (x6 : Int) : Nat × Int := (spec_LoadOf.t x0 x1 x2 x3 x4 x5 x6).val
def spec_LoadOf.cd : Cd (Nat × Nat × Nat × Nat × Nat × Nat × Int) (List V × Hp) := Cd.iso (Cd.pair (Cd.cons (Cd.agg (Cd.cons (Cd.fl .f32) (Cd.cons (Cd.fl .f32) (Cd.cons (Cd.fl .f32) (Cd.cons (Cd.fl .f32) Cd.nil))))) (Cd.cons (Cd.fl .f32) (Cd.cons (Cd.fl .f32) Cd.nil))) (Cd.cons (Cd.ro 0 2 (Cd.vs (Cd.cons (Cd.it .i64) Cd.nil))) Cd.nil)) (fun a => (a.1.1.1, a.1.1.2.1, a.1.1.2.2.1, a.1.1.2.2.2.1, a.1.2.1, a.1.2.2.1, a.2.1.1)) (fun a => (((a.1, (a.2.1, (a.2.2.1, (a.2.2.2.1, ())))), (a.2.2.2.2.1, (a.2.2.2.2.2.1, ()))), ((a.2.2.2.2.2.2, ()), ()))) (fun _ => rfl)
noncomputable def spec_LoadOf.tr (a : Nat × Nat × Nat × Nat × Nat × Nat × Int) : T (Nat × Int) := spec_LoadOf.t a.1 a.2.1 a.2.2.1 a.2.2.2.1 a.2.2.2.2.1 a.2.2.2.2.2.1 a.2.2.2.2.2.2
def spec_LoadOf.enc : (Nat × Nat × Nat × Nat × Nat × Nat × Int) → (Nat × Int) → V := fun a r => .tup [.fl .f32 r.1, .it .i64 r.2]
noncomputable def spec_LoadOf.c : List V → Hp → T V := cdQ spec_LoadOf.cd (fun a => .leaf (spec_LoadOf.enc a (spec_LoadOf a.1 a.2.1 a.2.2.1 a.2.2.2.1 a.2.2.2.2.1 a.2.2.2.2.2.1 a.2.2.2.2.2.2)))
theorem spec_LoadOf.run (a : Nat × Nat × Nat × Nat × Nat × Nat × Int) : runF spec_LoadOf.C Tryd.f15.results.toList spec_LoadOf.b (spec_LoadOf.cd.enc a).1 (spec_LoadOf.cd.enc a).2 = (spec_LoadOf.tr a).map fun r => (spec_LoadOf.enc a r, (spec_LoadOf.cd.enc a).2) := by kernel_rfl
theorem spec_LoadOf.cok : OKq Tryd.prog 15 spec_LoadOf.c := con_q' spec_LoadOf.cd spec_LoadOf.hC Tryd.func15 (by kernel_rfl) (by kernel_rfl) (by kernel_rfl) spec_LoadOf.lp (fun a => by kernel_rfl) spec_LoadOf.run (Tells.val (tree := spec_LoadOf.tr) fun a => by kernel_rfl)
/-! ### spec_l01Same -/
noncomputable def spec_l01Same.b : Code := bodyOf Tryd.f50
noncomputable def spec_l01Same.C : Ctx := { ty := tys, fn := [(75, .q f32bitsC)], lp := [], n := 26, k := 0 }
theorem spec_l01Same.hC : CtxOK Tryd.prog spec_l01Same.C := CtxOK.of mo tys_ok (FnsOK.cons (f32bits_ok Tryd.func75 (by kernel_rfl) (by kernel_rfl) (by kernel_rfl) (by kernel_rfl)) FnsOK.nil)
theorem spec_l01Same.lp : LpOK Tryd.prog spec_l01Same.C spec_l01Same.b := (LpOK.nil (by kernel_rfl))
noncomputable def spec_l01Same.t (x0 : Nat) (x1 : Nat) : T Bool :=
  .br (fne .f32 x0 x0)
  (.br (fne .f32 x0 x0)
   (.leaf (fne .f32 x1 x1))
   (.leaf false))
  (.br (fne .f32 x1 x1)
   (.br (fne .f32 x0 x0)
    (.leaf (fne .f32 x1 x1))
    (.leaf false))
   (.br (isNaN .f32 x0)
    (.br (isNaN .f32 x1)
     .bad
     (.br (isNaN .f32 (Int.toNat ((x1 : Nat) : Int)))
      .bad
      (.leaf false)))
    (.br (isNaN .f32 x1)
     (.br (isNaN .f32 (Int.toNat ((x0 : Nat) : Int)))
      .bad
      (.leaf false))
     (.leaf (((x0 : Nat) : Int) == ((x1 : Nat) : Int))))))
noncomputable def spec_l01Same (x0 : Nat) (x1 : Nat) : Bool := (spec_l01Same.t x0 x1).val
noncomputable def spec_l01Same.ok (x0 : Nat) (x1 : Nat) : Bool := (spec_l01Same.t x0 x1).ok
def spec_l01Same.cd : Cd (Nat × Nat) (List V × Hp) := Cd.iso (Cd.pair (Cd.cons (Cd.fl .f32) (Cd.cons (Cd.fl .f32) Cd.nil)) Cd.nil) (fun a => (a.1.1, a.1.2.1)) (fun a => ((a.1, (a.2, ())), ())) (fun _ => rfl)
noncomputable def spec_l01Same.tr (a : Nat × Nat) : T Bool := spec_l01Same.t a.1 a.2
def spec_l01Same.enc : (Nat × Nat) → Bool → V := fun a r => .bo r
noncomputable def spec_l01Same.c : List V → Hp → T V := cdQ spec_l01Same.cd (fun a => .br (spec_l01Same.ok a.1 a.2) (.leaf (spec_l01Same.enc a (spec_l01Same a.1 a.2))) .bad)
theorem spec_l01Same.run (a : Nat × Nat) : runF spec_l01Same.C Tryd.f50.results.toList spec_l01Same.b (spec_l01Same.cd.enc a).1 (spec_l01Same.cd.enc a).2 = (spec_l01Same.tr a).map fun r => (spec_l01Same.enc a r, (spec_l01Same.cd.enc a).2) := by kernel_rfl
theorem spec_l01Same.cok : OKq Tryd.prog 50 spec_l01Same.c := con_q' spec_l01Same.cd spec_l01Same.hC Tryd.func50 (by kernel_rfl) (by kernel_rfl) (by kernel_rfl) spec_l01Same.lp (fun a => by kernel_rfl) spec_l01Same.run (Tells.ok (tree := spec_l01Same.tr))
/-! ### spec_SameStone -/
noncomputable def spec_SameStone.b : Code := bodyOf Tryd.f16
noncomputable def spec_SameStone.C : Ctx := { ty := tys, fn := [(50, .q spec_l01Same.c)], lp := [], n := 31, k := 1 }
theorem spec_SameStone.hC : CtxOK Tryd.prog spec_SameStone.C := CtxOK.of mo tys_ok (FnsOK.cons spec_l01Same.cok FnsOK.nil)
theorem spec_SameStone.lp : LpOK Tryd.prog spec_SameStone.C spec_SameStone.b := (LpOK.nil (by kernel_rfl))
noncomputable def spec_SameStone.t (x0 : Nat) (x1 : Nat) (x2 : Nat) (x3 : Nat) (x4 : Nat) (x5 : Nat) (x6 : Nat) (x7 : Nat) (x8 : Int) : T Bool :=
  .br (spec_l01Same.ok x0 x4)
  (.br (spec_l01Same x0 x4)
   (.br (spec_l01Same.ok x1 x5)
    (.br (spec_l01Same x1 x5)
     (.br (spec_l01Same.ok x2 x6)
      (.br (spec_l01Same x2 x6)
       (.br (spec_l01Same.ok x3 x7)
        (.leaf (spec_l01Same x3 x7))
        .bad)
       (.leaf false))
      .bad)
     (.leaf false))
    .bad)
   (.leaf false))
  .bad
noncomputable def spec_SameStone (x0 : Nat) (x1 : Nat) (x2 : Nat) (x3 : Nat) (x4 : Nat) (x5 : Nat) (x6 : Nat) (x7 : Nat) (x8 : Int) : Bool := (spec_SameStone.t x0 x1 x2 x3 x4 x5 x6 x7 x8).val
noncomputable def spec_SameStone.ok (x0 : Nat) (x1 : Nat) (x2 : Nat) (x3 : Nat) (x4 : Nat) (x5 : Nat) (x6 : Nat) (x7 : Nat) (x8 : Int) : Bool := (spec_SameStone.t x0 x1 x2 x3 x4 x5 x6 x7 x8).ok
def spec_SameStone.cd : Cd (Nat × Nat × Nat × Nat × Nat × Nat × Nat × Nat × Int) (List V × Hp) := Cd.iso (Cd.pair (Cd.cons (Cd.agg (Cd.cons (Cd.fl .f32) (Cd.cons (Cd.fl .f32) (Cd.cons (Cd.fl .f32) (Cd.cons (Cd.fl .f32) Cd.nil))))) (Cd.cons (Cd.agg (Cd.cons (Cd.fl .f32) (Cd.cons (Cd.fl .f32) (Cd.cons (Cd.fl .f32) (Cd.cons (Cd.fl .f32) Cd.nil))))) Cd.nil)) (Cd.cons (Cd.ro 0 2 (Cd.vs (Cd.cons (Cd.it .i64) Cd.nil))) Cd.nil)) (fun a => (a.1.1.1, a.1.1.2.1, a.1.1.2.2.1, a.1.1.2.2.2.1, a.1.2.1.1, a.1.2.1.2.1, a.1.2.1.2.2.1, a.1.2.1.2.2.2.1, a.2.1.1)) (fun a => (((a.1, (a.2.1, (a.2.2.1, (a.2.2.2.1, ())))), ((a.2.2.2.2.1, (a.2.2.2.2.2.1, (a.2.2.2.2.2.2.1, (a.2.2.2.2.2.2.2.1, ())))), ())), ((a.2.2.2.2.2.2.2.2, ()), ()))) (fun _ => rfl)
noncomputable def spec_SameStone.tr (a : Nat × Nat × Nat × Nat × Nat × Nat × Nat × Nat × Int) : T Bool := spec_SameStone.t a.1 a.2.1 a.2.2.1 a.2.2.2.1 a.2.2.2.2.1 a.2.2.2.2.2.1 a.2.2.2.2.2.2.1 a.2.2.2.2.2.2.2.1 a.2.2.2.2.2.2.2.2
def spec_SameStone.enc : (Nat × Nat × Nat × Nat × Nat × Nat × Nat × Nat × Int) → Bool → V := fun a r => .bo r
noncomputable def spec_SameStone.c : List V → Hp → T V := cdQ spec_SameStone.cd (fun a => .br (spec_SameStone.ok a.1 a.2.1 a.2.2.1 a.2.2.2.1 a.2.2.2.2.1 a.2.2.2.2.2.1 a.2.2.2.2.2.2.1 a.2.2.2.2.2.2.2.1 a.2.2.2.2.2.2.2.2) (.leaf (spec_SameStone.enc a (spec_SameStone a.1 a.2.1 a.2.2.1 a.2.2.2.1 a.2.2.2.2.1 a.2.2.2.2.2.1 a.2.2.2.2.2.2.1 a.2.2.2.2.2.2.2.1 a.2.2.2.2.2.2.2.2))) .bad)
theorem spec_SameStone.run (a : Nat × Nat × Nat × Nat × Nat × Nat × Nat × Nat × Int) : runF spec_SameStone.C Tryd.f16.results.toList spec_SameStone.b (spec_SameStone.cd.enc a).1 (spec_SameStone.cd.enc a).2 = (spec_SameStone.tr a).map fun r => (spec_SameStone.enc a r, (spec_SameStone.cd.enc a).2) := by kernel_rfl
theorem spec_SameStone.cok : OKq Tryd.prog 16 spec_SameStone.c := con_q' spec_SameStone.cd spec_SameStone.hC Tryd.func16 (by kernel_rfl) (by kernel_rfl) (by kernel_rfl) spec_SameStone.lp (fun a => by kernel_rfl) spec_SameStone.run (Tells.ok (tree := spec_SameStone.tr))
/-! ### impl_SameNumber -/
noncomputable def impl_SameNumber.b : Code := bodyOf Tryd.f51
noncomputable def impl_SameNumber.C : Ctx := { ty := tys, fn := [(75, .q f32bitsC)], lp := [], n := 20, k := 0 }
theorem impl_SameNumber.hC : CtxOK Tryd.prog impl_SameNumber.C := CtxOK.of mo tys_ok (FnsOK.cons (f32bits_ok Tryd.func75 (by kernel_rfl) (by kernel_rfl) (by kernel_rfl) (by kernel_rfl)) FnsOK.nil)
theorem impl_SameNumber.lp : LpOK Tryd.prog impl_SameNumber.C impl_SameNumber.b := (LpOK.nil (by kernel_rfl))
noncomputable def impl_SameNumber.t (x0 : Nat) (x1 : Nat) : T Bool :=
  .br (fne .f32 x0 x0)
  (.br (fne .f32 x1 x1)
   (.leaf true)
   (.br (isNaN .f32 x0)
    (.br (isNaN .f32 x1)
     .bad
     (.br (isNaN .f32 (Int.toNat ((x1 : Nat) : Int)))
      .bad
      (.leaf false)))
    (.br (isNaN .f32 x1)
     (.br (isNaN .f32 (Int.toNat ((x0 : Nat) : Int)))
      .bad
      (.leaf false))
     (.leaf (((x0 : Nat) : Int) == ((x1 : Nat) : Int))))))
  (.br (isNaN .f32 x0)
   (.br (isNaN .f32 x1)
    .bad
    (.br (isNaN .f32 (Int.toNat ((x1 : Nat) : Int)))
     .bad
     (.leaf false)))
   (.br (isNaN .f32 x1)
    (.br (isNaN .f32 (Int.toNat ((x0 : Nat) : Int)))
     .bad
     (.leaf false))
    (.leaf (((x0 : Nat) : Int) == ((x1 : Nat) : Int)))))
noncomputable def impl_SameNumber (x0 : Nat) (x1 : Nat) : Bool := (impl_SameNumber.t x0 x1).val
noncomputable def impl_SameNumber.ok (x0 : Nat) (x1 : Nat) : Bool := (impl_SameNumber.t x0 x1).ok
def impl_SameNumber.cd : Cd (Nat × Nat) (List V × Hp) := Cd.iso (Cd.pair (Cd.cons (Cd.fl .f32) (Cd.cons (Cd.fl .f32) Cd.nil)) Cd.nil) (fun a => (a.1.1, a.1.2.1)) (fun a => ((a.1, (a.2, ())), ())) (fun _ => rfl)
noncomputable def impl_SameNumber.tr (a : Nat × Nat) : T Bool := impl_SameNumber.t a.1 a.2
def impl_SameNumber.enc : (Nat × Nat) → Bool → V := fun a r => .bo r
noncomputable def impl_SameNumber.c : List V → Hp → T V := cdQ impl_SameNumber.cd (fun a => .br (impl_SameNumber.ok a.1 a.2) (.leaf (impl_SameNumber.enc a (impl_SameNumber a.1 a.2))) .bad)
theorem impl_SameNumber.run (a : Nat × Nat) : runF impl_SameNumber.C Tryd.f51.results.toList impl_SameNumber.b (impl_SameNumber.cd.enc a).1 (impl_SameNumber.cd.enc a).2 = (impl_SameNumber.tr a).map fun r => (impl_SameNumber.enc a r, (impl_SameNumber.cd.enc a).2) := by kernel_rfl
theorem impl_SameNumber.cok : OKq Tryd.prog 51 impl_SameNumber.c := con_q' impl_SameNumber.cd impl_SameNumber.hC Tryd.func51 (by kernel_rfl) (by kernel_rfl) (by kernel_rfl) impl_SameNumber.lp (fun a => by kernel_rfl) impl_SameNumber.run (Tells.ok (tree := impl_SameNumber.tr))
/-! ### impl_SameStone -/
noncomputable def impl_SameStone.b : Code := bodyOf Tryd.f17
noncomputable def impl_SameStone.C : Ctx := { ty := tys, fn := [(51, .q impl_SameNumber.c)], lp := [], n := 31, k := 1 }
theorem impl_SameStone.hC : CtxOK Tryd.prog impl_SameStone.C := CtxOK.of mo tys_ok (FnsOK.cons impl_SameNumber.cok FnsOK.nil)
theorem impl_SameStone.lp : LpOK Tryd.prog impl_SameStone.C impl_SameStone.b := (LpOK.nil (by kernel_rfl))
noncomputable def impl_SameStone.t (x0 : Nat) (x1 : Nat) (x2 : Nat) (x3 : Nat) (x4 : Nat) (x5 : Nat) (x6 : Nat) (x7 : Nat) (x8 : Int) : T Bool :=
  .br (impl_SameNumber.ok x0 x4)
  (.br (impl_SameNumber x0 x4)
   (.br (impl_SameNumber.ok x1 x5)
    (.br (impl_SameNumber x1 x5)
     (.br (impl_SameNumber.ok x2 x6)
      (.br (impl_SameNumber x2 x6)
       (.br (impl_SameNumber.ok x3 x7)
        (.leaf (impl_SameNumber x3 x7))
        .bad)
       (.leaf false))
      .bad)
     (.leaf false))
    .bad)
   (.leaf false))
  .bad
noncomputable def impl_SameStone (x0 : Nat) (x1 : Nat) (x2 : Nat) (x3 : Nat) (x4 : Nat) (x5 : Nat) (x6 : Nat) (x7 : Nat) (x8 : Int) : Bool := (impl_SameStone.t x0 x1 x2 x3 x4 x5 x6 x7 x8).val
noncomputable def impl_SameStone.ok (x0 : Nat) (x1 : Nat) (x2 : Nat) (x3 : Nat) (x4 : Nat) (x5 : Nat) (x6 : Nat) (x7 : Nat) (x8 : Int) : Bool := (impl_SameStone.t x0 x1 x2 x3 x4 x5 x6 x7 x8).ok
def impl_SameStone.cd : Cd (Nat × Nat × Nat × Nat × Nat × Nat × Nat × Nat × Int) (List V × Hp) := Cd.iso (Cd.pair (Cd.cons (Cd.agg (Cd.cons (Cd.fl .f32) (Cd.cons (Cd.fl .f32) (Cd.cons (Cd.fl .f32) (Cd.cons (Cd.fl .f32) Cd.nil))))) (Cd.cons (Cd.agg (Cd.cons (Cd.fl .f32) (Cd.cons (Cd.fl .f32) (Cd.cons (Cd.fl .f32) (Cd.cons (Cd.fl .f32) Cd.nil))))) Cd.nil)) (Cd.cons (Cd.ro 0 2 (Cd.vs (Cd.cons (Cd.it .i64) Cd.nil))) Cd.nil)) (fun a => (a.1.1.1, a.1.1.2.1, a.1.1.2.2.1, a.1.1.2.2.2.1, a.1.2.1.1, a.1.2.1.2.1, a.1.2.1.2.2.1, a.1.2.1.2.2.2.1, a.2.1.1)) (fun a => (((a.1, (a.2.1, (a.2.2.1, (a.2.2.2.1, ())))), ((a.2.2.2.2.1, (a.2.2.2.2.2.1, (a.2.2.2.2.2.2.1, (a.2.2.2.2.2.2.2.1, ())))), ())), ((a.2.2.2.2.2.2.2.2, ()), ()))) (fun _ => rfl)
noncomputable def impl_SameStone.tr (a : Nat × Nat × Nat × Nat × Nat × Nat × Nat × Nat × Int) : T Bool := impl_SameStone.t a.1 a.2.1 a.2.2.1 a.2.2.2.1 a.2.2.2.2.1 a.2.2.2.2.2.1 a.2.2.2.2.2.2.1 a.2.2.2.2.2.2.2.1 a.2.2.2.2.2.2.2.2
def impl_SameStone.enc : (Nat × Nat × Nat × Nat × Nat × Nat × Nat × Nat × Int) → Bool → V := fun a r => .bo r
noncomputable def impl_SameStone.c : List V → Hp → T V := cdQ impl_SameStone.cd (fun a => .br (impl_SameStone.ok a.1 a.2.1 a.2.2.1 a.2.2.2.1 a.2.2.2.2.1 a.2.2.2.2.2.1 a.2.2.2.2.2.2.1 a.2.2.2.2.2.2.2.1 a.2.2.2.2.2.2.2.2) (.leaf (impl_SameStone.enc a (impl_SameStone a.1 a.2.1 a.2.2.1 a.2.2.2.1 a.2.2.2.2.1 a.2.2.2.2.2.1 a.2.2.2.2.2.2.1 a.2.2.2.2.2.2.2.1 a.2.2.2.2.2.2.2.2))) .bad)
theorem impl_SameStone.run (a : Nat × Nat × Nat × Nat × Nat × Nat × Nat × Nat × Int) : runF impl_SameStone.C Tryd.f17.results.toList impl_SameStone.b (impl_SameStone.cd.enc a).1 (impl_SameStone.cd.enc a).2 = (impl_SameStone.tr a).map fun r => (impl_SameStone.enc a r, (impl_SameStone.cd.enc a).2) := by kernel_rfl
theorem impl_SameStone.cok : OKq Tryd.prog 17 impl_SameStone.c := con_q' impl_SameStone.cd impl_SameStone.hC Tryd.func17 (by kernel_rfl) (by kernel_rfl) (by kernel_rfl) impl_SameStone.lp (fun a => by kernel_rfl) impl_SameStone.run (Tells.ok (tree := impl_SameStone.tr))
/-! ### impl_ValidStone_w1 -/
noncomputable def impl_ValidStone_w1.b : Code := bodyOf Tryd.f18
noncomputable def impl_ValidStone_w1.C : Ctx := { ty := tys, fn := [(40, .q impl_IsRate.c), (52, .q impl_IsPart.c)], lp := [], n := 21, k := 1 }
theorem impl_ValidStone_w1.hC : CtxOK Tryd.prog impl_ValidStone_w1.C := CtxOK.of mo tys_ok (FnsOK.cons impl_IsRate.cok (FnsOK.cons impl_IsPart.cok FnsOK.nil))
theorem impl_ValidStone_w1.lp : LpOK Tryd.prog impl_ValidStone_w1.C impl_ValidStone_w1.b := (LpOK.nil (by kernel_rfl))
noncomputable def impl_ValidStone_w1.t (x0 : Nat) (x1 : Nat) (x2 : Nat) (x3 : Nat) (x4 : Int) : T Bool :=
  .br (impl_IsRate x0)
  (.br (impl_IsRate x1)
   (.br (impl_IsRate x2)
    (.leaf (impl_IsPart x3))
    (.leaf false))
   (.leaf false))
  (.leaf false)
noncomputable def impl_ValidStone_w1 (x0 : Nat) (x1 : Nat) (x2 : Nat) (x3 : Nat) (x4 : Int) : Bool := (impl_ValidStone_w1.t x0 x1 x2 x3 x4).val
def impl_ValidStone_w1.cd : Cd (Nat × Nat × Nat × Nat × Int) (List V × Hp) := Cd.iso (Cd.pair (Cd.cons (Cd.agg (Cd.cons (Cd.fl .f32) (Cd.cons (Cd.fl .f32) (Cd.cons (Cd.fl .f32) (Cd.cons (Cd.fl .f32) Cd.nil))))) Cd.nil) (Cd.cons (Cd.ro 0 2 (Cd.vs (Cd.cons (Cd.it .i64) Cd.nil))) Cd.nil)) (fun a => (a.1.1.1, a.1.1.2.1, a.1.1.2.2.1, a.1.1.2.2.2.1, a.2.1.1)) (fun a => (((a.1, (a.2.1, (a.2.2.1, (a.2.2.2.1, ())))), ()), ((a.2.2.2.2, ()), ()))) (fun _ => rfl)
noncomputable def impl_ValidStone_w1.tr (a : Nat × Nat × Nat × Nat × Int) : T Bool := impl_ValidStone_w1.t a.1 a.2.1 a.2.2.1 a.2.2.2.1 a.2.2.2.2
def impl_ValidStone_w1.enc : (Nat × Nat × Nat × Nat × Int) → Bool → V := fun a r => .bo r
noncomputable def impl_ValidStone_w1.c : List V → Hp → T V := cdQ impl_ValidStone_w1.cd (fun a => .leaf (impl_ValidStone_w1.enc a (impl_ValidStone_w1 a.1 a.2.1 a.2.2.1 a.2.2.2.1 a.2.2.2.2)))
theorem impl_ValidStone_w1.run (a : Nat × Nat × Nat × Nat × Int) : runF impl_ValidStone_w1.C Tryd.f18.results.toList impl_ValidStone_w1.b (impl_ValidStone_w1.cd.enc a).1 (impl_ValidStone_w1.cd.enc a).2 = (impl_ValidStone_w1.tr a).map fun r => (impl_ValidStone_w1.enc a r, (impl_ValidStone_w1.cd.enc a).2) := by kernel_rfl
theorem impl_ValidStone_w1.cok : OKq Tryd.prog 18 impl_ValidStone_w1.c := con_q' impl_ValidStone_w1.cd impl_ValidStone_w1.hC Tryd.func18 (by kernel_rfl) (by kernel_rfl) (by kernel_rfl) impl_ValidStone_w1.lp (fun a => by kernel_rfl) impl_ValidStone_w1.run (Tells.val (tree := impl_ValidStone_w1.tr) fun a => by kernel_rfl)
/-! ### spec_SameNumber -/
noncomputable def spec_SameNumber.b : Code := bodyOf Tryd.f19
noncomputable def spec_SameNumber.C : Ctx := { ty := tys, fn := [(50, .q spec_l01Same.c)], lp := [], n := 8, k := 1 }
theorem spec_SameNumber.hC : CtxOK Tryd.prog spec_SameNumber.C := CtxOK.of mo tys_ok (FnsOK.cons spec_l01Same.cok FnsOK.nil)
theorem spec_SameNumber.lp : LpOK Tryd.prog spec_SameNumber.C spec_SameNumber.b := (LpOK.nil (by kernel_rfl))
noncomputable def spec_SameNumber.t (x0 : Nat) (x1 : Nat) (x2 : Int) : T Bool :=
  .br (spec_l01Same.ok x0 x1)
  (.leaf (spec_l01Same x0 x1))
  .bad
noncomputable def spec_SameNumber (x0 : Nat) (x1 : Nat) (x2 : Int) : Bool := (spec_SameNumber.t x0 x1 x2).val
noncomputable def spec_SameNumber.ok (x0 : Nat) (x1 : Nat) (x2 : Int) : Bool := (spec_SameNumber.t x0 x1 x2).ok
def spec_SameNumber.cd : Cd (Nat × Nat × Int) (List V × Hp) := Cd.iso (Cd.pair (Cd.cons (Cd.fl .f32) (Cd.cons (Cd.fl .f32) Cd.nil)) (Cd.cons (Cd.ro 0 2 (Cd.vs (Cd.cons (Cd.it .i64) Cd.nil))) Cd.nil)) (fun a => (a.1.1, a.1.2.1, a.2.1.1)) (fun a => ((a.1, (a.2.1, ())), ((a.2.2, ()), ()))) (fun _ => rfl)
noncomputable def spec_SameNumber.tr (a : Nat × Nat × Int) : T Bool := spec_SameNumber.t a.1 a.2.1 a.2.2
def spec_SameNumber.enc : (Nat × Nat × Int) → Bool → V := fun a r => .bo r
noncomputable def spec_SameNumber.c : List V → Hp → T V := cdQ spec_SameNumber.cd (fun a => .br (spec_SameNumber.ok a.1 a.2.1 a.2.2) (.leaf (spec_SameNumber.enc a (spec_SameNumber a.1 a.2.1 a.2.2))) .bad)
theorem spec_SameNumber.run (a : Nat × Nat × Int) : runF spec_SameNumber.C Tryd.f19.results.toList spec_SameNumber.b (spec_SameNumber.cd.enc a).1 (spec_SameNumber.cd.enc a).2 = (spec_SameNumber.tr a).map fun r => (spec_SameNumber.enc a r, (spec_SameNumber.cd.enc a).2) := by kernel_rfl
theorem spec_SameNumber.cok : OKq Tryd.prog 19 spec_SameNumber.c := con_q' spec_SameNumber.cd spec_SameNumber.hC Tryd.func19 (by kernel_rfl) (by kernel_rfl) (by kernel_rfl) spec_SameNumber.lp (fun a => by kernel_rfl) spec_SameNumber.run (Tells.ok (tree := spec_SameNumber.tr))
/-! ### impl_Stone_flour -/
noncomputable def impl_Stone_flour.b : Code := bodyOf Tryd.f53
noncomputable def impl_Stone_flour.C : Ctx := { ty := tys, fn := [], lp := [], n := 15, k := 1 }
theorem impl_Stone_flour.hC : CtxOK Tryd.prog impl_Stone_flour.C := CtxOK.of mo tys_ok FnsOK.nil
theorem impl_Stone_flour.lp : LpOK Tryd.prog impl_Stone_flour.C impl_Stone_flour.b := (LpOK.nil (by kernel_rfl))
noncomputable def impl_Stone_flour.t (x0 : Nat) (x1 : Nat) (x2 : Nat) (x3 : Nat) (x4 : Nat) (x5 : Nat) : T Nat :=
  .leaf (fmul .f32 (fmul .f32 x0 x1) x5)
noncomputable def impl_Stone_flour (x0 : Nat) (x1 : Nat) (x2 : Nat) (x3 : Nat) (x4 : Nat) (x5 : Nat) : Nat := (impl_Stone_flour.t x0 x1 x2 x3 x4 x5).val
def impl_Stone_flour.cd : Cd (Nat × Nat × Nat × Nat × Nat × Nat) (List V × Hp) := Cd.iso (Cd.pair (Cd.cons (Cd.pt 0 (Cd.natc 0)) (Cd.cons (Cd.fl .f32) (Cd.cons (Cd.fl .f32) Cd.nil))) (Cd.cons (Cd.rw 24 4 (Cd.vs (Cd.cons (Cd.fl .f32) (Cd.cons (Cd.fl .f32) (Cd.cons (Cd.fl .f32) (Cd.cons (Cd.fl .f32) Cd.nil)))))) Cd.nil)) (fun a => (a.1.2.1, a.1.2.2.1, a.2.1.1, a.2.1.2.1, a.2.1.2.2.1, a.2.1.2.2.2.1)) (fun a => (((), (a.1, (a.2.1, ()))), ((a.2.2.1, (a.2.2.2.1, (a.2.2.2.2.1, (a.2.2.2.2.2, ())))), ()))) (fun _ => rfl)
noncomputable def impl_Stone_flour.tr (a : Nat × Nat × Nat × Nat × Nat × Nat) : T Nat := impl_Stone_flour.t a.1 a.2.1 a.2.2.1 a.2.2.2.1 a.2.2.2.2.1 a.2.2.2.2.2
def impl_Stone_flour.enc : (Nat × Nat × Nat × Nat × Nat × Nat) → Nat → V := fun a r => .fl .f32 r
noncomputable def impl_Stone_flour.c : List V → Hp → T V := cdQ impl_Stone_flour.cd (fun a => .leaf (impl_Stone_flour.enc a (impl_Stone_flour a.1 a.2.1 a.2.2.1 a.2.2.2.1 a.2.2.2.2.1 a.2.2.2.2.2)))
theorem impl_Stone_flour.run (a : Nat × Nat × Nat × Nat × Nat × Nat) : runF impl_Stone_flour.C Tryd.f53.results.toList impl_Stone_flour.b (impl_Stone_flour.cd.enc a).1 (impl_Stone_flour.cd.enc a).2 = (impl_Stone_flour.tr a).map fun r => (impl_Stone_flour.enc a r, (impl_Stone_flour.cd.enc a).2) := by kernel_rfl
theorem impl_Stone_flour.cok : OKq Tryd.prog 53 impl_Stone_flour.c := con_q' impl_Stone_flour.cd impl_Stone_flour.hC Tryd.func53 (by kernel_rfl) (by kernel_rfl) (by kernel_rfl) impl_Stone_flour.lp (fun a => by kernel_rfl) impl_Stone_flour.run (Tells.val (tree := impl_Stone_flour.tr) fun a => by kernel_rfl)
/-! ### impl_FlourOf -/
noncomputable def impl_FlourOf.b : Code := bodyOf Tryd.f20
noncomputable def impl_FlourOf.C : Ctx := { ty := tys, fn := [(53, .q impl_Stone_flour.c), (40, .q impl_IsRate.c), (38, .q impl_stoneCode.c), (46, .q impl_orZero.c)], lp := [], n := 22, k := 1 }
theorem impl_FlourOf.hC : CtxOK Tryd.prog impl_FlourOf.C := CtxOK.of mo tys_ok (FnsOK.cons impl_Stone_flour.cok (FnsOK.cons impl_IsRate.cok (FnsOK.cons impl_stoneCode.cok (FnsOK.cons impl_orZero.cok FnsOK.nil))))
theorem impl_FlourOf.lp : LpOK Tryd.prog impl_FlourOf.C impl_FlourOf.b := (LpOK.nil (by kernel_rfl))
noncomputable def impl_FlourOf.t (x0 : Nat) (x1 : Nat) (x2 : Nat) (x3 : Nat) (x4 : Nat) (x5 : Nat) (x6 : Int) : T (Nat × Int) :=
  .br (impl_IsRate x4)
  (.leaf ((impl_orZero (impl_Stone_flour x4 x5 x0 x1 x2 x3) (impl_stoneCode x0 x1 x2 x3 (impl_IsRate x5))).1, (impl_orZero (impl_Stone_flour x4 x5 x0 x1 x2 x3) (impl_stoneCode x0 x1 x2 x3 (impl_IsRate x5))).2))
  (.leaf ((impl_orZero (impl_Stone_flour x4 x5 x0 x1 x2 x3) (impl_stoneCode x0 x1 x2 x3 false)).1, (impl_orZero (impl_Stone_flour x4 x5 x0 x1 x2 x3) (impl_stoneCode x0 x1 x2 x3 false)).2))
noncomputable def impl_FlourOf (x0 : Nat) (x1 : Nat) (x2 : Nat) (x3 : Nat) (x4 : Nat) (x5 : Nat) (x6 : Int) : Nat × Int := (impl_FlourOf.t x0 x1 x2 x3 x4 x5 x6).val
def impl_FlourOf.cd : Cd (Nat × Nat × Nat × Nat × Nat × Nat × Int) (List V × Hp) := Cd.iso (Cd.pair (Cd.cons (Cd.agg (Cd.cons (Cd.fl .f32) (Cd.cons (Cd.fl .f32) (Cd.cons (Cd.fl .f32) (Cd.cons (Cd.fl .f32) Cd.nil))))) (Cd.cons (Cd.fl .f32) (Cd.cons (Cd.fl .f32) Cd.nil))) (Cd.cons (Cd.ro 0 2 (Cd.vs (Cd.cons (Cd.it .i64) Cd.nil))) Cd.nil)) (fun a => (a.1.1.1, a.1.1.2.1, a.1.1.2.2.1, a.1.1.2.2.2.1, a.1.2.1, a.1.2.2.1, a.2.1.1)) (fun a => (((a.1, (a.2.1, (a.2.2.1, (a.2.2.2.1, ())))), (a.2.2.2.2.1, (a.2.2.2.2.2.1, ()))), ((a.2.2.2.2.2.2, ()), ()))) (fun _ => rfl)
noncomputable def impl_FlourOf.tr (a : Nat × Nat × Nat × Nat × Nat × Nat × Int) : T (Nat × Int) := impl_FlourOf.t a.1 a.2.1 a.2.2.1 a.2.2.2.1 a.2.2.2.2.1 a.2.2.2.2.2.1 a.2.2.2.2.2.2
def impl_FlourOf.enc : (Nat × Nat × Nat × Nat × Nat × Nat × Int) → (Nat × Int) → V := fun a r => .tup [.fl .f32 r.1, .it .i64 r.2]
noncomputable def impl_FlourOf.c : List V → Hp → T V := cdQ impl_FlourOf.cd (fun a => .leaf (impl_FlourOf.enc a (impl_FlourOf a.1 a.2.1 a.2.2.1 a.2.2.2.1 a.2.2.2.2.1 a.2.2.2.2.2.1 a.2.2.2.2.2.2)))
theorem impl_FlourOf.run (a : Nat × Nat × Nat × Nat × Nat × Nat × Int) : runF impl_FlourOf.C Tryd.f20.results.toList impl_FlourOf.b (impl_FlourOf.cd.enc a).1 (impl_FlourOf.cd.enc a).2 = (impl_FlourOf.tr a).map fun r => (impl_FlourOf.enc a r, (impl_FlourOf.cd.enc a).2) := by kernel_rfl
theorem impl_FlourOf.cok : OKq Tryd.prog 20 impl_FlourOf.c := con_q' impl_FlourOf.cd impl_FlourOf.hC Tryd.func20 (by kernel_rfl) (by kernel_rfl) (by kernel_rfl) impl_FlourOf.lp (fun a => by kernel_rfl) impl_FlourOf.run (Tells.val (tree := impl_FlourOf.tr) fun a => by kernel_rfl)
/-! ### spec_l04Flour -/
noncomputable def spec_l04Flour.b : Code := bodyOf Tryd.f54
noncomputable def spec_l04Flour.C : Ctx := { ty := tys, fn := [], lp := [], n := 13, k := 0 }
theorem spec_l04Flour.hC : CtxOK Tryd.prog spec_l04Flour.C := CtxOK.of mo tys_ok FnsOK.nil
theorem spec_l04Flour.lp : LpOK Tryd.prog spec_l04Flour.C spec_l04Flour.b := (LpOK.nil (by kernel_rfl))
noncomputable def spec_l04Flour.t (x0 : Nat) (x1 : Nat) (x2 : Nat) (x3 : Nat) (x4 : Nat) (x5 : Nat) : T Nat :=
  .leaf (fmul .f32 (fmul .f32 x4 x5) x3)
noncomputable def spec_l04Flour (x0 : Nat) (x1 : Nat) (x2 : Nat) (x3 : Nat) (x4 : Nat) (x5 : Nat) : Nat := (spec_l04Flour.t x0 x1 x2 x3 x4 x5).val
def spec_l04Flour.cd : Cd (Nat × Nat × Nat × Nat × Nat × Nat) (List V × Hp) := Cd.iso (Cd.pair (Cd.cons (Cd.agg (Cd.cons (Cd.fl .f32) (Cd.cons (Cd.fl .f32) (Cd.cons (Cd.fl .f32) (Cd.cons (Cd.fl .f32) Cd.nil))))) (Cd.cons (Cd.fl .f32) (Cd.cons (Cd.fl .f32) Cd.nil))) Cd.nil) (fun a => (a.1.1.1, a.1.1.2.1, a.1.1.2.2.1, a.1.1.2.2.2.1, a.1.2.1, a.1.2.2.1)) (fun a => (((a.1, (a.2.1, (a.2.2.1, (a.2.2.2.1, ())))), (a.2.2.2.2.1, (a.2.2.2.2.2, ()))), ())) (fun _ => rfl)
noncomputable def spec_l04Flour.tr (a : Nat × Nat × Nat × Nat × Nat × Nat) : T Nat := spec_l04Flour.t a.1 a.2.1 a.2.2.1 a.2.2.2.1 a.2.2.2.2.1 a.2.2.2.2.2
def spec_l04Flour.enc : (Nat × Nat × Nat × Nat × Nat × Nat) → Nat → V := fun a r => .fl .f32 r
noncomputable def spec_l04Flour.c : List V → Hp → T V := cdQ spec_l04Flour.cd (fun a => .leaf (spec_l04Flour.enc a (spec_l04Flour a.1 a.2.1 a.2.2.1 a.2.2.2.1 a.2.2.2.2.1 a.2.2.2.2.2)))
theorem spec_l04Flour.run (a : Nat × Nat × Nat × Nat × Nat × Nat) : runF spec_l04Flour.C Tryd.f54.results.toList spec_l04Flour.b (spec_l04Flour.cd.enc a).1 (spec_l04Flour.cd.enc a).2 = (spec_l04Flour.tr a).map fun r => (spec_l04Flour.enc a r, (spec_l04Flour.cd.enc a).2) := by kernel_rfl
theorem spec_l04Flour.cok : OKq Tryd.prog 54 spec_l04Flour.c := con_q' spec_l04Flour.cd spec_l04Flour.hC Tryd.func54 (by kernel_rfl) (by kernel_rfl) (by kernel_rfl) spec_l04Flour.lp (fun a => by kernel_rfl) spec_l04Flour.run (Tells.val (tree := spec_l04Flour.tr) fun a => by kernel_rfl)
/-! ### spec_FlourOf -/
noncomputable def spec_FlourOf.b : Code := bodyOf Tryd.f21
noncomputable def spec_FlourOf.C : Ctx := { ty := tys, fn := [(48, .q spec_l04Asked.c), (54, .q spec_l04Flour.c)], lp := [], n := 20, k := 1 }
theorem spec_FlourOf.hC : CtxOK Tryd.prog spec_FlourOf.C := CtxOK.of mo tys_ok (FnsOK.cons spec_l04Asked.cok (FnsOK.cons spec_l04Flour.cok FnsOK.nil))
theorem spec_FlourOf.lp : LpOK Tryd.prog spec_FlourOf.C spec_FlourOf.b := (LpOK.nil (by kernel_rfl))
noncomputable def spec_FlourOf.t (x0 : Nat) (x1 : Nat) (x2 : Nat) (x3 : Nat) (x4 : Nat) (x5 : Nat) (x6 : Int) : T (Nat × Int) :=
  .br ((spec_l04Asked x0 x1 x2 x3 x4 x5) != (0 : Int))
  (.leaf (0, (spec_l04Asked x0 x1 x2 x3 x4 x5)))
  (.leaf ((spec_l04Flour x0 x1 x2 x3 x4 x5), (0 : Int)))
noncomputable def spec_FlourOf (x0 : Nat) (x1 : Nat) (x2 : Nat) (x3 : Nat) (x4 : Nat) (x5 : Nat) (x6 : Int) : Nat × Int := (spec_FlourOf.t x0 x1 x2 x3 x4 x5 x6).val
def spec_FlourOf.cd : Cd (Nat × Nat × Nat × Nat × Nat × Nat × Int) (List V × Hp) := Cd.iso (Cd.pair (Cd.cons (Cd.agg (Cd.cons (Cd.fl .f32) (Cd.cons (Cd.fl .f32) (Cd.cons (Cd.fl .f32) (Cd.cons (Cd.fl .f32) Cd.nil))))) (Cd.cons (Cd.fl .f32) (Cd.cons (Cd.fl .f32) Cd.nil))) (Cd.cons (Cd.ro 0 2 (Cd.vs (Cd.cons (Cd.it .i64) Cd.nil))) Cd.nil)) (fun a => (a.1.1.1, a.1.1.2.1, a.1.1.2.2.1, a.1.1.2.2.2.1, a.1.2.1, a.1.2.2.1, a.2.1.1)) (fun a => (((a.1, (a.2.1, (a.2.2.1, (a.2.2.2.1, ())))), (a.2.2.2.2.1, (a.2.2.2.2.2.1, ()))), ((a.2.2.2.2.2.2, ()), ()))) (fun _ => rfl)
noncomputable def spec_FlourOf.tr (a : Nat × Nat × Nat × Nat × Nat × Nat × Int) : T (Nat × Int) := spec_FlourOf.t a.1 a.2.1 a.2.2.1 a.2.2.2.1 a.2.2.2.2.1 a.2.2.2.2.2.1 a.2.2.2.2.2.2
def spec_FlourOf.enc : (Nat × Nat × Nat × Nat × Nat × Nat × Int) → (Nat × Int) → V := fun a r => .tup [.fl .f32 r.1, .it .i64 r.2]
noncomputable def spec_FlourOf.c : List V → Hp → T V := cdQ spec_FlourOf.cd (fun a => .leaf (spec_FlourOf.enc a (spec_FlourOf a.1 a.2.1 a.2.2.1 a.2.2.2.1 a.2.2.2.2.1 a.2.2.2.2.2.1 a.2.2.2.2.2.2)))
theorem spec_FlourOf.run (a : Nat × Nat × Nat × Nat × Nat × Nat × Int) : runF spec_FlourOf.C Tryd.f21.results.toList spec_FlourOf.b (spec_FlourOf.cd.enc a).1 (spec_FlourOf.cd.enc a).2 = (spec_FlourOf.tr a).map fun r => (spec_FlourOf.enc a r, (spec_FlourOf.cd.enc a).2) := by kernel_rfl
theorem spec_FlourOf.cok : OKq Tryd.prog 21 spec_FlourOf.c := con_q' spec_FlourOf.cd spec_FlourOf.hC Tryd.func21 (by kernel_rfl) (by kernel_rfl) (by kernel_rfl) spec_FlourOf.lp (fun a => by kernel_rfl) spec_FlourOf.run (Tells.val (tree := spec_FlourOf.tr) fun a => by kernel_rfl)
/-! ### impl_FeedFor -/
noncomputable def impl_FeedFor.b : Code := bodyOf Tryd.f22
noncomputable def impl_FeedFor.C : Ctx := { ty := tys, fn := [(39, .q impl_isAmount.c), (40, .q impl_IsRate.c), (38, .q impl_stoneCode.c), (55, .q impl_Stone_rubbed.c)], lp := [], n := 37, k := 1 }
theorem impl_FeedFor.hC : CtxOK Tryd.prog impl_FeedFor.C := CtxOK.of mo tys_ok (FnsOK.cons impl_isAmount.cok (FnsOK.cons impl_IsRate.cok (FnsOK.cons impl_stoneCode.cok (FnsOK.cons impl_Stone_rubbed.cok FnsOK.nil))))
theorem impl_FeedFor.lp : LpOK Tryd.prog impl_FeedFor.C impl_FeedFor.b := (LpOK.nil (by kernel_rfl))
noncomputable def impl_FeedFor.t (x0 : Nat) (x1 : Nat) (x2 : Nat) (x3 : Nat) (x4 : Nat) (x5 : Nat) (x6 : Int) : T (Nat × Int) :=
  .br (impl_isAmount x4)
  (.br ((impl_stoneCode x0 x1 x2 x3 (impl_IsRate x5)) != (0 : Int))
   (.leaf (0, (impl_stoneCode x0 x1 x2 x3 (impl_IsRate x5))))
   (.br (flt .f32 (fsub .f32 x4 (impl_Stone_rubbed x5 x0 x1 x2 x3)) 0)
    (.leaf (0, (6 : Int)))
    (.br (feq .f32 x2 0)
     (.leaf (1149239296, (0 : Int)))
     (.leaf ((fmin .f32 (fdiv .f32 (fsub .f32 x4 (impl_Stone_rubbed x5 x0 x1 x2 x3)) x2) 1149239296), (0 : Int))))))
  (.br ((impl_stoneCode x0 x1 x2 x3 false) != (0 : Int))
   (.leaf (0, (impl_stoneCode x0 x1 x2 x3 false)))
   (.br (flt .f32 (fsub .f32 x4 (impl_Stone_rubbed x5 x0 x1 x2 x3)) 0)
    (.leaf (0, (6 : Int)))
    (.br (feq .f32 x2 0)
     (.leaf (1149239296, (0 : Int)))
     (.leaf ((fmin .f32 (fdiv .f32 (fsub .f32 x4 (impl_Stone_rubbed x5 x0 x1 x2 x3)) x2) 1149239296), (0 : Int))))))
noncomputable def impl_FeedFor (x0 : Nat) (x1 : Nat) (x2 : Nat) (x3 : Nat) (x4 : Nat) (x5 : Nat) (x6 : Int) : Nat × Int := (impl_FeedFor.t x0 x1 x2 x3 x4 x5 x6).val
def impl_FeedFor.cd : Cd (Nat × Nat × Nat × Nat × Nat × Nat × Int) (List V × Hp) := Cd.iso (Cd.pair (Cd.cons (Cd.agg (Cd.cons (Cd.fl .f32) (Cd.cons (Cd.fl .f32) (Cd.cons (Cd.fl .f32) (Cd.cons (Cd.fl .f32) Cd.nil))))) (Cd.cons (Cd.fl .f32) (Cd.cons (Cd.fl .f32) Cd.nil))) (Cd.cons (Cd.ro 0 2 (Cd.vs (Cd.cons (Cd.it .i64) Cd.nil))) Cd.nil)) (fun a => (a.1.1.1, a.1.1.2.1, a.1.1.2.2.1, a.1.1.2.2.2.1, a.1.2.1, a.1.2.2.1, a.2.1.1)) (fun a => (((a.1, (a.2.1, (a.2.2.1, (a.2.2.2.1, ())))), (a.2.2.2.2.1, (a.2.2.2.2.2.1, ()))), ((a.2.2.2.2.2.2, ()), ()))) (fun _ => rfl)
noncomputable def impl_FeedFor.tr (a : Nat × Nat × Nat × Nat × Nat × Nat × Int) : T (Nat × Int) := impl_FeedFor.t a.1 a.2.1 a.2.2.1 a.2.2.2.1 a.2.2.2.2.1 a.2.2.2.2.2.1 a.2.2.2.2.2.2
def impl_FeedFor.enc : (Nat × Nat × Nat × Nat × Nat × Nat × Int) → (Nat × Int) → V := fun a r => .tup [.fl .f32 r.1, .it .i64 r.2]
noncomputable def impl_FeedFor.c : List V → Hp → T V := cdQ impl_FeedFor.cd (fun a => .leaf (impl_FeedFor.enc a (impl_FeedFor a.1 a.2.1 a.2.2.1 a.2.2.2.1 a.2.2.2.2.1 a.2.2.2.2.2.1 a.2.2.2.2.2.2)))
theorem impl_FeedFor.run (a : Nat × Nat × Nat × Nat × Nat × Nat × Int) : runF impl_FeedFor.C Tryd.f22.results.toList impl_FeedFor.b (impl_FeedFor.cd.enc a).1 (impl_FeedFor.cd.enc a).2 = (impl_FeedFor.tr a).map fun r => (impl_FeedFor.enc a r, (impl_FeedFor.cd.enc a).2) := by kernel_rfl
theorem impl_FeedFor.cok : OKq Tryd.prog 22 impl_FeedFor.c := con_q' impl_FeedFor.cd impl_FeedFor.hC Tryd.func22 (by kernel_rfl) (by kernel_rfl) (by kernel_rfl) impl_FeedFor.lp (fun a => by kernel_rfl) impl_FeedFor.run (Tells.val (tree := impl_FeedFor.tr) fun a => by kernel_rfl)
/-! ### spec_FeedFor -/
noncomputable def spec_FeedFor.b : Code := bodyOf Tryd.f23
noncomputable def spec_FeedFor.C : Ctx := { ty := tys, fn := [(43, .q spec_l04Turned.c), (56, .q spec_l04Idle.c)], lp := [], n := 35, k := 1 }
theorem spec_FeedFor.hC : CtxOK Tryd.prog spec_FeedFor.C := CtxOK.of mo tys_ok (FnsOK.cons spec_l04Turned.cok (FnsOK.cons spec_l04Idle.cok FnsOK.nil))
theorem spec_FeedFor.lp : LpOK Tryd.prog spec_FeedFor.C spec_FeedFor.b := (LpOK.nil (by kernel_rfl))
noncomputable def spec_FeedFor.t (x0 : Nat) (x1 : Nat) (x2 : Nat) (x3 : Nat) (x4 : Nat) (x5 : Nat) (x6 : Int) : T (Nat × Int) :=
  .br ((spec_l04Turned x0 x1 x2 x3 x4 x5) != (0 : Int))
  (.leaf (0, (spec_l04Turned x0 x1 x2 x3 x4 x5)))
  (.br (flt .f32 (fsub .f32 x4 (spec_l04Idle x0 x1 x2 x3 x5)) 0)
   (.leaf (0, (6 : Int)))
   (.br (feq .f32 x2 0)
    (.leaf (1149239296, (0 : Int)))
    (.br (fgt .f32 (fdiv .f32 (fsub .f32 x4 (spec_l04Idle x0 x1 x2 x3 x5)) x2) 1149239296)
     (.leaf (1149239296, (0 : Int)))
     (.leaf ((fdiv .f32 (fsub .f32 x4 (spec_l04Idle x0 x1 x2 x3 x5)) x2), (0 : Int))))))
noncomputable def spec_FeedFor (x0 : Nat) (x1 : Nat) (x2 : Nat) (x3 : Nat) (x4 : Nat) (x5 : Nat) (x6 : Int) : Nat × Int := (spec_FeedFor.t x0 x1 x2 x3 x4 x5 x6).val
def spec_FeedFor.cd : Cd (Nat × Nat × Nat × Nat × Nat × Nat × Int) (List V × Hp) := Cd.iso (Cd.pair (Cd.cons (Cd.agg (Cd.cons (Cd.fl .f32) (Cd.cons (Cd.fl .f32) (Cd.cons (Cd.fl .f32) (Cd.cons (Cd.fl .f32) Cd.nil))))) (Cd.cons (Cd.fl .f32) (Cd.cons (Cd.fl .f32) Cd.nil))) (Cd.cons (Cd.ro 0 2 (Cd.vs (Cd.cons (Cd.it .i64) Cd.nil))) Cd.nil)) (fun a => (a.1.1.1, a.1.1.2.1, a.1.1.2.2.1, a.1.1.2.2.2.1, a.1.2.1, a.1.2.2.1, a.2.1.1)) (fun a => (((a.1, (a.2.1, (a.2.2.1, (a.2.2.2.1, ())))), (a.2.2.2.2.1, (a.2.2.2.2.2.1, ()))), ((a.2.2.2.2.2.2, ()), ()))) (fun _ => rfl)
noncomputable def spec_FeedFor.tr (a : Nat × Nat × Nat × Nat × Nat × Nat × Int) : T (Nat × Int) := spec_FeedFor.t a.1 a.2.1 a.2.2.1 a.2.2.2.1 a.2.2.2.2.1 a.2.2.2.2.2.1 a.2.2.2.2.2.2
def spec_FeedFor.enc : (Nat × Nat × Nat × Nat × Nat × Nat × Int) → (Nat × Int) → V := fun a r => .tup [.fl .f32 r.1, .it .i64 r.2]
noncomputable def spec_FeedFor.c : List V → Hp → T V := cdQ spec_FeedFor.cd (fun a => .leaf (spec_FeedFor.enc a (spec_FeedFor a.1 a.2.1 a.2.2.1 a.2.2.2.1 a.2.2.2.2.1 a.2.2.2.2.2.1 a.2.2.2.2.2.2)))
theorem spec_FeedFor.run (a : Nat × Nat × Nat × Nat × Nat × Nat × Int) : runF spec_FeedFor.C Tryd.f23.results.toList spec_FeedFor.b (spec_FeedFor.cd.enc a).1 (spec_FeedFor.cd.enc a).2 = (spec_FeedFor.tr a).map fun r => (spec_FeedFor.enc a r, (spec_FeedFor.cd.enc a).2) := by kernel_rfl
theorem spec_FeedFor.cok : OKq Tryd.prog 23 spec_FeedFor.c := con_q' spec_FeedFor.cd spec_FeedFor.hC Tryd.func23 (by kernel_rfl) (by kernel_rfl) (by kernel_rfl) spec_FeedFor.lp (fun a => by kernel_rfl) spec_FeedFor.run (Tells.val (tree := spec_FeedFor.tr) fun a => by kernel_rfl)
/-! ### impl_ShareTorque_2 -/
noncomputable def impl_ShareTorque_2.b : Code := bodyOf Tryd.f59
noncomputable def impl_ShareTorque_2.C : Ctx := { ty := tys, fn := [(18, .q impl_ValidStone.c)], lp := [], n := 6, k := 0 }
theorem impl_ShareTorque_2.hC : CtxOK Tryd.prog impl_ShareTorque_2.C := CtxOK.of mo tys_ok (FnsOK.cons impl_ValidStone.cok FnsOK.nil)
theorem impl_ShareTorque_2.lp : LpOK Tryd.prog impl_ShareTorque_2.C impl_ShareTorque_2.b := (LpOK.nil (by kernel_rfl))
noncomputable def impl_ShareTorque_2.t (x0 : Nat) (x1 : Nat) (x2 : Nat) (x3 : Nat) : T Bool :=
  .leaf (!(impl_ValidStone x0 x1 x2 x3))
noncomputable def impl_ShareTorque_2 (x0 : Nat) (x1 : Nat) (x2 : Nat) (x3 : Nat) : Bool := (impl_ShareTorque_2.t x0 x1 x2 x3).val
def impl_ShareTorque_2.cd : Cd (Nat × Nat × Nat × Nat) (List V × Hp) := Cd.iso (Cd.pair (Cd.cons (Cd.agg (Cd.cons (Cd.fl .f32) (Cd.cons (Cd.fl .f32) (Cd.cons (Cd.fl .f32) (Cd.cons (Cd.fl .f32) Cd.nil))))) Cd.nil) Cd.nil) (fun a => (a.1.1.1, a.1.1.2.1, a.1.1.2.2.1, a.1.1.2.2.2.1)) (fun a => (((a.1, (a.2.1, (a.2.2.1, (a.2.2.2, ())))), ()), ())) (fun _ => rfl)
noncomputable def impl_ShareTorque_2.tr (a : Nat × Nat × Nat × Nat) : T Bool := impl_ShareTorque_2.t a.1 a.2.1 a.2.2.1 a.2.2.2
def impl_ShareTorque_2.enc : (Nat × Nat × Nat × Nat) → Bool → V := fun a r => .bo r
noncomputable def impl_ShareTorque_2.c : List V → Hp → T V := cdQ impl_ShareTorque_2.cd (fun a => .leaf (impl_ShareTorque_2.enc a (impl_ShareTorque_2 a.1 a.2.1 a.2.2.1 a.2.2.2)))
theorem impl_ShareTorque_2.run (a : Nat × Nat × Nat × Nat) : runF impl_ShareTorque_2.C Tryd.f59.results.toList impl_ShareTorque_2.b (impl_ShareTorque_2.cd.enc a).1 (impl_ShareTorque_2.cd.enc a).2 = (impl_ShareTorque_2.tr a).map fun r => (impl_ShareTorque_2.enc a r, (impl_ShareTorque_2.cd.enc a).2) := by kernel_rfl
theorem impl_ShareTorque_2.cok : OKq Tryd.prog 59 impl_ShareTorque_2.c := con_q' impl_ShareTorque_2.cd impl_ShareTorque_2.hC Tryd.func59 (by kernel_rfl) (by kernel_rfl) (by kernel_rfl) impl_ShareTorque_2.lp (fun a => by kernel_rfl) impl_ShareTorque_2.run (Tells.val (tree := impl_ShareTorque_2.tr) fun a => by kernel_rfl)
/-! ### impl_Stone_2 -/
noncomputable def impl_Stone_2.b : Code := bodyOf Tryd.f76
noncomputable def impl_Stone_2.l2.s (x0 : Nat) (x1 : Int) (x2 : Int) (x3 : List Nat) : T (Int ⊕ (Int ⊕ Unit)) :=
  .br (decide (x2 < x1))
  (.br (bounds x2 x0)
   (.br (Nat.ble ((Int.toNat x2 * 4) + 4) (List.length x3))
    (.br (impl_ShareTorque_2 (List.getD x3 (Int.toNat x2 * 4) 0) (List.getD x3 ((Int.toNat x2 * 4) + 1) 0) (List.getD x3 (((Int.toNat x2 * 4) + 1) + 1) 0) (List.getD x3 ((((Int.toNat x2 * 4) + 1) + 1) + 1) 0))
     (.leaf (.inr (.inl x2)))
     (.leaf (.inl (IntKind.wrap .i64 (x2 + (1 : Int))))))
    .bad)
   .bad)
  (.leaf (.inr (.inr ())))
noncomputable def impl_Stone_2.l2.st (p : Nat × Int × List Nat) (x : Int) : T (Int ⊕ (Int ⊕ Unit)) := impl_Stone_2.l2.s p.1 p.2.1 x p.2.2
noncomputable def impl_Stone_2.l2.r (p : Nat × Int × List Nat) (x : Int) : Option (Int ⊕ Unit) := iterT (impl_Stone_2.l2.st p) manyRounds x
def impl_Stone_2.l2.cd : Cd ((Nat × Int × List Nat) × Int) (List V × Hp) := Cd.iso (Cd.pair (Cd.cons (Cd.own 0) (Cd.cons (Cd.fu 59 Cd.nil) (Cd.cons (Cd.it .i64) (Cd.cons (Cd.it .i64) Cd.nil)))) (Cd.cons (Cd.rw 24 4 (Cd.fs .f32)) Cd.nil)) (fun a => ((a.1.1, a.1.2.2.1, a.2.1), a.1.2.2.2.1)) (fun a => ((a.1.1, ((), (a.1.2.1, (a.2, ())))), (a.1.2.2, ()))) (fun _ => rfl)
def impl_Stone_2.l2.out (p : Nat × Int × List Nat) : (Int ⊕ Unit) → X × List V × Hp := sumO (fun r => (.ret, [.it .i64 r], [some ⟨true, 24, 4, .fs .f32 p.2.2⟩])) (fun r => (.ex 0, [.unk], [some ⟨true, 24, 4, .fs .f32 p.2.2⟩]))
def impl_Stone_2.l2.ex (p : Nat × Int × List Nat) : (Int ⊕ Unit) → T (X × List V × Hp) := sumT (leafT (fun r => (.ret, [.it .i64 r], [some ⟨true, 24, 4, .fs .f32 p.2.2⟩]))) (leafT (fun r => (.ex 0, [.unk], [some ⟨true, 24, 4, .fs .f32 p.2.2⟩])))
noncomputable def impl_Stone_2.l2.c : List V → Hp → T (X × List V × Hp) := cdL impl_Stone_2.l2.cd fun x => optT (impl_Stone_2.l2.r x.1 x.2) (impl_Stone_2.l2.ex x.1)
noncomputable def impl_Stone_2.C : Ctx := { ty := tys, fn := [(59, .q impl_ShareTorque_2.c)], lp := [(2, ⟨[0, 1, 7, 8], [4], impl_Stone_2.l2.c⟩)], n := 19, k := 1 }
theorem impl_Stone_2.hC : CtxOK Tryd.prog impl_Stone_2.C := CtxOK.of mo tys_ok (FnsOK.cons impl_ShareTorque_2.cok FnsOK.nil)
noncomputable def impl_Stone_2.b2 : Code := (nthC (loopsOf impl_Stone_2.b) 0)
theorem impl_Stone_2.lp2 : LpOK Tryd.prog impl_Stone_2.C impl_Stone_2.b2 := (LpOK.nil (by kernel_rfl))
theorem impl_Stone_2.l2.round (p : Nat × Int × List Nat) (s : Int) : roundL impl_Stone_2.C [0, 1, 7, 8] [4] impl_Stone_2.b2 (impl_Stone_2.l2.cd.enc (p, s)).1 (impl_Stone_2.l2.cd.enc (p, s)).2 = (impl_Stone_2.l2.st p s).map (encSum (fun s => impl_Stone_2.l2.cd.enc (p, s)) (impl_Stone_2.l2.out p)) := by kernel_rfl
theorem impl_Stone_2.l2.lok : LoopOK Tryd.prog impl_Stone_2.C ⟨[0, 1, 7, 8], [4], impl_Stone_2.l2.c⟩ impl_Stone_2.b2 := loop_cd impl_Stone_2.l2.cd impl_Stone_2.hC impl_Stone_2.lp2 impl_Stone_2.l2.round fun p => (Gets.sum Gets.leaf Gets.leaf)
theorem impl_Stone_2.lp : LpOK Tryd.prog impl_Stone_2.C impl_Stone_2.b := lp_of (by kernel_rfl) (LpsOK.cons (k := 2) (by kernel_rfl) (by kernel_rfl) impl_Stone_2.l2.lok LpsOK.nil)
noncomputable def impl_Stone_2.t (x0 : Nat) (x1 : List Nat) : T Int :=
  .br (Option.isSome (impl_Stone_2.l2.r (x0, ((x0 : Nat) : Int), x1) (0 : Int)))
  (.br (Sum.isLeft (Option.getD (impl_Stone_2.l2.r (x0, ((x0 : Nat) : Int), x1) (0 : Int)) default))
   (.leaf (getLeftD (Option.getD (impl_Stone_2.l2.r (x0, ((x0 : Nat) : Int), x1) (0 : Int)) default)))
   (.leaf (-1 : Int)))
  .bad
noncomputable def impl_Stone_2 (x0 : Nat) (x1 : List Nat) : Int := (impl_Stone_2.t x0 x1).val
noncomputable def impl_Stone_2.ok (x0 : Nat) (x1 : List Nat) : Bool := (impl_Stone_2.t x0 x1).ok
def impl_Stone_2.cd : Cd (Nat × List Nat) (List V × Hp) := Cd.iso (Cd.pair (Cd.cons (Cd.own 0) (Cd.cons (Cd.fu 59 Cd.nil) Cd.nil)) (Cd.cons (Cd.rw 24 4 (Cd.fs .f32)) Cd.nil)) (fun a => (a.1.1, a.2.1)) (fun a => ((a.1, ((), ())), (a.2, ()))) (fun _ => rfl)
noncomputable def impl_Stone_2.tr (a : Nat × List Nat) : T Int := impl_Stone_2.t a.1 a.2
def impl_Stone_2.enc : (Nat × List Nat) → Int → V := fun a r => .it .i64 r
noncomputable def impl_Stone_2.c : List V → Hp → T V := cdQ impl_Stone_2.cd (fun a => .br (impl_Stone_2.ok a.1 a.2) (.leaf (impl_Stone_2.enc a (impl_Stone_2 a.1 a.2))) .bad)
theorem impl_Stone_2.run (a : Nat × List Nat) : runF impl_Stone_2.C Tryd.f76.results.toList impl_Stone_2.b (impl_Stone_2.cd.enc a).1 (impl_Stone_2.cd.enc a).2 = (impl_Stone_2.tr a).map fun r => (impl_Stone_2.enc a r, (impl_Stone_2.cd.enc a).2) := by kernel_rfl
theorem impl_Stone_2.cok : OKq Tryd.prog 76 impl_Stone_2.c := con_q' impl_Stone_2.cd impl_Stone_2.hC Tryd.func76 (by kernel_rfl) (by kernel_rfl) (by kernel_rfl) impl_Stone_2.lp (fun a => by kernel_rfl) impl_Stone_2.run (Tells.ok (tree := impl_Stone_2.tr))
/-! ### impl_Stone -/
noncomputable def impl_Stone.b : Code := bodyOf Tryd.f58
noncomputable def impl_Stone.C : Ctx := { ty := tys, fn := [(76, .q impl_Stone_2.c)], lp := [], n := 9, k := 1 }
theorem impl_Stone.hC : CtxOK Tryd.prog impl_Stone.C := CtxOK.of mo tys_ok (FnsOK.cons impl_Stone_2.cok FnsOK.nil)
theorem impl_Stone.lp : LpOK Tryd.prog impl_Stone.C impl_Stone.b := (LpOK.nil (by kernel_rfl))
noncomputable def impl_Stone.t (x0 : Nat) (x1 : List Nat) : T Bool :=
  .br (impl_Stone_2.ok x0 x1)
  (.leaf (decide ((impl_Stone_2 x0 x1) ≥ (0 : Int))))
  .bad
noncomputable def impl_Stone (x0 : Nat) (x1 : List Nat) : Bool := (impl_Stone.t x0 x1).val
noncomputable def impl_Stone.ok (x0 : Nat) (x1 : List Nat) : Bool := (impl_Stone.t x0 x1).ok
def impl_Stone.cd : Cd (Nat × List Nat) (List V × Hp) := Cd.iso (Cd.pair (Cd.cons (Cd.own 0) (Cd.cons (Cd.fu 59 Cd.nil) Cd.nil)) (Cd.cons (Cd.rw 24 4 (Cd.fs .f32)) Cd.nil)) (fun a => (a.1.1, a.2.1)) (fun a => ((a.1, ((), ())), (a.2, ()))) (fun _ => rfl)
noncomputable def impl_Stone.tr (a : Nat × List Nat) : T Bool := impl_Stone.t a.1 a.2
def impl_Stone.enc : (Nat × List Nat) → Bool → V := fun a r => .bo r
noncomputable def impl_Stone.c : List V → Hp → T V := cdQ impl_Stone.cd (fun a => .br (impl_Stone.ok a.1 a.2) (.leaf (impl_Stone.enc a (impl_Stone a.1 a.2))) .bad)
theorem impl_Stone.run (a : Nat × List Nat) : runF impl_Stone.C Tryd.f58.results.toList impl_Stone.b (impl_Stone.cd.enc a).1 (impl_Stone.cd.enc a).2 = (impl_Stone.tr a).map fun r => (impl_Stone.enc a r, (impl_Stone.cd.enc a).2) := by kernel_rfl
theorem impl_Stone.cok : OKq Tryd.prog 58 impl_Stone.c := con_q' impl_Stone.cd impl_Stone.hC Tryd.func58 (by kernel_rfl) (by kernel_rfl) (by kernel_rfl) impl_Stone.lp (fun a => by kernel_rfl) impl_Stone.run (Tells.ok (tree := impl_Stone.tr))
/-! ### impl_ShareTorque_1 -/
noncomputable def impl_ShareTorque_1.b : Code := bodyOf Tryd.f57
noncomputable def impl_ShareTorque_1.l3.s (x0 : Nat) (x1 : Nat) (x2 : Nat) (x3 : Int) (x4 : Int) (x5 : Nat) (x6 : Nat) (x7 : List Nat) : T ((Nat × Int) ⊕ Nat) :=
  .br (decide (x4 < x3))
  (.br (bounds x4 x2)
   (.br (Nat.ble ((Int.toNat x4 * 4) + 4) (List.length x7))
    (.leaf (.inl ((fadd .f32 x1 (impl_Stone_load x0 x6 (List.getD x7 (Int.toNat x4 * 4) 0) (List.getD x7 ((Int.toNat x4 * 4) + 1) 0) (List.getD x7 (((Int.toNat x4 * 4) + 1) + 1) 0) (List.getD x7 ((((Int.toNat x4 * 4) + 1) + 1) + 1) 0))), (IntKind.wrap .i64 (x4 + (1 : Int))))))
    .bad)
   .bad)
  (.leaf (.inr x1))
noncomputable def impl_ShareTorque_1.l3.st (p : Nat × Nat × Int × Nat × Nat × List Nat) (x : Nat × Int) : T ((Nat × Int) ⊕ Nat) := impl_ShareTorque_1.l3.s p.1 x.1 p.2.1 p.2.2.1 x.2 p.2.2.2.1 p.2.2.2.2.1 p.2.2.2.2.2
noncomputable def impl_ShareTorque_1.l3.r (p : Nat × Nat × Int × Nat × Nat × List Nat) (x : Nat × Int) : Option Nat := iterT (impl_ShareTorque_1.l3.st p) manyRounds x
def impl_ShareTorque_1.l3.cd : Cd ((Nat × Nat × Int × Nat × Nat × List Nat) × (Nat × Int)) (List V × Hp) := Cd.iso (Cd.pair (Cd.cons (Cd.fl .f32) (Cd.cons (Cd.pt 1 (Cd.natc 0)) (Cd.cons (Cd.fl .f32) (Cd.cons (Cd.own 2) (Cd.cons (Cd.it .i64) (Cd.cons (Cd.it .i64) Cd.nil)))))) (Cd.cons (Cd.rw 39 1 (Cd.vs (Cd.cons (Cd.own 2) Cd.nil))) (Cd.cons (Cd.rw 22 1 (Cd.vs (Cd.cons (Cd.fl .f32) Cd.nil))) (Cd.cons (Cd.rw 24 4 (Cd.fs .f32)) Cd.nil)))) (fun a => ((a.1.1, a.1.2.2.2.1, a.1.2.2.2.2.1, a.2.1.1, a.2.2.1.1, a.2.2.2.1), (a.1.2.2.1, a.1.2.2.2.2.2.1))) (fun a => ((a.1.1, ((), (a.2.1, (a.1.2.1, (a.1.2.2.1, (a.2.2, ())))))), ((a.1.2.2.2.1, ()), ((a.1.2.2.2.2.1, ()), (a.1.2.2.2.2.2, ()))))) (fun _ => rfl)
def impl_ShareTorque_1.l3.out (p : Nat × Nat × Int × Nat × Nat × List Nat) : Nat → X × List V × Hp := (fun r => (.ex 0, [.fl .f32 r], [some ⟨true, 39, 1, .vs [.own 2 p.2.2.2.1]⟩, some ⟨true, 22, 1, .vs [.fl .f32 p.2.2.2.2.1]⟩, some ⟨true, 24, 4, .fs .f32 p.2.2.2.2.2⟩]))
def impl_ShareTorque_1.l3.ex (p : Nat × Nat × Int × Nat × Nat × List Nat) : Nat → T (X × List V × Hp) := leafT (fun r => (.ex 0, [.fl .f32 r], [some ⟨true, 39, 1, .vs [.own 2 p.2.2.2.1]⟩, some ⟨true, 22, 1, .vs [.fl .f32 p.2.2.2.2.1]⟩, some ⟨true, 24, 4, .fs .f32 p.2.2.2.2.2⟩]))
noncomputable def impl_ShareTorque_1.l3.c : List V → Hp → T (X × List V × Hp) := cdL impl_ShareTorque_1.l3.cd fun x => optT (impl_ShareTorque_1.l3.r x.1 x.2) (impl_ShareTorque_1.l3.ex x.1)
noncomputable def impl_ShareTorque_1.C : Ctx := { ty := tys, fn := [(47, .q impl_Stone_load.c)], lp := [(3, ⟨[0, 2, 5, 8, 9, 10], [5], impl_ShareTorque_1.l3.c⟩)], n := 21, k := 3 }
theorem impl_ShareTorque_1.hC : CtxOK Tryd.prog impl_ShareTorque_1.C := CtxOK.of mo tys_ok (FnsOK.cons impl_Stone_load.cok FnsOK.nil)
noncomputable def impl_ShareTorque_1.b3 : Code := (nthC (loopsOf impl_ShareTorque_1.b) 0)
theorem impl_ShareTorque_1.lp3 : LpOK Tryd.prog impl_ShareTorque_1.C impl_ShareTorque_1.b3 := (LpOK.nil (by kernel_rfl))
theorem impl_ShareTorque_1.l3.round (p : Nat × Nat × Int × Nat × Nat × List Nat) (s : Nat × Int) : roundL impl_ShareTorque_1.C [0, 2, 5, 8, 9, 10] [5] impl_ShareTorque_1.b3 (impl_ShareTorque_1.l3.cd.enc (p, s)).1 (impl_ShareTorque_1.l3.cd.enc (p, s)).2 = (impl_ShareTorque_1.l3.st p s).map (encSum (fun s => impl_ShareTorque_1.l3.cd.enc (p, s)) (impl_ShareTorque_1.l3.out p)) := by kernel_rfl
theorem impl_ShareTorque_1.l3.lok : LoopOK Tryd.prog impl_ShareTorque_1.C ⟨[0, 2, 5, 8, 9, 10], [5], impl_ShareTorque_1.l3.c⟩ impl_ShareTorque_1.b3 := loop_cd impl_ShareTorque_1.l3.cd impl_ShareTorque_1.hC impl_ShareTorque_1.lp3 impl_ShareTorque_1.l3.round fun p => Gets.leaf
theorem impl_ShareTorque_1.lp : LpOK Tryd.prog impl_ShareTorque_1.C impl_ShareTorque_1.b := lp_of (by kernel_rfl) (LpsOK.cons (k := 3) (by kernel_rfl) (by kernel_rfl) impl_ShareTorque_1.l3.lok LpsOK.nil)
noncomputable def impl_ShareTorque_1.t (x0 : Nat) (x1 : Nat) (x2 : Nat) (x3 : List Nat) : T Nat :=
  .br (Option.isSome (impl_ShareTorque_1.l3.r (x0, x1, ((x1 : Nat) : Int), x1, x2, x3) (0, (0 : Int))))
  (.leaf (Option.getD (impl_ShareTorque_1.l3.r (x0, x1, ((x1 : Nat) : Int), x1, x2, x3) (0, (0 : Int))) default))
  .bad
noncomputable def impl_ShareTorque_1 (x0 : Nat) (x1 : Nat) (x2 : Nat) (x3 : List Nat) : Nat := (impl_ShareTorque_1.t x0 x1 x2 x3).val
noncomputable def impl_ShareTorque_1.ok (x0 : Nat) (x1 : Nat) (x2 : Nat) (x3 : List Nat) : Bool := (impl_ShareTorque_1.t x0 x1 x2 x3).ok
def impl_ShareTorque_1.cd : Cd (Nat × Nat × Nat × List Nat) (List V × Hp) := Cd.iso (Cd.pair (Cd.cons (Cd.fl .f32) (Cd.cons (Cd.pt 0 (Cd.natc 0)) (Cd.cons (Cd.pt 1 (Cd.natc 0)) Cd.nil))) (Cd.cons (Cd.rw 39 1 (Cd.vs (Cd.cons (Cd.own 2) Cd.nil))) (Cd.cons (Cd.rw 22 1 (Cd.vs (Cd.cons (Cd.fl .f32) Cd.nil))) (Cd.cons (Cd.rw 24 4 (Cd.fs .f32)) Cd.nil)))) (fun a => (a.1.1, a.2.1.1, a.2.2.1.1, a.2.2.2.1)) (fun a => ((a.1, ((), ((), ()))), ((a.2.1, ()), ((a.2.2.1, ()), (a.2.2.2, ()))))) (fun _ => rfl)
noncomputable def impl_ShareTorque_1.tr (a : Nat × Nat × Nat × List Nat) : T Nat := impl_ShareTorque_1.t a.1 a.2.1 a.2.2.1 a.2.2.2
def impl_ShareTorque_1.enc : (Nat × Nat × Nat × List Nat) → Nat → V := fun a r => .fl .f32 r
noncomputable def impl_ShareTorque_1.c : List V → Hp → T V := cdQ impl_ShareTorque_1.cd (fun a => .br (impl_ShareTorque_1.ok a.1 a.2.1 a.2.2.1 a.2.2.2) (.leaf (impl_ShareTorque_1.enc a (impl_ShareTorque_1 a.1 a.2.1 a.2.2.1 a.2.2.2))) .bad)
theorem impl_ShareTorque_1.run (a : Nat × Nat × Nat × List Nat) : runF impl_ShareTorque_1.C Tryd.f57.results.toList impl_ShareTorque_1.b (impl_ShareTorque_1.cd.enc a).1 (impl_ShareTorque_1.cd.enc a).2 = (impl_ShareTorque_1.tr a).map fun r => (impl_ShareTorque_1.enc a r, (impl_ShareTorque_1.cd.enc a).2) := by kernel_rfl
theorem impl_ShareTorque_1.cok : OKq Tryd.prog 57 impl_ShareTorque_1.c := con_q' impl_ShareTorque_1.cd impl_ShareTorque_1.hC Tryd.func57 (by kernel_rfl) (by kernel_rfl) (by kernel_rfl) impl_ShareTorque_1.lp (fun a => by kernel_rfl) impl_ShareTorque_1.run (Tells.ok (tree := impl_ShareTorque_1.tr))
/-! ### impl_steady_w1 -/
noncomputable def impl_steady_w1.b : Code := bodyOf Tryd.f60
noncomputable def impl_steady_w1.l3.s (x0 : Nat) (x1 : Nat) (x2 : Nat) (x3 : Int) (x4 : Int) (x5 : Nat) (x6 : Nat) (x7 : List Nat) : T ((Nat × Nat × Int) ⊕ Nat) :=
  .br (decide (x4 < x3))
  (.br (impl_ShareTorque_1.ok (impl_halved x1 x2) x5 x6 x7)
   (.br (fgt .f32 (impl_ShareTorque_1 (impl_halved x1 x2) x5 x6 x7) x0)
    (.leaf (.inl (x1, (impl_halved x1 x2), (IntKind.wrap .i64 (x4 + (1 : Int))))))
    (.leaf (.inl ((impl_halved x1 x2), x2, (IntKind.wrap .i64 (x4 + (1 : Int)))))))
   .bad)
  (.leaf (.inr x1))
noncomputable def impl_steady_w1.l3.st (p : Nat × Int × Nat × Nat × List Nat) (x : Nat × Nat × Int) : T ((Nat × Nat × Int) ⊕ Nat) := impl_steady_w1.l3.s p.1 x.1 x.2.1 p.2.1 x.2.2 p.2.2.1 p.2.2.2.1 p.2.2.2.2
noncomputable def impl_steady_w1.l3.r (p : Nat × Int × Nat × Nat × List Nat) (x : Nat × Nat × Int) : Option Nat := iterT (impl_steady_w1.l3.st p) manyRounds x
def impl_steady_w1.l3.cd : Cd ((Nat × Int × Nat × Nat × List Nat) × (Nat × Nat × Int)) (List V × Hp) := Cd.iso (Cd.pair (Cd.cons (Cd.fl .f32) (Cd.cons (Cd.fu 57 (Cd.cons (Cd.pt 0 (Cd.natc 0)) (Cd.cons (Cd.pt 1 (Cd.natc 0)) Cd.nil))) (Cd.cons (Cd.fl .f32) (Cd.cons (Cd.fl .f32) (Cd.cons (Cd.it .i64) (Cd.cons (Cd.it .i64) Cd.nil)))))) (Cd.cons (Cd.rw 39 1 (Cd.vs (Cd.cons (Cd.own 2) Cd.nil))) (Cd.cons (Cd.rw 22 1 (Cd.vs (Cd.cons (Cd.fl .f32) Cd.nil))) (Cd.cons (Cd.rw 24 4 (Cd.fs .f32)) Cd.nil)))) (fun a => ((a.1.1, a.1.2.2.2.2.1, a.2.1.1, a.2.2.1.1, a.2.2.2.1), (a.1.2.2.1, a.1.2.2.2.1, a.1.2.2.2.2.2.1))) (fun a => ((a.1.1, (((), ((), ())), (a.2.1, (a.2.2.1, (a.1.2.1, (a.2.2.2, ())))))), ((a.1.2.2.1, ()), ((a.1.2.2.2.1, ()), (a.1.2.2.2.2, ()))))) (fun _ => rfl)
def impl_steady_w1.l3.out (p : Nat × Int × Nat × Nat × List Nat) : Nat → X × List V × Hp := (fun r => (.ex 0, [.fl .f32 r], [some ⟨true, 39, 1, .vs [.own 2 p.2.2.1]⟩, some ⟨true, 22, 1, .vs [.fl .f32 p.2.2.2.1]⟩, some ⟨true, 24, 4, .fs .f32 p.2.2.2.2⟩]))
def impl_steady_w1.l3.ex (p : Nat × Int × Nat × Nat × List Nat) : Nat → T (X × List V × Hp) := leafT (fun r => (.ex 0, [.fl .f32 r], [some ⟨true, 39, 1, .vs [.own 2 p.2.2.1]⟩, some ⟨true, 22, 1, .vs [.fl .f32 p.2.2.2.1]⟩, some ⟨true, 24, 4, .fs .f32 p.2.2.2.2⟩]))
noncomputable def impl_steady_w1.l3.c : List V → Hp → T (X × List V × Hp) := cdL impl_steady_w1.l3.cd fun x => optT (impl_steady_w1.l3.r x.1 x.2) (impl_steady_w1.l3.ex x.1)
noncomputable def impl_steady_w1.C : Ctx := { ty := tys, fn := [(77, .q impl_halved.c), (57, .q impl_ShareTorque_1.c)], lp := [(3, ⟨[0, 2, 7, 8, 10, 11], [7], impl_steady_w1.l3.c⟩)], n := 25, k := 3 }
theorem impl_steady_w1.hC : CtxOK Tryd.prog impl_steady_w1.C := CtxOK.of mo tys_ok (FnsOK.cons impl_halved.cok (FnsOK.cons impl_ShareTorque_1.cok FnsOK.nil))
noncomputable def impl_steady_w1.b3 : Code := (nthC (loopsOf impl_steady_w1.b) 0)
theorem impl_steady_w1.lp3 : LpOK Tryd.prog impl_steady_w1.C impl_steady_w1.b3 := (LpOK.nil (by kernel_rfl))
theorem impl_steady_w1.l3.round (p : Nat × Int × Nat × Nat × List Nat) (s : Nat × Nat × Int) : roundL impl_steady_w1.C [0, 2, 7, 8, 10, 11] [7] impl_steady_w1.b3 (impl_steady_w1.l3.cd.enc (p, s)).1 (impl_steady_w1.l3.cd.enc (p, s)).2 = (impl_steady_w1.l3.st p s).map (encSum (fun s => impl_steady_w1.l3.cd.enc (p, s)) (impl_steady_w1.l3.out p)) := by kernel_rfl
theorem impl_steady_w1.l3.lok : LoopOK Tryd.prog impl_steady_w1.C ⟨[0, 2, 7, 8, 10, 11], [7], impl_steady_w1.l3.c⟩ impl_steady_w1.b3 := loop_cd impl_steady_w1.l3.cd impl_steady_w1.hC impl_steady_w1.lp3 impl_steady_w1.l3.round fun p => Gets.leaf
theorem impl_steady_w1.lp : LpOK Tryd.prog impl_steady_w1.C impl_steady_w1.b := lp_of (by kernel_rfl) (LpsOK.cons (k := 3) (by kernel_rfl) (by kernel_rfl) impl_steady_w1.l3.lok LpsOK.nil)
noncomputable def impl_steady_w1.t (x0 : Nat) (x1 : Int) (x2 : Nat) (x3 : Nat) (x4 : List Nat) : T Nat :=
  .br (Option.isSome (impl_steady_w1.l3.r (x0, x1, x2, x3, x4) (0, 1149239296, (0 : Int))))
  (.leaf (Option.getD (impl_steady_w1.l3.r (x0, x1, x2, x3, x4) (0, 1149239296, (0 : Int))) default))
  .bad
noncomputable def impl_steady_w1 (x0 : Nat) (x1 : Int) (x2 : Nat) (x3 : Nat) (x4 : List Nat) : Nat := (impl_steady_w1.t x0 x1 x2 x3 x4).val
noncomputable def impl_steady_w1.ok (x0 : Nat) (x1 : Int) (x2 : Nat) (x3 : Nat) (x4 : List Nat) : Bool := (impl_steady_w1.t x0 x1 x2 x3 x4).ok
def impl_steady_w1.cd : Cd (Nat × Int × Nat × Nat × List Nat) (List V × Hp) := Cd.iso (Cd.pair (Cd.cons (Cd.fl .f32) (Cd.cons (Cd.it .i64) (Cd.cons (Cd.fu 57 (Cd.cons (Cd.pt 0 (Cd.natc 0)) (Cd.cons (Cd.pt 1 (Cd.natc 0)) Cd.nil))) Cd.nil))) (Cd.cons (Cd.rw 39 1 (Cd.vs (Cd.cons (Cd.own 2) Cd.nil))) (Cd.cons (Cd.rw 22 1 (Cd.vs (Cd.cons (Cd.fl .f32) Cd.nil))) (Cd.cons (Cd.rw 24 4 (Cd.fs .f32)) Cd.nil)))) (fun a => (a.1.1, a.1.2.1, a.2.1.1, a.2.2.1.1, a.2.2.2.1)) (fun a => ((a.1, (a.2.1, (((), ((), ())), ()))), ((a.2.2.1, ()), ((a.2.2.2.1, ()), (a.2.2.2.2, ()))))) (fun _ => rfl)
noncomputable def impl_steady_w1.tr (a : Nat × Int × Nat × Nat × List Nat) : T Nat := impl_steady_w1.t a.1 a.2.1 a.2.2.1 a.2.2.2.1 a.2.2.2.2
def impl_steady_w1.enc : (Nat × Int × Nat × Nat × List Nat) → Nat → V := fun a r => .fl .f32 r
noncomputable def impl_steady_w1.c : List V → Hp → T V := cdQ impl_steady_w1.cd (fun a => .br (impl_steady_w1.ok a.1 a.2.1 a.2.2.1 a.2.2.2.1 a.2.2.2.2) (.leaf (impl_steady_w1.enc a (impl_steady_w1 a.1 a.2.1 a.2.2.1 a.2.2.2.1 a.2.2.2.2))) .bad)
theorem impl_steady_w1.run (a : Nat × Int × Nat × Nat × List Nat) : runF impl_steady_w1.C Tryd.f60.results.toList impl_steady_w1.b (impl_steady_w1.cd.enc a).1 (impl_steady_w1.cd.enc a).2 = (impl_steady_w1.tr a).map fun r => (impl_steady_w1.enc a r, (impl_steady_w1.cd.enc a).2) := by kernel_rfl
theorem impl_steady_w1.cok : OKq Tryd.prog 60 impl_steady_w1.c := con_q' impl_steady_w1.cd impl_steady_w1.hC Tryd.func60 (by kernel_rfl) (by kernel_rfl) (by kernel_rfl) impl_steady_w1.lp (fun a => by kernel_rfl) impl_steady_w1.run (Tells.ok (tree := impl_steady_w1.tr))
/-! ### impl_ShareTorque -/
noncomputable def impl_ShareTorque.b : Code := bodyOf Tryd.f24
noncomputable def impl_ShareTorque.l12.s (x0 : Nat) (x1 : Nat) (x2 : Nat) (x3 : Int) (x4 : Int) (x5 : Int) (x6 : List Nat) (x7 : Nat) (x8 : List Nat) : T ((Nat × Int × List Nat) ⊕ (Nat × List Nat)) :=
  .br (decide (x4 < x3))
  (.br (bounds x4 x2)
   (.br (Nat.ble ((Int.toNat x4 * 4) + 4) (List.length x6))
    (.br ((Nat.ble 1 (List.length [(impl_Stone_load x0 x7 (List.getD x6 (Int.toNat x4 * 4) 0) (List.getD x6 ((Int.toNat x4 * 4) + 1) 0) (List.getD x6 (((Int.toNat x4 * 4) + 1) + 1) 0) (List.getD x6 ((((Int.toNat x4 * 4) + 1) + 1) + 1) 0))])) && (Nat.beq (List.length x8) (x1 * 1) && Nat.ble ((x1 + 1) * 4) 35184372088832 && Nat.ble (x1 + 1) 35184372088832))
     (.leaf (.inl ((x1 + 1), (IntKind.wrap .i64 (x4 + (1 : Int))), (x8 ++ (List.take 1 (List.drop 0 [(impl_Stone_load x0 x7 (List.getD x6 (Int.toNat x4 * 4) 0) (List.getD x6 ((Int.toNat x4 * 4) + 1) 0) (List.getD x6 (((Int.toNat x4 * 4) + 1) + 1) 0) (List.getD x6 ((((Int.toNat x4 * 4) + 1) + 1) + 1) 0))]))))))
     .bad)
    .bad)
   .bad)
  (.leaf (.inr (x1, x8)))
noncomputable def impl_ShareTorque.l12.st (p : Nat × Nat × Int × Int × List Nat × Nat) (x : Nat × Int × List Nat) : T ((Nat × Int × List Nat) ⊕ (Nat × List Nat)) := impl_ShareTorque.l12.s p.1 x.1 p.2.1 p.2.2.1 x.2.1 p.2.2.2.1 p.2.2.2.2.1 p.2.2.2.2.2 x.2.2
noncomputable def impl_ShareTorque.l12.r (p : Nat × Nat × Int × Int × List Nat × Nat) (x : Nat × Int × List Nat) : Option (Nat × List Nat) := iterT (impl_ShareTorque.l12.st p) manyRounds x
def impl_ShareTorque.l12.cd : Cd ((Nat × Nat × Int × Int × List Nat × Nat) × (Nat × Int × List Nat)) (List V × Hp) := Cd.iso (Cd.pair (Cd.cons (Cd.pt 2 (Cd.natc 0)) (Cd.cons (Cd.fl .f32) (Cd.cons (Cd.own 3) (Cd.cons (Cd.own 1) (Cd.cons (Cd.it .i64) (Cd.cons (Cd.it .i64) Cd.nil)))))) (Cd.cons (Cd.ro 0 2 (Cd.vs (Cd.cons (Cd.it .i64) Cd.nil))) (Cd.cons (Cd.rw 24 4 (Cd.fs .f32)) (Cd.cons (Cd.rw 22 1 (Cd.vs (Cd.cons (Cd.fl .f32) Cd.nil))) (Cd.cons (Cd.rw 22 1 (Cd.fs .f32)) Cd.nil))))) (fun a => ((a.1.2.1, a.1.2.2.2.1, a.1.2.2.2.2.1, a.2.1.1, a.2.2.1, a.2.2.2.1.1), (a.1.2.2.1, a.1.2.2.2.2.2.1, a.2.2.2.2.1))) (fun a => (((), (a.1.1, (a.2.1, (a.1.2.1, (a.1.2.2.1, (a.2.2.1, ())))))), ((a.1.2.2.2.1, ()), (a.1.2.2.2.2.1, ((a.1.2.2.2.2.2, ()), (a.2.2.2, ())))))) (fun _ => rfl)
def impl_ShareTorque.l12.out (p : Nat × Nat × Int × Int × List Nat × Nat) : (Nat × List Nat) → X × List V × Hp := (fun r => (.ex 1, [.own 2 r.1], [some ⟨false, 0, 2, .vs [.it .i64 p.2.2.2.1]⟩, some ⟨true, 24, 4, .fs .f32 p.2.2.2.2.1⟩, some ⟨true, 22, 1, .fs .f32 r.2⟩]))
def impl_ShareTorque.l12.ex (p : Nat × Nat × Int × Int × List Nat × Nat) : (Nat × List Nat) → T (X × List V × Hp) := leafT (fun r => (.ex 1, [.own 2 r.1], [some ⟨false, 0, 2, .vs [.it .i64 p.2.2.2.1]⟩, some ⟨true, 24, 4, .fs .f32 p.2.2.2.2.1⟩, some ⟨true, 22, 1, .fs .f32 r.2⟩]))
noncomputable def impl_ShareTorque.l12.c : List V → Hp → T (X × List V × Hp) := cdL impl_ShareTorque.l12.cd fun x => optT (impl_ShareTorque.l12.r x.1 x.2) (impl_ShareTorque.l12.ex x.1)
noncomputable def impl_ShareTorque.C : Ctx := { ty := tys, fn := [(58, .q impl_Stone.c), (39, .q impl_isAmount.c), (40, .q impl_IsRate.c), (57, .q impl_ShareTorque_1.c), (60, .q impl_steady_w1.c), (47, .q impl_Stone_load.c)], lp := [(12, ⟨[5, 9, 10, 44, 45, 46], [10], impl_ShareTorque.l12.c⟩)], n := 58, k := 2 }
theorem impl_ShareTorque.hC : CtxOK Tryd.prog impl_ShareTorque.C := CtxOK.of mo tys_ok (FnsOK.cons impl_Stone.cok (FnsOK.cons impl_isAmount.cok (FnsOK.cons impl_IsRate.cok (FnsOK.cons impl_ShareTorque_1.cok (FnsOK.cons impl_steady_w1.cok (FnsOK.cons impl_Stone_load.cok FnsOK.nil))))))
noncomputable def impl_ShareTorque.b12 : Code := (nthC (loopsOf impl_ShareTorque.b) 0)
theorem impl_ShareTorque.lp12 : LpOK Tryd.prog impl_ShareTorque.C impl_ShareTorque.b12 := (LpOK.nil (by kernel_rfl))
theorem impl_ShareTorque.l12.round (p : Nat × Nat × Int × Int × List Nat × Nat) (s : Nat × Int × List Nat) : roundL impl_ShareTorque.C [5, 9, 10, 44, 45, 46] [10] impl_ShareTorque.b12 (impl_ShareTorque.l12.cd.enc (p, s)).1 (impl_ShareTorque.l12.cd.enc (p, s)).2 = (impl_ShareTorque.l12.st p s).map (encSum (fun s => impl_ShareTorque.l12.cd.enc (p, s)) (impl_ShareTorque.l12.out p)) := by kernel_rfl
theorem impl_ShareTorque.l12.lok : LoopOK Tryd.prog impl_ShareTorque.C ⟨[5, 9, 10, 44, 45, 46], [10], impl_ShareTorque.l12.c⟩ impl_ShareTorque.b12 := loop_cd impl_ShareTorque.l12.cd impl_ShareTorque.hC impl_ShareTorque.lp12 impl_ShareTorque.l12.round fun p => Gets.leaf
theorem impl_ShareTorque.lp : LpOK Tryd.prog impl_ShareTorque.C impl_ShareTorque.b := lp_of (by kernel_rfl) (LpsOK.cons (k := 12) (by kernel_rfl) (by kernel_rfl) impl_ShareTorque.l12.lok LpsOK.nil)
noncomputable def impl_ShareTorque.t (x0 : Nat) (x1 : Nat) (x2 : Nat) (x3 : Int) (x4 : List Nat) : T (Int ⊕ (Nat × Int × List Nat)) :=
  .br (impl_Stone.ok x0 x4)
  (.br (impl_Stone x0 x4)
   (.leaf (.inl (1 : Int)))
   (.br (!(impl_isAmount x1))
    (.leaf (.inl (2 : Int)))
    (.br (!(impl_IsRate x2))
     (.leaf (.inl (2 : Int)))
     (.br (decide (((x0 : Nat) : Int) > (60 : Int)))
      (.leaf (.inl (3 : Int)))
      (.br (((x0 : Nat) : Int) == (0 : Int))
       (.leaf (.inl (6 : Int)))
       (.br (impl_ShareTorque_1.ok 0 x0 x2 x4)
        (.br (fgt .f32 (impl_ShareTorque_1 0 x0 x2 x4) x1)
         (.leaf (.inl (6 : Int)))
         (.br (impl_steady_w1.ok x1 (40 : Int) x0 x2 x4)
          (.br (Option.isSome (impl_ShareTorque.l12.r ((impl_steady_w1 x1 (40 : Int) x0 x2 x4), x0, ((x0 : Nat) : Int), x3, x4, x2) (0, (0 : Int), [])))
           (.leaf (.inr ((Option.getD (impl_ShareTorque.l12.r ((impl_steady_w1 x1 (40 : Int) x0 x2 x4), x0, ((x0 : Nat) : Int), x3, x4, x2) (0, (0 : Int), [])) default).1, (0 : Int), (Option.getD (impl_ShareTorque.l12.r ((impl_steady_w1 x1 (40 : Int) x0 x2 x4), x0, ((x0 : Nat) : Int), x3, x4, x2) (0, (0 : Int), [])) default).2)))
           .bad)
          .bad))
        .bad))))))
  .bad
noncomputable def impl_ShareTorque (x0 : Nat) (x1 : Nat) (x2 : Nat) (x3 : Int) (x4 : List Nat) : Int ⊕ (Nat × Int × List Nat) := (impl_ShareTorque.t x0 x1 x2 x3 x4).val
noncomputable def impl_ShareTorque.ok (x0 : Nat) (x1 : Nat) (x2 : Nat) (x3 : Int) (x4 : List Nat) : Bool := (impl_ShareTorque.t x0 x1 x2 x3 x4).ok
def impl_ShareTorque.cd : Cd (Nat × Nat × Nat × Int × List Nat) (List V × Hp) := Cd.iso (Cd.pair (Cd.cons (Cd.own 1) (Cd.cons (Cd.fl .f32) (Cd.cons (Cd.fl .f32) Cd.nil))) (Cd.cons (Cd.ro 0 2 (Cd.vs (Cd.cons (Cd.it .i64) Cd.nil))) (Cd.cons (Cd.rw 24 4 (Cd.fs .f32)) Cd.nil))) (fun a => (a.1.1, a.1.2.1, a.1.2.2.1, a.2.1.1, a.2.2.1)) (fun a => ((a.1, (a.2.1, (a.2.2.1, ()))), ((a.2.2.2.1, ()), (a.2.2.2.2, ())))) (fun _ => rfl)
noncomputable def impl_ShareTorque.tr (a : Nat × Nat × Nat × Int × List Nat) : T (Int ⊕ (Nat × Int × List Nat)) := impl_ShareTorque.t a.1 a.2.1 a.2.2.1 a.2.2.2.1 a.2.2.2.2
def impl_ShareTorque.enc : (Nat × Nat × Nat × Int × List Nat) → (Int ⊕ (Nat × Int × List Nat)) → V × Hp := fun a => sumO (fun r => (.tup [.sn, .it .i64 r], [some ⟨false, 0, 2, .vs [.it .i64 a.2.2.2.1]⟩, some ⟨true, 24, 4, .fs .f32 a.2.2.2.2⟩])) (fun r => (.tup [.own 2 r.1, .it .i64 r.2.1], [some ⟨false, 0, 2, .vs [.it .i64 a.2.2.2.1]⟩, some ⟨true, 24, 4, .fs .f32 a.2.2.2.2⟩, some ⟨true, 22, 1, .fs .f32 r.2.2⟩]))
noncomputable def impl_ShareTorque.ex : (Nat × Nat × Nat × Int × List Nat) → (Int ⊕ (Nat × Int × List Nat)) → T (V × Hp) := fun a => sumT (leafT (fun r => (.tup [.sn, .it .i64 r], [some ⟨false, 0, 2, .vs [.it .i64 a.2.2.2.1]⟩, some ⟨true, 24, 4, .fs .f32 a.2.2.2.2⟩]))) (leafT (fun r => (.tup [.own 2 r.1, .it .i64 r.2.1], [some ⟨false, 0, 2, .vs [.it .i64 a.2.2.2.1]⟩, some ⟨true, 24, 4, .fs .f32 a.2.2.2.2⟩, some ⟨true, 22, 1, .fs .f32 r.2.2⟩])))
noncomputable def impl_ShareTorque.c : List V → Hp → T (V × Hp) := cdE impl_ShareTorque.cd (fun a => .br (impl_ShareTorque.ok a.1 a.2.1 a.2.2.1 a.2.2.2.1 a.2.2.2.2) (impl_ShareTorque.ex a (impl_ShareTorque a.1 a.2.1 a.2.2.1 a.2.2.2.1 a.2.2.2.2)) .bad)
theorem impl_ShareTorque.run (a : Nat × Nat × Nat × Int × List Nat) : runF impl_ShareTorque.C Tryd.f24.results.toList impl_ShareTorque.b (impl_ShareTorque.cd.enc a).1 (impl_ShareTorque.cd.enc a).2 = (impl_ShareTorque.tr a).map (impl_ShareTorque.enc a) := by kernel_rfl
theorem impl_ShareTorque.cok : OKe Tryd.prog 24 impl_ShareTorque.c := con_e' impl_ShareTorque.cd impl_ShareTorque.hC Tryd.func24 (by kernel_rfl) (by kernel_rfl) (by kernel_rfl) impl_ShareTorque.lp (fun a => by kernel_rfl) impl_ShareTorque.run (Tells.okS (tree := impl_ShareTorque.tr) (ex := impl_ShareTorque.ex) fun a => (Gets.sum Gets.leaf Gets.leaf))
/-! ### spec_ShareTorque -/
noncomputable def spec_ShareTorque.b : Code := bodyOf Tryd.f25
noncomputable def spec_ShareTorque.l3.s (x0 : Nat) (x1 : Nat) (x2 : Nat) (x3 : Nat) (x4 : Int) (x5 : Int) (x6 : List Nat) (x7 : List Nat) : T (Int ⊕ (Int ⊕ Unit)) :=
  .br (decide (x4 < ((x0 : Nat) : Int)))
  (.br (bounds x4 x0)
   (.br (Nat.ble ((Int.toNat x4 * 4) + 4) (List.length x6))
    (.br (!(spec_l04Ok (List.getD x6 (Int.toNat x4 * 4) 0) (List.getD x6 ((Int.toNat x4 * 4) + 1) 0) (List.getD x6 (((Int.toNat x4 * 4) + 1) + 1) 0) (List.getD x6 ((((Int.toNat x4 * 4) + 1) + 1) + 1) 0)))
     (.leaf (.inr (.inl (1 : Int))))
     (.leaf (.inl (IntKind.wrap .i64 (x4 + (1 : Int))))))
    .bad)
   .bad)
  (.leaf (.inr (.inr ())))
noncomputable def spec_ShareTorque.l3.st (p : Nat × Nat × Nat × Nat × Int × List Nat × List Nat) (x : Int) : T (Int ⊕ (Int ⊕ Unit)) := spec_ShareTorque.l3.s p.1 p.2.1 p.2.2.1 p.2.2.2.1 x p.2.2.2.2.1 p.2.2.2.2.2.1 p.2.2.2.2.2.2
noncomputable def spec_ShareTorque.l3.r (p : Nat × Nat × Nat × Nat × Int × List Nat × List Nat) (x : Int) : Option (Int ⊕ Unit) := iterT (spec_ShareTorque.l3.st p) manyRounds x
def spec_ShareTorque.l3.cd : Cd ((Nat × Nat × Nat × Nat × Int × List Nat × List Nat) × Int) (List V × Hp) := Cd.iso (Cd.pair (Cd.cons (Cd.own 1) (Cd.cons (Cd.fl .f32) (Cd.cons (Cd.fl .f32) (Cd.cons (Cd.own 2) (Cd.cons (Cd.it .i64) Cd.nil))))) (Cd.cons (Cd.ro 0 2 (Cd.vs (Cd.cons (Cd.it .i64) Cd.nil))) (Cd.cons (Cd.rw 24 4 (Cd.fs .f32)) (Cd.cons (Cd.rw 22 1 (Cd.fs .f32)) Cd.nil)))) (fun a => ((a.1.1, a.1.2.1, a.1.2.2.1, a.1.2.2.2.1, a.2.1.1, a.2.2.1, a.2.2.2.1), a.1.2.2.2.2.1)) (fun a => ((a.1.1, (a.1.2.1, (a.1.2.2.1, (a.1.2.2.2.1, (a.2, ()))))), ((a.1.2.2.2.2.1, ()), (a.1.2.2.2.2.2.1, (a.1.2.2.2.2.2.2, ()))))) (fun _ => rfl)
def spec_ShareTorque.l3.out (p : Nat × Nat × Nat × Nat × Int × List Nat × List Nat) : (Int ⊕ Unit) → X × List V × Hp := sumO (fun r => (.ret, [.own 1 p.1, .fl .f32 p.2.1, .fl .f32 p.2.2.1, .own 2 p.2.2.2.1, .it .i64 r, .own 2 p.2.2.2.1], [some ⟨false, 0, 2, .vs [.it .i64 p.2.2.2.2.1]⟩, some ⟨true, 24, 4, .fs .f32 p.2.2.2.2.2.1⟩, some ⟨true, 22, 1, .fs .f32 p.2.2.2.2.2.2⟩])) (fun r => (.ex 0, [.own 1 p.1, .fl .f32 p.2.1, .fl .f32 p.2.2.1, .unk, .unk, .own 2 p.2.2.2.1], [some ⟨false, 0, 2, .vs [.it .i64 p.2.2.2.2.1]⟩, some ⟨true, 24, 4, .fs .f32 p.2.2.2.2.2.1⟩, some ⟨true, 22, 1, .fs .f32 p.2.2.2.2.2.2⟩]))
def spec_ShareTorque.l3.ex (p : Nat × Nat × Nat × Nat × Int × List Nat × List Nat) : (Int ⊕ Unit) → T (X × List V × Hp) := sumT (leafT (fun r => (.ret, [.own 1 p.1, .fl .f32 p.2.1, .fl .f32 p.2.2.1, .own 2 p.2.2.2.1, .it .i64 r, .own 2 p.2.2.2.1], [some ⟨false, 0, 2, .vs [.it .i64 p.2.2.2.2.1]⟩, some ⟨true, 24, 4, .fs .f32 p.2.2.2.2.2.1⟩, some ⟨true, 22, 1, .fs .f32 p.2.2.2.2.2.2⟩]))) (leafT (fun r => (.ex 0, [.own 1 p.1, .fl .f32 p.2.1, .fl .f32 p.2.2.1, .unk, .unk, .own 2 p.2.2.2.1], [some ⟨false, 0, 2, .vs [.it .i64 p.2.2.2.2.1]⟩, some ⟨true, 24, 4, .fs .f32 p.2.2.2.2.2.1⟩, some ⟨true, 22, 1, .fs .f32 p.2.2.2.2.2.2⟩])))
noncomputable def spec_ShareTorque.l3.c : List V → Hp → T (X × List V × Hp) := cdL spec_ShareTorque.l3.cd fun x => optT (spec_ShareTorque.l3.r x.1 x.2) (spec_ShareTorque.l3.ex x.1)
noncomputable def spec_ShareTorque.l15.s (x0 : Nat) (x1 : Nat) (x2 : Nat) (x3 : Nat) (x4 : Int) (x5 : Int) (x6 : List Nat) (x7 : List Nat) : T ((Nat × Int × List Nat) ⊕ (Nat × List Nat)) :=
  .br (decide (x4 < ((x0 : Nat) : Int)))
  (.br (bounds x4 x0)
   (.br (Nat.ble ((Int.toNat x4 * 4) + 4) (List.length x6))
    (.br ((Nat.ble 1 (List.length [(spec_l04Load (List.getD x6 (Int.toNat x4 * 4) 0) (List.getD x6 ((Int.toNat x4 * 4) + 1) 0) (List.getD x6 (((Int.toNat x4 * 4) + 1) + 1) 0) (List.getD x6 ((((Int.toNat x4 * 4) + 1) + 1) + 1) 0) x3 x1)])) && (Nat.beq (List.length x7) (x2 * 1) && Nat.ble ((x2 + 1) * 4) 35184372088832 && Nat.ble (x2 + 1) 35184372088832))
     (.leaf (.inl ((x2 + 1), (IntKind.wrap .i64 (x4 + (1 : Int))), (x7 ++ (List.take 1 (List.drop 0 [(spec_l04Load (List.getD x6 (Int.toNat x4 * 4) 0) (List.getD x6 ((Int.toNat x4 * 4) + 1) 0) (List.getD x6 (((Int.toNat x4 * 4) + 1) + 1) 0) (List.getD x6 ((((Int.toNat x4 * 4) + 1) + 1) + 1) 0) x3 x1)]))))))
     .bad)
    .bad)
   .bad)
  (.leaf (.inr (x2, x7)))
noncomputable def spec_ShareTorque.l15.st (p : Nat × Nat × Nat × Int × List Nat) (x : Nat × Int × List Nat) : T ((Nat × Int × List Nat) ⊕ (Nat × List Nat)) := spec_ShareTorque.l15.s p.1 p.2.1 x.1 p.2.2.1 x.2.1 p.2.2.2.1 p.2.2.2.2 x.2.2
noncomputable def spec_ShareTorque.l15.r (p : Nat × Nat × Nat × Int × List Nat) (x : Nat × Int × List Nat) : Option (Nat × List Nat) := iterT (spec_ShareTorque.l15.st p) manyRounds x
def spec_ShareTorque.l15.cd : Cd ((Nat × Nat × Nat × Int × List Nat) × (Nat × Int × List Nat)) (List V × Hp) := Cd.iso (Cd.pair (Cd.cons (Cd.own 1) (Cd.cons (Cd.fl .f32) (Cd.cons (Cd.own 2) (Cd.cons (Cd.fl .f32) (Cd.cons (Cd.it .i64) Cd.nil))))) (Cd.cons (Cd.ro 0 2 (Cd.vs (Cd.cons (Cd.it .i64) Cd.nil))) (Cd.cons (Cd.rw 24 4 (Cd.fs .f32)) (Cd.cons (Cd.rw 22 1 (Cd.fs .f32)) Cd.nil)))) (fun a => ((a.1.1, a.1.2.1, a.1.2.2.2.1, a.2.1.1, a.2.2.1), (a.1.2.2.1, a.1.2.2.2.2.1, a.2.2.2.1))) (fun a => ((a.1.1, (a.1.2.1, (a.2.1, (a.1.2.2.1, (a.2.2.1, ()))))), ((a.1.2.2.2.1, ()), (a.1.2.2.2.2, (a.2.2.2, ()))))) (fun _ => rfl)
def spec_ShareTorque.l15.out (p : Nat × Nat × Nat × Int × List Nat) : (Nat × List Nat) → X × List V × Hp := (fun r => (.ex 2, [.own 2 r.1], [some ⟨false, 0, 2, .vs [.it .i64 p.2.2.2.1]⟩, some ⟨true, 24, 4, .fs .f32 p.2.2.2.2⟩, some ⟨true, 22, 1, .fs .f32 r.2⟩]))
def spec_ShareTorque.l15.ex (p : Nat × Nat × Nat × Int × List Nat) : (Nat × List Nat) → T (X × List V × Hp) := leafT (fun r => (.ex 2, [.own 2 r.1], [some ⟨false, 0, 2, .vs [.it .i64 p.2.2.2.1]⟩, some ⟨true, 24, 4, .fs .f32 p.2.2.2.2⟩, some ⟨true, 22, 1, .fs .f32 r.2⟩]))
noncomputable def spec_ShareTorque.l15.c : List V → Hp → T (X × List V × Hp) := cdL spec_ShareTorque.l15.cd fun x => optT (spec_ShareTorque.l15.r x.1 x.2) (spec_ShareTorque.l15.ex x.1)
noncomputable def spec_ShareTorque.C : Ctx := { ty := tys, fn := [(30, .q spec_l04Ok.c), (61, .q spec_l03Amount.c), (62, .q spec_l04Rate.c), (45, .q spec_l04Steady.c), (49, .q spec_l04Load.c)], lp := [(3, ⟨[0, 1, 2, 8, 9], [0, 1, 2, 6, 7, 8], spec_ShareTorque.l3.c⟩), (15, ⟨[0, 2, 8, 10, 12], [8], spec_ShareTorque.l15.c⟩)], n := 72, k := 2 }
theorem spec_ShareTorque.hC : CtxOK Tryd.prog spec_ShareTorque.C := CtxOK.of mo tys_ok (FnsOK.cons spec_l04Ok.cok (FnsOK.cons spec_l03Amount.cok (FnsOK.cons spec_l04Rate.cok (FnsOK.cons spec_l04Steady.cok (FnsOK.cons spec_l04Load.cok FnsOK.nil)))))
noncomputable def spec_ShareTorque.b3 : Code := (nthC (loopsOf spec_ShareTorque.b) 0)
theorem spec_ShareTorque.lp3 : LpOK Tryd.prog spec_ShareTorque.C spec_ShareTorque.b3 := (LpOK.nil (by kernel_rfl))
theorem spec_ShareTorque.l3.round (p : Nat × Nat × Nat × Nat × Int × List Nat × List Nat) (s : Int) : roundL spec_ShareTorque.C [0, 1, 2, 8, 9] [0, 1, 2, 6, 7, 8] spec_ShareTorque.b3 (spec_ShareTorque.l3.cd.enc (p, s)).1 (spec_ShareTorque.l3.cd.enc (p, s)).2 = (spec_ShareTorque.l3.st p s).map (encSum (fun s => spec_ShareTorque.l3.cd.enc (p, s)) (spec_ShareTorque.l3.out p)) := by kernel_rfl
theorem spec_ShareTorque.l3.lok : LoopOK Tryd.prog spec_ShareTorque.C ⟨[0, 1, 2, 8, 9], [0, 1, 2, 6, 7, 8], spec_ShareTorque.l3.c⟩ spec_ShareTorque.b3 := loop_cd spec_ShareTorque.l3.cd spec_ShareTorque.hC spec_ShareTorque.lp3 spec_ShareTorque.l3.round fun p => (Gets.sum Gets.leaf Gets.leaf)
noncomputable def spec_ShareTorque.b15 : Code := (nthC (loopsOf spec_ShareTorque.b) 1)
theorem spec_ShareTorque.lp15 : LpOK Tryd.prog spec_ShareTorque.C spec_ShareTorque.b15 := (LpOK.nil (by kernel_rfl))
theorem spec_ShareTorque.l15.round (p : Nat × Nat × Nat × Int × List Nat) (s : Nat × Int × List Nat) : roundL spec_ShareTorque.C [0, 2, 8, 10, 12] [8] spec_ShareTorque.b15 (spec_ShareTorque.l15.cd.enc (p, s)).1 (spec_ShareTorque.l15.cd.enc (p, s)).2 = (spec_ShareTorque.l15.st p s).map (encSum (fun s => spec_ShareTorque.l15.cd.enc (p, s)) (spec_ShareTorque.l15.out p)) := by kernel_rfl
theorem spec_ShareTorque.l15.lok : LoopOK Tryd.prog spec_ShareTorque.C ⟨[0, 2, 8, 10, 12], [8], spec_ShareTorque.l15.c⟩ spec_ShareTorque.b15 := loop_cd spec_ShareTorque.l15.cd spec_ShareTorque.hC spec_ShareTorque.lp15 spec_ShareTorque.l15.round fun p => Gets.leaf
theorem spec_ShareTorque.lp : LpOK Tryd.prog spec_ShareTorque.C spec_ShareTorque.b := lp_of (by kernel_rfl) (LpsOK.cons (k := 3) (by kernel_rfl) (by kernel_rfl) spec_ShareTorque.l3.lok (LpsOK.cons (k := 15) (by kernel_rfl) (by kernel_rfl) spec_ShareTorque.l15.lok LpsOK.nil))
noncomputable def spec_ShareTorque.t (x0 : Nat) (x1 : Nat) (x2 : Nat) (x3 : Int) (x4 : List Nat) : T (Nat × Int × List Nat) :=
  .br (Option.isSome (spec_ShareTorque.l3.r (x0, x1, x2, 0, x3, x4, []) (0 : Int)))
  (.br (Sum.isLeft (Option.getD (spec_ShareTorque.l3.r (x0, x1, x2, 0, x3, x4, []) (0 : Int)) default))
   (.leaf (0, (getLeftD (Option.getD (spec_ShareTorque.l3.r (x0, x1, x2, 0, x3, x4, []) (0 : Int)) default)), []))
   (.br (!(spec_l03Amount x1))
    (.leaf (0, (2 : Int), []))
    (.br (!(spec_l04Rate x2))
     (.leaf (0, (2 : Int), []))
     (.br (decide (((x0 : Nat) : Int) > (60 : Int)))
      (.leaf (0, (3 : Int), []))
      (.br (spec_l04Steady.ok x0 x1 x2 (40 : Int) x4)
       (.br (!(spec_l04Steady x0 x1 x2 (40 : Int) x4).2)
        (.leaf (0, (6 : Int), []))
        (.br (((x0 : Nat) : Int) == (0 : Int))
         (.leaf (0, (6 : Int), []))
         (.br (Option.isSome (spec_ShareTorque.l15.r (x0, x2, (spec_l04Steady x0 x1 x2 (40 : Int) x4).1, x3, x4) (0, (0 : Int), [])))
          (.leaf ((Option.getD (spec_ShareTorque.l15.r (x0, x2, (spec_l04Steady x0 x1 x2 (40 : Int) x4).1, x3, x4) (0, (0 : Int), [])) default).1, (0 : Int), (Option.getD (spec_ShareTorque.l15.r (x0, x2, (spec_l04Steady x0 x1 x2 (40 : Int) x4).1, x3, x4) (0, (0 : Int), [])) default).2))
          .bad)))
       .bad)))))
  .bad
noncomputable def spec_ShareTorque (x0 : Nat) (x1 : Nat) (x2 : Nat) (x3 : Int) (x4 : List Nat) : Nat × Int × List Nat := (spec_ShareTorque.t x0 x1 x2 x3 x4).val
noncomputable def spec_ShareTorque.ok (x0 : Nat) (x1 : Nat) (x2 : Nat) (x3 : Int) (x4 : List Nat) : Bool := (spec_ShareTorque.t x0 x1 x2 x3 x4).ok
def spec_ShareTorque.cd : Cd (Nat × Nat × Nat × Int × List Nat) (List V × Hp) := Cd.iso (Cd.pair (Cd.cons (Cd.own 1) (Cd.cons (Cd.fl .f32) (Cd.cons (Cd.fl .f32) Cd.nil))) (Cd.cons (Cd.ro 0 2 (Cd.vs (Cd.cons (Cd.it .i64) Cd.nil))) (Cd.cons (Cd.rw 24 4 (Cd.fs .f32)) Cd.nil))) (fun a => (a.1.1, a.1.2.1, a.1.2.2.1, a.2.1.1, a.2.2.1)) (fun a => ((a.1, (a.2.1, (a.2.2.1, ()))), ((a.2.2.2.1, ()), (a.2.2.2.2, ())))) (fun _ => rfl)
noncomputable def spec_ShareTorque.tr (a : Nat × Nat × Nat × Int × List Nat) : T (Nat × Int × List Nat) := spec_ShareTorque.t a.1 a.2.1 a.2.2.1 a.2.2.2.1 a.2.2.2.2
def spec_ShareTorque.enc : (Nat × Nat × Nat × Int × List Nat) → (Nat × Int × List Nat) → V × Hp := fun a r => (.tup [.own 2 r.1, .it .i64 r.2.1], [some ⟨false, 0, 2, .vs [.it .i64 a.2.2.2.1]⟩, some ⟨true, 24, 4, .fs .f32 a.2.2.2.2⟩, some ⟨true, 22, 1, .fs .f32 r.2.2⟩])
noncomputable def spec_ShareTorque.c : List V → Hp → T (V × Hp) := cdE spec_ShareTorque.cd (fun a => .br (spec_ShareTorque.ok a.1 a.2.1 a.2.2.1 a.2.2.2.1 a.2.2.2.2) (.leaf (spec_ShareTorque.enc a (spec_ShareTorque a.1 a.2.1 a.2.2.1 a.2.2.2.1 a.2.2.2.2))) .bad)
theorem spec_ShareTorque.run (a : Nat × Nat × Nat × Int × List Nat) : runF spec_ShareTorque.C Tryd.f25.results.toList spec_ShareTorque.b (spec_ShareTorque.cd.enc a).1 (spec_ShareTorque.cd.enc a).2 = (spec_ShareTorque.tr a).map (spec_ShareTorque.enc a) := by kernel_rfl
theorem spec_ShareTorque.cok : OKe Tryd.prog 25 spec_ShareTorque.c := con_e' spec_ShareTorque.cd spec_ShareTorque.hC Tryd.func25 (by kernel_rfl) (by kernel_rfl) (by kernel_rfl) spec_ShareTorque.lp (fun a => by kernel_rfl) spec_ShareTorque.run (Tells.ok (tree := spec_ShareTorque.tr))
/-! ### spec_SameNumbers -/
noncomputable def spec_SameNumbers.b : Code := bodyOf Tryd.f26
noncomputable def spec_SameNumbers.l4.s (x0 : Nat) (x1 : Int) (x2 : Int) (x3 : List Nat) : T (Unit ⊕ Unit) :=
  .br (decide (x1 < ((0 : Nat) : Int)))
  .bad
  (.leaf (.inr ()))
noncomputable def spec_SameNumbers.l4.st (p : Nat × Int × Int × List Nat) (x : Unit) : T (Unit ⊕ Unit) := spec_SameNumbers.l4.s p.1 p.2.1 p.2.2.1 p.2.2.2
noncomputable def spec_SameNumbers.l4.r (p : Nat × Int × Int × List Nat) (x : Unit) : Option Unit := iterT (spec_SameNumbers.l4.st p) manyRounds x
def spec_SameNumbers.l4.cd : Cd ((Nat × Int × Int × List Nat) × Unit) (List V × Hp) := Cd.iso (Cd.pair (Cd.cons Cd.sn (Cd.cons (Cd.own 1) (Cd.cons (Cd.it .i64) Cd.nil))) (Cd.cons (Cd.ro 0 2 (Cd.vs (Cd.cons (Cd.it .i64) Cd.nil))) (Cd.cons (Cd.rw 22 1 (Cd.fs .f32)) Cd.nil))) (fun a => ((a.1.2.1, a.1.2.2.1, a.2.1.1, a.2.2.1), ())) (fun a => (((), (a.1.1, (a.1.2.1, ()))), ((a.1.2.2.1, ()), (a.1.2.2.2, ())))) (fun _ => rfl)
def spec_SameNumbers.l4.out (p : Nat × Int × Int × List Nat) : Unit → X × List V × Hp := (fun r => (.ex 0, [.unk], [some ⟨false, 0, 2, .vs [.it .i64 p.2.2.1]⟩, some ⟨true, 22, 1, .fs .f32 p.2.2.2⟩]))
def spec_SameNumbers.l4.ex (p : Nat × Int × Int × List Nat) : Unit → T (X × List V × Hp) := leafT (fun r => (.ex 0, [.unk], [some ⟨false, 0, 2, .vs [.it .i64 p.2.2.1]⟩, some ⟨true, 22, 1, .fs .f32 p.2.2.2⟩]))
noncomputable def spec_SameNumbers.l4.c : List V → Hp → T (X × List V × Hp) := cdL spec_SameNumbers.l4.cd fun x => optT (spec_SameNumbers.l4.r x.1 x.2) (spec_SameNumbers.l4.ex x.1)
noncomputable def spec_SameNumbers.C : Ctx := { ty := tys, fn := [], lp := [(4, ⟨[0, 1, 5], [4], spec_SameNumbers.l4.c⟩)], n := 27, k := 2 }
theorem spec_SameNumbers.hC : CtxOK Tryd.prog spec_SameNumbers.C := CtxOK.of mo tys_ok FnsOK.nil
noncomputable def spec_SameNumbers.b4 : Code := (nthC (loopsOf spec_SameNumbers.b) 0)
theorem spec_SameNumbers.lp4 : LpOK Tryd.prog spec_SameNumbers.C spec_SameNumbers.b4 := (LpOK.nil (by kernel_rfl))
theorem spec_SameNumbers.l4.round (p : Nat × Int × Int × List Nat) (s : Unit) : roundL spec_SameNumbers.C [0, 1, 5] [4] spec_SameNumbers.b4 (spec_SameNumbers.l4.cd.enc (p, s)).1 (spec_SameNumbers.l4.cd.enc (p, s)).2 = (spec_SameNumbers.l4.st p s).map (encSum (fun s => spec_SameNumbers.l4.cd.enc (p, s)) (spec_SameNumbers.l4.out p)) := by kernel_rfl
theorem spec_SameNumbers.l4.lok : LoopOK Tryd.prog spec_SameNumbers.C ⟨[0, 1, 5], [4], spec_SameNumbers.l4.c⟩ spec_SameNumbers.b4 := loop_cd spec_SameNumbers.l4.cd spec_SameNumbers.hC spec_SameNumbers.lp4 spec_SameNumbers.l4.round fun p => Gets.leaf
theorem spec_SameNumbers.lp : LpOK Tryd.prog spec_SameNumbers.C spec_SameNumbers.b := lp_of (by kernel_rfl) (LpsOK.cons (k := 4) (by kernel_rfl) (by kernel_rfl) spec_SameNumbers.l4.lok LpsOK.nil)
noncomputable def spec_SameNumbers.t (x0 : Nat) (x1 : Int) (x2 : List Nat) : T Bool :=
  .br (((0 : Nat) : Int) != ((x0 : Nat) : Int))
  (.leaf false)
  (.br (Option.isSome (spec_SameNumbers.l4.r (x0, (0 : Int), x1, x2) ()))
   (.leaf true)
   .bad)
noncomputable def spec_SameNumbers (x0 : Nat) (x1 : Int) (x2 : List Nat) : Bool := (spec_SameNumbers.t x0 x1 x2).val
noncomputable def spec_SameNumbers.ok (x0 : Nat) (x1 : Int) (x2 : List Nat) : Bool := (spec_SameNumbers.t x0 x1 x2).ok
def spec_SameNumbers.cd : Cd (Nat × Int × List Nat) (List V × Hp) := Cd.iso (Cd.pair (Cd.cons Cd.sn (Cd.cons (Cd.own 1) Cd.nil)) (Cd.cons (Cd.ro 0 2 (Cd.vs (Cd.cons (Cd.it .i64) Cd.nil))) (Cd.cons (Cd.rw 22 1 (Cd.fs .f32)) Cd.nil))) (fun a => (a.1.2.1, a.2.1.1, a.2.2.1)) (fun a => (((), (a.1, ())), ((a.2.1, ()), (a.2.2, ())))) (fun _ => rfl)
noncomputable def spec_SameNumbers.tr (a : Nat × Int × List Nat) : T Bool := spec_SameNumbers.t a.1 a.2.1 a.2.2
def spec_SameNumbers.enc : (Nat × Int × List Nat) → Bool → V := fun a r => .bo r
noncomputable def spec_SameNumbers.c : List V → Hp → T V := cdQ spec_SameNumbers.cd (fun a => .br (spec_SameNumbers.ok a.1 a.2.1 a.2.2) (.leaf (spec_SameNumbers.enc a (spec_SameNumbers a.1 a.2.1 a.2.2))) .bad)
theorem spec_SameNumbers.run (a : Nat × Int × List Nat) : runF spec_SameNumbers.C Tryd.f26.results.toList spec_SameNumbers.b (spec_SameNumbers.cd.enc a).1 (spec_SameNumbers.cd.enc a).2 = (spec_SameNumbers.tr a).map fun r => (spec_SameNumbers.enc a r, (spec_SameNumbers.cd.enc a).2) := by kernel_rfl
theorem spec_SameNumbers.cok : OKq Tryd.prog 26 spec_SameNumbers.c := con_q' spec_SameNumbers.cd spec_SameNumbers.hC Tryd.func26 (by kernel_rfl) (by kernel_rfl) (by kernel_rfl) spec_SameNumbers.lp (fun a => by kernel_rfl) spec_SameNumbers.run (Tells.ok (tree := spec_SameNumbers.tr))
/-! ### impl_SumOf -/
noncomputable def impl_SumOf.b : Code := bodyOf Tryd.f27
noncomputable def impl_SumOf.l5.s (x0 : Nat) (x1 : Nat) (x2 : Int) (x3 : Int) (x4 : Int) (x5 : List Nat) : T ((Nat × Int) ⊕ Nat) :=
  .br (decide (x3 < x2))
  (.br (bounds x3 x1)
   (.br (Nat.ble ((Int.toNat x3 * 1) + 1) (List.length x5))
    (.leaf (.inl ((fadd .f32 x0 (List.getD x5 (Int.toNat x3 * 1) 0)), (IntKind.wrap .i64 (x3 + (1 : Int))))))
    .bad)
   .bad)
  (.leaf (.inr x0))
noncomputable def impl_SumOf.l5.st (p : Nat × Int × Int × List Nat) (x : Nat × Int) : T ((Nat × Int) ⊕ Nat) := impl_SumOf.l5.s x.1 p.1 p.2.1 x.2 p.2.2.1 p.2.2.2
noncomputable def impl_SumOf.l5.r (p : Nat × Int × Int × List Nat) (x : Nat × Int) : Option Nat := iterT (impl_SumOf.l5.st p) manyRounds x
def impl_SumOf.l5.cd : Cd ((Nat × Int × Int × List Nat) × (Nat × Int)) (List V × Hp) := Cd.iso (Cd.pair (Cd.cons (Cd.fl .f32) (Cd.cons (Cd.own 1) (Cd.cons (Cd.it .i64) (Cd.cons (Cd.it .i64) Cd.nil)))) (Cd.cons (Cd.ro 0 2 (Cd.vs (Cd.cons (Cd.it .i64) Cd.nil))) (Cd.cons (Cd.rw 22 1 (Cd.fs .f32)) Cd.nil))) (fun a => ((a.1.2.1, a.1.2.2.1, a.2.1.1, a.2.2.1), (a.1.1, a.1.2.2.2.1))) (fun a => ((a.2.1, (a.1.1, (a.1.2.1, (a.2.2, ())))), ((a.1.2.2.1, ()), (a.1.2.2.2, ())))) (fun _ => rfl)
def impl_SumOf.l5.out (p : Nat × Int × Int × List Nat) : Nat → X × List V × Hp := (fun r => (.ex 0, [.fl .f32 r], [some ⟨false, 0, 2, .vs [.it .i64 p.2.2.1]⟩, some ⟨true, 22, 1, .fs .f32 p.2.2.2⟩]))
def impl_SumOf.l5.ex (p : Nat × Int × Int × List Nat) : Nat → T (X × List V × Hp) := leafT (fun r => (.ex 0, [.fl .f32 r], [some ⟨false, 0, 2, .vs [.it .i64 p.2.2.1]⟩, some ⟨true, 22, 1, .fs .f32 p.2.2.2⟩]))
noncomputable def impl_SumOf.l5.c : List V → Hp → T (X × List V × Hp) := cdL impl_SumOf.l5.cd fun x => optT (impl_SumOf.l5.r x.1 x.2) (impl_SumOf.l5.ex x.1)
noncomputable def impl_SumOf.C : Ctx := { ty := tys, fn := [], lp := [(5, ⟨[4, 10, 11, 12], [4], impl_SumOf.l5.c⟩)], n := 21, k := 2 }
theorem impl_SumOf.hC : CtxOK Tryd.prog impl_SumOf.C := CtxOK.of mo tys_ok FnsOK.nil
noncomputable def impl_SumOf.b5 : Code := (nthC (loopsOf impl_SumOf.b) 0)
theorem impl_SumOf.lp5 : LpOK Tryd.prog impl_SumOf.C impl_SumOf.b5 := (LpOK.nil (by kernel_rfl))
theorem impl_SumOf.l5.round (p : Nat × Int × Int × List Nat) (s : Nat × Int) : roundL impl_SumOf.C [4, 10, 11, 12] [4] impl_SumOf.b5 (impl_SumOf.l5.cd.enc (p, s)).1 (impl_SumOf.l5.cd.enc (p, s)).2 = (impl_SumOf.l5.st p s).map (encSum (fun s => impl_SumOf.l5.cd.enc (p, s)) (impl_SumOf.l5.out p)) := by kernel_rfl
theorem impl_SumOf.l5.lok : LoopOK Tryd.prog impl_SumOf.C ⟨[4, 10, 11, 12], [4], impl_SumOf.l5.c⟩ impl_SumOf.b5 := loop_cd impl_SumOf.l5.cd impl_SumOf.hC impl_SumOf.lp5 impl_SumOf.l5.round fun p => Gets.leaf
theorem impl_SumOf.lp : LpOK Tryd.prog impl_SumOf.C impl_SumOf.b := lp_of (by kernel_rfl) (LpsOK.cons (k := 5) (by kernel_rfl) (by kernel_rfl) impl_SumOf.l5.lok LpsOK.nil)
noncomputable def impl_SumOf.t (x0 : Nat) (x1 : Int) (x2 : List Nat) : T (Nat × Int) :=
  .br (decide (((x0 : Nat) : Int) > (60 : Int)))
  (.leaf (0, (3 : Int)))
  (.br (Option.isSome (impl_SumOf.l5.r (x0, ((x0 : Nat) : Int), x1, x2) (0, (0 : Int))))
   (.leaf ((Option.getD (impl_SumOf.l5.r (x0, ((x0 : Nat) : Int), x1, x2) (0, (0 : Int))) default), (0 : Int)))
   .bad)
noncomputable def impl_SumOf (x0 : Nat) (x1 : Int) (x2 : List Nat) : Nat × Int := (impl_SumOf.t x0 x1 x2).val
noncomputable def impl_SumOf.ok (x0 : Nat) (x1 : Int) (x2 : List Nat) : Bool := (impl_SumOf.t x0 x1 x2).ok
def impl_SumOf.cd : Cd (Nat × Int × List Nat) (List V × Hp) := Cd.iso (Cd.pair (Cd.cons (Cd.own 1) Cd.nil) (Cd.cons (Cd.ro 0 2 (Cd.vs (Cd.cons (Cd.it .i64) Cd.nil))) (Cd.cons (Cd.rw 22 1 (Cd.fs .f32)) Cd.nil))) (fun a => (a.1.1, a.2.1.1, a.2.2.1)) (fun a => ((a.1, ()), ((a.2.1, ()), (a.2.2, ())))) (fun _ => rfl)
noncomputable def impl_SumOf.tr (a : Nat × Int × List Nat) : T (Nat × Int) := impl_SumOf.t a.1 a.2.1 a.2.2
def impl_SumOf.enc : (Nat × Int × List Nat) → (Nat × Int) → V := fun a r => .tup [.fl .f32 r.1, .it .i64 r.2]
noncomputable def impl_SumOf.c : List V → Hp → T V := cdQ impl_SumOf.cd (fun a => .br (impl_SumOf.ok a.1 a.2.1 a.2.2) (.leaf (impl_SumOf.enc a (impl_SumOf a.1 a.2.1 a.2.2))) .bad)
theorem impl_SumOf.run (a : Nat × Int × List Nat) : runF impl_SumOf.C Tryd.f27.results.toList impl_SumOf.b (impl_SumOf.cd.enc a).1 (impl_SumOf.cd.enc a).2 = (impl_SumOf.tr a).map fun r => (impl_SumOf.enc a r, (impl_SumOf.cd.enc a).2) := by kernel_rfl
theorem impl_SumOf.cok : OKq Tryd.prog 27 impl_SumOf.c := con_q' impl_SumOf.cd impl_SumOf.hC Tryd.func27 (by kernel_rfl) (by kernel_rfl) (by kernel_rfl) impl_SumOf.lp (fun a => by kernel_rfl) impl_SumOf.run (Tells.ok (tree := impl_SumOf.tr))
/-! ### spec_SameNumbers_w1 -/
noncomputable def spec_SameNumbers_w1.b : Code := bodyOf Tryd.f26
noncomputable def spec_SameNumbers_w1.l4.s (x0 : Nat) (x1 : Nat) (x2 : Int) (x3 : Int) (x4 : List Nat) (x5 : List Nat) : T (Int ⊕ (Bool ⊕ Unit)) :=
  .br (decide (x2 < ((x0 : Nat) : Int)))
  (.br (bounds x2 x0)
   (.br (Nat.ble ((Int.toNat x2 * 1) + 1) (List.length x4))
    (.br (bounds x2 x1)
     (.br (Nat.ble ((Int.toNat x2 * 1) + 1) (List.length x5))
      (.br (spec_l01Same.ok (List.getD x4 (Int.toNat x2 * 1) 0) (List.getD x5 (Int.toNat x2 * 1) 0))
       (.br (!(spec_l01Same (List.getD x4 (Int.toNat x2 * 1) 0) (List.getD x5 (Int.toNat x2 * 1) 0)))
        (.leaf (.inr (.inl false)))
        (.leaf (.inl (IntKind.wrap .i64 (x2 + (1 : Int))))))
       .bad)
      .bad)
     .bad)
    .bad)
   .bad)
  (.leaf (.inr (.inr ())))
noncomputable def spec_SameNumbers_w1.l4.st (p : Nat × Nat × Int × List Nat × List Nat) (x : Int) : T (Int ⊕ (Bool ⊕ Unit)) := spec_SameNumbers_w1.l4.s p.1 p.2.1 x p.2.2.1 p.2.2.2.1 p.2.2.2.2
noncomputable def spec_SameNumbers_w1.l4.r (p : Nat × Nat × Int × List Nat × List Nat) (x : Int) : Option (Bool ⊕ Unit) := iterT (spec_SameNumbers_w1.l4.st p) manyRounds x
def spec_SameNumbers_w1.l4.cd : Cd ((Nat × Nat × Int × List Nat × List Nat) × Int) (List V × Hp) := Cd.iso (Cd.pair (Cd.cons (Cd.own 1) (Cd.cons (Cd.own 2) (Cd.cons (Cd.it .i64) Cd.nil))) (Cd.cons (Cd.ro 0 2 (Cd.vs (Cd.cons (Cd.it .i64) Cd.nil))) (Cd.cons (Cd.rw 22 1 (Cd.fs .f32)) (Cd.cons (Cd.rw 22 1 (Cd.fs .f32)) Cd.nil)))) (fun a => ((a.1.1, a.1.2.1, a.2.1.1, a.2.2.1, a.2.2.2.1), a.1.2.2.1)) (fun a => ((a.1.1, (a.1.2.1, (a.2, ()))), ((a.1.2.2.1, ()), (a.1.2.2.2.1, (a.1.2.2.2.2, ()))))) (fun _ => rfl)
def spec_SameNumbers_w1.l4.out (p : Nat × Nat × Int × List Nat × List Nat) : (Bool ⊕ Unit) → X × List V × Hp := sumO (fun r => (.ret, [.bo r], [some ⟨false, 0, 2, .vs [.it .i64 p.2.2.1]⟩, some ⟨true, 22, 1, .fs .f32 p.2.2.2.1⟩, some ⟨true, 22, 1, .fs .f32 p.2.2.2.2⟩])) (fun r => (.ex 0, [.unk], [some ⟨false, 0, 2, .vs [.it .i64 p.2.2.1]⟩, some ⟨true, 22, 1, .fs .f32 p.2.2.2.1⟩, some ⟨true, 22, 1, .fs .f32 p.2.2.2.2⟩]))
def spec_SameNumbers_w1.l4.ex (p : Nat × Nat × Int × List Nat × List Nat) : (Bool ⊕ Unit) → T (X × List V × Hp) := sumT (leafT (fun r => (.ret, [.bo r], [some ⟨false, 0, 2, .vs [.it .i64 p.2.2.1]⟩, some ⟨true, 22, 1, .fs .f32 p.2.2.2.1⟩, some ⟨true, 22, 1, .fs .f32 p.2.2.2.2⟩]))) (leafT (fun r => (.ex 0, [.unk], [some ⟨false, 0, 2, .vs [.it .i64 p.2.2.1]⟩, some ⟨true, 22, 1, .fs .f32 p.2.2.2.1⟩, some ⟨true, 22, 1, .fs .f32 p.2.2.2.2⟩])))
noncomputable def spec_SameNumbers_w1.l4.c : List V → Hp → T (X × List V × Hp) := cdL spec_SameNumbers_w1.l4.cd fun x => optT (spec_SameNumbers_w1.l4.r x.1 x.2) (spec_SameNumbers_w1.l4.ex x.1)
noncomputable def spec_SameNumbers_w1.C : Ctx := { ty := tys, fn := [(50, .q spec_l01Same.c)], lp := [(4, ⟨[0, 1, 5], [4], spec_SameNumbers_w1.l4.c⟩)], n := 27, k := 3 }
theorem spec_SameNumbers_w1.hC : CtxOK Tryd.prog spec_SameNumbers_w1.C := CtxOK.of mo tys_ok (FnsOK.cons spec_l01Same.cok FnsOK.nil)
noncomputable def spec_SameNumbers_w1.b4 : Code := (nthC (loopsOf spec_SameNumbers_w1.b) 0)
theorem spec_SameNumbers_w1.lp4 : LpOK Tryd.prog spec_SameNumbers_w1.C spec_SameNumbers_w1.b4 := (LpOK.nil (by kernel_rfl))
theorem spec_SameNumbers_w1.l4.round (p : Nat × Nat × Int × List Nat × List Nat) (s : Int) : roundL spec_SameNumbers_w1.C [0, 1, 5] [4] spec_SameNumbers_w1.b4 (spec_SameNumbers_w1.l4.cd.enc (p, s)).1 (spec_SameNumbers_w1.l4.cd.enc (p, s)).2 = (spec_SameNumbers_w1.l4.st p s).map (encSum (fun s => spec_SameNumbers_w1.l4.cd.enc (p, s)) (spec_SameNumbers_w1.l4.out p)) := by kernel_rfl
theorem spec_SameNumbers_w1.l4.lok : LoopOK Tryd.prog spec_SameNumbers_w1.C ⟨[0, 1, 5], [4], spec_SameNumbers_w1.l4.c⟩ spec_SameNumbers_w1.b4 := loop_cd spec_SameNumbers_w1.l4.cd spec_SameNumbers_w1.hC spec_SameNumbers_w1.lp4 spec_SameNumbers_w1.l4.round fun p => (Gets.sum Gets.leaf Gets.leaf)
theorem spec_SameNumbers_w1.lp : LpOK Tryd.prog spec_SameNumbers_w1.C spec_SameNumbers_w1.b := lp_of (by kernel_rfl) (LpsOK.cons (k := 4) (by kernel_rfl) (by kernel_rfl) spec_SameNumbers_w1.l4.lok LpsOK.nil)
noncomputable def spec_SameNumbers_w1.t (x0 : Nat) (x1 : Nat) (x2 : Int) (x3 : List Nat) (x4 : List Nat) : T Bool :=
  .br (((x0 : Nat) : Int) != ((x1 : Nat) : Int))
  (.leaf false)
  (.br (Option.isSome (spec_SameNumbers_w1.l4.r (x0, x1, x2, x3, x4) (0 : Int)))
   (.br (Sum.isLeft (Option.getD (spec_SameNumbers_w1.l4.r (x0, x1, x2, x3, x4) (0 : Int)) default))
    (.leaf (getLeftD (Option.getD (spec_SameNumbers_w1.l4.r (x0, x1, x2, x3, x4) (0 : Int)) default)))
    (.leaf true))
   .bad)
noncomputable def spec_SameNumbers_w1 (x0 : Nat) (x1 : Nat) (x2 : Int) (x3 : List Nat) (x4 : List Nat) : Bool := (spec_SameNumbers_w1.t x0 x1 x2 x3 x4).val
noncomputable def spec_SameNumbers_w1.ok (x0 : Nat) (x1 : Nat) (x2 : Int) (x3 : List Nat) (x4 : List Nat) : Bool := (spec_SameNumbers_w1.t x0 x1 x2 x3 x4).ok
def spec_SameNumbers_w1.cd : Cd (Nat × Nat × Int × List Nat × List Nat) (List V × Hp) := Cd.iso (Cd.pair (Cd.cons (Cd.own 1) (Cd.cons (Cd.own 2) Cd.nil)) (Cd.cons (Cd.ro 0 2 (Cd.vs (Cd.cons (Cd.it .i64) Cd.nil))) (Cd.cons (Cd.rw 22 1 (Cd.fs .f32)) (Cd.cons (Cd.rw 22 1 (Cd.fs .f32)) Cd.nil)))) (fun a => (a.1.1, a.1.2.1, a.2.1.1, a.2.2.1, a.2.2.2.1)) (fun a => ((a.1, (a.2.1, ())), ((a.2.2.1, ()), (a.2.2.2.1, (a.2.2.2.2, ()))))) (fun _ => rfl)
noncomputable def spec_SameNumbers_w1.tr (a : Nat × Nat × Int × List Nat × List Nat) : T Bool := spec_SameNumbers_w1.t a.1 a.2.1 a.2.2.1 a.2.2.2.1 a.2.2.2.2
def spec_SameNumbers_w1.enc : (Nat × Nat × Int × List Nat × List Nat) → Bool → V := fun a r => .bo r
noncomputable def spec_SameNumbers_w1.c : List V → Hp → T V := cdQ spec_SameNumbers_w1.cd (fun a => .br (spec_SameNumbers_w1.ok a.1 a.2.1 a.2.2.1 a.2.2.2.1 a.2.2.2.2) (.leaf (spec_SameNumbers_w1.enc a (spec_SameNumbers_w1 a.1 a.2.1 a.2.2.1 a.2.2.2.1 a.2.2.2.2))) .bad)
theorem spec_SameNumbers_w1.run (a : Nat × Nat × Int × List Nat × List Nat) : runF spec_SameNumbers_w1.C Tryd.f26.results.toList spec_SameNumbers_w1.b (spec_SameNumbers_w1.cd.enc a).1 (spec_SameNumbers_w1.cd.enc a).2 = (spec_SameNumbers_w1.tr a).map fun r => (spec_SameNumbers_w1.enc a r, (spec_SameNumbers_w1.cd.enc a).2) := by kernel_rfl
theorem spec_SameNumbers_w1.cok : OKq Tryd.prog 26 spec_SameNumbers_w1.c := con_q' spec_SameNumbers_w1.cd spec_SameNumbers_w1.hC Tryd.func26 (by kernel_rfl) (by kernel_rfl) (by kernel_rfl) spec_SameNumbers_w1.lp (fun a => by kernel_rfl) spec_SameNumbers_w1.run (Tells.ok (tree := spec_SameNumbers_w1.tr))
/-! ### laws_FnLoads -/
noncomputable def laws_FnLoads.b : Code := bodyOf Tryd.f4
noncomputable def laws_FnLoads.C : Ctx := { ty := tys, fn := [(8, .q laws_f6big.c), (9, .q spec_P6Stone.c), (10, .q spec_P6Pick.c), (11, .q impl_StoneText.c), (6, .q impl_ReadStone.c), (12, .q impl_SteadySpeed.c), (13, .q spec_SteadySpeed.c), (14, .q impl_LoadOf.c), (15, .q spec_LoadOf.c), (16, .q spec_SameStone.c), (17, .q impl_SameStone.c), (18, .q impl_ValidStone_w1.c), (19, .q spec_SameNumber.c), (20, .q impl_FlourOf.c), (21, .q spec_FlourOf.c), (22, .q impl_FeedFor.c), (23, .q spec_FeedFor.c), (24, .e impl_ShareTorque.c), (25, .e spec_ShareTorque.c), (26, .q (altQ spec_SameNumbers.c spec_SameNumbers_w1.c)), (27, .q impl_SumOf.c)], lp := [], n := 373, k := 3, g := 1 }
theorem laws_FnLoads.hC : CtxOK Tryd.prog laws_FnLoads.C := CtxOK.of mo tys_ok (FnsOK.cons laws_f6big.cok (FnsOK.cons spec_P6Stone.cok (FnsOK.cons spec_P6Pick.cok (FnsOK.cons impl_StoneText.cok (FnsOK.cons impl_ReadStone.cok (FnsOK.cons impl_SteadySpeed.cok (FnsOK.cons spec_SteadySpeed.cok (FnsOK.cons impl_LoadOf.cok (FnsOK.cons spec_LoadOf.cok (FnsOK.cons spec_SameStone.cok (FnsOK.cons impl_SameStone.cok (FnsOK.cons impl_ValidStone_w1.cok (FnsOK.cons spec_SameNumber.cok (FnsOK.cons impl_FlourOf.cok (FnsOK.cons spec_FlourOf.cok (FnsOK.cons impl_FeedFor.cok (FnsOK.cons spec_FeedFor.cok (FnsOK.cons impl_ShareTorque.cok (FnsOK.cons spec_ShareTorque.cok (FnsOK.cons (OKq.alt spec_SameNumbers.cok spec_SameNumbers_w1.cok) (FnsOK.cons impl_SumOf.cok FnsOK.nil)))))))))))))))))))))
theorem laws_FnLoads.lp : LpOK Tryd.prog laws_FnLoads.C laws_FnLoads.b := (LpOK.nil (by kernel_rfl))
noncomputable def laws_FnLoads.t (x0 : Nat) (x1 : Nat) (x2 : Int) (x3 : List Int) (x4 : List Int) : T Bool :=
  let y1 := (laws_f6big x0 x2 x3)
  .br y1
  (.leaf true)
  (let y2 := (laws_f6big x1 x2 x4)
   .br y2
   (.leaf true)
   (let y10 := (spec_P6Stone x0 x2 x3)
    .br (spec_P6Stone.ok x0 x2 x3)
    (let y13 := (spec_P6Pick x1 (200 : Int) x2 x4)
     .br (spec_P6Pick.ok x1 (200 : Int) x2 x4)
     (let y14 := (spec_P6Pick x0 (64 : Int) x2 x3)
      .br (spec_P6Pick.ok x0 (64 : Int) x2 x3)
      (let y15 := (impl_StoneText y10.1 y10.2.1 y10.2.2.1 y10.2.2.2 x2)
       .br (impl_StoneText.ok y10.1 y10.2.1 y10.2.2.1 y10.2.2.2 x2)
       (let y16 := (impl_ReadStone y15 x2)
        .br (impl_ReadStone.ok y15 x2)
        (let y17 := (impl_SteadySpeed y10.1 y10.2.1 y10.2.2.1 y10.2.2.2 (fdiv .f32 (fofint .f32 y13) 1082130432) (fdiv .f32 (fofint .f32 y14) 1090519040) (40 : Int) x2)
         .br (impl_SteadySpeed.ok y10.1 y10.2.1 y10.2.2.1 y10.2.2.2 (fdiv .f32 (fofint .f32 y13) 1082130432) (fdiv .f32 (fofint .f32 y14) 1090519040) (40 : Int) x2)
         (let y18 := (spec_SteadySpeed y10.1 y10.2.1 y10.2.2.1 y10.2.2.2 (fdiv .f32 (fofint .f32 y13) 1082130432) (fdiv .f32 (fofint .f32 y14) 1090519040) (40 : Int) x2)
          .br (spec_SteadySpeed.ok y10.1 y10.2.1 y10.2.2.1 y10.2.2.2 (fdiv .f32 (fofint .f32 y13) 1082130432) (fdiv .f32 (fofint .f32 y14) 1090519040) (40 : Int) x2)
          (let y19 := (impl_LoadOf y10.1 y10.2.1 y10.2.2.1 y10.2.2.2 0 (fdiv .f32 (fofint .f32 y14) 1090519040) x2)
           let y20 := (spec_LoadOf y10.1 y10.2.1 y10.2.2.1 y10.2.2.2 0 (fdiv .f32 (fofint .f32 y14) 1090519040) x2)
           let y21 := (spec_SameStone y16.1 y16.2.1 y16.2.2.1 y16.2.2.2.1 y10.1 y10.2.1 y10.2.2.1 y10.2.2.2 x2)
           let y22 := (impl_SameStone y16.1 y16.2.1 y16.2.2.1 y16.2.2.2.1 y10.1 y10.2.1 y10.2.2.1 y10.2.2.2 x2)
           let y23 := (impl_ValidStone_w1 y10.1 y10.2.1 y10.2.2.1 y10.2.2.2 x2)
           let y24 := (spec_SameNumber y17.1 y18.1 x2)
           let y25 := (spec_SameNumber y19.1 y20.1 x2)
           .join
           (.br (y16.2.2.2.2 != (0 : Int))
            (.leaf (some false))
            (.br (spec_SameStone.ok y16.1 y16.2.1 y16.2.2.1 y16.2.2.2.1 y10.1 y10.2.1 y10.2.2.1 y10.2.2.2 x2)
             (.br (!y21)
              (.leaf (some false))
              (.br (impl_SameStone.ok y16.1 y16.2.1 y16.2.2.1 y16.2.2.2.1 y10.1 y10.2.1 y10.2.2.1 y10.2.2.2 x2)
               (.br (!y22)
                (.leaf (some false))
                (.br (!y23)
                 (.leaf (some false))
                 (.br (y17.2 != y18.2)
                  (.leaf (some false))
                  (.br (spec_SameNumber.ok y17.1 y18.1 x2)
                   (.br (!y24)
                    (.leaf (some false))
                    (.br (y19.2 != y20.2)
                     (.leaf (some false))
                     (.br (y19.2 != (0 : Int))
                      (.leaf (some false))
                      (.br (spec_SameNumber.ok y19.1 y20.1 x2)
                       (.br (!y25)
                        (.leaf (some false))
                        (.br (!((y17.2 == (0 : Int)) == (fle .f32 y20.1 (fdiv .f32 (fofint .f32 y13) 1082130432))))
                         (.leaf (some false))
                         (.br (y17.2 != (0 : Int))
                          (.br (y17.2 != (6 : Int))
                           (.leaf (some false))
                           (.leaf none))
                          (.leaf none))))
                       .bad))))
                   .bad))))
               .bad))
             .bad))
           (let y26 := (impl_LoadOf y10.1 y10.2.1 y10.2.2.1 y10.2.2.2 y18.1 (fdiv .f32 (fofint .f32 y14) 1090519040) x2)
            let y27 := (impl_FlourOf y10.1 y10.2.1 y10.2.2.1 y10.2.2.2 y18.1 (fdiv .f32 (fofint .f32 y14) 1090519040) x2)
            let y28 := (spec_FlourOf y10.1 y10.2.1 y10.2.2.1 y10.2.2.2 y18.1 (fdiv .f32 (fofint .f32 y14) 1090519040) x2)
            let y29 := (impl_SteadySpeed y10.1 y10.2.1 y10.2.2.1 y10.2.2.2 (fdiv .f32 (fofint .f32 y13) 1082130432) (fdiv .f32 (fofint .f32 y14) 1090519040) (5 : Int) x2)
            let y30 := (spec_SameNumber y27.1 y28.1 x2)
            .join
            (.br (y17.2 == (0 : Int))
             (.br (impl_SteadySpeed.ok y10.1 y10.2.1 y10.2.2.1 y10.2.2.2 (fdiv .f32 (fofint .f32 y13) 1082130432) (fdiv .f32 (fofint .f32 y14) 1090519040) (5 : Int) x2)
              (.br (y26.2 != (0 : Int))
               (.leaf (some false))
               (.br (fgt .f32 y26.1 (fdiv .f32 (fofint .f32 y13) 1082130432))
                (.leaf (some false))
                (.br (y27.2 != y28.2)
                 (.leaf (some false))
                 (.br (y27.2 != (0 : Int))
                  (.leaf (some false))
                  (.br (spec_SameNumber.ok y27.1 y28.1 x2)
                   (.br (!y30)
                    (.leaf (some false))
                    (.br (y29.2 != (0 : Int))
                     (.leaf (some false))
                     (.br (fgt .f32 y29.1 y18.1)
                      (.leaf (some false))
                      (.br (flt .f32 y18.1 0)
                       (.leaf (some false))
                       (.br (fgt .f32 y18.1 1149239296)
                        (.leaf (some false))
                        (.leaf none))))))
                   .bad)))))
              .bad)
             (.leaf none))
            (let y31 := (spec_P6Pick x1 (64 : Int) x2 x4)
             .br (spec_P6Pick.ok x1 (64 : Int) x2 x4)
             (let y32 := (impl_LoadOf y10.1 y10.2.1 y10.2.2.1 y10.2.2.2 (fdiv .f32 (fofint .f32 y31) 1090519040) (fdiv .f32 (fofint .f32 y14) 1090519040) x2)
              let y33 := (impl_LoadOf y10.1 y10.2.1 y10.2.2.1 y10.2.2.2 (fdiv .f32 (fofint .f32 y31) 1090519040) (fadd .f32 (fdiv .f32 (fofint .f32 y14) 1090519040) 1065353216) x2)
              let y34 := (impl_LoadOf y10.1 y10.2.1 y10.2.2.1 y10.2.2.2 (fadd .f32 (fdiv .f32 (fofint .f32 y31) 1090519040) 1065353216) (fdiv .f32 (fofint .f32 y14) 1090519040) x2)
              let y35 := (impl_FeedFor y10.1 y10.2.1 y10.2.2.1 y10.2.2.2 (fdiv .f32 (fofint .f32 y13) 1082130432) (fdiv .f32 (fofint .f32 y31) 1090519040) x2)
              let y36 := (spec_FeedFor y10.1 y10.2.1 y10.2.2.1 y10.2.2.2 (fdiv .f32 (fofint .f32 y13) 1082130432) (fdiv .f32 (fofint .f32 y31) 1090519040) x2)
              let y37 := (spec_LoadOf y10.1 y10.2.1 y10.2.2.1 y10.2.2.2 (fdiv .f32 (fofint .f32 y31) 1090519040) 0 x2)
              .br (y32.2 != (0 : Int))
              (.leaf false)
              (.br (y33.2 != (0 : Int))
               (.leaf false)
               (.br (flt .f32 y33.1 y32.1)
                (.leaf false)
                (.br (y34.2 != (0 : Int))
                 (.leaf false)
                 (.br (flt .f32 y34.1 y32.1)
                  (.leaf false)
                  (.br (y35.2 != y36.2)
                   (.leaf false)
                   (let y38 := (spec_SameNumber y35.1 y36.1 x2)
                    .br (spec_SameNumber.ok y35.1 y36.1 x2)
                    (.br (!y38)
                     (.leaf false)
                     (.br (y37.2 != (0 : Int))
                      (.leaf false)
                      (.br (!((y35.2 == (0 : Int)) == (fle .f32 y37.1 (fdiv .f32 (fofint .f32 y13) 1082130432))))
                       (.leaf false)
                       (let y39 := (spec_P6Stone x1 x2 x4)
                        .br (spec_P6Stone.ok x1 x2 x4)
                        (let y40 := (impl_ShareTorque 2 (fmul .f32 1073741824 (fdiv .f32 (fofint .f32 y13) 1082130432)) (fdiv .f32 (fofint .f32 y14) 1090519040) x2 [y10.1, y10.2.1, y10.2.2.1, y10.2.2.2, y39.1, y39.2.1, y39.2.2.1, y39.2.2.2])
                         .br (impl_ShareTorque.ok 2 (fmul .f32 1073741824 (fdiv .f32 (fofint .f32 y13) 1082130432)) (fdiv .f32 (fofint .f32 y14) 1090519040) x2 [y10.1, y10.2.1, y10.2.2.1, y10.2.2.2, y39.1, y39.2.1, y39.2.2.1, y39.2.2.2])
                         (.br (Sum.isLeft y40)
                          (let y41 := (spec_ShareTorque 2 (fmul .f32 1073741824 (fdiv .f32 (fofint .f32 y13) 1082130432)) (fdiv .f32 (fofint .f32 y14) 1090519040) x2 [y10.1, y10.2.1, y10.2.2.1, y10.2.2.2, y39.1, y39.2.1, y39.2.2.1, y39.2.2.2])
                           .br (spec_ShareTorque.ok 2 (fmul .f32 1073741824 (fdiv .f32 (fofint .f32 y13) 1082130432)) (fdiv .f32 (fofint .f32 y14) 1090519040) x2 [y10.1, y10.2.1, y10.2.2.1, y10.2.2.2, y39.1, y39.2.1, y39.2.2.1, y39.2.2.2])
                           (let y42 := (spec_SameNumbers y41.1 x2 y41.2.2)
                            .join
                            (.br ((getLeftD y40) != y41.2.1)
                             (.leaf (some false))
                             (.br (spec_SameNumbers.ok y41.1 x2 y41.2.2)
                              (.br (!y42)
                               (.leaf (some false))
                               (.br ((getLeftD y40) != (0 : Int))
                                (.br ((getLeftD y40) != (6 : Int))
                                 (.leaf (some false))
                                 (.leaf none))
                                (.leaf none)))
                              .bad))
                            (let y43 := (impl_SumOf y41.1 x2 y41.2.2)
                             .br (impl_SumOf.ok y41.1 x2 y41.2.2)
                             (.br (y43.2 == (0 : Int))
                              (.br (fle .f32 y43.1 (fmul .f32 1073741824 (fdiv .f32 (fofint .f32 y13) 1082130432)))
                               (.br ((getLeftD y40) != (0 : Int))
                                (.leaf true)
                                (.leaf (((y41.1 : Nat) : Int) == (2 : Int))))
                               (.leaf false))
                              (.leaf false))
                             .bad))
                           .bad)
                          (let y45 := (spec_ShareTorque 2 (fmul .f32 1073741824 (fdiv .f32 (fofint .f32 y13) 1082130432)) (fdiv .f32 (fofint .f32 y14) 1090519040) x2 [y10.1, y10.2.1, y10.2.2.1, y10.2.2.2, y39.1, y39.2.1, y39.2.2.1, y39.2.2.2])
                           .br (spec_ShareTorque.ok 2 (fmul .f32 1073741824 (fdiv .f32 (fofint .f32 y13) 1082130432)) (fdiv .f32 (fofint .f32 y14) 1090519040) x2 [y10.1, y10.2.1, y10.2.2.1, y10.2.2.2, y39.1, y39.2.1, y39.2.2.1, y39.2.2.2])
                           (let y46 := (spec_SameNumbers_w1 ((getRightD y40).1) y45.1 x2 ((getRightD y40).2.2) y45.2.2)
                            .join
                            (.br ((getRightD y40).2.1 != y45.2.1)
                             (.leaf (some false))
                             (.br (spec_SameNumbers_w1.ok ((getRightD y40).1) y45.1 x2 ((getRightD y40).2.2) y45.2.2)
                              (.br (!y46)
                               (.leaf (some false))
                               (.br ((getRightD y40).2.1 != (0 : Int))
                                (.br ((getRightD y40).2.1 != (6 : Int))
                                 (.leaf (some false))
                                 (.leaf none))
                                (.leaf none)))
                              .bad))
                            (let y47 := (impl_SumOf y45.1 x2 y45.2.2)
                             .br (impl_SumOf.ok y45.1 x2 y45.2.2)
                             (.br (y47.2 == (0 : Int))
                              (.br (fle .f32 y47.1 (fmul .f32 1073741824 (fdiv .f32 (fofint .f32 y13) 1082130432)))
                               (.br ((getRightD y40).2.1 != (0 : Int))
                                (.leaf true)
                                (.leaf (((y45.1 : Nat) : Int) == (2 : Int))))
                               (.leaf false))
                              (.leaf false))
                             .bad))
                           .bad))
                         .bad)
                        .bad))))
                    .bad)))))))
             .bad)))
          .bad)
         .bad)
        .bad)
       .bad)
      .bad)
     .bad)
    .bad))
noncomputable def laws_FnLoads (x0 : Nat) (x1 : Nat) (x2 : Int) (x3 : List Int) (x4 : List Int) : Bool := (laws_FnLoads.t x0 x1 x2 x3 x4).val
noncomputable def laws_FnLoads.ok (x0 : Nat) (x1 : Nat) (x2 : Int) (x3 : List Int) (x4 : List Int) : Bool := (laws_FnLoads.t x0 x1 x2 x3 x4).ok
def laws_FnLoads.cd : Cd (Nat × Nat × Int × List Int × List Int) (List V × Hp) := Cd.iso (Cd.pair (Cd.cons (Cd.sl 1 (Cd.natc 0)) (Cd.cons (Cd.sl 2 (Cd.natc 0)) Cd.nil)) (Cd.cons (Cd.ro 0 2 (Cd.vs (Cd.cons (Cd.it .i64) Cd.nil))) (Cd.cons (Cd.ro 0 0 (Cd.is .u8)) (Cd.cons (Cd.ro 0 0 (Cd.is .u8)) Cd.nil)))) (fun a => (a.1.1.2, a.1.2.1.2, a.2.1.1, a.2.2.1, a.2.2.2.1)) (fun a => ((((), a.1), (((), a.2.1), ())), ((a.2.2.1, ()), (a.2.2.2.1, (a.2.2.2.2, ()))))) (fun _ => rfl)
noncomputable def laws_FnLoads.tr (a : Nat × Nat × Int × List Int × List Int) : T Bool := laws_FnLoads.t a.1 a.2.1 a.2.2.1 a.2.2.2.1 a.2.2.2.2
def laws_FnLoads.enc : (Nat × Nat × Int × List Int × List Int) → Bool → V := fun a r => .bo r
noncomputable def laws_FnLoads.c : List V → Hp → T V := cdQ laws_FnLoads.cd (fun a => .br (laws_FnLoads.ok a.1 a.2.1 a.2.2.1 a.2.2.2.1 a.2.2.2.2) (.leaf (laws_FnLoads.enc a (laws_FnLoads a.1 a.2.1 a.2.2.1 a.2.2.2.1 a.2.2.2.2))) .bad)
theorem laws_FnLoads.run (a : Nat × Nat × Int × List Int × List Int) : runF laws_FnLoads.C Tryd.f4.results.toList laws_FnLoads.b (laws_FnLoads.cd.enc a).1 (laws_FnLoads.cd.enc a).2 = (laws_FnLoads.tr a).map fun r => (laws_FnLoads.enc a r, (laws_FnLoads.cd.enc a).2) := by kernel_rfl
theorem laws_FnLoads.cok : OKq Tryd.prog 4 laws_FnLoads.c := con_q' laws_FnLoads.cd laws_FnLoads.hC Tryd.func4 (by kernel_rfl) (by kernel_rfl) (by kernel_rfl) laws_FnLoads.lp (fun a => by kernel_rfl) laws_FnLoads.run (Tells.ok (tree := laws_FnLoads.tr))
theorem laws_FnLoads.walk (a : Nat × Nat × Int × List Int × List Int) (h : (laws_FnLoads.tr a).get = some true) {ρ : Nat → Option Sx.Loc} {w : World} {vs : List Value} (hargs : V.Rs ρ (laws_FnLoads.cd.enc a).1 vs) (hh : HpR ρ (laws_FnLoads.cd.enc a).2 w) :
    Calls Tryd.prog 4 vs.toArray w fun e w' => e = .returned (.bool true) ∧ Below w.heap.size w w' :=
  law_cd laws_FnLoads.cd laws_FnLoads.hC Tryd.func4 (by kernel_rfl) (by kernel_rfl) laws_FnLoads.lp (fun a => by kernel_rfl) laws_FnLoads.run (fun a => by kernel_rfl) a (by kernel_rfl) h hargs hh
end Go.Proofs.YtffpnngoafpidaaDoor
