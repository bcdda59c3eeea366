/- The walk of FnExactReadStone: what each function that it comes to computes, as a tree of tests. -/
import Derived.Test.YtffpnngoafpidaaDoorSxU
import Derived.Test.YtffpnngoafpidaaDoorShelf
import Derived.Test.YtffpnngoafpidaaDoorSxV
import Derived.Test.YtffpnngoafpidaaDoorSxP
import Derived.Test.YtffpnngoafpidaaDoorChecked
namespace Go.Proofs.YtffpnngoafpidaaDoor
open Go Go.RowKit Sx
set_option linter.unusedVariables false
set_option maxRecDepth 100000
set_option maxHeartbeats 0
noncomputable def ti1 : TI := ⟨Tryd.t1.desc, 1, 8, [.nf]⟩
theorem ti1_ok : TyOK Tryd.prog 1 ti1 := TyOK.of (inf := Tryd.t1) Tryd.underlying1 (by kernel_rfl) (by kernel_rfl) (by kernel_rfl) (by kernel_rfl)
noncomputable def ti2 : TI := ⟨Tryd.t2.desc, 1, 8, [.it .i64 (0 : Int)]⟩
theorem ti2_ok : TyOK Tryd.prog 2 ti2 := TyOK.of (inf := Tryd.t2) Tryd.underlying2 (by kernel_rfl) (by kernel_rfl) (by kernel_rfl) (by kernel_rfl)
noncomputable def ti3 : TI := ⟨Tryd.t3.desc, 1, 8, [.it .i64 (0 : Int)]⟩
theorem ti3_ok : TyOK Tryd.prog 3 ti3 := TyOK.of (inf := Tryd.t3) Tryd.underlying3 (by kernel_rfl) (by kernel_rfl) (by kernel_rfl) (by kernel_rfl)
noncomputable def ti4 : TI := ⟨Tryd.t4.desc, 1, 1, [.kb false]⟩
theorem ti4_ok : TyOK Tryd.prog 4 ti4 := TyOK.of (inf := Tryd.t4) Tryd.underlying4 (by kernel_rfl) (by kernel_rfl) (by kernel_rfl) (by kernel_rfl)
noncomputable def ti5 : TI := ⟨Tryd.t5.desc, 1, 1, [.it .u8 (0 : Int)]⟩
theorem ti5_ok : TyOK Tryd.prog 5 ti5 := TyOK.of (inf := Tryd.t5) Tryd.underlying5 (by kernel_rfl) (by kernel_rfl) (by kernel_rfl) (by kernel_rfl)
noncomputable def ti6 : TI := ⟨Tryd.t5.desc, 1, 1, [.it .u8 (0 : Int)]⟩
theorem ti6_ok : TyOK Tryd.prog 6 ti6 := TyOK.of (inf := Tryd.t6) Tryd.underlying6 (by kernel_rfl) (by kernel_rfl) (by kernel_rfl) (by kernel_rfl)
noncomputable def ti7 : TI := ⟨Tryd.t7.desc, 4, 24, [.it .i64 (0 : Int), .it .i64 (0 : Int), .kb false, .it .u8 (0 : Int)]⟩
theorem ti7_ok : TyOK Tryd.prog 7 ti7 := TyOK.of (inf := Tryd.t7) Tryd.underlying7 (by kernel_rfl) (by kernel_rfl) (by kernel_rfl) (by kernel_rfl)
noncomputable def ti8 : TI := ⟨Tryd.t7.desc, 4, 24, [.it .i64 (0 : Int), .it .i64 (0 : Int), .kb false, .it .u8 (0 : Int)]⟩
theorem ti8_ok : TyOK Tryd.prog 8 ti8 := TyOK.of (inf := Tryd.t8) Tryd.underlying8 (by kernel_rfl) (by kernel_rfl) (by kernel_rfl) (by kernel_rfl)
noncomputable def ti9 : TI := ⟨Tryd.t9.desc, 1, 16, [.st (ByteArray.mk #[])]⟩
theorem ti9_ok : TyOK Tryd.prog 9 ti9 := TyOK.of (inf := Tryd.t9) Tryd.underlying9 (by kernel_rfl) (by kernel_rfl) (by kernel_rfl) (by kernel_rfl)
noncomputable def ti10 : TI := ⟨Tryd.t9.desc, 1, 16, [.st (ByteArray.mk #[])]⟩
theorem ti10_ok : TyOK Tryd.prog 10 ti10 := TyOK.of (inf := Tryd.t10) Tryd.underlying10 (by kernel_rfl) (by kernel_rfl) (by kernel_rfl) (by kernel_rfl)
noncomputable def ti11 : TI := ⟨Tryd.t9.desc, 1, 16, [.st (ByteArray.mk #[])]⟩
theorem ti11_ok : TyOK Tryd.prog 11 ti11 := TyOK.of (inf := Tryd.t11) Tryd.underlying11 (by kernel_rfl) (by kernel_rfl) (by kernel_rfl) (by kernel_rfl)
noncomputable def ti12 : TI := ⟨Tryd.t12.desc, 1, 8, [.it .u64 (0 : Int)]⟩
theorem ti12_ok : TyOK Tryd.prog 12 ti12 := TyOK.of (inf := Tryd.t12) Tryd.underlying12 (by kernel_rfl) (by kernel_rfl) (by kernel_rfl) (by kernel_rfl)
noncomputable def ti13 : TI := ⟨Tryd.t13.desc, 2, 24, [.st (ByteArray.mk #[]), .it .u64 (0 : Int)]⟩
theorem ti13_ok : TyOK Tryd.prog 13 ti13 := TyOK.of (inf := Tryd.t13) Tryd.underlying13 (by kernel_rfl) (by kernel_rfl) (by kernel_rfl) (by kernel_rfl)
noncomputable def ti14 : TI := ⟨Tryd.t13.desc, 2, 24, [.st (ByteArray.mk #[]), .it .u64 (0 : Int)]⟩
theorem ti14_ok : TyOK Tryd.prog 14 ti14 := TyOK.of (inf := Tryd.t14) Tryd.underlying14 (by kernel_rfl) (by kernel_rfl) (by kernel_rfl) (by kernel_rfl)
noncomputable def ti15 : TI := ⟨Tryd.t15.desc, 1, 8, [.pn]⟩
theorem ti15_ok : TyOK Tryd.prog 15 ti15 := TyOK.of (inf := Tryd.t15) Tryd.underlying15 (by kernel_rfl) (by kernel_rfl) (by kernel_rfl) (by kernel_rfl)
noncomputable def ti16 : TI := ⟨Tryd.t16.desc, 1, 8, [.pn]⟩
theorem ti16_ok : TyOK Tryd.prog 16 ti16 := TyOK.of (inf := Tryd.t16) Tryd.underlying16 (by kernel_rfl) (by kernel_rfl) (by kernel_rfl) (by kernel_rfl)
noncomputable def ti17 : TI := ⟨Tryd.t17.desc, 1, 8, [.pn]⟩
theorem ti17_ok : TyOK Tryd.prog 17 ti17 := TyOK.of (inf := Tryd.t17) Tryd.underlying17 (by kernel_rfl) (by kernel_rfl) (by kernel_rfl) (by kernel_rfl)
noncomputable def ti18 : TI := ⟨Tryd.t18.desc, 1, 8, [.pn]⟩
theorem ti18_ok : TyOK Tryd.prog 18 ti18 := TyOK.of (inf := Tryd.t18) Tryd.underlying18 (by kernel_rfl) (by kernel_rfl) (by kernel_rfl) (by kernel_rfl)
noncomputable def ti19 : TI := ⟨Tryd.t18.desc, 1, 8, [.pn]⟩
theorem ti19_ok : TyOK Tryd.prog 19 ti19 := TyOK.of (inf := Tryd.t19) Tryd.underlying19 (by kernel_rfl) (by kernel_rfl) (by kernel_rfl) (by kernel_rfl)
noncomputable def ti21 : TI := ⟨Tryd.t21.desc, 1, 4, [.it .i32 (0 : Int)]⟩
theorem ti21_ok : TyOK Tryd.prog 21 ti21 := TyOK.of (inf := Tryd.t21) Tryd.underlying21 (by kernel_rfl) (by kernel_rfl) (by kernel_rfl) (by kernel_rfl)
noncomputable def ti22 : TI := ⟨Tryd.t22.desc, 1, 4, [.fl .f32 0]⟩
theorem ti22_ok : TyOK Tryd.prog 22 ti22 := TyOK.of (inf := Tryd.t22) Tryd.underlying22 (by kernel_rfl) (by kernel_rfl) (by kernel_rfl) (by kernel_rfl)
noncomputable def ti23 : TI := ⟨Tryd.t23.desc, 4, 16, [.fl .f32 0, .fl .f32 0, .fl .f32 0, .fl .f32 0]⟩
theorem ti23_ok : TyOK Tryd.prog 23 ti23 := TyOK.of (inf := Tryd.t23) Tryd.underlying23 (by kernel_rfl) (by kernel_rfl) (by kernel_rfl) (by kernel_rfl)
noncomputable def ti24 : TI := ⟨Tryd.t23.desc, 4, 16, [.fl .f32 0, .fl .f32 0, .fl .f32 0, .fl .f32 0]⟩
theorem ti24_ok : TyOK Tryd.prog 24 ti24 := TyOK.of (inf := Tryd.t24) Tryd.underlying24 (by kernel_rfl) (by kernel_rfl) (by kernel_rfl) (by kernel_rfl)
noncomputable def ti26 : TI := ⟨Tryd.t26.desc, 1, 8, [.nf]⟩
theorem ti26_ok : TyOK Tryd.prog 26 ti26 := TyOK.of (inf := Tryd.t26) Tryd.underlying26 (by kernel_rfl) (by kernel_rfl) (by kernel_rfl) (by kernel_rfl)
noncomputable def ti27 : TI := ⟨Tryd.t27.desc, 1, 8, [.nf]⟩
theorem ti27_ok : TyOK Tryd.prog 27 ti27 := TyOK.of (inf := Tryd.t27) Tryd.underlying27 (by kernel_rfl) (by kernel_rfl) (by kernel_rfl) (by kernel_rfl)
noncomputable def ti28 : TI := ⟨Tryd.t28.desc, 1, 8, [.nf]⟩
theorem ti28_ok : TyOK Tryd.prog 28 ti28 := TyOK.of (inf := Tryd.t28) Tryd.underlying28 (by kernel_rfl) (by kernel_rfl) (by kernel_rfl) (by kernel_rfl)
noncomputable def ti29 : TI := ⟨Tryd.t29.desc, 1, 24, [.sn]⟩
theorem ti29_ok : TyOK Tryd.prog 29 ti29 := TyOK.of (inf := Tryd.t29) Tryd.underlying29 (by kernel_rfl) (by kernel_rfl) (by kernel_rfl) (by kernel_rfl)
noncomputable def ti30 : TI := ⟨Tryd.t30.desc, 1, 8, [.nf]⟩
theorem ti30_ok : TyOK Tryd.prog 30 ti30 := TyOK.of (inf := Tryd.t30) Tryd.underlying30 (by kernel_rfl) (by kernel_rfl) (by kernel_rfl) (by kernel_rfl)
noncomputable def ti31 : TI := ⟨Tryd.t31.desc, 1, 8, [.nf]⟩
theorem ti31_ok : TyOK Tryd.prog 31 ti31 := TyOK.of (inf := Tryd.t31) Tryd.underlying31 (by kernel_rfl) (by kernel_rfl) (by kernel_rfl) (by kernel_rfl)
noncomputable def ti32 : TI := ⟨Tryd.t32.desc, 1, 8, [.nf]⟩
theorem ti32_ok : TyOK Tryd.prog 32 ti32 := TyOK.of (inf := Tryd.t32) Tryd.underlying32 (by kernel_rfl) (by kernel_rfl) (by kernel_rfl) (by kernel_rfl)
noncomputable def ti33 : TI := ⟨Tryd.t33.desc, 1, 8, [.nf]⟩
theorem ti33_ok : TyOK Tryd.prog 33 ti33 := TyOK.of (inf := Tryd.t33) Tryd.underlying33 (by kernel_rfl) (by kernel_rfl) (by kernel_rfl) (by kernel_rfl)
noncomputable def ti35 : TI := ⟨Tryd.t35.desc, 1, 8, [.nf]⟩
theorem ti35_ok : TyOK Tryd.prog 35 ti35 := TyOK.of (inf := Tryd.t35) Tryd.underlying35 (by kernel_rfl) (by kernel_rfl) (by kernel_rfl) (by kernel_rfl)
noncomputable def ti36 : TI := ⟨Tryd.t36.desc, 1, 8, [.nf]⟩
theorem ti36_ok : TyOK Tryd.prog 36 ti36 := TyOK.of (inf := Tryd.t36) Tryd.underlying36 (by kernel_rfl) (by kernel_rfl) (by kernel_rfl) (by kernel_rfl)
noncomputable def ti37 : TI := ⟨Tryd.t37.desc, 1, 8, [.nf]⟩
theorem ti37_ok : TyOK Tryd.prog 37 ti37 := TyOK.of (inf := Tryd.t37) Tryd.underlying37 (by kernel_rfl) (by kernel_rfl) (by kernel_rfl) (by kernel_rfl)
noncomputable def ti38 : TI := ⟨Tryd.t38.desc, 1, 8, [.nf]⟩
theorem ti38_ok : TyOK Tryd.prog 38 ti38 := TyOK.of (inf := Tryd.t38) Tryd.underlying38 (by kernel_rfl) (by kernel_rfl) (by kernel_rfl) (by kernel_rfl)
noncomputable def ti39 : TI := ⟨Tryd.t39.desc, 1, 24, [.sn]⟩
theorem ti39_ok : TyOK Tryd.prog 39 ti39 := TyOK.of (inf := Tryd.t39) Tryd.underlying39 (by kernel_rfl) (by kernel_rfl) (by kernel_rfl) (by kernel_rfl)
noncomputable def ti40 : TI := ⟨Tryd.t40.desc, 1, 24, [.sn]⟩
theorem ti40_ok : TyOK Tryd.prog 40 ti40 := TyOK.of (inf := Tryd.t40) Tryd.underlying40 (by kernel_rfl) (by kernel_rfl) (by kernel_rfl) (by kernel_rfl)
noncomputable def ti42 : TI := ⟨Tryd.t42.desc, 1, 8, [.nf]⟩
theorem ti42_ok : TyOK Tryd.prog 42 ti42 := TyOK.of (inf := Tryd.t42) Tryd.underlying42 (by kernel_rfl) (by kernel_rfl) (by kernel_rfl) (by kernel_rfl)
noncomputable def ti43 : TI := ⟨Tryd.t43.desc, 1, 8, [.nf]⟩
theorem ti43_ok : TyOK Tryd.prog 43 ti43 := TyOK.of (inf := Tryd.t43) Tryd.underlying43 (by kernel_rfl) (by kernel_rfl) (by kernel_rfl) (by kernel_rfl)
noncomputable def ti44 : TI := ⟨Tryd.t44.desc, 1, 8, [.nf]⟩
theorem ti44_ok : TyOK Tryd.prog 44 ti44 := TyOK.of (inf := Tryd.t44) Tryd.underlying44 (by kernel_rfl) (by kernel_rfl) (by kernel_rfl) (by kernel_rfl)
noncomputable def ti45 : TI := ⟨Tryd.t45.desc, 1, 8, [.nf]⟩
theorem ti45_ok : TyOK Tryd.prog 45 ti45 := TyOK.of (inf := Tryd.t45) Tryd.underlying45 (by kernel_rfl) (by kernel_rfl) (by kernel_rfl) (by kernel_rfl)
noncomputable def ti46 : TI := ⟨Tryd.t46.desc, 1, 24, [.sn]⟩
theorem ti46_ok : TyOK Tryd.prog 46 ti46 := TyOK.of (inf := Tryd.t46) Tryd.underlying46 (by kernel_rfl) (by kernel_rfl) (by kernel_rfl) (by kernel_rfl)
noncomputable def ti47 : TI := ⟨Tryd.t47.desc, 1, 8, [.nf]⟩
theorem ti47_ok : TyOK Tryd.prog 47 ti47 := TyOK.of (inf := Tryd.t47) Tryd.underlying47 (by kernel_rfl) (by kernel_rfl) (by kernel_rfl) (by kernel_rfl)
noncomputable def ti48 : TI := ⟨Tryd.t48.desc, 4, 16, [.fl .f32 0, .fl .f32 0, .fl .f32 0, .fl .f32 0]⟩
theorem ti48_ok : TyOK Tryd.prog 48 ti48 := TyOK.of (inf := Tryd.t48) Tryd.underlying48 (by kernel_rfl) (by kernel_rfl) (by kernel_rfl) (by kernel_rfl)
noncomputable def ti50 : TI := ⟨Tryd.t50.desc, 1, 8, [.nf]⟩
theorem ti50_ok : TyOK Tryd.prog 50 ti50 := TyOK.of (inf := Tryd.t50) Tryd.underlying50 (by kernel_rfl) (by kernel_rfl) (by kernel_rfl) (by kernel_rfl)
noncomputable def ti52 : TI := ⟨Tryd.t52.desc, 1, 8, [.nf]⟩
theorem ti52_ok : TyOK Tryd.prog 52 ti52 := TyOK.of (inf := Tryd.t52) Tryd.underlying52 (by kernel_rfl) (by kernel_rfl) (by kernel_rfl) (by kernel_rfl)
noncomputable def ti53 : TI := ⟨Tryd.t53.desc, 1, 8, [.nf]⟩
theorem ti53_ok : TyOK Tryd.prog 53 ti53 := TyOK.of (inf := Tryd.t53) Tryd.underlying53 (by kernel_rfl) (by kernel_rfl) (by kernel_rfl) (by kernel_rfl)
noncomputable def ti54 : TI := ⟨Tryd.t54.desc, 1, 8, [.nf]⟩
theorem ti54_ok : TyOK Tryd.prog 54 ti54 := TyOK.of (inf := Tryd.t54) Tryd.underlying54 (by kernel_rfl) (by kernel_rfl) (by kernel_rfl) (by kernel_rfl)
noncomputable def ti55 : TI := ⟨Tryd.t55.desc, 1, 8, [.fl .f64 0]⟩
theorem ti55_ok : TyOK Tryd.prog 55 ti55 := TyOK.of (inf := Tryd.t55) Tryd.underlying55 (by kernel_rfl) (by kernel_rfl) (by kernel_rfl) (by kernel_rfl)
noncomputable def ti56 : TI := ⟨Tryd.t56.desc, 1, 8, [.nf]⟩
theorem ti56_ok : TyOK Tryd.prog 56 ti56 := TyOK.of (inf := Tryd.t56) Tryd.underlying56 (by kernel_rfl) (by kernel_rfl) (by kernel_rfl) (by kernel_rfl)
noncomputable def ti57 : TI := ⟨Tryd.t57.desc, 1, 8, [.pn]⟩
theorem ti57_ok : TyOK Tryd.prog 57 ti57 := TyOK.of (inf := Tryd.t57) Tryd.underlying57 (by kernel_rfl) (by kernel_rfl) (by kernel_rfl) (by kernel_rfl)
noncomputable def ti58 : TI := ⟨Tryd.t58.desc, 1, 8, [.nf]⟩
theorem ti58_ok : TyOK Tryd.prog 58 ti58 := TyOK.of (inf := Tryd.t58) Tryd.underlying58 (by kernel_rfl) (by kernel_rfl) (by kernel_rfl) (by kernel_rfl)
noncomputable def ti59 : TI := ⟨Tryd.t59.desc, 1, 8, [.nf]⟩
theorem ti59_ok : TyOK Tryd.prog 59 ti59 := TyOK.of (inf := Tryd.t59) Tryd.underlying59 (by kernel_rfl) (by kernel_rfl) (by kernel_rfl) (by kernel_rfl)
noncomputable def ti60 : TI := ⟨Tryd.t60.desc, 1, 8, [.nf]⟩
theorem ti60_ok : TyOK Tryd.prog 60 ti60 := TyOK.of (inf := Tryd.t60) Tryd.underlying60 (by kernel_rfl) (by kernel_rfl) (by kernel_rfl) (by kernel_rfl)
noncomputable def ti61 : TI := ⟨Tryd.t61.desc, 1, 8, [.nf]⟩
theorem ti61_ok : TyOK Tryd.prog 61 ti61 := TyOK.of (inf := Tryd.t61) Tryd.underlying61 (by kernel_rfl) (by kernel_rfl) (by kernel_rfl) (by kernel_rfl)
noncomputable def ti62 : TI := ⟨Tryd.t62.desc, 1, 8, [.nf]⟩
theorem ti62_ok : TyOK Tryd.prog 62 ti62 := TyOK.of (inf := Tryd.t62) Tryd.underlying62 (by kernel_rfl) (by kernel_rfl) (by kernel_rfl) (by kernel_rfl)
noncomputable def ti63 : TI := ⟨Tryd.t63.desc, 1, 8, [.nf]⟩
theorem ti63_ok : TyOK Tryd.prog 63 ti63 := TyOK.of (inf := Tryd.t63) Tryd.underlying63 (by kernel_rfl) (by kernel_rfl) (by kernel_rfl) (by kernel_rfl)
noncomputable def ti64 : TI := ⟨Tryd.t64.desc, 1, 8, [.nf]⟩
theorem ti64_ok : TyOK Tryd.prog 64 ti64 := TyOK.of (inf := Tryd.t64) Tryd.underlying64 (by kernel_rfl) (by kernel_rfl) (by kernel_rfl) (by kernel_rfl)
noncomputable def ti65 : TI := ⟨Tryd.t65.desc, 1, 8, [.nf]⟩
theorem ti65_ok : TyOK Tryd.prog 65 ti65 := TyOK.of (inf := Tryd.t65) Tryd.underlying65 (by kernel_rfl) (by kernel_rfl) (by kernel_rfl) (by kernel_rfl)
noncomputable def ti66 : TI := ⟨Tryd.t66.desc, 1, 8, [.nf]⟩
theorem ti66_ok : TyOK Tryd.prog 66 ti66 := TyOK.of (inf := Tryd.t66) Tryd.underlying66 (by kernel_rfl) (by kernel_rfl) (by kernel_rfl) (by kernel_rfl)
noncomputable def ti67 : TI := ⟨Tryd.t67.desc, 1, 8, [.nf]⟩
theorem ti67_ok : TyOK Tryd.prog 67 ti67 := TyOK.of (inf := Tryd.t67) Tryd.underlying67 (by kernel_rfl) (by kernel_rfl) (by kernel_rfl) (by kernel_rfl)
noncomputable def ti68 : TI := ⟨Tryd.t68.desc, 1, 8, [.nf]⟩
theorem ti68_ok : TyOK Tryd.prog 68 ti68 := TyOK.of (inf := Tryd.t68) Tryd.underlying68 (by kernel_rfl) (by kernel_rfl) (by kernel_rfl) (by kernel_rfl)
noncomputable def ti69 : TI := ⟨Tryd.t69.desc, 1, 8, [.nf]⟩
theorem ti69_ok : TyOK Tryd.prog 69 ti69 := TyOK.of (inf := Tryd.t69) Tryd.underlying69 (by kernel_rfl) (by kernel_rfl) (by kernel_rfl) (by kernel_rfl)
noncomputable def ti70 : TI := ⟨Tryd.t70.desc, 1, 8, [.nf]⟩
theorem ti70_ok : TyOK Tryd.prog 70 ti70 := TyOK.of (inf := Tryd.t70) Tryd.underlying70 (by kernel_rfl) (by kernel_rfl) (by kernel_rfl) (by kernel_rfl)
noncomputable def ti71 : TI := ⟨Tryd.t71.desc, 1, 8, [.nf]⟩
theorem ti71_ok : TyOK Tryd.prog 71 ti71 := TyOK.of (inf := Tryd.t71) Tryd.underlying71 (by kernel_rfl) (by kernel_rfl) (by kernel_rfl) (by kernel_rfl)
noncomputable def ti72 : TI := ⟨Tryd.t72.desc, 1, 8, [.nf]⟩
theorem ti72_ok : TyOK Tryd.prog 72 ti72 := TyOK.of (inf := Tryd.t72) Tryd.underlying72 (by kernel_rfl) (by kernel_rfl) (by kernel_rfl) (by kernel_rfl)
noncomputable def ti73 : TI := ⟨Tryd.t73.desc, 1, 8, [.nf]⟩
theorem ti73_ok : TyOK Tryd.prog 73 ti73 := TyOK.of (inf := Tryd.t73) Tryd.underlying73 (by kernel_rfl) (by kernel_rfl) (by kernel_rfl) (by kernel_rfl)
noncomputable def ti74 : TI := ⟨Tryd.t74.desc, 1, 4, [.it .u32 (0 : Int)]⟩
theorem ti74_ok : TyOK Tryd.prog 74 ti74 := TyOK.of (inf := Tryd.t74) Tryd.underlying74 (by kernel_rfl) (by kernel_rfl) (by kernel_rfl) (by kernel_rfl)
noncomputable def ti75 : TI := ⟨Tryd.t75.desc, 1, 8, [.nf]⟩
theorem ti75_ok : TyOK Tryd.prog 75 ti75 := TyOK.of (inf := Tryd.t75) Tryd.underlying75 (by kernel_rfl) (by kernel_rfl) (by kernel_rfl) (by kernel_rfl)
noncomputable def ti76 : TI := ⟨Tryd.t76.desc, 1, 8, [.nf]⟩
theorem ti76_ok : TyOK Tryd.prog 76 ti76 := TyOK.of (inf := Tryd.t76) Tryd.underlying76 (by kernel_rfl) (by kernel_rfl) (by kernel_rfl) (by kernel_rfl)
noncomputable def ti77 : TI := ⟨Tryd.t77.desc, 1, 8, [.nf]⟩
theorem ti77_ok : TyOK Tryd.prog 77 ti77 := TyOK.of (inf := Tryd.t77) Tryd.underlying77 (by kernel_rfl) (by kernel_rfl) (by kernel_rfl) (by kernel_rfl)
noncomputable def ti78 : TI := ⟨Tryd.t78.desc, 1, 8, [.nf]⟩
theorem ti78_ok : TyOK Tryd.prog 78 ti78 := TyOK.of (inf := Tryd.t78) Tryd.underlying78 (by kernel_rfl) (by kernel_rfl) (by kernel_rfl) (by kernel_rfl)
noncomputable def ti79 : TI := ⟨Tryd.t79.desc, 1, 8, [.nf]⟩
theorem ti79_ok : TyOK Tryd.prog 79 ti79 := TyOK.of (inf := Tryd.t79) Tryd.underlying79 (by kernel_rfl) (by kernel_rfl) (by kernel_rfl) (by kernel_rfl)
noncomputable def ti80 : TI := ⟨Tryd.t80.desc, 1, 8, [.it .u64 (0 : Int)]⟩
theorem ti80_ok : TyOK Tryd.prog 80 ti80 := TyOK.of (inf := Tryd.t80) Tryd.underlying80 (by kernel_rfl) (by kernel_rfl) (by kernel_rfl) (by kernel_rfl)
noncomputable def ti81 : TI := ⟨Tryd.t81.desc, 3, 40, [.sn, .it .i64 (0 : Int), .it .u64 (0 : Int)]⟩
theorem ti81_ok : TyOK Tryd.prog 81 ti81 := TyOK.of (inf := Tryd.t81) Tryd.underlying81 (by kernel_rfl) (by kernel_rfl) (by kernel_rfl) (by kernel_rfl)
noncomputable def ti82 : TI := ⟨Tryd.t81.desc, 3, 40, [.sn, .it .i64 (0 : Int), .it .u64 (0 : Int)]⟩
theorem ti82_ok : TyOK Tryd.prog 82 ti82 := TyOK.of (inf := Tryd.t82) Tryd.underlying82 (by kernel_rfl) (by kernel_rfl) (by kernel_rfl) (by kernel_rfl)
noncomputable def ti83 : TI := ⟨Tryd.t83.desc, 1, 8, [.nf]⟩
theorem ti83_ok : TyOK Tryd.prog 83 ti83 := TyOK.of (inf := Tryd.t83) Tryd.underlying83 (by kernel_rfl) (by kernel_rfl) (by kernel_rfl) (by kernel_rfl)
noncomputable def ti84 : TI := ⟨Tryd.t84.desc, 1, 8, [.nf]⟩
theorem ti84_ok : TyOK Tryd.prog 84 ti84 := TyOK.of (inf := Tryd.t84) Tryd.underlying84 (by kernel_rfl) (by kernel_rfl) (by kernel_rfl) (by kernel_rfl)
noncomputable def ti85 : TI := ⟨Tryd.t85.desc, 1, 8, [.nf]⟩
theorem ti85_ok : TyOK Tryd.prog 85 ti85 := TyOK.of (inf := Tryd.t85) Tryd.underlying85 (by kernel_rfl) (by kernel_rfl) (by kernel_rfl) (by kernel_rfl)
noncomputable def ti86 : TI := ⟨Tryd.t86.desc, 1, 8, [.nf]⟩
theorem ti86_ok : TyOK Tryd.prog 86 ti86 := TyOK.of (inf := Tryd.t86) Tryd.underlying86 (by kernel_rfl) (by kernel_rfl) (by kernel_rfl) (by kernel_rfl)
noncomputable def ti87 : TI := ⟨Tryd.t87.desc, 1, 8, [.pn]⟩
theorem ti87_ok : TyOK Tryd.prog 87 ti87 := TyOK.of (inf := Tryd.t87) Tryd.underlying87 (by kernel_rfl) (by kernel_rfl) (by kernel_rfl) (by kernel_rfl)
noncomputable def ti88 : TI := ⟨Tryd.t88.desc, 1, 8, [.nf]⟩
theorem ti88_ok : TyOK Tryd.prog 88 ti88 := TyOK.of (inf := Tryd.t88) Tryd.underlying88 (by kernel_rfl) (by kernel_rfl) (by kernel_rfl) (by kernel_rfl)
noncomputable def ti89 : TI := ⟨Tryd.t89.desc, 1, 8, [.nf]⟩
theorem ti89_ok : TyOK Tryd.prog 89 ti89 := TyOK.of (inf := Tryd.t89) Tryd.underlying89 (by kernel_rfl) (by kernel_rfl) (by kernel_rfl) (by kernel_rfl)
noncomputable def ti90 : TI := ⟨Tryd.t90.desc, 1, 8, [.it .u64 (0 : Int)]⟩
theorem ti90_ok : TyOK Tryd.prog 90 ti90 := TyOK.of (inf := Tryd.t90) Tryd.underlying90 (by kernel_rfl) (by kernel_rfl) (by kernel_rfl) (by kernel_rfl)
noncomputable def ti91 : TI := ⟨Tryd.t91.desc, 1, 8, [.nf]⟩
theorem ti91_ok : TyOK Tryd.prog 91 ti91 := TyOK.of (inf := Tryd.t91) Tryd.underlying91 (by kernel_rfl) (by kernel_rfl) (by kernel_rfl) (by kernel_rfl)
noncomputable def ti92 : TI := ⟨Tryd.t92.desc, 1, 8, [.nf]⟩
theorem ti92_ok : TyOK Tryd.prog 92 ti92 := TyOK.of (inf := Tryd.t92) Tryd.underlying92 (by kernel_rfl) (by kernel_rfl) (by kernel_rfl) (by kernel_rfl)
noncomputable def ti93 : TI := ⟨Tryd.t93.desc, 1, 8, [.nf]⟩
theorem ti93_ok : TyOK Tryd.prog 93 ti93 := TyOK.of (inf := Tryd.t93) Tryd.underlying93 (by kernel_rfl) (by kernel_rfl) (by kernel_rfl) (by kernel_rfl)
noncomputable def ti94 : TI := ⟨Tryd.t94.desc, 1, 8, [.pn]⟩
theorem ti94_ok : TyOK Tryd.prog 94 ti94 := TyOK.of (inf := Tryd.t94) Tryd.underlying94 (by kernel_rfl) (by kernel_rfl) (by kernel_rfl) (by kernel_rfl)
noncomputable def ti95 : TI := ⟨Tryd.t95.desc, 2, 32, [.pn, .sn]⟩
theorem ti95_ok : TyOK Tryd.prog 95 ti95 := TyOK.of (inf := Tryd.t95) Tryd.underlying95 (by kernel_rfl) (by kernel_rfl) (by kernel_rfl) (by kernel_rfl)
noncomputable def ti96 : TI := ⟨Tryd.t95.desc, 2, 32, [.pn, .sn]⟩
theorem ti96_ok : TyOK Tryd.prog 96 ti96 := TyOK.of (inf := Tryd.t96) Tryd.underlying96 (by kernel_rfl) (by kernel_rfl) (by kernel_rfl) (by kernel_rfl)
noncomputable def ti97 : TI := ⟨Tryd.t97.desc, 1, 8, [.nf]⟩
theorem ti97_ok : TyOK Tryd.prog 97 ti97 := TyOK.of (inf := Tryd.t97) Tryd.underlying97 (by kernel_rfl) (by kernel_rfl) (by kernel_rfl) (by kernel_rfl)
noncomputable def ti101 : TI := ⟨Tryd.t101.desc, 1, 8, [.nf]⟩
theorem ti101_ok : TyOK Tryd.prog 101 ti101 := TyOK.of (inf := Tryd.t101) Tryd.underlying101 (by kernel_rfl) (by kernel_rfl) (by kernel_rfl) (by kernel_rfl)
noncomputable def ti102 : TI := ⟨Tryd.t102.desc, 1, 8, [.nf]⟩
theorem ti102_ok : TyOK Tryd.prog 102 ti102 := TyOK.of (inf := Tryd.t102) Tryd.underlying102 (by kernel_rfl) (by kernel_rfl) (by kernel_rfl) (by kernel_rfl)
noncomputable def ti103 : TI := ⟨Tryd.t103.desc, 1, 8, [.nf]⟩
theorem ti103_ok : TyOK Tryd.prog 103 ti103 := TyOK.of (inf := Tryd.t103) Tryd.underlying103 (by kernel_rfl) (by kernel_rfl) (by kernel_rfl) (by kernel_rfl)
noncomputable def ti105 : TI := ⟨Tryd.t105.desc, 1, 8, [.nf]⟩
theorem ti105_ok : TyOK Tryd.prog 105 ti105 := TyOK.of (inf := Tryd.t105) Tryd.underlying105 (by kernel_rfl) (by kernel_rfl) (by kernel_rfl) (by kernel_rfl)
noncomputable def ti106 : TI := ⟨Tryd.t106.desc, 1, 8, [.pn]⟩
theorem ti106_ok : TyOK Tryd.prog 106 ti106 := TyOK.of (inf := Tryd.t106) Tryd.underlying106 (by kernel_rfl) (by kernel_rfl) (by kernel_rfl) (by kernel_rfl)
noncomputable def ti107 : TI := ⟨Tryd.t107.desc, 1, 8, [.nf]⟩
theorem ti107_ok : TyOK Tryd.prog 107 ti107 := TyOK.of (inf := Tryd.t107) Tryd.underlying107 (by kernel_rfl) (by kernel_rfl) (by kernel_rfl) (by kernel_rfl)
noncomputable def ti108 : TI := ⟨Tryd.t108.desc, 1, 8, [.pn]⟩
theorem ti108_ok : TyOK Tryd.prog 108 ti108 := TyOK.of (inf := Tryd.t108) Tryd.underlying108 (by kernel_rfl) (by kernel_rfl) (by kernel_rfl) (by kernel_rfl)
noncomputable def ti109 : TI := ⟨Tryd.t109.desc, 1, 8, [.nf]⟩
theorem ti109_ok : TyOK Tryd.prog 109 ti109 := TyOK.of (inf := Tryd.t109) Tryd.underlying109 (by kernel_rfl) (by kernel_rfl) (by kernel_rfl) (by kernel_rfl)
noncomputable def ti110 : TI := ⟨Tryd.t110.desc, 1, 8, [.nf]⟩
theorem ti110_ok : TyOK Tryd.prog 110 ti110 := TyOK.of (inf := Tryd.t110) Tryd.underlying110 (by kernel_rfl) (by kernel_rfl) (by kernel_rfl) (by kernel_rfl)
noncomputable def ti111 : TI := ⟨Tryd.t111.desc, 256, 256, [.it .u8 (0 : Int), .it .u8 (0 : Int), .it .u8 (0 : Int), .it .u8 (0 : Int), .it .u8 (0 : Int), .it .u8 (0 : Int), .it .u8 (0 : Int), .it .u8 (0 : Int), .it .u8 (0 : Int), .it .u8 (0 : Int), .it .u8 (0 : Int), .it .u8 (0 : Int), .it .u8 (0 : Int), .it .u8 (0 : Int), .it .u8 (0 : Int), .it .u8 (0 : Int), .it .u8 (0 : Int), .it .u8 (0 : Int), .it .u8 (0 : Int), .it .u8 (0 : Int), .it .u8 (0 : Int), .it .u8 (0 : Int), .it .u8 (0 : Int), .it .u8 (0 : Int), .it .u8 (0 : Int), .it .u8 (0 : Int), .it .u8 (0 : Int), .it .u8 (0 : Int), .it .u8 (0 : Int), .it .u8 (0 : Int), .it .u8 (0 : Int), .it .u8 (0 : Int), .it .u8 (0 : Int), .it .u8 (0 : Int), .it .u8 (0 : Int), .it .u8 (0 : Int), .it .u8 (0 : Int), .it .u8 (0 : Int), .it .u8 (0 : Int), .it .u8 (0 : Int), .it .u8 (0 : Int), .it .u8 (0 : Int), .it .u8 (0 : Int), .it .u8 (0 : Int), .it .u8 (0 : Int), .it .u8 (0 : Int), .it .u8 (0 : Int), .it .u8 (0 : Int), .it .u8 (0 : Int), .it .u8 (0 : Int), .it .u8 (0 : Int), .it .u8 (0 : Int), .it .u8 (0 : Int), .it .u8 (0 : Int), .it .u8 (0 : Int), .it .u8 (0 : Int), .it .u8 (0 : Int), .it .u8 (0 : Int), .it .u8 (0 : Int), .it .u8 (0 : Int), .it .u8 (0 : Int), .it .u8 (0 : Int), .it .u8 (0 : Int), .it .u8 (0 : Int), .it .u8 (0 : Int), .it .u8 (0 : Int), .it .u8 (0 : Int), .it .u8 (0 : Int), .it .u8 (0 : Int), .it .u8 (0 : Int), .it .u8 (0 : Int), .it .u8 (0 : Int), .it .u8 (0 : Int), .it .u8 (0 : Int), .it .u8 (0 : Int), .it .u8 (0 : Int), .it .u8 (0 : Int), .it .u8 (0 : Int), .it .u8 (0 : Int), .it .u8 (0 : Int), .it .u8 (0 : Int), .it .u8 (0 : Int), .it .u8 (0 : Int), .it .u8 (0 : Int), .it .u8 (0 : Int), .it .u8 (0 : Int), .it .u8 (0 : Int), .it .u8 (0 : Int), .it .u8 (0 : Int), .it .u8 (0 : Int), .it .u8 (0 : Int), .it .u8 (0 : Int), .it .u8 (0 : Int), .it .u8 (0 : Int), .it .u8 (0 : Int), .it .u8 (0 : Int), .it .u8 (0 : Int), .it .u8 (0 : Int), .it .u8 (0 : Int), .it .u8 (0 : Int), .it .u8 (0 : Int), .it .u8 (0 : Int), .it .u8 (0 : Int), .it .u8 (0 : Int), .it .u8 (0 : Int), .it .u8 (0 : Int), .it .u8 (0 : Int), .it .u8 (0 : Int), .it .u8 (0 : Int), .it .u8 (0 : Int), .it .u8 (0 : Int), .it .u8 (0 : Int), .it .u8 (0 : Int), .it .u8 (0 : Int), .it .u8 (0 : Int), .it .u8 (0 : Int), .it .u8 (0 : Int), .it .u8 (0 : Int), .it .u8 (0 : Int), .it .u8 (0 : Int), .it .u8 (0 : Int), .it .u8 (0 : Int), .it .u8 (0 : Int), .it .u8 (0 : Int), .it .u8 (0 : Int), .it .u8 (0 : Int), .it .u8 (0 : Int), .it .u8 (0 : Int), .it .u8 (0 : Int), .it .u8 (0 : Int), .it .u8 (0 : Int), .it .u8 (0 : Int), .it .u8 (0 : Int), .it .u8 (0 : Int), .it .u8 (0 : Int), .it .u8 (0 : Int), .it .u8 (0 : Int), .it .u8 (0 : Int), .it .u8 (0 : Int), .it .u8 (0 : Int), .it .u8 (0 : Int), .it .u8 (0 : Int), .it .u8 (0 : Int), .it .u8 (0 : Int), .it .u8 (0 : Int), .it .u8 (0 : Int), .it .u8 (0 : Int), .it .u8 (0 : Int), .it .u8 (0 : Int), .it .u8 (0 : Int), .it .u8 (0 : Int), .it .u8 (0 : Int), .it .u8 (0 : Int), .it .u8 (0 : Int), .it .u8 (0 : Int), .it .u8 (0 : Int), .it .u8 (0 : Int), .it .u8 (0 : Int), .it .u8 (0 : Int), .it .u8 (0 : Int), .it .u8 (0 : Int), .it .u8 (0 : Int), .it .u8 (0 : Int), .it .u8 (0 : Int), .it .u8 (0 : Int), .it .u8 (0 : Int), .it .u8 (0 : Int), .it .u8 (0 : Int), .it .u8 (0 : Int), .it .u8 (0 : Int), .it .u8 (0 : Int), .it .u8 (0 : Int), .it .u8 (0 : Int), .it .u8 (0 : Int), .it .u8 (0 : Int), .it .u8 (0 : Int), .it .u8 (0 : Int), .it .u8 (0 : Int), .it .u8 (0 : Int), .it .u8 (0 : Int), .it .u8 (0 : Int), .it .u8 (0 : Int), .it .u8 (0 : Int), .it .u8 (0 : Int), .it .u8 (0 : Int), .it .u8 (0 : Int), .it .u8 (0 : Int), .it .u8 (0 : Int), .it .u8 (0 : Int), .it .u8 (0 : Int), .it .u8 (0 : Int), .it .u8 (0 : Int), .it .u8 (0 : Int), .it .u8 (0 : Int), .it .u8 (0 : Int), .it .u8 (0 : Int), .it .u8 (0 : Int), .it .u8 (0 : Int), .it .u8 (0 : Int), .it .u8 (0 : Int), .it .u8 (0 : Int), .it .u8 (0 : Int), .it .u8 (0 : Int), .it .u8 (0 : Int), .it .u8 (0 : Int), .it .u8 (0 : Int), .it .u8 (0 : Int), .it .u8 (0 : Int), .it .u8 (0 : Int), .it .u8 (0 : Int), .it .u8 (0 : Int), .it .u8 (0 : Int), .it .u8 (0 : Int), .it .u8 (0 : Int), .it .u8 (0 : Int), .it .u8 (0 : Int), .it .u8 (0 : Int), .it .u8 (0 : Int), .it .u8 (0 : Int), .it .u8 (0 : Int), .it .u8 (0 : Int), .it .u8 (0 : Int), .it .u8 (0 : Int), .it .u8 (0 : Int), .it .u8 (0 : Int), .it .u8 (0 : Int), .it .u8 (0 : Int), .it .u8 (0 : Int), .it .u8 (0 : Int), .it .u8 (0 : Int), .it .u8 (0 : Int), .it .u8 (0 : Int), .it .u8 (0 : Int), .it .u8 (0 : Int), .it .u8 (0 : Int), .it .u8 (0 : Int), .it .u8 (0 : Int), .it .u8 (0 : Int), .it .u8 (0 : Int), .it .u8 (0 : Int), .it .u8 (0 : Int), .it .u8 (0 : Int), .it .u8 (0 : Int), .it .u8 (0 : Int), .it .u8 (0 : Int), .it .u8 (0 : Int), .it .u8 (0 : Int), .it .u8 (0 : Int), .it .u8 (0 : Int), .it .u8 (0 : Int), .it .u8 (0 : Int), .it .u8 (0 : Int), .it .u8 (0 : Int), .it .u8 (0 : Int), .it .u8 (0 : Int), .it .u8 (0 : Int)]⟩
theorem ti111_ok : TyOK Tryd.prog 111 ti111 := TyOK.of (inf := Tryd.t111) Tryd.underlying111 (by kernel_rfl) (by kernel_rfl) (by kernel_rfl) (by kernel_rfl)
noncomputable def ti112 : TI := ⟨Tryd.t112.desc, 2, 2, [.it .u8 (0 : Int), .it .u8 (0 : Int)]⟩
theorem ti112_ok : TyOK Tryd.prog 112 ti112 := TyOK.of (inf := Tryd.t112) Tryd.underlying112 (by kernel_rfl) (by kernel_rfl) (by kernel_rfl) (by kernel_rfl)
noncomputable def ti113 : TI := ⟨Tryd.t112.desc, 2, 2, [.it .u8 (0 : Int), .it .u8 (0 : Int)]⟩
theorem ti113_ok : TyOK Tryd.prog 113 ti113 := TyOK.of (inf := Tryd.t113) Tryd.underlying113 (by kernel_rfl) (by kernel_rfl) (by kernel_rfl) (by kernel_rfl)
noncomputable def ti114 : TI := ⟨Tryd.t114.desc, 32, 32, [.it .u8 (0 : Int), .it .u8 (0 : Int), .it .u8 (0 : Int), .it .u8 (0 : Int), .it .u8 (0 : Int), .it .u8 (0 : Int), .it .u8 (0 : Int), .it .u8 (0 : Int), .it .u8 (0 : Int), .it .u8 (0 : Int), .it .u8 (0 : Int), .it .u8 (0 : Int), .it .u8 (0 : Int), .it .u8 (0 : Int), .it .u8 (0 : Int), .it .u8 (0 : Int), .it .u8 (0 : Int), .it .u8 (0 : Int), .it .u8 (0 : Int), .it .u8 (0 : Int), .it .u8 (0 : Int), .it .u8 (0 : Int), .it .u8 (0 : Int), .it .u8 (0 : Int), .it .u8 (0 : Int), .it .u8 (0 : Int), .it .u8 (0 : Int), .it .u8 (0 : Int), .it .u8 (0 : Int), .it .u8 (0 : Int), .it .u8 (0 : Int), .it .u8 (0 : Int)]⟩
theorem ti114_ok : TyOK Tryd.prog 114 ti114 := TyOK.of (inf := Tryd.t114) Tryd.underlying114 (by kernel_rfl) (by kernel_rfl) (by kernel_rfl) (by kernel_rfl)
noncomputable def ti116 : TI := ⟨Tryd.t116.desc, 1, 8, [.nf]⟩
theorem ti116_ok : TyOK Tryd.prog 116 ti116 := TyOK.of (inf := Tryd.t116) Tryd.underlying116 (by kernel_rfl) (by kernel_rfl) (by kernel_rfl) (by kernel_rfl)
noncomputable def ti117 : TI := ⟨Tryd.t117.desc, 4, 40, [.pn, .pn, .pn, .st (ByteArray.mk #[])]⟩
theorem ti117_ok : TyOK Tryd.prog 117 ti117 := TyOK.of (inf := Tryd.t117) Tryd.underlying117 (by kernel_rfl) (by kernel_rfl) (by kernel_rfl) (by kernel_rfl)
noncomputable def ti118 : TI := ⟨Tryd.t117.desc, 4, 40, [.pn, .pn, .pn, .st (ByteArray.mk #[])]⟩
theorem ti118_ok : TyOK Tryd.prog 118 ti118 := TyOK.of (inf := Tryd.t118) Tryd.underlying118 (by kernel_rfl) (by kernel_rfl) (by kernel_rfl) (by kernel_rfl)
noncomputable def ti119 : TI := ⟨Tryd.t119.desc, 0, 0, []⟩
theorem ti119_ok : TyOK Tryd.prog 119 ti119 := TyOK.of (inf := Tryd.t119) Tryd.underlying119 (by kernel_rfl) (by kernel_rfl) (by kernel_rfl) (by kernel_rfl)
noncomputable def ti120 : TI := ⟨Tryd.t120.desc, 0, 0, []⟩
theorem ti120_ok : TyOK Tryd.prog 120 ti120 := TyOK.of (inf := Tryd.t120) Tryd.underlying120 (by kernel_rfl) (by kernel_rfl) (by kernel_rfl) (by kernel_rfl)
noncomputable def ti121 : TI := ⟨Tryd.t120.desc, 0, 0, []⟩
theorem ti121_ok : TyOK Tryd.prog 121 ti121 := TyOK.of (inf := Tryd.t121) Tryd.underlying121 (by kernel_rfl) (by kernel_rfl) (by kernel_rfl) (by kernel_rfl)
noncomputable def ti122 : TI := ⟨Tryd.t122.desc, 1, 8, [.nf]⟩
theorem ti122_ok : TyOK Tryd.prog 122 ti122 := TyOK.of (inf := Tryd.t122) Tryd.underlying122 (by kernel_rfl) (by kernel_rfl) (by kernel_rfl) (by kernel_rfl)
noncomputable def ti123 : TI := ⟨Tryd.t5.desc, 1, 1, [.it .u8 (0 : Int)]⟩
theorem ti123_ok : TyOK Tryd.prog 123 ti123 := TyOK.of (inf := Tryd.t123) Tryd.underlying123 (by kernel_rfl) (by kernel_rfl) (by kernel_rfl) (by kernel_rfl)
noncomputable def ti124 : TI := ⟨Tryd.t5.desc, 1, 1, [.it .u8 (0 : Int)]⟩
theorem ti124_ok : TyOK Tryd.prog 124 ti124 := TyOK.of (inf := Tryd.t124) Tryd.underlying124 (by kernel_rfl) (by kernel_rfl) (by kernel_rfl) (by kernel_rfl)
noncomputable def ti125 : TI := ⟨Tryd.t125.desc, 1, 8, [.nf]⟩
theorem ti125_ok : TyOK Tryd.prog 125 ti125 := TyOK.of (inf := Tryd.t125) Tryd.underlying125 (by kernel_rfl) (by kernel_rfl) (by kernel_rfl) (by kernel_rfl)
noncomputable def ti126 : TI := ⟨Tryd.t21.desc, 1, 4, [.it .i32 (0 : Int)]⟩
theorem ti126_ok : TyOK Tryd.prog 126 ti126 := TyOK.of (inf := Tryd.t126) Tryd.underlying126 (by kernel_rfl) (by kernel_rfl) (by kernel_rfl) (by kernel_rfl)
noncomputable def ti127 : TI := ⟨Tryd.t21.desc, 1, 4, [.it .i32 (0 : Int)]⟩
theorem ti127_ok : TyOK Tryd.prog 127 ti127 := TyOK.of (inf := Tryd.t127) Tryd.underlying127 (by kernel_rfl) (by kernel_rfl) (by kernel_rfl) (by kernel_rfl)
noncomputable def ti128 : TI := ⟨Tryd.t128.desc, 11, 48, [.it .u64 (0 : Int), .it .u64 (0 : Int), .it .u32 (0 : Int), .it .u8 (0 : Int), .it .u8 (0 : Int), .it .u8 (0 : Int), .it .u8 (0 : Int), .nf, .pn, .it .i32 (0 : Int), .it .i32 (0 : Int)]⟩
theorem ti128_ok : TyOK Tryd.prog 128 ti128 := TyOK.of (inf := Tryd.t128) Tryd.underlying128 (by kernel_rfl) (by kernel_rfl) (by kernel_rfl) (by kernel_rfl)
noncomputable def ti129 : TI := ⟨Tryd.t128.desc, 11, 48, [.it .u64 (0 : Int), .it .u64 (0 : Int), .it .u32 (0 : Int), .it .u8 (0 : Int), .it .u8 (0 : Int), .it .u8 (0 : Int), .it .u8 (0 : Int), .nf, .pn, .it .i32 (0 : Int), .it .i32 (0 : Int)]⟩
theorem ti129_ok : TyOK Tryd.prog 129 ti129 := TyOK.of (inf := Tryd.t129) Tryd.underlying129 (by kernel_rfl) (by kernel_rfl) (by kernel_rfl) (by kernel_rfl)
noncomputable def ti130 : TI := ⟨Tryd.t130.desc, 1, 8, [.nf]⟩
theorem ti130_ok : TyOK Tryd.prog 130 ti130 := TyOK.of (inf := Tryd.t130) Tryd.underlying130 (by kernel_rfl) (by kernel_rfl) (by kernel_rfl) (by kernel_rfl)
noncomputable def tys : List (Nat × TI) := [(1, ti1), (2, ti2), (3, ti3), (4, ti4), (5, ti5), (6, ti6), (7, ti7), (8, ti8), (9, ti9), (10, ti10), (11, ti11), (12, ti12), (13, ti13), (14, ti14), (15, ti15), (16, ti16), (17, ti17), (18, ti18), (19, ti19), (21, ti21), (22, ti22), (23, ti23), (24, ti24), (26, ti26), (27, ti27), (28, ti28), (29, ti29), (30, ti30), (31, ti31), (32, ti32), (33, ti33), (35, ti35), (36, ti36), (37, ti37), (38, ti38), (39, ti39), (40, ti40), (42, ti42), (43, ti43), (44, ti44), (45, ti45), (46, ti46), (47, ti47), (48, ti48), (50, ti50), (52, ti52), (53, ti53), (54, ti54), (55, ti55), (56, ti56), (57, ti57), (58, ti58), (59, ti59), (60, ti60), (61, ti61), (62, ti62), (63, ti63), (64, ti64), (65, ti65), (66, ti66), (67, ti67), (68, ti68), (69, ti69), (70, ti70), (71, ti71), (72, ti72), (73, ti73), (74, ti74), (75, ti75), (76, ti76), (77, ti77), (78, ti78), (79, ti79), (80, ti80), (81, ti81), (82, ti82), (83, ti83), (84, ti84), (85, ti85), (86, ti86), (87, ti87), (88, ti88), (89, ti89), (90, ti90), (91, ti91), (92, ti92), (93, ti93), (94, ti94), (95, ti95), (96, ti96), (97, ti97), (101, ti101), (102, ti102), (103, ti103), (105, ti105), (106, ti106), (107, ti107), (108, ti108), (109, ti109), (110, ti110), (111, ti111), (112, ti112), (113, ti113), (114, ti114), (116, ti116), (117, ti117), (118, ti118), (119, ti119), (120, ti120), (121, ti121), (122, ti122), (123, ti123), (124, ti124), (125, ti125), (126, ti126), (127, ti127), (128, ti128), (129, ti129), (130, ti130)]
theorem mo : Tryd.prog.follows .mixedOrders = true := by kernel_rfl
theorem tys_ok : TysOK Tryd.prog tys := (TysOK.cons ti1_ok (TysOK.cons ti2_ok (TysOK.cons ti3_ok (TysOK.cons ti4_ok (TysOK.cons ti5_ok (TysOK.cons ti6_ok (TysOK.cons ti7_ok (TysOK.cons ti8_ok (TysOK.cons ti9_ok (TysOK.cons ti10_ok (TysOK.cons ti11_ok (TysOK.cons ti12_ok (TysOK.cons ti13_ok (TysOK.cons ti14_ok (TysOK.cons ti15_ok (TysOK.cons ti16_ok (TysOK.cons ti17_ok (TysOK.cons ti18_ok (TysOK.cons ti19_ok (TysOK.cons ti21_ok (TysOK.cons ti22_ok (TysOK.cons ti23_ok (TysOK.cons ti24_ok (TysOK.cons ti26_ok (TysOK.cons ti27_ok (TysOK.cons ti28_ok (TysOK.cons ti29_ok (TysOK.cons ti30_ok (TysOK.cons ti31_ok (TysOK.cons ti32_ok (TysOK.cons ti33_ok (TysOK.cons ti35_ok (TysOK.cons ti36_ok (TysOK.cons ti37_ok (TysOK.cons ti38_ok (TysOK.cons ti39_ok (TysOK.cons ti40_ok (TysOK.cons ti42_ok (TysOK.cons ti43_ok (TysOK.cons ti44_ok (TysOK.cons ti45_ok (TysOK.cons ti46_ok (TysOK.cons ti47_ok (TysOK.cons ti48_ok (TysOK.cons ti50_ok (TysOK.cons ti52_ok (TysOK.cons ti53_ok (TysOK.cons ti54_ok (TysOK.cons ti55_ok (TysOK.cons ti56_ok (TysOK.cons ti57_ok (TysOK.cons ti58_ok (TysOK.cons ti59_ok (TysOK.cons ti60_ok (TysOK.cons ti61_ok (TysOK.cons ti62_ok (TysOK.cons ti63_ok (TysOK.cons ti64_ok (TysOK.cons ti65_ok (TysOK.cons ti66_ok (TysOK.cons ti67_ok (TysOK.cons ti68_ok (TysOK.cons ti69_ok (TysOK.cons ti70_ok (TysOK.cons ti71_ok (TysOK.cons ti72_ok (TysOK.cons ti73_ok (TysOK.cons ti74_ok (TysOK.cons ti75_ok (TysOK.cons ti76_ok (TysOK.cons ti77_ok (TysOK.cons ti78_ok (TysOK.cons ti79_ok (TysOK.cons ti80_ok (TysOK.cons ti81_ok (TysOK.cons ti82_ok (TysOK.cons ti83_ok (TysOK.cons ti84_ok (TysOK.cons ti85_ok (TysOK.cons ti86_ok (TysOK.cons ti87_ok (TysOK.cons ti88_ok (TysOK.cons ti89_ok (TysOK.cons ti90_ok (TysOK.cons ti91_ok (TysOK.cons ti92_ok (TysOK.cons ti93_ok (TysOK.cons ti94_ok (TysOK.cons ti95_ok (TysOK.cons ti96_ok (TysOK.cons ti97_ok (TysOK.cons ti101_ok (TysOK.cons ti102_ok (TysOK.cons ti103_ok (TysOK.cons ti105_ok (TysOK.cons ti106_ok (TysOK.cons ti107_ok (TysOK.cons ti108_ok (TysOK.cons ti109_ok (TysOK.cons ti110_ok (TysOK.cons ti111_ok (TysOK.cons ti112_ok (TysOK.cons ti113_ok (TysOK.cons ti114_ok (TysOK.cons ti116_ok (TysOK.cons ti117_ok (TysOK.cons ti118_ok (TysOK.cons ti119_ok (TysOK.cons ti120_ok (TysOK.cons ti121_ok (TysOK.cons ti122_ok (TysOK.cons ti123_ok (TysOK.cons ti124_ok (TysOK.cons ti125_ok (TysOK.cons ti126_ok (TysOK.cons ti127_ok (TysOK.cons ti128_ok (TysOK.cons ti129_ok (TysOK.cons ti130_ok TysOK.nil)))))))))))))))))))))))))))))))))))))))))))))))))))))))))))))))))))))))))))))))))))))))))))))))))))))))))))))))))))))))
/-! ### spec_l01Split -/
noncomputable def spec_l01Split.b : Code := bodyOf Tryd.f28
noncomputable def spec_l01Split.l4.s (x0 : ByteArray) (x1 : Int) (x2 : Nat) (x3 : Int) (x4 : Int) (x5 : List ByteArray) : T ((Nat × Int × Int × List ByteArray) ⊕ (Nat × Int × List ByteArray)) :=
  .br (decide (x4 < ((ByteArray.size x0 : Nat) : Int)))
  (.br (bounds x4 (ByteArray.size x0))
   (.br ((byteAt x0 x4) == x1)
    (.br (decide (0 ≤ x3) && decide (x3 ≤ x4) && decide (x4 ≤ ((ByteArray.size x0 : Nat) : Int)))
     (.br ((Nat.ble 1 (List.length [(ByteArray.extract x0 (Int.toNat x3) (Int.toNat x4))])) && (Nat.beq (List.length x5) (x2 * 1) && Nat.ble ((x2 + 1) * 16) 35184372088832 && Nat.ble (x2 + 1) 35184372088832))
      (.leaf (.inl ((x2 + 1), (IntKind.wrap .i64 (x4 + (1 : Int))), (IntKind.wrap .i64 (x4 + (1 : Int))), (x5 ++ (List.take 1 (List.drop 0 [(ByteArray.extract x0 (Int.toNat x3) (Int.toNat x4))]))))))
      .bad)
     .bad)
    (.leaf (.inl (x2, x3, (IntKind.wrap .i64 (x4 + (1 : Int))), x5))))
   .bad)
  (.leaf (.inr (x2, x3, x5)))
noncomputable def spec_l01Split.l4.st (p : ByteArray × Int) (x : Nat × Int × Int × List ByteArray) : T ((Nat × Int × Int × List ByteArray) ⊕ (Nat × Int × List ByteArray)) := spec_l01Split.l4.s p.1 p.2 x.1 x.2.1 x.2.2.1 x.2.2.2
noncomputable def spec_l01Split.l4.r (p : ByteArray × Int) (x : Nat × Int × Int × List ByteArray) : Option (Nat × Int × List ByteArray) := iterT (spec_l01Split.l4.st p) manyRounds x
def spec_l01Split.l4.cd : Cd ((ByteArray × Int) × (Nat × Int × Int × List ByteArray)) (List V × Hp) := Cd.iso (Cd.pair (Cd.cons Cd.st (Cd.cons (Cd.it .u8) (Cd.cons (Cd.own 0) (Cd.cons (Cd.it .i64) (Cd.cons (Cd.it .i64) Cd.nil))))) (Cd.cons (Cd.rw 9 1 Cd.ss) Cd.nil)) (fun a => ((a.1.1, a.1.2.1), (a.1.2.2.1, a.1.2.2.2.1, a.1.2.2.2.2.1, a.2.1))) (fun a => ((a.1.1, (a.1.2, (a.2.1, (a.2.2.1, (a.2.2.2.1, ()))))), (a.2.2.2.2, ()))) (fun _ => rfl)
def spec_l01Split.l4.out (p : ByteArray × Int) : (Nat × Int × List ByteArray) → X × List V × Hp := (fun r => (.ex 0, [.st p.1, .own 0 r.1, .it .i64 r.2.1], [some ⟨true, 9, 1, .ss r.2.2⟩]))
def spec_l01Split.l4.ex (p : ByteArray × Int) : (Nat × Int × List ByteArray) → T (X × List V × Hp) := leafT (fun r => (.ex 0, [.st p.1, .own 0 r.1, .it .i64 r.2.1], [some ⟨true, 9, 1, .ss r.2.2⟩]))
noncomputable def spec_l01Split.l4.c : List V → Hp → T (X × List V × Hp) := cdL spec_l01Split.l4.cd fun x => optT (spec_l01Split.l4.r x.1 x.2) (spec_l01Split.l4.ex x.1)
noncomputable def spec_l01Split.C : Ctx := { ty := tys, fn := [], lp := [(4, ⟨[0, 1, 5, 6, 7], [0, 5, 6], spec_l01Split.l4.c⟩)], n := 35, k := 0 }
theorem spec_l01Split.hC : CtxOK Tryd.prog spec_l01Split.C := CtxOK.of mo tys_ok FnsOK.nil
noncomputable def spec_l01Split.b4 : Code := (nthC (loopsOf spec_l01Split.b) 0)
theorem spec_l01Split.lp4 : LpOK Tryd.prog spec_l01Split.C spec_l01Split.b4 := (LpOK.nil (by kernel_rfl))
theorem spec_l01Split.l4.round (p : ByteArray × Int) (s : Nat × Int × Int × List ByteArray) : roundL spec_l01Split.C [0, 1, 5, 6, 7] [0, 5, 6] spec_l01Split.b4 (spec_l01Split.l4.cd.enc (p, s)).1 (spec_l01Split.l4.cd.enc (p, s)).2 = (spec_l01Split.l4.st p s).map (encSum (fun s => spec_l01Split.l4.cd.enc (p, s)) (spec_l01Split.l4.out p)) := by kernel_rfl
theorem spec_l01Split.l4.lok : LoopOK Tryd.prog spec_l01Split.C ⟨[0, 1, 5, 6, 7], [0, 5, 6], spec_l01Split.l4.c⟩ spec_l01Split.b4 := loop_cd spec_l01Split.l4.cd spec_l01Split.hC spec_l01Split.lp4 spec_l01Split.l4.round fun p => Gets.leaf
theorem spec_l01Split.lp : LpOK Tryd.prog spec_l01Split.C spec_l01Split.b := lp_of (by kernel_rfl) (LpsOK.cons (k := 4) (by kernel_rfl) (by kernel_rfl) spec_l01Split.l4.lok LpsOK.nil)
noncomputable def spec_l01Split.t (x0 : ByteArray) (x1 : Int) : T (Nat × List ByteArray) :=
  .br (Option.isSome (spec_l01Split.l4.r (x0, x1) (0, (0 : Int), (0 : Int), [])))
  (.br (decide (0 ≤ (Option.getD (spec_l01Split.l4.r (x0, x1) (0, (0 : Int), (0 : Int), [])) default).2.1) && decide ((Option.getD (spec_l01Split.l4.r (x0, x1) (0, (0 : Int), (0 : Int), [])) default).2.1 ≤ ((ByteArray.size x0 : Nat) : Int)) && decide (((ByteArray.size x0 : Nat) : Int) ≤ ((ByteArray.size x0 : Nat) : Int)))
   (.br ((Nat.ble 1 (List.length [(ByteArray.extract x0 (Int.toNat (Option.getD (spec_l01Split.l4.r (x0, x1) (0, (0 : Int), (0 : Int), [])) default).2.1) (Int.toNat ((ByteArray.size x0 : Nat) : Int)))])) && (Nat.beq (List.length ((Option.getD (spec_l01Split.l4.r (x0, x1) (0, (0 : Int), (0 : Int), [])) default).2.2)) ((Option.getD (spec_l01Split.l4.r (x0, x1) (0, (0 : Int), (0 : Int), [])) default).1 * 1) && Nat.ble (((Option.getD (spec_l01Split.l4.r (x0, x1) (0, (0 : Int), (0 : Int), [])) default).1 + 1) * 16) 35184372088832 && Nat.ble ((Option.getD (spec_l01Split.l4.r (x0, x1) (0, (0 : Int), (0 : Int), [])) default).1 + 1) 35184372088832))
    (.leaf (((Option.getD (spec_l01Split.l4.r (x0, x1) (0, (0 : Int), (0 : Int), [])) default).1 + 1), ((Option.getD (spec_l01Split.l4.r (x0, x1) (0, (0 : Int), (0 : Int), [])) default).2.2 ++ (List.take 1 (List.drop 0 [(ByteArray.extract x0 (Int.toNat (Option.getD (spec_l01Split.l4.r (x0, x1) (0, (0 : Int), (0 : Int), [])) default).2.1) (Int.toNat ((ByteArray.size x0 : Nat) : Int)))])))))
    .bad)
   .bad)
  .bad
noncomputable def spec_l01Split (x0 : ByteArray) (x1 : Int) : Nat × List ByteArray := (spec_l01Split.t x0 x1).val
noncomputable def spec_l01Split.ok (x0 : ByteArray) (x1 : Int) : Bool := (spec_l01Split.t x0 x1).ok
def spec_l01Split.cd : Cd (ByteArray × Int) (List V × Hp) := Cd.iso (Cd.pair (Cd.cons Cd.st (Cd.cons (Cd.it .u8) Cd.nil)) Cd.nil) (fun a => (a.1.1, a.1.2.1)) (fun a => ((a.1, (a.2, ())), ())) (fun _ => rfl)
noncomputable def spec_l01Split.tr (a : ByteArray × Int) : T (Nat × List ByteArray) := spec_l01Split.t a.1 a.2
def spec_l01Split.enc : (ByteArray × Int) → (Nat × List ByteArray) → V × Hp := fun a r => (.own 0 r.1, [some ⟨true, 9, 1, .ss r.2⟩])
noncomputable def spec_l01Split.c : List V → Hp → T (V × Hp) := cdE spec_l01Split.cd (fun a => .br (spec_l01Split.ok a.1 a.2) (.leaf (spec_l01Split.enc a (spec_l01Split a.1 a.2))) .bad)
theorem spec_l01Split.run (a : ByteArray × Int) : runF spec_l01Split.C Tryd.f28.results.toList spec_l01Split.b (spec_l01Split.cd.enc a).1 (spec_l01Split.cd.enc a).2 = (spec_l01Split.tr a).map (spec_l01Split.enc a) := by kernel_rfl
theorem spec_l01Split.cok : OKe Tryd.prog 28 spec_l01Split.c := con_e' spec_l01Split.cd spec_l01Split.hC Tryd.func28 (by kernel_rfl) (by kernel_rfl) (by kernel_rfl) spec_l01Split.lp (fun a => by kernel_rfl) spec_l01Split.run (Tells.ok (tree := spec_l01Split.tr))
/-! ### spec_l01Bits -/
noncomputable def spec_l01Bits.b : Code := bodyOf Tryd.f64
noncomputable def spec_l01Bits.C : Ctx := { ty := tys, fn := [(75, .q f32bitsC)], lp := [], n := 8, k := 0 }
theorem spec_l01Bits.hC : CtxOK Tryd.prog spec_l01Bits.C := CtxOK.of mo tys_ok (FnsOK.cons (f32bits_ok Tryd.func75 (by kernel_rfl) (by kernel_rfl) (by kernel_rfl) (by kernel_rfl)) FnsOK.nil)
theorem spec_l01Bits.lp : LpOK Tryd.prog spec_l01Bits.C spec_l01Bits.b := (LpOK.nil (by kernel_rfl))
noncomputable def spec_l01Bits.t (x0 : Nat) : T Int :=
  .br (fne .f32 x0 x0)
  (.leaf (2143289344 : Int))
  (.br (isNaN .f32 x0)
   .bad
   (.leaf ((x0 : Nat) : Int)))
noncomputable def spec_l01Bits (x0 : Nat) : Int := (spec_l01Bits.t x0).val
noncomputable def spec_l01Bits.ok (x0 : Nat) : Bool := (spec_l01Bits.t x0).ok
def spec_l01Bits.cd : Cd Nat (List V × Hp) := Cd.iso (Cd.pair (Cd.cons (Cd.fl .f32) Cd.nil) Cd.nil) (fun a => a.1.1) (fun a => ((a, ()), ())) (fun _ => rfl)
noncomputable def spec_l01Bits.tr (a : Nat) : T Int := spec_l01Bits.t a
def spec_l01Bits.enc : Nat → Int → V := fun a r => .it .u32 r
noncomputable def spec_l01Bits.c : List V → Hp → T V := cdQ spec_l01Bits.cd (fun a => .br (spec_l01Bits.ok a) (.leaf (spec_l01Bits.enc a (spec_l01Bits a))) .bad)
theorem spec_l01Bits.run (a : Nat) : runF spec_l01Bits.C Tryd.f64.results.toList spec_l01Bits.b (spec_l01Bits.cd.enc a).1 (spec_l01Bits.cd.enc a).2 = (spec_l01Bits.tr a).map fun r => (spec_l01Bits.enc a r, (spec_l01Bits.cd.enc a).2) := by kernel_rfl
theorem spec_l01Bits.cok : OKq Tryd.prog 64 spec_l01Bits.c := con_q' spec_l01Bits.cd spec_l01Bits.hC Tryd.func64 (by kernel_rfl) (by kernel_rfl) (by kernel_rfl) spec_l01Bits.lp (fun a => by kernel_rfl) spec_l01Bits.run (Tells.ok (tree := spec_l01Bits.tr))
/-! ### spec_l01Read -/
noncomputable def spec_l01Read.b : Code := bodyOf Tryd.f29
noncomputable def spec_l01Read.l5.s (x0 : ByteArray) (x1 : Int) (x2 : Int) : T ((Int × Int) ⊕ ((Nat × Bool × Int) ⊕ Int)) :=
  .br (decide (x2 < (8 : Int)))
  (.br (bounds x2 (ByteArray.size x0))
   (.br (decide ((byteAt x0 x2) ≥ (48 : Int)))
    (.br (decide ((byteAt x0 x2) ≤ (57 : Int)))
     (.leaf (.inl ((IntKind.wrap .u32 ((IntKind.wrap .u32 (x1 * (16 : Int))) + (IntKind.wrap .u32 (IntKind.wrap .u8 ((byteAt x0 x2) - (48 : Int)))))), (IntKind.wrap .i64 (x2 + (1 : Int))))))
     (.br (decide ((byteAt x0 x2) ≥ (97 : Int)))
      (.br (decide ((byteAt x0 x2) ≤ (102 : Int)))
       (.leaf (.inl ((IntKind.wrap .u32 ((IntKind.wrap .u32 ((IntKind.wrap .u32 (x1 * (16 : Int))) + (IntKind.wrap .u32 (IntKind.wrap .u8 ((byteAt x0 x2) - (97 : Int)))))) + (10 : Int))), (IntKind.wrap .i64 (x2 + (1 : Int))))))
       (.leaf (.inr (.inl (0, false, x1)))))
      (.leaf (.inr (.inl (0, false, x1))))))
    (.br (decide ((byteAt x0 x2) ≥ (97 : Int)))
     (.br (decide ((byteAt x0 x2) ≤ (102 : Int)))
      (.leaf (.inl ((IntKind.wrap .u32 ((IntKind.wrap .u32 ((IntKind.wrap .u32 (x1 * (16 : Int))) + (IntKind.wrap .u32 (IntKind.wrap .u8 ((byteAt x0 x2) - (97 : Int)))))) + (10 : Int))), (IntKind.wrap .i64 (x2 + (1 : Int))))))
      (.leaf (.inr (.inl (0, false, x1)))))
     (.leaf (.inr (.inl (0, false, x1))))))
   .bad)
  (.leaf (.inr (.inr x1)))
noncomputable def spec_l01Read.l5.st (p : ByteArray) (x : Int × Int) : T ((Int × Int) ⊕ ((Nat × Bool × Int) ⊕ Int)) := spec_l01Read.l5.s p x.1 x.2
noncomputable def spec_l01Read.l5.r (p : ByteArray) (x : Int × Int) : Option ((Nat × Bool × Int) ⊕ Int) := iterT (spec_l01Read.l5.st p) manyRounds x
def spec_l01Read.l5.cd : Cd (ByteArray × (Int × Int)) (List V × Hp) := Cd.iso (Cd.pair (Cd.cons Cd.st (Cd.cons (Cd.it .u32) (Cd.cons (Cd.it .i64) Cd.nil))) Cd.nil) (fun a => (a.1.1, (a.1.2.1, a.1.2.2.1))) (fun a => ((a.1, (a.2.1, (a.2.2, ()))), ())) (fun _ => rfl)
def spec_l01Read.l5.out (p : ByteArray) : ((Nat × Bool × Int) ⊕ Int) → X × List V × Hp := sumO (fun r => (.ret, [.fl .f32 r.1, .bo r.2.1, .it .u32 r.2.2], [])) (fun r => (.ex 0, [.unk, .unk, .it .u32 r], []))
def spec_l01Read.l5.ex (p : ByteArray) : ((Nat × Bool × Int) ⊕ Int) → T (X × List V × Hp) := sumT (leafT (fun r => (.ret, [.fl .f32 r.1, .bo r.2.1, .it .u32 r.2.2], []))) (leafT (fun r => (.ex 0, [.unk, .unk, .it .u32 r], [])))
noncomputable def spec_l01Read.l5.c : List V → Hp → T (X × List V × Hp) := cdL spec_l01Read.l5.cd fun x => optT (spec_l01Read.l5.r x.1 x.2) (spec_l01Read.l5.ex x.1)
noncomputable def spec_l01Read.C : Ctx := { ty := tys, fn := [(63, .q f32fromC), (64, .q spec_l01Bits.c)], lp := [(5, ⟨[0, 4, 5], [2, 3, 4], spec_l01Read.l5.c⟩)], n := 52, k := 0 }
theorem spec_l01Read.hC : CtxOK Tryd.prog spec_l01Read.C := CtxOK.of mo tys_ok (FnsOK.cons (f32from_ok Tryd.func63 (by kernel_rfl) (by kernel_rfl) (by kernel_rfl) (by kernel_rfl)) (FnsOK.cons spec_l01Bits.cok FnsOK.nil))
noncomputable def spec_l01Read.b5 : Code := (nthC (loopsOf spec_l01Read.b) 0)
theorem spec_l01Read.lp5 : LpOK Tryd.prog spec_l01Read.C spec_l01Read.b5 := (LpOK.nil (by kernel_rfl))
theorem spec_l01Read.l5.round (p : ByteArray) (s : Int × Int) : roundL spec_l01Read.C [0, 4, 5] [2, 3, 4] spec_l01Read.b5 (spec_l01Read.l5.cd.enc (p, s)).1 (spec_l01Read.l5.cd.enc (p, s)).2 = (spec_l01Read.l5.st p s).map (encSum (fun s => spec_l01Read.l5.cd.enc (p, s)) (spec_l01Read.l5.out p)) := by kernel_rfl
theorem spec_l01Read.l5.lok : LoopOK Tryd.prog spec_l01Read.C ⟨[0, 4, 5], [2, 3, 4], spec_l01Read.l5.c⟩ spec_l01Read.b5 := loop_cd spec_l01Read.l5.cd spec_l01Read.hC spec_l01Read.lp5 spec_l01Read.l5.round fun p => (Gets.sum Gets.leaf Gets.leaf)
theorem spec_l01Read.lp : LpOK Tryd.prog spec_l01Read.C spec_l01Read.b := lp_of (by kernel_rfl) (LpsOK.cons (k := 5) (by kernel_rfl) (by kernel_rfl) spec_l01Read.l5.lok LpsOK.nil)
noncomputable def spec_l01Read.t (x0 : ByteArray) : T (Nat × Bool) :=
  .br (((ByteArray.size x0 : Nat) : Int) != (8 : Int))
  (.leaf (0, false))
  (.br (Option.isSome (spec_l01Read.l5.r x0 ((0 : Int), (0 : Int))))
   (.br (Sum.isLeft (Option.getD (spec_l01Read.l5.r x0 ((0 : Int), (0 : Int))) default))
    (.leaf ((getLeftD (Option.getD (spec_l01Read.l5.r x0 ((0 : Int), (0 : Int))) default)).1, (getLeftD (Option.getD (spec_l01Read.l5.r x0 ((0 : Int), (0 : Int))) default)).2.1))
    (.br (spec_l01Bits.ok (nz .f32 (Int.toNat (getRightD (Option.getD (spec_l01Read.l5.r x0 ((0 : Int), (0 : Int))) default)))))
     (.leaf ((nz .f32 (Int.toNat (getRightD (Option.getD (spec_l01Read.l5.r x0 ((0 : Int), (0 : Int))) default)))), ((spec_l01Bits (nz .f32 (Int.toNat (getRightD (Option.getD (spec_l01Read.l5.r x0 ((0 : Int), (0 : Int))) default))))) == (getRightD (Option.getD (spec_l01Read.l5.r x0 ((0 : Int), (0 : Int))) default)))))
     .bad))
   .bad)
noncomputable def spec_l01Read (x0 : ByteArray) : Nat × Bool := (spec_l01Read.t x0).val
noncomputable def spec_l01Read.ok (x0 : ByteArray) : Bool := (spec_l01Read.t x0).ok
def spec_l01Read.cd : Cd ByteArray (List V × Hp) := Cd.iso (Cd.pair (Cd.cons Cd.st Cd.nil) Cd.nil) (fun a => a.1.1) (fun a => ((a, ()), ())) (fun _ => rfl)
noncomputable def spec_l01Read.tr (a : ByteArray) : T (Nat × Bool) := spec_l01Read.t a
def spec_l01Read.enc : ByteArray → (Nat × Bool) → V := fun a r => .tup [.fl .f32 r.1, .bo r.2]
noncomputable def spec_l01Read.c : List V → Hp → T V := cdQ spec_l01Read.cd (fun a => .br (spec_l01Read.ok a) (.leaf (spec_l01Read.enc a (spec_l01Read a))) .bad)
theorem spec_l01Read.run (a : ByteArray) : runF spec_l01Read.C Tryd.f29.results.toList spec_l01Read.b (spec_l01Read.cd.enc a).1 (spec_l01Read.cd.enc a).2 = (spec_l01Read.tr a).map fun r => (spec_l01Read.enc a r, (spec_l01Read.cd.enc a).2) := by kernel_rfl
theorem spec_l01Read.cok : OKq Tryd.prog 29 spec_l01Read.c := con_q' spec_l01Read.cd spec_l01Read.hC Tryd.func29 (by kernel_rfl) (by kernel_rfl) (by kernel_rfl) spec_l01Read.lp (fun a => by kernel_rfl) spec_l01Read.run (Tells.ok (tree := spec_l01Read.tr))
/-! ### spec_l04Rate -/
noncomputable def spec_l04Rate.b : Code := bodyOf Tryd.f62
noncomputable def spec_l04Rate.C : Ctx := { ty := tys, fn := [], lp := [], n := 9, k := 0 }
theorem spec_l04Rate.hC : CtxOK Tryd.prog spec_l04Rate.C := CtxOK.of mo tys_ok FnsOK.nil
theorem spec_l04Rate.lp : LpOK Tryd.prog spec_l04Rate.C spec_l04Rate.b := (LpOK.nil (by kernel_rfl))
noncomputable def spec_l04Rate.t (x0 : Nat) : T Bool :=
  .br (fge .f32 x0 0)
  (.leaf (fle .f32 x0 1149239296))
  (.leaf false)
noncomputable def spec_l04Rate (x0 : Nat) : Bool := (spec_l04Rate.t x0).val
def spec_l04Rate.cd : Cd Nat (List V × Hp) := Cd.iso (Cd.pair (Cd.cons (Cd.fl .f32) Cd.nil) Cd.nil) (fun a => a.1.1) (fun a => ((a, ()), ())) (fun _ => rfl)
noncomputable def spec_l04Rate.tr (a : Nat) : T Bool := spec_l04Rate.t a
def spec_l04Rate.enc : Nat → Bool → V := fun a r => .bo r
noncomputable def spec_l04Rate.c : List V → Hp → T V := cdQ spec_l04Rate.cd (fun a => .leaf (spec_l04Rate.enc a (spec_l04Rate a)))
theorem spec_l04Rate.run (a : Nat) : runF spec_l04Rate.C Tryd.f62.results.toList spec_l04Rate.b (spec_l04Rate.cd.enc a).1 (spec_l04Rate.cd.enc a).2 = (spec_l04Rate.tr a).map fun r => (spec_l04Rate.enc a r, (spec_l04Rate.cd.enc a).2) := by kernel_rfl
theorem spec_l04Rate.cok : OKq Tryd.prog 62 spec_l04Rate.c := con_q' spec_l04Rate.cd spec_l04Rate.hC Tryd.func62 (by kernel_rfl) (by kernel_rfl) (by kernel_rfl) spec_l04Rate.lp (fun a => by kernel_rfl) spec_l04Rate.run (Tells.val (tree := spec_l04Rate.tr) fun a => by kernel_rfl)
/-! ### spec_l01Part -/
noncomputable def spec_l01Part.b : Code := bodyOf Tryd.f65
noncomputable def spec_l01Part.C : Ctx := { ty := tys, fn := [], lp := [], n := 9, k := 0 }
theorem spec_l01Part.hC : CtxOK Tryd.prog spec_l01Part.C := CtxOK.of mo tys_ok FnsOK.nil
theorem spec_l01Part.lp : LpOK Tryd.prog spec_l01Part.C spec_l01Part.b := (LpOK.nil (by kernel_rfl))
noncomputable def spec_l01Part.t (x0 : Nat) : T Bool :=
  .br (fge .f32 x0 0)
  (.leaf (fle .f32 x0 1065353216))
  (.leaf false)
noncomputable def spec_l01Part (x0 : Nat) : Bool := (spec_l01Part.t x0).val
def spec_l01Part.cd : Cd Nat (List V × Hp) := Cd.iso (Cd.pair (Cd.cons (Cd.fl .f32) Cd.nil) Cd.nil) (fun a => a.1.1) (fun a => ((a, ()), ())) (fun _ => rfl)
noncomputable def spec_l01Part.tr (a : Nat) : T Bool := spec_l01Part.t a
def spec_l01Part.enc : Nat → Bool → V := fun a r => .bo r
noncomputable def spec_l01Part.c : List V → Hp → T V := cdQ spec_l01Part.cd (fun a => .leaf (spec_l01Part.enc a (spec_l01Part a)))
theorem spec_l01Part.run (a : Nat) : runF spec_l01Part.C Tryd.f65.results.toList spec_l01Part.b (spec_l01Part.cd.enc a).1 (spec_l01Part.cd.enc a).2 = (spec_l01Part.tr a).map fun r => (spec_l01Part.enc a r, (spec_l01Part.cd.enc a).2) := by kernel_rfl
theorem spec_l01Part.cok : OKq Tryd.prog 65 spec_l01Part.c := con_q' spec_l01Part.cd spec_l01Part.hC Tryd.func65 (by kernel_rfl) (by kernel_rfl) (by kernel_rfl) spec_l01Part.lp (fun a => by kernel_rfl) spec_l01Part.run (Tells.val (tree := spec_l01Part.tr) fun a => by kernel_rfl)
/-! ### spec_l04Ok -/
noncomputable def spec_l04Ok.b : Code := bodyOf Tryd.f30
noncomputable def spec_l04Ok.C : Ctx := { ty := tys, fn := [(62, .q spec_l04Rate.c), (65, .q spec_l01Part.c)], lp := [], n := 21, k := 0 }
theorem spec_l04Ok.hC : CtxOK Tryd.prog spec_l04Ok.C := CtxOK.of mo tys_ok (FnsOK.cons spec_l04Rate.cok (FnsOK.cons spec_l01Part.cok FnsOK.nil))
theorem spec_l04Ok.lp : LpOK Tryd.prog spec_l04Ok.C spec_l04Ok.b := (LpOK.nil (by kernel_rfl))
noncomputable def spec_l04Ok.t (x0 : Nat) (x1 : Nat) (x2 : Nat) (x3 : Nat) : T Bool :=
  .br (spec_l04Rate x0)
  (.br (spec_l04Rate x1)
   (.br (spec_l04Rate x2)
    (.leaf (spec_l01Part x3))
    (.leaf false))
   (.leaf false))
  (.leaf false)
noncomputable def spec_l04Ok (x0 : Nat) (x1 : Nat) (x2 : Nat) (x3 : Nat) : Bool := (spec_l04Ok.t x0 x1 x2 x3).val
def spec_l04Ok.cd : Cd (Nat × Nat × Nat × Nat) (List V × Hp) := Cd.iso (Cd.pair (Cd.cons (Cd.agg (Cd.cons (Cd.fl .f32) (Cd.cons (Cd.fl .f32) (Cd.cons (Cd.fl .f32) (Cd.cons (Cd.fl .f32) Cd.nil))))) Cd.nil) Cd.nil) (fun a => (a.1.1.1, a.1.1.2.1, a.1.1.2.2.1, a.1.1.2.2.2.1)) (fun a => (((a.1, (a.2.1, (a.2.2.1, (a.2.2.2, ())))), ()), ())) (fun _ => rfl)
noncomputable def spec_l04Ok.tr (a : Nat × Nat × Nat × Nat) : T Bool := spec_l04Ok.t a.1 a.2.1 a.2.2.1 a.2.2.2
def spec_l04Ok.enc : (Nat × Nat × Nat × Nat) → Bool → V := fun a r => .bo r
noncomputable def spec_l04Ok.c : List V → Hp → T V := cdQ spec_l04Ok.cd (fun a => .leaf (spec_l04Ok.enc a (spec_l04Ok a.1 a.2.1 a.2.2.1 a.2.2.2)))
theorem spec_l04Ok.run (a : Nat × Nat × Nat × Nat) : runF spec_l04Ok.C Tryd.f30.results.toList spec_l04Ok.b (spec_l04Ok.cd.enc a).1 (spec_l04Ok.cd.enc a).2 = (spec_l04Ok.tr a).map fun r => (spec_l04Ok.enc a r, (spec_l04Ok.cd.enc a).2) := by kernel_rfl
theorem spec_l04Ok.cok : OKq Tryd.prog 30 spec_l04Ok.c := con_q' spec_l04Ok.cd spec_l04Ok.hC Tryd.func30 (by kernel_rfl) (by kernel_rfl) (by kernel_rfl) spec_l04Ok.lp (fun a => by kernel_rfl) spec_l04Ok.run (Tells.val (tree := spec_l04Ok.tr) fun a => by kernel_rfl)
/-! ### spec_ReadStone -/
noncomputable def spec_ReadStone.b : Code := bodyOf Tryd.f5
noncomputable def spec_ReadStone.l6.s (x0 : Nat) (x1 : Int) (x2 : Int) (x3 : Nat) (x4 : Nat) (x5 : Nat) (x6 : Nat) (x7 : List ByteArray) (x8 : List Nat) : T ((Int × List Nat) ⊕ ((Int × Nat × Nat × Nat × Nat × List Nat) ⊕ (List Nat))) :=
  .br (decide (x1 < (4 : Int)))
  (.br (bounds x1 x0)
   (.br (Nat.ble ((Int.toNat x1 * 1) + 1) (List.length x7))
    (.br (spec_l01Read.ok (List.getD x7 (Int.toNat x1 * 1) ByteArray.empty))
     (.br (!(spec_l01Read (List.getD x7 (Int.toNat x1 * 1) ByteArray.empty)).2)
      (.leaf (.inr (.inl ((5 : Int), 0, 0, 0, 0, x8))))
      (.br (bounds x1 4)
       (.br (Nat.ble ((0 + (Int.toNat x1 * 1)) + 1) (List.length x8))
        (.leaf (.inl ((IntKind.wrap .i64 (x1 + (1 : Int))), (List.set x8 (0 + (Int.toNat x1 * 1)) ((spec_l01Read (List.getD x7 (Int.toNat x1 * 1) ByteArray.empty)).1)))))
        .bad)
       .bad))
     .bad)
    .bad)
   .bad)
  (.leaf (.inr (.inr x8)))
noncomputable def spec_ReadStone.l6.st (p : Nat × Int × Nat × Nat × Nat × Nat × List ByteArray) (x : Int × List Nat) : T ((Int × List Nat) ⊕ ((Int × Nat × Nat × Nat × Nat × List Nat) ⊕ (List Nat))) := spec_ReadStone.l6.s p.1 x.1 p.2.1 p.2.2.1 p.2.2.2.1 p.2.2.2.2.1 p.2.2.2.2.2.1 p.2.2.2.2.2.2 x.2
noncomputable def spec_ReadStone.l6.r (p : Nat × Int × Nat × Nat × Nat × Nat × List ByteArray) (x : Int × List Nat) : Option ((Int × Nat × Nat × Nat × Nat × List Nat) ⊕ (List Nat)) := iterT (spec_ReadStone.l6.st p) manyRounds x
def spec_ReadStone.l6.cd : Cd ((Nat × Int × Nat × Nat × Nat × Nat × List ByteArray) × (Int × List Nat)) (List V × Hp) := Cd.iso (Cd.pair (Cd.cons (Cd.pt 1 (Cd.natc 0)) (Cd.cons (Cd.own 2) (Cd.cons (Cd.pt 3 (Cd.natc 0)) (Cd.cons (Cd.it .i64) Cd.nil)))) (Cd.cons (Cd.ro 0 2 (Cd.vs (Cd.cons (Cd.it .i64) Cd.nil))) (Cd.cons (Cd.rw 24 4 (Cd.vs (Cd.cons (Cd.fl .f32) (Cd.cons (Cd.fl .f32) (Cd.cons (Cd.fl .f32) (Cd.cons (Cd.fl .f32) Cd.nil)))))) (Cd.cons (Cd.rw 9 1 Cd.ss) (Cd.cons (Cd.rw 48 4 (Cd.fs .f32)) Cd.nil))))) (fun a => ((a.1.2.1, a.2.1.1, a.2.2.1.1, a.2.2.1.2.1, a.2.2.1.2.2.1, a.2.2.1.2.2.2.1, a.2.2.2.1), (a.1.2.2.2.1, a.2.2.2.2.1))) (fun a => (((), (a.1.1, ((), (a.2.1, ())))), ((a.1.2.1, ()), ((a.1.2.2.1, (a.1.2.2.2.1, (a.1.2.2.2.2.1, (a.1.2.2.2.2.2.1, ())))), (a.1.2.2.2.2.2.2, (a.2.2, ())))))) (fun _ => rfl)
def spec_ReadStone.l6.out (p : Nat × Int × Nat × Nat × Nat × Nat × List ByteArray) : ((Int × Nat × Nat × Nat × Nat × List Nat) ⊕ (List Nat)) → X × List V × Hp := sumO (fun r => (.ret, [.pt 1 0, .it .i64 r.1, .pt 2 0], [some ⟨false, 0, 2, .vs [.it .i64 p.2.1]⟩, some ⟨true, 24, 4, .vs [.fl .f32 r.2.1, .fl .f32 r.2.2.1, .fl .f32 r.2.2.2.1, .fl .f32 r.2.2.2.2.1]⟩, some ⟨true, 48, 4, .fs .f32 r.2.2.2.2.2⟩])) (fun r => (.ex 0, [.pt 1 0, .unk, .pt 2 0], [some ⟨false, 0, 2, .vs [.it .i64 p.2.1]⟩, some ⟨true, 24, 4, .vs [.fl .f32 p.2.2.1, .fl .f32 p.2.2.2.1, .fl .f32 p.2.2.2.2.1, .fl .f32 p.2.2.2.2.2.1]⟩, some ⟨true, 48, 4, .fs .f32 r⟩]))
def spec_ReadStone.l6.ex (p : Nat × Int × Nat × Nat × Nat × Nat × List ByteArray) : ((Int × Nat × Nat × Nat × Nat × List Nat) ⊕ (List Nat)) → T (X × List V × Hp) := sumT (leafT (fun r => (.ret, [.pt 1 0, .it .i64 r.1, .pt 2 0], [some ⟨false, 0, 2, .vs [.it .i64 p.2.1]⟩, some ⟨true, 24, 4, .vs [.fl .f32 r.2.1, .fl .f32 r.2.2.1, .fl .f32 r.2.2.2.1, .fl .f32 r.2.2.2.2.1]⟩, some ⟨true, 48, 4, .fs .f32 r.2.2.2.2.2⟩]))) (leafT (fun r => (.ex 0, [.pt 1 0, .unk, .pt 2 0], [some ⟨false, 0, 2, .vs [.it .i64 p.2.1]⟩, some ⟨true, 24, 4, .vs [.fl .f32 p.2.2.1, .fl .f32 p.2.2.2.1, .fl .f32 p.2.2.2.2.1, .fl .f32 p.2.2.2.2.2.1]⟩, some ⟨true, 48, 4, .fs .f32 r⟩])))
noncomputable def spec_ReadStone.l6.c : List V → Hp → T (X × List V × Hp) := cdL spec_ReadStone.l6.cd fun x => optT (spec_ReadStone.l6.r x.1 x.2) (spec_ReadStone.l6.ex x.1)
noncomputable def spec_ReadStone.C : Ctx := { ty := tys, fn := [(28, .e spec_l01Split.c), (29, .q spec_l01Read.c), (30, .q spec_l04Ok.c)], lp := [(6, ⟨[2, 4, 5, 6], [2, 3, 5], spec_ReadStone.l6.c⟩)], n := 49, k := 1 }
theorem spec_ReadStone.hC : CtxOK Tryd.prog spec_ReadStone.C := CtxOK.of mo tys_ok (FnsOK.cons spec_l01Split.cok (FnsOK.cons spec_l01Read.cok (FnsOK.cons spec_l04Ok.cok FnsOK.nil)))
noncomputable def spec_ReadStone.b6 : Code := (nthC (loopsOf spec_ReadStone.b) 0)
theorem spec_ReadStone.lp6 : LpOK Tryd.prog spec_ReadStone.C spec_ReadStone.b6 := (LpOK.nil (by kernel_rfl))
theorem spec_ReadStone.l6.round (p : Nat × Int × Nat × Nat × Nat × Nat × List ByteArray) (s : Int × List Nat) : roundL spec_ReadStone.C [2, 4, 5, 6] [2, 3, 5] spec_ReadStone.b6 (spec_ReadStone.l6.cd.enc (p, s)).1 (spec_ReadStone.l6.cd.enc (p, s)).2 = (spec_ReadStone.l6.st p s).map (encSum (fun s => spec_ReadStone.l6.cd.enc (p, s)) (spec_ReadStone.l6.out p)) := by kernel_rfl
theorem spec_ReadStone.l6.lok : LoopOK Tryd.prog spec_ReadStone.C ⟨[2, 4, 5, 6], [2, 3, 5], spec_ReadStone.l6.c⟩ spec_ReadStone.b6 := loop_cd spec_ReadStone.l6.cd spec_ReadStone.hC spec_ReadStone.lp6 spec_ReadStone.l6.round fun p => (Gets.sum Gets.leaf Gets.leaf)
theorem spec_ReadStone.lp : LpOK Tryd.prog spec_ReadStone.C spec_ReadStone.b := lp_of (by kernel_rfl) (LpsOK.cons (k := 6) (by kernel_rfl) (by kernel_rfl) spec_ReadStone.l6.lok LpsOK.nil)
noncomputable def spec_ReadStone.t (x0 : ByteArray) (x1 : Int) : T (Nat × Nat × Nat × Nat × Int) :=
  .br (spec_l01Split.ok x0 (47 : Int))
  (.br ((((spec_l01Split x0 (47 : Int)).1 : Nat) : Int) != (4 : Int))
   (.leaf (0, 0, 0, 0, (5 : Int)))
   (.br (Nat.ble 4 (List.length [0, 0, 0, 0]))
    (.br (Option.isSome (spec_ReadStone.l6.r ((spec_l01Split x0 (47 : Int)).1, x1, 0, 0, 0, 0, (spec_l01Split x0 (47 : Int)).2) ((0 : Int), (List.set (List.set (List.set (List.set [0, 0, 0, 0] 0 0) 1 0) 2 0) 3 0))))
     (.br (Sum.isLeft (Option.getD (spec_ReadStone.l6.r ((spec_l01Split x0 (47 : Int)).1, x1, 0, 0, 0, 0, (spec_l01Split x0 (47 : Int)).2) ((0 : Int), (List.set (List.set (List.set (List.set [0, 0, 0, 0] 0 0) 1 0) 2 0) 3 0))) default))
      (.leaf ((getLeftD (Option.getD (spec_ReadStone.l6.r ((spec_l01Split x0 (47 : Int)).1, x1, 0, 0, 0, 0, (spec_l01Split x0 (47 : Int)).2) ((0 : Int), (List.set (List.set (List.set (List.set [0, 0, 0, 0] 0 0) 1 0) 2 0) 3 0))) default)).2.1, (getLeftD (Option.getD (spec_ReadStone.l6.r ((spec_l01Split x0 (47 : Int)).1, x1, 0, 0, 0, 0, (spec_l01Split x0 (47 : Int)).2) ((0 : Int), (List.set (List.set (List.set (List.set [0, 0, 0, 0] 0 0) 1 0) 2 0) 3 0))) default)).2.2.1, (getLeftD (Option.getD (spec_ReadStone.l6.r ((spec_l01Split x0 (47 : Int)).1, x1, 0, 0, 0, 0, (spec_l01Split x0 (47 : Int)).2) ((0 : Int), (List.set (List.set (List.set (List.set [0, 0, 0, 0] 0 0) 1 0) 2 0) 3 0))) default)).2.2.2.1, (getLeftD (Option.getD (spec_ReadStone.l6.r ((spec_l01Split x0 (47 : Int)).1, x1, 0, 0, 0, 0, (spec_l01Split x0 (47 : Int)).2) ((0 : Int), (List.set (List.set (List.set (List.set [0, 0, 0, 0] 0 0) 1 0) 2 0) 3 0))) default)).2.2.2.2.1, (getLeftD (Option.getD (spec_ReadStone.l6.r ((spec_l01Split x0 (47 : Int)).1, x1, 0, 0, 0, 0, (spec_l01Split x0 (47 : Int)).2) ((0 : Int), (List.set (List.set (List.set (List.set [0, 0, 0, 0] 0 0) 1 0) 2 0) 3 0))) default)).1))
      (.br (Nat.ble 1 (List.length (getRightD (Option.getD (spec_ReadStone.l6.r ((spec_l01Split x0 (47 : Int)).1, x1, 0, 0, 0, 0, (spec_l01Split x0 (47 : Int)).2) ((0 : Int), (List.set (List.set (List.set (List.set [0, 0, 0, 0] 0 0) 1 0) 2 0) 3 0))) default))))
       (.br (Nat.ble 2 (List.length (getRightD (Option.getD (spec_ReadStone.l6.r ((spec_l01Split x0 (47 : Int)).1, x1, 0, 0, 0, 0, (spec_l01Split x0 (47 : Int)).2) ((0 : Int), (List.set (List.set (List.set (List.set [0, 0, 0, 0] 0 0) 1 0) 2 0) 3 0))) default))))
        (.br (Nat.ble 3 (List.length (getRightD (Option.getD (spec_ReadStone.l6.r ((spec_l01Split x0 (47 : Int)).1, x1, 0, 0, 0, 0, (spec_l01Split x0 (47 : Int)).2) ((0 : Int), (List.set (List.set (List.set (List.set [0, 0, 0, 0] 0 0) 1 0) 2 0) 3 0))) default))))
         (.br (Nat.ble 4 (List.length (getRightD (Option.getD (spec_ReadStone.l6.r ((spec_l01Split x0 (47 : Int)).1, x1, 0, 0, 0, 0, (spec_l01Split x0 (47 : Int)).2) ((0 : Int), (List.set (List.set (List.set (List.set [0, 0, 0, 0] 0 0) 1 0) 2 0) 3 0))) default))))
          (.br (!(spec_l04Ok (List.getD (getRightD (Option.getD (spec_ReadStone.l6.r ((spec_l01Split x0 (47 : Int)).1, x1, 0, 0, 0, 0, (spec_l01Split x0 (47 : Int)).2) ((0 : Int), (List.set (List.set (List.set (List.set [0, 0, 0, 0] 0 0) 1 0) 2 0) 3 0))) default)) 0 0) (List.getD (getRightD (Option.getD (spec_ReadStone.l6.r ((spec_l01Split x0 (47 : Int)).1, x1, 0, 0, 0, 0, (spec_l01Split x0 (47 : Int)).2) ((0 : Int), (List.set (List.set (List.set (List.set [0, 0, 0, 0] 0 0) 1 0) 2 0) 3 0))) default)) 1 0) (List.getD (getRightD (Option.getD (spec_ReadStone.l6.r ((spec_l01Split x0 (47 : Int)).1, x1, 0, 0, 0, 0, (spec_l01Split x0 (47 : Int)).2) ((0 : Int), (List.set (List.set (List.set (List.set [0, 0, 0, 0] 0 0) 1 0) 2 0) 3 0))) default)) 2 0) (List.getD (getRightD (Option.getD (spec_ReadStone.l6.r ((spec_l01Split x0 (47 : Int)).1, x1, 0, 0, 0, 0, (spec_l01Split x0 (47 : Int)).2) ((0 : Int), (List.set (List.set (List.set (List.set [0, 0, 0, 0] 0 0) 1 0) 2 0) 3 0))) default)) 3 0)))
           (.leaf (0, 0, 0, 0, (5 : Int)))
           (.leaf ((List.getD (getRightD (Option.getD (spec_ReadStone.l6.r ((spec_l01Split x0 (47 : Int)).1, x1, 0, 0, 0, 0, (spec_l01Split x0 (47 : Int)).2) ((0 : Int), (List.set (List.set (List.set (List.set [0, 0, 0, 0] 0 0) 1 0) 2 0) 3 0))) default)) 0 0), (List.getD (getRightD (Option.getD (spec_ReadStone.l6.r ((spec_l01Split x0 (47 : Int)).1, x1, 0, 0, 0, 0, (spec_l01Split x0 (47 : Int)).2) ((0 : Int), (List.set (List.set (List.set (List.set [0, 0, 0, 0] 0 0) 1 0) 2 0) 3 0))) default)) 1 0), (List.getD (getRightD (Option.getD (spec_ReadStone.l6.r ((spec_l01Split x0 (47 : Int)).1, x1, 0, 0, 0, 0, (spec_l01Split x0 (47 : Int)).2) ((0 : Int), (List.set (List.set (List.set (List.set [0, 0, 0, 0] 0 0) 1 0) 2 0) 3 0))) default)) 2 0), (List.getD (getRightD (Option.getD (spec_ReadStone.l6.r ((spec_l01Split x0 (47 : Int)).1, x1, 0, 0, 0, 0, (spec_l01Split x0 (47 : Int)).2) ((0 : Int), (List.set (List.set (List.set (List.set [0, 0, 0, 0] 0 0) 1 0) 2 0) 3 0))) default)) 3 0), (0 : Int))))
          .bad)
         .bad)
        .bad)
       .bad))
     .bad)
    .bad))
  .bad
noncomputable def spec_ReadStone (x0 : ByteArray) (x1 : Int) : Nat × Nat × Nat × Nat × Int := (spec_ReadStone.t x0 x1).val
noncomputable def spec_ReadStone.ok (x0 : ByteArray) (x1 : Int) : Bool := (spec_ReadStone.t x0 x1).ok
def spec_ReadStone.cd : Cd (ByteArray × Int) (List V × Hp) := Cd.iso (Cd.pair (Cd.cons Cd.st Cd.nil) (Cd.cons (Cd.ro 0 2 (Cd.vs (Cd.cons (Cd.it .i64) Cd.nil))) Cd.nil)) (fun a => (a.1.1, a.2.1.1)) (fun a => ((a.1, ()), ((a.2, ()), ()))) (fun _ => rfl)
noncomputable def spec_ReadStone.tr (a : ByteArray × Int) : T (Nat × Nat × Nat × Nat × Int) := spec_ReadStone.t a.1 a.2
def spec_ReadStone.enc : (ByteArray × Int) → (Nat × Nat × Nat × Nat × Int) → V := fun a r => .tup [.agg [.fl .f32 r.1, .fl .f32 r.2.1, .fl .f32 r.2.2.1, .fl .f32 r.2.2.2.1], .it .i64 r.2.2.2.2]
noncomputable def spec_ReadStone.c : List V → Hp → T V := cdQ spec_ReadStone.cd (fun a => .br (spec_ReadStone.ok a.1 a.2) (.leaf (spec_ReadStone.enc a (spec_ReadStone a.1 a.2))) .bad)
theorem spec_ReadStone.run (a : ByteArray × Int) : runF spec_ReadStone.C Tryd.f5.results.toList spec_ReadStone.b (spec_ReadStone.cd.enc a).1 (spec_ReadStone.cd.enc a).2 = (spec_ReadStone.tr a).map fun r => (spec_ReadStone.enc a r, (spec_ReadStone.cd.enc a).2) := by kernel_rfl
theorem spec_ReadStone.cok : OKq Tryd.prog 5 spec_ReadStone.c := con_q' spec_ReadStone.cd spec_ReadStone.hC Tryd.func5 (by kernel_rfl) (by kernel_rfl) (by kernel_rfl) spec_ReadStone.lp (fun a => by kernel_rfl) spec_ReadStone.run (Tells.ok (tree := spec_ReadStone.tr))
/-! ### impl_NumberText -/
noncomputable def impl_NumberText.b : Code := bodyOf Tryd.f70
noncomputable def impl_NumberText.l5.s (x0 : Nat) (x1 : Int) (x2 : List Int) : T (Unit ⊕ Unit) :=
  .br (decide (x1 ≥ (0 : Int)))
  .bad
  (.leaf (.inr ()))
noncomputable def impl_NumberText.l5.st (p : Nat × Int × List Int) (x : Unit) : T (Unit ⊕ Unit) := impl_NumberText.l5.s p.1 p.2.1 p.2.2
noncomputable def impl_NumberText.l5.r (p : Nat × Int × List Int) (x : Unit) : Option Unit := iterT (impl_NumberText.l5.st p) manyRounds x
def impl_NumberText.l5.cd : Cd ((Nat × Int × List Int) × Unit) (List V × Hp) := Cd.iso (Cd.pair (Cd.cons Cd.qn (Cd.cons (Cd.own 0) (Cd.cons (Cd.it .i64) Cd.nil))) (Cd.cons (Cd.rw 5 1 (Cd.is .u8)) Cd.nil)) (fun a => ((a.1.2.1, a.1.2.2.1, a.2.1), ())) (fun a => (((), (a.1.1, (a.1.2.1, ()))), (a.1.2.2, ()))) (fun _ => rfl)
def impl_NumberText.l5.out (p : Nat × Int × List Int) : Unit → X × List V × Hp := (fun r => (.ex 0, [.own 0 p.1], [some ⟨true, 5, 1, .is .u8 p.2.2⟩]))
def impl_NumberText.l5.ex (p : Nat × Int × List Int) : Unit → T (X × List V × Hp) := leafT (fun r => (.ex 0, [.own 0 p.1], [some ⟨true, 5, 1, .is .u8 p.2.2⟩]))
noncomputable def impl_NumberText.l5.c : List V → Hp → T (X × List V × Hp) := cdL impl_NumberText.l5.cd fun x => optT (impl_NumberText.l5.r x.1 x.2) (impl_NumberText.l5.ex x.1)
noncomputable def impl_NumberText.l5v1.s (x0 : Int) (x1 : Nat) (x2 : Int) (x3 : List Int) : T ((Nat × Int × List Int) ⊕ (Nat × List Int)) :=
  .br (decide (x2 ≥ (0 : Int)))
  (.br (decide (x2 < 0))
   .bad
   (.br (bounds (ibits .and .u32 (Int.fdiv x0 (2 ^ min (Int.toNat x2) 32)) (15 : Int)) (ByteArray.size (ByteArray.mk #[48, 49, 50, 51, 52, 53, 54, 55, 56, 57, 97, 98, 99, 100, 101, 102])))
    (.br ((Nat.ble 1 (List.length [(byteAt (ByteArray.mk #[48, 49, 50, 51, 52, 53, 54, 55, 56, 57, 97, 98, 99, 100, 101, 102]) (ibits .and .u32 (Int.fdiv x0 (2 ^ min (Int.toNat x2) 32)) (15 : Int)))])) && (Nat.beq (List.length x3) (x1 * 1) && Nat.ble ((x1 + 1) * 1) 35184372088832 && Nat.ble (x1 + 1) 35184372088832))
     (.leaf (.inl ((x1 + 1), (IntKind.wrap .i64 (x2 - (4 : Int))), (x3 ++ (List.take 1 (List.drop 0 [(byteAt (ByteArray.mk #[48, 49, 50, 51, 52, 53, 54, 55, 56, 57, 97, 98, 99, 100, 101, 102]) (ibits .and .u32 (Int.fdiv x0 (2 ^ min (Int.toNat x2) 32)) (15 : Int)))]))))))
     .bad)
    .bad))
  (.leaf (.inr (x1, x3)))
noncomputable def impl_NumberText.l5v1.st (p : Int) (x : Nat × Int × List Int) : T ((Nat × Int × List Int) ⊕ (Nat × List Int)) := impl_NumberText.l5v1.s p x.1 x.2.1 x.2.2
noncomputable def impl_NumberText.l5v1.r (p : Int) (x : Nat × Int × List Int) : Option (Nat × List Int) := iterT (impl_NumberText.l5v1.st p) manyRounds x
def impl_NumberText.l5v1.cd : Cd (Int × (Nat × Int × List Int)) (List V × Hp) := Cd.iso (Cd.pair (Cd.cons (Cd.it .u32) (Cd.cons (Cd.own 0) (Cd.cons (Cd.it .i64) Cd.nil))) (Cd.cons (Cd.rw 5 1 (Cd.is .u8)) Cd.nil)) (fun a => (a.1.1, (a.1.2.1, a.1.2.2.1, a.2.1))) (fun a => ((a.1, (a.2.1, (a.2.2.1, ()))), (a.2.2.2, ()))) (fun _ => rfl)
def impl_NumberText.l5v1.out (p : Int) : (Nat × List Int) → X × List V × Hp := (fun r => (.ex 0, [.own 0 r.1], [some ⟨true, 5, 1, .is .u8 r.2⟩]))
def impl_NumberText.l5v1.ex (p : Int) : (Nat × List Int) → T (X × List V × Hp) := leafT (fun r => (.ex 0, [.own 0 r.1], [some ⟨true, 5, 1, .is .u8 r.2⟩]))
noncomputable def impl_NumberText.l5v1.c : List V → Hp → T (X × List V × Hp) := cdL impl_NumberText.l5v1.cd fun x => optT (impl_NumberText.l5v1.r x.1 x.2) (impl_NumberText.l5v1.ex x.1)
noncomputable def impl_NumberText.C : Ctx := { ty := tys, fn := [(75, .q f32bitsC)], lp := [(5, ⟨[3, 4, 5], [4], altL impl_NumberText.l5.c impl_NumberText.l5v1.c⟩)], n := 26, k := 0 }
theorem impl_NumberText.hC : CtxOK Tryd.prog impl_NumberText.C := CtxOK.of mo tys_ok (FnsOK.cons (f32bits_ok Tryd.func75 (by kernel_rfl) (by kernel_rfl) (by kernel_rfl) (by kernel_rfl)) FnsOK.nil)
noncomputable def impl_NumberText.b5 : Code := (nthC (loopsOf impl_NumberText.b) 0)
theorem impl_NumberText.lp5 : LpOK Tryd.prog impl_NumberText.C impl_NumberText.b5 := (LpOK.nil (by kernel_rfl))
theorem impl_NumberText.l5.round (p : Nat × Int × List Int) (s : Unit) : roundL impl_NumberText.C [3, 4, 5] [4] impl_NumberText.b5 (impl_NumberText.l5.cd.enc (p, s)).1 (impl_NumberText.l5.cd.enc (p, s)).2 = (impl_NumberText.l5.st p s).map (encSum (fun s => impl_NumberText.l5.cd.enc (p, s)) (impl_NumberText.l5.out p)) := by kernel_rfl
theorem impl_NumberText.l5.lok : LoopOK Tryd.prog impl_NumberText.C ⟨[3, 4, 5], [4], impl_NumberText.l5.c⟩ impl_NumberText.b5 := loop_cd impl_NumberText.l5.cd impl_NumberText.hC impl_NumberText.lp5 impl_NumberText.l5.round fun p => Gets.leaf
theorem impl_NumberText.l5v1.round (p : Int) (s : Nat × Int × List Int) : roundL impl_NumberText.C [3, 4, 5] [4] impl_NumberText.b5 (impl_NumberText.l5v1.cd.enc (p, s)).1 (impl_NumberText.l5v1.cd.enc (p, s)).2 = (impl_NumberText.l5v1.st p s).map (encSum (fun s => impl_NumberText.l5v1.cd.enc (p, s)) (impl_NumberText.l5v1.out p)) := by kernel_rfl
theorem impl_NumberText.l5v1.lok : LoopOK Tryd.prog impl_NumberText.C ⟨[3, 4, 5], [4], impl_NumberText.l5v1.c⟩ impl_NumberText.b5 := loop_cd impl_NumberText.l5v1.cd impl_NumberText.hC impl_NumberText.lp5 impl_NumberText.l5v1.round fun p => Gets.leaf
theorem impl_NumberText.lp : LpOK Tryd.prog impl_NumberText.C impl_NumberText.b := lp_of (by kernel_rfl) (LpsOK.cons (k := 5) (by kernel_rfl) (by kernel_rfl) (LoopOK.alt impl_NumberText.l5.lok impl_NumberText.l5v1.lok) LpsOK.nil)
noncomputable def impl_NumberText.t (x0 : Nat) : T ByteArray :=
  .br (fne .f32 x0 x0)
  (.leaf (ByteArray.mk #[55, 102, 99, 48, 48, 48, 48, 48]))
  (.br (isNaN .f32 x0)
   (.br (Option.isSome (impl_NumberText.l5.r (0, (28 : Int), []) ()))
    (.br (Nat.ble 0 (List.length ([] : List Int)))
     (.leaf (strOf (List.take 0 ([] : List Int))))
     .bad)
    .bad)
   (.br (Option.isSome (impl_NumberText.l5v1.r ((x0 : Nat) : Int) (0, (28 : Int), [])))
    (.br (Nat.ble ((Option.getD (impl_NumberText.l5v1.r ((x0 : Nat) : Int) (0, (28 : Int), [])) default).1) (List.length ((Option.getD (impl_NumberText.l5v1.r ((x0 : Nat) : Int) (0, (28 : Int), [])) default).2)))
     (.leaf (strOf (List.take ((Option.getD (impl_NumberText.l5v1.r ((x0 : Nat) : Int) (0, (28 : Int), [])) default).1) ((Option.getD (impl_NumberText.l5v1.r ((x0 : Nat) : Int) (0, (28 : Int), [])) default).2))))
     .bad)
    .bad))
noncomputable def impl_NumberText (x0 : Nat) : ByteArray := (impl_NumberText.t x0).val
noncomputable def impl_NumberText.ok (x0 : Nat) : Bool := (impl_NumberText.t x0).ok
def impl_NumberText.cd : Cd Nat (List V × Hp) := Cd.iso (Cd.pair (Cd.cons (Cd.fl .f32) Cd.nil) Cd.nil) (fun a => a.1.1) (fun a => ((a, ()), ())) (fun _ => rfl)
noncomputable def impl_NumberText.tr (a : Nat) : T ByteArray := impl_NumberText.t a
def impl_NumberText.enc : Nat → ByteArray → V := fun a r => .st r
noncomputable def impl_NumberText.c : List V → Hp → T V := cdQ impl_NumberText.cd (fun a => .br (impl_NumberText.ok a) (.leaf (impl_NumberText.enc a (impl_NumberText a))) .bad)
theorem impl_NumberText.run (a : Nat) : runF impl_NumberText.C Tryd.f70.results.toList impl_NumberText.b (impl_NumberText.cd.enc a).1 (impl_NumberText.cd.enc a).2 = (impl_NumberText.tr a).map fun r => (impl_NumberText.enc a r, (impl_NumberText.cd.enc a).2) := by kernel_rfl
theorem impl_NumberText.cok : OKq Tryd.prog 70 impl_NumberText.c := con_q' impl_NumberText.cd impl_NumberText.hC Tryd.func70 (by kernel_rfl) (by kernel_rfl) (by kernel_rfl) impl_NumberText.lp (fun a => by kernel_rfl) impl_NumberText.run (Tells.ok (tree := impl_NumberText.tr))
/-! ### impl_ReadNumber -/
noncomputable def impl_ReadNumber.b : Code := bodyOf Tryd.f66
noncomputable def impl_ReadNumber.l3.s (x0 : ByteArray) (x1 : Int) (x2 : Int) (x3 : Int) : T ((Int × Int) ⊕ Int) :=
  .br (decide (x3 < x2))
  (.br (bounds x3 (ByteArray.size x0))
   (.leaf (.inl ((ibits .or .u32 (IntKind.wrap .u32 (x1 * (2 ^ min (Int.toNat (4 : Int)) 32))) (IntKind.wrap .u32 (if (0 : Int) > (Go.Lib.indexByte (ByteArray.data (ByteArray.mk #[48, 49, 50, 51, 52, 53, 54, 55, 56, 57, 97, 98, 99, 100, 101, 102])).toList (Nat.toUInt8 (Int.toNat (byteAt x0 x3)))) then (0 : Int) else (Go.Lib.indexByte (ByteArray.data (ByteArray.mk #[48, 49, 50, 51, 52, 53, 54, 55, 56, 57, 97, 98, 99, 100, 101, 102])).toList (Nat.toUInt8 (Int.toNat (byteAt x0 x3))))))), (IntKind.wrap .i64 (x3 + (1 : Int))))))
   .bad)
  (.leaf (.inr x1))
noncomputable def impl_ReadNumber.l3.st (p : ByteArray × Int) (x : Int × Int) : T ((Int × Int) ⊕ Int) := impl_ReadNumber.l3.s p.1 x.1 p.2 x.2
noncomputable def impl_ReadNumber.l3.r (p : ByteArray × Int) (x : Int × Int) : Option Int := iterT (impl_ReadNumber.l3.st p) manyRounds x
def impl_ReadNumber.l3.cd : Cd ((ByteArray × Int) × (Int × Int)) (List V × Hp) := Cd.iso (Cd.pair (Cd.cons Cd.st (Cd.cons (Cd.it .u32) (Cd.cons (Cd.it .i64) (Cd.cons (Cd.it .i64) Cd.nil)))) Cd.nil) (fun a => ((a.1.1, a.1.2.2.1), (a.1.2.1, a.1.2.2.2.1))) (fun a => ((a.1.1, (a.2.1, (a.1.2, (a.2.2, ())))), ())) (fun _ => rfl)
def impl_ReadNumber.l3.out (p : ByteArray × Int) : Int → X × List V × Hp := (fun r => (.ex 0, [.st p.1, .it .u32 r], []))
def impl_ReadNumber.l3.ex (p : ByteArray × Int) : Int → T (X × List V × Hp) := leafT (fun r => (.ex 0, [.st p.1, .it .u32 r], []))
noncomputable def impl_ReadNumber.l3.c : List V → Hp → T (X × List V × Hp) := cdL impl_ReadNumber.l3.cd fun x => optT (impl_ReadNumber.l3.r x.1 x.2) (impl_ReadNumber.l3.ex x.1)
noncomputable def impl_ReadNumber.C : Ctx := { ty := tys, fn := [(78, .q indexByteC), (63, .q f32fromC), (70, .q impl_NumberText.c)], lp := [(3, ⟨[0, 4, 9, 10], [0, 4], impl_ReadNumber.l3.c⟩)], n := 30, k := 0 }
theorem impl_ReadNumber.hC : CtxOK Tryd.prog impl_ReadNumber.C := CtxOK.of mo tys_ok (FnsOK.cons (indexByte_ok Tryd.func78 (by kernel_rfl) (by kernel_rfl) (fun s c w => Tryd.strings_IndexByte s c w)) (FnsOK.cons (f32from_ok Tryd.func63 (by kernel_rfl) (by kernel_rfl) (by kernel_rfl) (by kernel_rfl)) (FnsOK.cons impl_NumberText.cok FnsOK.nil)))
noncomputable def impl_ReadNumber.b3 : Code := (nthC (loopsOf impl_ReadNumber.b) 0)
theorem impl_ReadNumber.lp3 : LpOK Tryd.prog impl_ReadNumber.C impl_ReadNumber.b3 := (LpOK.nil (by kernel_rfl))
theorem impl_ReadNumber.l3.round (p : ByteArray × Int) (s : Int × Int) : roundL impl_ReadNumber.C [0, 4, 9, 10] [0, 4] impl_ReadNumber.b3 (impl_ReadNumber.l3.cd.enc (p, s)).1 (impl_ReadNumber.l3.cd.enc (p, s)).2 = (impl_ReadNumber.l3.st p s).map (encSum (fun s => impl_ReadNumber.l3.cd.enc (p, s)) (impl_ReadNumber.l3.out p)) := by kernel_rfl
theorem impl_ReadNumber.l3.lok : LoopOK Tryd.prog impl_ReadNumber.C ⟨[0, 4, 9, 10], [0, 4], impl_ReadNumber.l3.c⟩ impl_ReadNumber.b3 := loop_cd impl_ReadNumber.l3.cd impl_ReadNumber.hC impl_ReadNumber.lp3 impl_ReadNumber.l3.round fun p => Gets.leaf
theorem impl_ReadNumber.lp : LpOK Tryd.prog impl_ReadNumber.C impl_ReadNumber.b := lp_of (by kernel_rfl) (LpsOK.cons (k := 3) (by kernel_rfl) (by kernel_rfl) impl_ReadNumber.l3.lok LpsOK.nil)
noncomputable def impl_ReadNumber.t (x0 : ByteArray) : T (Nat × Int) :=
  .br (Option.isSome (impl_ReadNumber.l3.r (x0, (if (8 : Int) < ((ByteArray.size x0 : Nat) : Int) then (8 : Int) else ((ByteArray.size x0 : Nat) : Int))) ((0 : Int), (0 : Int))))
  (.br (impl_NumberText.ok (nz .f32 (Int.toNat (Option.getD (impl_ReadNumber.l3.r (x0, (if (8 : Int) < ((ByteArray.size x0 : Nat) : Int) then (8 : Int) else ((ByteArray.size x0 : Nat) : Int))) ((0 : Int), (0 : Int))) default))))
   (.br (seq? (impl_NumberText (nz .f32 (Int.toNat (Option.getD (impl_ReadNumber.l3.r (x0, (if (8 : Int) < ((ByteArray.size x0 : Nat) : Int) then (8 : Int) else ((ByteArray.size x0 : Nat) : Int))) ((0 : Int), (0 : Int))) default)))) x0)
    (.leaf ((nz .f32 (Int.toNat (Option.getD (impl_ReadNumber.l3.r (x0, (if (8 : Int) < ((ByteArray.size x0 : Nat) : Int) then (8 : Int) else ((ByteArray.size x0 : Nat) : Int))) ((0 : Int), (0 : Int))) default))), (0 : Int)))
    (.leaf (0, (5 : Int))))
   .bad)
  .bad
noncomputable def impl_ReadNumber (x0 : ByteArray) : Nat × Int := (impl_ReadNumber.t x0).val
noncomputable def impl_ReadNumber.ok (x0 : ByteArray) : Bool := (impl_ReadNumber.t x0).ok
def impl_ReadNumber.cd : Cd ByteArray (List V × Hp) := Cd.iso (Cd.pair (Cd.cons Cd.st Cd.nil) Cd.nil) (fun a => a.1.1) (fun a => ((a, ()), ())) (fun _ => rfl)
noncomputable def impl_ReadNumber.tr (a : ByteArray) : T (Nat × Int) := impl_ReadNumber.t a
def impl_ReadNumber.enc : ByteArray → (Nat × Int) → V := fun a r => .tup [.fl .f32 r.1, .it .i64 r.2]
noncomputable def impl_ReadNumber.c : List V → Hp → T V := cdQ impl_ReadNumber.cd (fun a => .br (impl_ReadNumber.ok a) (.leaf (impl_ReadNumber.enc a (impl_ReadNumber a))) .bad)
theorem impl_ReadNumber.run (a : ByteArray) : runF impl_ReadNumber.C Tryd.f66.results.toList impl_ReadNumber.b (impl_ReadNumber.cd.enc a).1 (impl_ReadNumber.cd.enc a).2 = (impl_ReadNumber.tr a).map fun r => (impl_ReadNumber.enc a r, (impl_ReadNumber.cd.enc a).2) := by kernel_rfl
theorem impl_ReadNumber.cok : OKq Tryd.prog 66 impl_ReadNumber.c := con_q' impl_ReadNumber.cd impl_ReadNumber.hC Tryd.func66 (by kernel_rfl) (by kernel_rfl) (by kernel_rfl) impl_ReadNumber.lp (fun a => by kernel_rfl) impl_ReadNumber.run (Tells.ok (tree := impl_ReadNumber.tr))
/-! ### impl_numbersOf -/
noncomputable def impl_numbersOf.b : Code := bodyOf Tryd.f31
noncomputable def impl_numbersOf.l3.s (x0 : Nat) (x1 : Nat) (x2 : Int) (x3 : Int) (x4 : Int) (x5 : List ByteArray) (x6 : List Nat) : T ((Nat × Int × List Nat) ⊕ ((Bool × Nat × List Nat) ⊕ (Nat × List Nat))) :=
  .br (decide (x3 < x2))
  (.br (bounds x3 x1)
   (.br (Nat.ble ((Int.toNat x3 * 1) + 1) (List.length x5))
    (.br (impl_ReadNumber.ok (List.getD x5 (Int.toNat x3 * 1) ByteArray.empty))
     (.br ((impl_ReadNumber (List.getD x5 (Int.toNat x3 * 1) ByteArray.empty)).2 != (0 : Int))
      (.leaf (.inr (.inl (false, x0, x6))))
      (.br ((Nat.ble 1 (List.length [(impl_ReadNumber (List.getD x5 (Int.toNat x3 * 1) ByteArray.empty)).1])) && (Nat.beq (List.length x6) (x0 * 1) && Nat.ble ((x0 + 1) * 4) 35184372088832 && Nat.ble (x0 + 1) 35184372088832))
       (.leaf (.inl ((x0 + 1), (IntKind.wrap .i64 (x3 + (1 : Int))), (x6 ++ (List.take 1 (List.drop 0 [(impl_ReadNumber (List.getD x5 (Int.toNat x3 * 1) ByteArray.empty)).1]))))))
       .bad))
     .bad)
    .bad)
   .bad)
  (.leaf (.inr (.inr (x0, x6))))
noncomputable def impl_numbersOf.l3.st (p : Nat × Int × Int × List ByteArray) (x : Nat × Int × List Nat) : T ((Nat × Int × List Nat) ⊕ ((Bool × Nat × List Nat) ⊕ (Nat × List Nat))) := impl_numbersOf.l3.s x.1 p.1 p.2.1 x.2.1 p.2.2.1 p.2.2.2 x.2.2
noncomputable def impl_numbersOf.l3.r (p : Nat × Int × Int × List ByteArray) (x : Nat × Int × List Nat) : Option ((Bool × Nat × List Nat) ⊕ (Nat × List Nat)) := iterT (impl_numbersOf.l3.st p) manyRounds x
def impl_numbersOf.l3.cd : Cd ((Nat × Int × Int × List ByteArray) × (Nat × Int × List Nat)) (List V × Hp) := Cd.iso (Cd.pair (Cd.cons (Cd.own 2) (Cd.cons (Cd.own 1) (Cd.cons (Cd.it .i64) (Cd.cons (Cd.it .i64) Cd.nil)))) (Cd.cons (Cd.ro 0 2 (Cd.vs (Cd.cons (Cd.it .i64) Cd.nil))) (Cd.cons (Cd.rw 9 1 Cd.ss) (Cd.cons (Cd.rw 22 1 (Cd.fs .f32)) Cd.nil)))) (fun a => ((a.1.2.1, a.1.2.2.1, a.2.1.1, a.2.2.1), (a.1.1, a.1.2.2.2.1, a.2.2.2.1))) (fun a => ((a.2.1, (a.1.1, (a.1.2.1, (a.2.2.1, ())))), ((a.1.2.2.1, ()), (a.1.2.2.2, (a.2.2.2, ()))))) (fun _ => rfl)
def impl_numbersOf.l3.out (p : Nat × Int × Int × List ByteArray) : ((Bool × Nat × List Nat) ⊕ (Nat × List Nat)) → X × List V × Hp := sumO (fun r => (.ret, [.sn, .bo r.1, .own 2 r.2.1], [some ⟨false, 0, 2, .vs [.it .i64 p.2.2.1]⟩, some ⟨true, 9, 1, .ss p.2.2.2⟩, some ⟨true, 22, 1, .fs .f32 r.2.2⟩])) (fun r => (.ex 0, [.unk, .unk, .own 2 r.1], [some ⟨false, 0, 2, .vs [.it .i64 p.2.2.1]⟩, some ⟨true, 9, 1, .ss p.2.2.2⟩, some ⟨true, 22, 1, .fs .f32 r.2⟩]))
def impl_numbersOf.l3.ex (p : Nat × Int × Int × List ByteArray) : ((Bool × Nat × List Nat) ⊕ (Nat × List Nat)) → T (X × List V × Hp) := sumT (leafT (fun r => (.ret, [.sn, .bo r.1, .own 2 r.2.1], [some ⟨false, 0, 2, .vs [.it .i64 p.2.2.1]⟩, some ⟨true, 9, 1, .ss p.2.2.2⟩, some ⟨true, 22, 1, .fs .f32 r.2.2⟩]))) (leafT (fun r => (.ex 0, [.unk, .unk, .own 2 r.1], [some ⟨false, 0, 2, .vs [.it .i64 p.2.2.1]⟩, some ⟨true, 9, 1, .ss p.2.2.2⟩, some ⟨true, 22, 1, .fs .f32 r.2⟩])))
noncomputable def impl_numbersOf.l3.c : List V → Hp → T (X × List V × Hp) := cdL impl_numbersOf.l3.cd fun x => optT (impl_numbersOf.l3.r x.1 x.2) (impl_numbersOf.l3.ex x.1)
noncomputable def impl_numbersOf.C : Ctx := { ty := tys, fn := [(66, .q impl_ReadNumber.c)], lp := [(3, ⟨[4, 10, 11, 12], [2, 3, 4], impl_numbersOf.l3.c⟩)], n := 29, k := 2 }
theorem impl_numbersOf.hC : CtxOK Tryd.prog impl_numbersOf.C := CtxOK.of mo tys_ok (FnsOK.cons impl_ReadNumber.cok FnsOK.nil)
noncomputable def impl_numbersOf.b3 : Code := (nthC (loopsOf impl_numbersOf.b) 0)
theorem impl_numbersOf.lp3 : LpOK Tryd.prog impl_numbersOf.C impl_numbersOf.b3 := (LpOK.nil (by kernel_rfl))
theorem impl_numbersOf.l3.round (p : Nat × Int × Int × List ByteArray) (s : Nat × Int × List Nat) : roundL impl_numbersOf.C [4, 10, 11, 12] [2, 3, 4] impl_numbersOf.b3 (impl_numbersOf.l3.cd.enc (p, s)).1 (impl_numbersOf.l3.cd.enc (p, s)).2 = (impl_numbersOf.l3.st p s).map (encSum (fun s => impl_numbersOf.l3.cd.enc (p, s)) (impl_numbersOf.l3.out p)) := by kernel_rfl
theorem impl_numbersOf.l3.lok : LoopOK Tryd.prog impl_numbersOf.C ⟨[4, 10, 11, 12], [2, 3, 4], impl_numbersOf.l3.c⟩ impl_numbersOf.b3 := loop_cd impl_numbersOf.l3.cd impl_numbersOf.hC impl_numbersOf.lp3 impl_numbersOf.l3.round fun p => (Gets.sum Gets.leaf Gets.leaf)
theorem impl_numbersOf.lp : LpOK Tryd.prog impl_numbersOf.C impl_numbersOf.b := lp_of (by kernel_rfl) (LpsOK.cons (k := 3) (by kernel_rfl) (by kernel_rfl) impl_numbersOf.l3.lok LpsOK.nil)
noncomputable def impl_numbersOf.t (x0 : Nat) (x1 : Int) (x2 : List ByteArray) : T (Bool ⊕ (Nat × Bool × List Nat)) :=
  .br (Option.isSome (impl_numbersOf.l3.r (x0, ((x0 : Nat) : Int), x1, x2) (0, (0 : Int), [])))
  (.br (Sum.isLeft (Option.getD (impl_numbersOf.l3.r (x0, ((x0 : Nat) : Int), x1, x2) (0, (0 : Int), [])) default))
   (.leaf (.inl ((getLeftD (Option.getD (impl_numbersOf.l3.r (x0, ((x0 : Nat) : Int), x1, x2) (0, (0 : Int), [])) default)).1)))
   (.leaf (.inr ((getRightD (Option.getD (impl_numbersOf.l3.r (x0, ((x0 : Nat) : Int), x1, x2) (0, (0 : Int), [])) default)).1, true, (getRightD (Option.getD (impl_numbersOf.l3.r (x0, ((x0 : Nat) : Int), x1, x2) (0, (0 : Int), [])) default)).2))))
  .bad
noncomputable def impl_numbersOf (x0 : Nat) (x1 : Int) (x2 : List ByteArray) : Bool ⊕ (Nat × Bool × List Nat) := (impl_numbersOf.t x0 x1 x2).val
noncomputable def impl_numbersOf.ok (x0 : Nat) (x1 : Int) (x2 : List ByteArray) : Bool := (impl_numbersOf.t x0 x1 x2).ok
def impl_numbersOf.cd : Cd (Nat × Int × List ByteArray) (List V × Hp) := Cd.iso (Cd.pair (Cd.cons (Cd.own 1) Cd.nil) (Cd.cons (Cd.ro 0 2 (Cd.vs (Cd.cons (Cd.it .i64) Cd.nil))) (Cd.cons (Cd.rw 9 1 Cd.ss) Cd.nil))) (fun a => (a.1.1, a.2.1.1, a.2.2.1)) (fun a => ((a.1, ()), ((a.2.1, ()), (a.2.2, ())))) (fun _ => rfl)
noncomputable def impl_numbersOf.tr (a : Nat × Int × List ByteArray) : T (Bool ⊕ (Nat × Bool × List Nat)) := impl_numbersOf.t a.1 a.2.1 a.2.2
def impl_numbersOf.enc : (Nat × Int × List ByteArray) → (Bool ⊕ (Nat × Bool × List Nat)) → V × Hp := fun a => sumO (fun r => (.tup [.sn, .bo r], [some ⟨false, 0, 2, .vs [.it .i64 a.2.1]⟩, some ⟨true, 9, 1, .ss a.2.2⟩])) (fun r => (.tup [.own 2 r.1, .bo r.2.1], [some ⟨false, 0, 2, .vs [.it .i64 a.2.1]⟩, some ⟨true, 9, 1, .ss a.2.2⟩, some ⟨true, 22, 1, .fs .f32 r.2.2⟩]))
noncomputable def impl_numbersOf.ex : (Nat × Int × List ByteArray) → (Bool ⊕ (Nat × Bool × List Nat)) → T (V × Hp) := fun a => sumT (leafT (fun r => (.tup [.sn, .bo r], [some ⟨false, 0, 2, .vs [.it .i64 a.2.1]⟩, some ⟨true, 9, 1, .ss a.2.2⟩]))) (leafT (fun r => (.tup [.own 2 r.1, .bo r.2.1], [some ⟨false, 0, 2, .vs [.it .i64 a.2.1]⟩, some ⟨true, 9, 1, .ss a.2.2⟩, some ⟨true, 22, 1, .fs .f32 r.2.2⟩])))
noncomputable def impl_numbersOf.c : List V → Hp → T (V × Hp) := cdE impl_numbersOf.cd (fun a => .br (impl_numbersOf.ok a.1 a.2.1 a.2.2) (impl_numbersOf.ex a (impl_numbersOf a.1 a.2.1 a.2.2)) .bad)
theorem impl_numbersOf.run (a : Nat × Int × List ByteArray) : runF impl_numbersOf.C Tryd.f31.results.toList impl_numbersOf.b (impl_numbersOf.cd.enc a).1 (impl_numbersOf.cd.enc a).2 = (impl_numbersOf.tr a).map (impl_numbersOf.enc a) := by kernel_rfl
theorem impl_numbersOf.cok : OKe Tryd.prog 31 impl_numbersOf.c := con_e' impl_numbersOf.cd impl_numbersOf.hC Tryd.func31 (by kernel_rfl) (by kernel_rfl) (by kernel_rfl) impl_numbersOf.lp (fun a => by kernel_rfl) impl_numbersOf.run (Tells.okS (tree := impl_numbersOf.tr) (ex := impl_numbersOf.ex) fun a => (Gets.sum Gets.leaf Gets.leaf))
/-! ### impl_between -/
noncomputable def impl_between.b : Code := bodyOf Tryd.f72
noncomputable def impl_between.C : Ctx := { ty := tys, fn := [], lp := [], n := 15, k := 0 }
theorem impl_between.hC : CtxOK Tryd.prog impl_between.C := CtxOK.of mo tys_ok FnsOK.nil
theorem impl_between.lp : LpOK Tryd.prog impl_between.C impl_between.b := (LpOK.nil (by kernel_rfl))
noncomputable def impl_between.t (x0 : Nat) (x1 : Nat) (x2 : Nat) : T Bool :=
  .br (fle .f32 x1 x0)
  (.leaf (fle .f32 x0 x2))
  (.leaf false)
noncomputable def impl_between (x0 : Nat) (x1 : Nat) (x2 : Nat) : Bool := (impl_between.t x0 x1 x2).val
def impl_between.cd : Cd (Nat × Nat × Nat) (List V × Hp) := Cd.iso (Cd.pair (Cd.cons (Cd.fl .f32) (Cd.cons (Cd.fl .f32) (Cd.cons (Cd.fl .f32) Cd.nil))) Cd.nil) (fun a => (a.1.1, a.1.2.1, a.1.2.2.1)) (fun a => ((a.1, (a.2.1, (a.2.2, ()))), ())) (fun _ => rfl)
noncomputable def impl_between.tr (a : Nat × Nat × Nat) : T Bool := impl_between.t a.1 a.2.1 a.2.2
def impl_between.enc : (Nat × Nat × Nat) → Bool → V := fun a r => .bo r
noncomputable def impl_between.c : List V → Hp → T V := cdQ impl_between.cd (fun a => .leaf (impl_between.enc a (impl_between a.1 a.2.1 a.2.2)))
theorem impl_between.run (a : Nat × Nat × Nat) : runF impl_between.C Tryd.f72.results.toList impl_between.b (impl_between.cd.enc a).1 (impl_between.cd.enc a).2 = (impl_between.tr a).map fun r => (impl_between.enc a r, (impl_between.cd.enc a).2) := by kernel_rfl
theorem impl_between.cok : OKq Tryd.prog 72 impl_between.c := con_q' impl_between.cd impl_between.hC Tryd.func72 (by kernel_rfl) (by kernel_rfl) (by kernel_rfl) impl_between.lp (fun a => by kernel_rfl) impl_between.run (Tells.val (tree := impl_between.tr) fun a => by kernel_rfl)
/-! ### impl_IsRate -/
noncomputable def impl_IsRate.b : Code := bodyOf Tryd.f40
noncomputable def impl_IsRate.C : Ctx := { ty := tys, fn := [(72, .q impl_between.c)], lp := [], n := 5, k := 0 }
theorem impl_IsRate.hC : CtxOK Tryd.prog impl_IsRate.C := CtxOK.of mo tys_ok (FnsOK.cons impl_between.cok FnsOK.nil)
theorem impl_IsRate.lp : LpOK Tryd.prog impl_IsRate.C impl_IsRate.b := (LpOK.nil (by kernel_rfl))
noncomputable def impl_IsRate.t (x0 : Nat) : T Bool :=
  .leaf (impl_between x0 0 1149239296)
noncomputable def impl_IsRate (x0 : Nat) : Bool := (impl_IsRate.t x0).val
def impl_IsRate.cd : Cd Nat (List V × Hp) := Cd.iso (Cd.pair (Cd.cons (Cd.fl .f32) Cd.nil) Cd.nil) (fun a => a.1.1) (fun a => ((a, ()), ())) (fun _ => rfl)
noncomputable def impl_IsRate.tr (a : Nat) : T Bool := impl_IsRate.t a
def impl_IsRate.enc : Nat → Bool → V := fun a r => .bo r
noncomputable def impl_IsRate.c : List V → Hp → T V := cdQ impl_IsRate.cd (fun a => .leaf (impl_IsRate.enc a (impl_IsRate a)))
theorem impl_IsRate.run (a : Nat) : runF impl_IsRate.C Tryd.f40.results.toList impl_IsRate.b (impl_IsRate.cd.enc a).1 (impl_IsRate.cd.enc a).2 = (impl_IsRate.tr a).map fun r => (impl_IsRate.enc a r, (impl_IsRate.cd.enc a).2) := by kernel_rfl
theorem impl_IsRate.cok : OKq Tryd.prog 40 impl_IsRate.c := con_q' impl_IsRate.cd impl_IsRate.hC Tryd.func40 (by kernel_rfl) (by kernel_rfl) (by kernel_rfl) impl_IsRate.lp (fun a => by kernel_rfl) impl_IsRate.run (Tells.val (tree := impl_IsRate.tr) fun a => by kernel_rfl)
/-! ### impl_IsPart -/
noncomputable def impl_IsPart.b : Code := bodyOf Tryd.f52
noncomputable def impl_IsPart.C : Ctx := { ty := tys, fn := [(72, .q impl_between.c)], lp := [], n := 5, k := 0 }
theorem impl_IsPart.hC : CtxOK Tryd.prog impl_IsPart.C := CtxOK.of mo tys_ok (FnsOK.cons impl_between.cok FnsOK.nil)
theorem impl_IsPart.lp : LpOK Tryd.prog impl_IsPart.C impl_IsPart.b := (LpOK.nil (by kernel_rfl))
noncomputable def impl_IsPart.t (x0 : Nat) : T Bool :=
  .leaf (impl_between x0 0 1065353216)
noncomputable def impl_IsPart (x0 : Nat) : Bool := (impl_IsPart.t x0).val
def impl_IsPart.cd : Cd Nat (List V × Hp) := Cd.iso (Cd.pair (Cd.cons (Cd.fl .f32) Cd.nil) Cd.nil) (fun a => a.1.1) (fun a => ((a, ()), ())) (fun _ => rfl)
noncomputable def impl_IsPart.tr (a : Nat) : T Bool := impl_IsPart.t a
def impl_IsPart.enc : Nat → Bool → V := fun a r => .bo r
noncomputable def impl_IsPart.c : List V → Hp → T V := cdQ impl_IsPart.cd (fun a => .leaf (impl_IsPart.enc a (impl_IsPart a)))
theorem impl_IsPart.run (a : Nat) : runF impl_IsPart.C Tryd.f52.results.toList impl_IsPart.b (impl_IsPart.cd.enc a).1 (impl_IsPart.cd.enc a).2 = (impl_IsPart.tr a).map fun r => (impl_IsPart.enc a r, (impl_IsPart.cd.enc a).2) := by kernel_rfl
theorem impl_IsPart.cok : OKq Tryd.prog 52 impl_IsPart.c := con_q' impl_IsPart.cd impl_IsPart.hC Tryd.func52 (by kernel_rfl) (by kernel_rfl) (by kernel_rfl) impl_IsPart.lp (fun a => by kernel_rfl) impl_IsPart.run (Tells.val (tree := impl_IsPart.tr) fun a => by kernel_rfl)
/-! ### impl_ValidStone -/
noncomputable def impl_ValidStone.b : Code := bodyOf Tryd.f18
noncomputable def impl_ValidStone.C : Ctx := { ty := tys, fn := [(40, .q impl_IsRate.c), (52, .q impl_IsPart.c)], lp := [], n := 21, k := 0 }
theorem impl_ValidStone.hC : CtxOK Tryd.prog impl_ValidStone.C := CtxOK.of mo tys_ok (FnsOK.cons impl_IsRate.cok (FnsOK.cons impl_IsPart.cok FnsOK.nil))
theorem impl_ValidStone.lp : LpOK Tryd.prog impl_ValidStone.C impl_ValidStone.b := (LpOK.nil (by kernel_rfl))
noncomputable def impl_ValidStone.t (x0 : Nat) (x1 : Nat) (x2 : Nat) (x3 : Nat) : T Bool :=
  .br (impl_IsRate x0)
  (.br (impl_IsRate x1)
   (.br (impl_IsRate x2)
    (.leaf (impl_IsPart x3))
    (.leaf false))
   (.leaf false))
  (.leaf false)
noncomputable def impl_ValidStone (x0 : Nat) (x1 : Nat) (x2 : Nat) (x3 : Nat) : Bool := (impl_ValidStone.t x0 x1 x2 x3).val
def impl_ValidStone.cd : Cd (Nat × Nat × Nat × Nat) (List V × Hp) := Cd.iso (Cd.pair (Cd.cons (Cd.agg (Cd.cons (Cd.fl .f32) (Cd.cons (Cd.fl .f32) (Cd.cons (Cd.fl .f32) (Cd.cons (Cd.fl .f32) Cd.nil))))) Cd.nil) Cd.nil) (fun a => (a.1.1.1, a.1.1.2.1, a.1.1.2.2.1, a.1.1.2.2.2.1)) (fun a => (((a.1, (a.2.1, (a.2.2.1, (a.2.2.2, ())))), ()), ())) (fun _ => rfl)
noncomputable def impl_ValidStone.tr (a : Nat × Nat × Nat × Nat) : T Bool := impl_ValidStone.t a.1 a.2.1 a.2.2.1 a.2.2.2
def impl_ValidStone.enc : (Nat × Nat × Nat × Nat) → Bool → V := fun a r => .bo r
noncomputable def impl_ValidStone.c : List V → Hp → T V := cdQ impl_ValidStone.cd (fun a => .leaf (impl_ValidStone.enc a (impl_ValidStone a.1 a.2.1 a.2.2.1 a.2.2.2)))
theorem impl_ValidStone.run (a : Nat × Nat × Nat × Nat) : runF impl_ValidStone.C Tryd.f18.results.toList impl_ValidStone.b (impl_ValidStone.cd.enc a).1 (impl_ValidStone.cd.enc a).2 = (impl_ValidStone.tr a).map fun r => (impl_ValidStone.enc a r, (impl_ValidStone.cd.enc a).2) := by kernel_rfl
theorem impl_ValidStone.cok : OKq Tryd.prog 18 impl_ValidStone.c := con_q' impl_ValidStone.cd impl_ValidStone.hC Tryd.func18 (by kernel_rfl) (by kernel_rfl) (by kernel_rfl) impl_ValidStone.lp (fun a => by kernel_rfl) impl_ValidStone.run (Tells.val (tree := impl_ValidStone.tr) fun a => by kernel_rfl)
/-! ### impl_texts -/
noncomputable def impl_texts.b : Code := bodyOf Tryd.f37
noncomputable def impl_texts.l3.s (x0 : ByteArray) (x1 : Nat) (x2 : Nat) (x3 : Int) (x4 : Int) (x5 : List Nat) (x6 : List ByteArray) : T ((Nat × Int × List ByteArray) ⊕ (Nat × List ByteArray)) :=
  .br (decide (x4 < x3))
  (.br (bounds x4 x2)
   (.br (Nat.ble ((Int.toNat x4 * 1) + 1) (List.length x5))
    (.br (impl_NumberText.ok (List.getD x5 (Int.toNat x4 * 1) 0))
     (.br ((Nat.ble 1 (List.length [(impl_NumberText (List.getD x5 (Int.toNat x4 * 1) 0))])) && (Nat.beq (List.length x6) (x1 * 1) && Nat.ble ((x1 + 1) * 16) 35184372088832 && Nat.ble (x1 + 1) 35184372088832))
      (.leaf (.inl ((x1 + 1), (IntKind.wrap .i64 (x4 + (1 : Int))), (x6 ++ (List.take 1 (List.drop 0 [(impl_NumberText (List.getD x5 (Int.toNat x4 * 1) 0))]))))))
      .bad)
     .bad)
    .bad)
   .bad)
  (.leaf (.inr (x1, x6)))
noncomputable def impl_texts.l3.st (p : ByteArray × Nat × Int × List Nat) (x : Nat × Int × List ByteArray) : T ((Nat × Int × List ByteArray) ⊕ (Nat × List ByteArray)) := impl_texts.l3.s p.1 x.1 p.2.1 p.2.2.1 x.2.1 p.2.2.2 x.2.2
noncomputable def impl_texts.l3.r (p : ByteArray × Nat × Int × List Nat) (x : Nat × Int × List ByteArray) : Option (Nat × List ByteArray) := iterT (impl_texts.l3.st p) manyRounds x
def impl_texts.l3.cd : Cd ((ByteArray × Nat × Int × List Nat) × (Nat × Int × List ByteArray)) (List V × Hp) := Cd.iso (Cd.pair (Cd.cons Cd.st (Cd.cons (Cd.own 1) (Cd.cons (Cd.own 0) (Cd.cons (Cd.it .i64) (Cd.cons (Cd.it .i64) Cd.nil))))) (Cd.cons (Cd.rw 22 1 (Cd.fs .f32)) (Cd.cons (Cd.rw 9 1 Cd.ss) Cd.nil))) (fun a => ((a.1.1, a.1.2.2.1, a.1.2.2.2.1, a.2.1), (a.1.2.1, a.1.2.2.2.2.1, a.2.2.1))) (fun a => ((a.1.1, (a.2.1, (a.1.2.1, (a.1.2.2.1, (a.2.2.1, ()))))), (a.1.2.2.2, (a.2.2.2, ())))) (fun _ => rfl)
def impl_texts.l3.out (p : ByteArray × Nat × Int × List Nat) : (Nat × List ByteArray) → X × List V × Hp := (fun r => (.ex 0, [.st p.1, .own 1 r.1], [some ⟨true, 22, 1, .fs .f32 p.2.2.2⟩, some ⟨true, 9, 1, .ss r.2⟩]))
def impl_texts.l3.ex (p : ByteArray × Nat × Int × List Nat) : (Nat × List ByteArray) → T (X × List V × Hp) := leafT (fun r => (.ex 0, [.st p.1, .own 1 r.1], [some ⟨true, 22, 1, .fs .f32 p.2.2.2⟩, some ⟨true, 9, 1, .ss r.2⟩]))
noncomputable def impl_texts.l3.c : List V → Hp → T (X × List V × Hp) := cdL impl_texts.l3.cd fun x => optT (impl_texts.l3.r x.1 x.2) (impl_texts.l3.ex x.1)
noncomputable def impl_texts.C : Ctx := { ty := tys, fn := [(70, .q impl_NumberText.c), (71, .q joinC)], lp := [(3, ⟨[0, 5, 9, 10, 11], [0, 5], impl_texts.l3.c⟩)], n := 24, k := 1 }
theorem impl_texts.hC : CtxOK Tryd.prog impl_texts.C := CtxOK.of mo tys_ok (FnsOK.cons impl_NumberText.cok (FnsOK.cons (join_ok Tryd.func71 (by kernel_rfl) (by kernel_rfl) (fun bk o c xs sep w h1 h2 h3 h4 h5 => Tryd.strings_Join bk o c xs sep w h1 h2 h3 h4 h5)) FnsOK.nil))
noncomputable def impl_texts.b3 : Code := (nthC (loopsOf impl_texts.b) 0)
theorem impl_texts.lp3 : LpOK Tryd.prog impl_texts.C impl_texts.b3 := (LpOK.nil (by kernel_rfl))
theorem impl_texts.l3.round (p : ByteArray × Nat × Int × List Nat) (s : Nat × Int × List ByteArray) : roundL impl_texts.C [0, 5, 9, 10, 11] [0, 5] impl_texts.b3 (impl_texts.l3.cd.enc (p, s)).1 (impl_texts.l3.cd.enc (p, s)).2 = (impl_texts.l3.st p s).map (encSum (fun s => impl_texts.l3.cd.enc (p, s)) (impl_texts.l3.out p)) := by kernel_rfl
theorem impl_texts.l3.lok : LoopOK Tryd.prog impl_texts.C ⟨[0, 5, 9, 10, 11], [0, 5], impl_texts.l3.c⟩ impl_texts.b3 := loop_cd impl_texts.l3.cd impl_texts.hC impl_texts.lp3 impl_texts.l3.round fun p => Gets.leaf
theorem impl_texts.lp : LpOK Tryd.prog impl_texts.C impl_texts.b := lp_of (by kernel_rfl) (LpsOK.cons (k := 3) (by kernel_rfl) (by kernel_rfl) impl_texts.l3.lok LpsOK.nil)
noncomputable def impl_texts.t (x0 : ByteArray) (x1 : Nat) (x2 : List Nat) : T ByteArray :=
  .br (Option.isSome (impl_texts.l3.r (x0, x1, ((x1 : Nat) : Int), x2) (0, (0 : Int), [])))
  (.br (joinOk ((Option.getD (impl_texts.l3.r (x0, x1, ((x1 : Nat) : Int), x2) (0, (0 : Int), [])) default).2) ((Option.getD (impl_texts.l3.r (x0, x1, ((x1 : Nat) : Int), x2) (0, (0 : Int), [])) default).1) x0)
   (.leaf (joinB ((Option.getD (impl_texts.l3.r (x0, x1, ((x1 : Nat) : Int), x2) (0, (0 : Int), [])) default).2) x0))
   .bad)
  .bad
noncomputable def impl_texts (x0 : ByteArray) (x1 : Nat) (x2 : List Nat) : ByteArray := (impl_texts.t x0 x1 x2).val
noncomputable def impl_texts.ok (x0 : ByteArray) (x1 : Nat) (x2 : List Nat) : Bool := (impl_texts.t x0 x1 x2).ok
def impl_texts.cd : Cd (ByteArray × Nat × List Nat) (List V × Hp) := Cd.iso (Cd.pair (Cd.cons Cd.st (Cd.cons (Cd.own 0) Cd.nil)) (Cd.cons (Cd.rw 22 1 (Cd.fs .f32)) Cd.nil)) (fun a => (a.1.1, a.1.2.1, a.2.1)) (fun a => ((a.1, (a.2.1, ())), (a.2.2, ()))) (fun _ => rfl)
noncomputable def impl_texts.tr (a : ByteArray × Nat × List Nat) : T ByteArray := impl_texts.t a.1 a.2.1 a.2.2
def impl_texts.enc : (ByteArray × Nat × List Nat) → ByteArray → V := fun a r => .st r
noncomputable def impl_texts.c : List V → Hp → T V := cdQ impl_texts.cd (fun a => .br (impl_texts.ok a.1 a.2.1 a.2.2) (.leaf (impl_texts.enc a (impl_texts a.1 a.2.1 a.2.2))) .bad)
theorem impl_texts.run (a : ByteArray × Nat × List Nat) : runF impl_texts.C Tryd.f37.results.toList impl_texts.b (impl_texts.cd.enc a).1 (impl_texts.cd.enc a).2 = (impl_texts.tr a).map fun r => (impl_texts.enc a r, (impl_texts.cd.enc a).2) := by kernel_rfl
theorem impl_texts.cok : OKq Tryd.prog 37 impl_texts.c := con_q' impl_texts.cd impl_texts.hC Tryd.func37 (by kernel_rfl) (by kernel_rfl) (by kernel_rfl) impl_texts.lp (fun a => by kernel_rfl) impl_texts.run (Tells.ok (tree := impl_texts.tr))
/-! ### impl_StoneText -/
noncomputable def impl_StoneText.b : Code := bodyOf Tryd.f11
noncomputable def impl_StoneText.C : Ctx := { ty := tys, fn := [(18, .q impl_ValidStone.c), (37, .q impl_texts.c)], lp := [], n := 16, k := 1 }
theorem impl_StoneText.hC : CtxOK Tryd.prog impl_StoneText.C := CtxOK.of mo tys_ok (FnsOK.cons impl_ValidStone.cok (FnsOK.cons impl_texts.cok FnsOK.nil))
theorem impl_StoneText.lp : LpOK Tryd.prog impl_StoneText.C impl_StoneText.b := (LpOK.nil (by kernel_rfl))
noncomputable def impl_StoneText.t (x0 : Nat) (x1 : Nat) (x2 : Nat) (x3 : Nat) (x4 : Int) : T ByteArray :=
  .br (!(impl_ValidStone x0 x1 x2 x3))
  (.leaf (ByteArray.mk #[]))
  (.br (impl_texts.ok (ByteArray.mk #[47]) 4 [x0, x1, x2, x3])
   (.leaf (impl_texts (ByteArray.mk #[47]) 4 [x0, x1, x2, x3]))
   .bad)
noncomputable def impl_StoneText (x0 : Nat) (x1 : Nat) (x2 : Nat) (x3 : Nat) (x4 : Int) : ByteArray := (impl_StoneText.t x0 x1 x2 x3 x4).val
noncomputable def impl_StoneText.ok (x0 : Nat) (x1 : Nat) (x2 : Nat) (x3 : Nat) (x4 : Int) : Bool := (impl_StoneText.t x0 x1 x2 x3 x4).ok
def impl_StoneText.cd : Cd (Nat × Nat × Nat × Nat × Int) (List V × Hp) := Cd.iso (Cd.pair (Cd.cons (Cd.agg (Cd.cons (Cd.fl .f32) (Cd.cons (Cd.fl .f32) (Cd.cons (Cd.fl .f32) (Cd.cons (Cd.fl .f32) Cd.nil))))) Cd.nil) (Cd.cons (Cd.ro 0 2 (Cd.vs (Cd.cons (Cd.it .i64) Cd.nil))) Cd.nil)) (fun a => (a.1.1.1, a.1.1.2.1, a.1.1.2.2.1, a.1.1.2.2.2.1, a.2.1.1)) (fun a => (((a.1, (a.2.1, (a.2.2.1, (a.2.2.2.1, ())))), ()), ((a.2.2.2.2, ()), ()))) (fun _ => rfl)
noncomputable def impl_StoneText.tr (a : Nat × Nat × Nat × Nat × Int) : T ByteArray := impl_StoneText.t a.1 a.2.1 a.2.2.1 a.2.2.2.1 a.2.2.2.2
def impl_StoneText.enc : (Nat × Nat × Nat × Nat × Int) → ByteArray → V := fun a r => .st r
noncomputable def impl_StoneText.c : List V → Hp → T V := cdQ impl_StoneText.cd (fun a => .br (impl_StoneText.ok a.1 a.2.1 a.2.2.1 a.2.2.2.1 a.2.2.2.2) (.leaf (impl_StoneText.enc a (impl_StoneText a.1 a.2.1 a.2.2.1 a.2.2.2.1 a.2.2.2.2))) .bad)
theorem impl_StoneText.run (a : Nat × Nat × Nat × Nat × Int) : runF impl_StoneText.C Tryd.f11.results.toList impl_StoneText.b (impl_StoneText.cd.enc a).1 (impl_StoneText.cd.enc a).2 = (impl_StoneText.tr a).map fun r => (impl_StoneText.enc a r, (impl_StoneText.cd.enc a).2) := by kernel_rfl
theorem impl_StoneText.cok : OKq Tryd.prog 11 impl_StoneText.c := con_q' impl_StoneText.cd impl_StoneText.hC Tryd.func11 (by kernel_rfl) (by kernel_rfl) (by kernel_rfl) impl_StoneText.lp (fun a => by kernel_rfl) impl_StoneText.run (Tells.ok (tree := impl_StoneText.tr))
/-! ### impl_ReadStone -/
noncomputable def impl_ReadStone.b : Code := bodyOf Tryd.f6
noncomputable def impl_ReadStone.C : Ctx := { ty := tys, fn := [(32, .e (splitC 2 9)), (31, .e impl_numbersOf.c), (11, .q impl_StoneText.c)], lp := [], n := 40, k := 1, g := 1 }
theorem impl_ReadStone.hC : CtxOK Tryd.prog impl_ReadStone.C := CtxOK.of mo tys_ok (FnsOK.cons (split_ok Tryd.func32 (by kernel_rfl) (by kernel_rfl) (fun s sep m w h1 h2 h3 => Tryd.strings_Split s sep m w h1 h2 h3)) (FnsOK.cons impl_numbersOf.cok (FnsOK.cons impl_StoneText.cok FnsOK.nil)))
theorem impl_ReadStone.lp : LpOK Tryd.prog impl_ReadStone.C impl_ReadStone.b := (LpOK.nil (by kernel_rfl))
noncomputable def impl_ReadStone.t (x0 : ByteArray) (x1 : Int) : T (Nat × Nat × Nat × Nat × Int) :=
  .br (Nat.ble (ByteArray.size x0) 1048576 && Nat.ble 1 (ByteArray.size (ByteArray.mk #[47])))
  (.br (impl_numbersOf.ok (List.length (splitL x0 (ByteArray.mk #[47]))) x1 (splitL x0 (ByteArray.mk #[47])))
   (.br (Sum.isLeft (impl_numbersOf (List.length (splitL x0 (ByteArray.mk #[47]))) x1 (splitL x0 (ByteArray.mk #[47]))))
    (.br (!(getLeftD (impl_numbersOf (List.length (splitL x0 (ByteArray.mk #[47]))) x1 (splitL x0 (ByteArray.mk #[47])))))
     (.leaf (0, 0, 0, 0, (5 : Int)))
     (.br (((0 : Nat) : Int) != (4 : Int))
      (.leaf (0, 0, 0, 0, (5 : Int)))
      .bad))
    (.br (!(getRightD (impl_numbersOf (List.length (splitL x0 (ByteArray.mk #[47]))) x1 (splitL x0 (ByteArray.mk #[47])))).2.1)
     (.leaf (0, 0, 0, 0, (5 : Int)))
     (.br ((((getRightD (impl_numbersOf (List.length (splitL x0 (ByteArray.mk #[47]))) x1 (splitL x0 (ByteArray.mk #[47])))).1 : Nat) : Int) != (4 : Int))
      (.leaf (0, 0, 0, 0, (5 : Int)))
      (.br (bounds (0 : Int) ((getRightD (impl_numbersOf (List.length (splitL x0 (ByteArray.mk #[47]))) x1 (splitL x0 (ByteArray.mk #[47])))).1))
       (.br (Nat.ble 1 (List.length ((getRightD (impl_numbersOf (List.length (splitL x0 (ByteArray.mk #[47]))) x1 (splitL x0 (ByteArray.mk #[47])))).2.2)))
        (.br (bounds (1 : Int) ((getRightD (impl_numbersOf (List.length (splitL x0 (ByteArray.mk #[47]))) x1 (splitL x0 (ByteArray.mk #[47])))).1))
         (.br (Nat.ble 2 (List.length ((getRightD (impl_numbersOf (List.length (splitL x0 (ByteArray.mk #[47]))) x1 (splitL x0 (ByteArray.mk #[47])))).2.2)))
          (.br (bounds (2 : Int) ((getRightD (impl_numbersOf (List.length (splitL x0 (ByteArray.mk #[47]))) x1 (splitL x0 (ByteArray.mk #[47])))).1))
           (.br (Nat.ble 3 (List.length ((getRightD (impl_numbersOf (List.length (splitL x0 (ByteArray.mk #[47]))) x1 (splitL x0 (ByteArray.mk #[47])))).2.2)))
            (.br (bounds (3 : Int) ((getRightD (impl_numbersOf (List.length (splitL x0 (ByteArray.mk #[47]))) x1 (splitL x0 (ByteArray.mk #[47])))).1))
             (.br (Nat.ble 4 (List.length ((getRightD (impl_numbersOf (List.length (splitL x0 (ByteArray.mk #[47]))) x1 (splitL x0 (ByteArray.mk #[47])))).2.2)))
              (.br (impl_StoneText.ok (List.getD ((getRightD (impl_numbersOf (List.length (splitL x0 (ByteArray.mk #[47]))) x1 (splitL x0 (ByteArray.mk #[47])))).2.2) 0 0) (List.getD ((getRightD (impl_numbersOf (List.length (splitL x0 (ByteArray.mk #[47]))) x1 (splitL x0 (ByteArray.mk #[47])))).2.2) 1 0) (List.getD ((getRightD (impl_numbersOf (List.length (splitL x0 (ByteArray.mk #[47]))) x1 (splitL x0 (ByteArray.mk #[47])))).2.2) 2 0) (List.getD ((getRightD (impl_numbersOf (List.length (splitL x0 (ByteArray.mk #[47]))) x1 (splitL x0 (ByteArray.mk #[47])))).2.2) 3 0) x1)
               (.br (!seq? (impl_StoneText (List.getD ((getRightD (impl_numbersOf (List.length (splitL x0 (ByteArray.mk #[47]))) x1 (splitL x0 (ByteArray.mk #[47])))).2.2) 0 0) (List.getD ((getRightD (impl_numbersOf (List.length (splitL x0 (ByteArray.mk #[47]))) x1 (splitL x0 (ByteArray.mk #[47])))).2.2) 1 0) (List.getD ((getRightD (impl_numbersOf (List.length (splitL x0 (ByteArray.mk #[47]))) x1 (splitL x0 (ByteArray.mk #[47])))).2.2) 2 0) (List.getD ((getRightD (impl_numbersOf (List.length (splitL x0 (ByteArray.mk #[47]))) x1 (splitL x0 (ByteArray.mk #[47])))).2.2) 3 0) x1) x0)
                (.leaf (0, 0, 0, 0, (5 : Int)))
                (.leaf ((List.getD ((getRightD (impl_numbersOf (List.length (splitL x0 (ByteArray.mk #[47]))) x1 (splitL x0 (ByteArray.mk #[47])))).2.2) 0 0), (List.getD ((getRightD (impl_numbersOf (List.length (splitL x0 (ByteArray.mk #[47]))) x1 (splitL x0 (ByteArray.mk #[47])))).2.2) 1 0), (List.getD ((getRightD (impl_numbersOf (List.length (splitL x0 (ByteArray.mk #[47]))) x1 (splitL x0 (ByteArray.mk #[47])))).2.2) 2 0), (List.getD ((getRightD (impl_numbersOf (List.length (splitL x0 (ByteArray.mk #[47]))) x1 (splitL x0 (ByteArray.mk #[47])))).2.2) 3 0), (0 : Int))))
               .bad)
              .bad)
             .bad)
            .bad)
           .bad)
          .bad)
         .bad)
        .bad)
       .bad))))
   .bad)
  .bad
noncomputable def impl_ReadStone (x0 : ByteArray) (x1 : Int) : Nat × Nat × Nat × Nat × Int := (impl_ReadStone.t x0 x1).val
noncomputable def impl_ReadStone.ok (x0 : ByteArray) (x1 : Int) : Bool := (impl_ReadStone.t x0 x1).ok
def impl_ReadStone.cd : Cd (ByteArray × Int) (List V × Hp) := Cd.iso (Cd.pair (Cd.cons Cd.st Cd.nil) (Cd.cons (Cd.ro 0 2 (Cd.vs (Cd.cons (Cd.it .i64) Cd.nil))) Cd.nil)) (fun a => (a.1.1, a.2.1.1)) (fun a => ((a.1, ()), ((a.2, ()), ()))) (fun _ => rfl)
noncomputable def impl_ReadStone.tr (a : ByteArray × Int) : T (Nat × Nat × Nat × Nat × Int) := impl_ReadStone.t a.1 a.2
def impl_ReadStone.enc : (ByteArray × Int) → (Nat × Nat × Nat × Nat × Int) → V := fun a r => .tup [.agg [.fl .f32 r.1, .fl .f32 r.2.1, .fl .f32 r.2.2.1, .fl .f32 r.2.2.2.1], .it .i64 r.2.2.2.2]
noncomputable def impl_ReadStone.c : List V → Hp → T V := cdQ impl_ReadStone.cd (fun a => .br (impl_ReadStone.ok a.1 a.2) (.leaf (impl_ReadStone.enc a (impl_ReadStone a.1 a.2))) .bad)
theorem impl_ReadStone.run (a : ByteArray × Int) : runF impl_ReadStone.C Tryd.f6.results.toList impl_ReadStone.b (impl_ReadStone.cd.enc a).1 (impl_ReadStone.cd.enc a).2 = (impl_ReadStone.tr a).map fun r => (impl_ReadStone.enc a r, (impl_ReadStone.cd.enc a).2) := by kernel_rfl
theorem impl_ReadStone.cok : OKq Tryd.prog 6 impl_ReadStone.c := con_q' impl_ReadStone.cd impl_ReadStone.hC Tryd.func6 (by kernel_rfl) (by kernel_rfl) (by kernel_rfl) impl_ReadStone.lp (fun a => by kernel_rfl) impl_ReadStone.run (Tells.ok (tree := impl_ReadStone.tr))
/-! ### laws_sameFloat -/
noncomputable def laws_sameFloat.b : Code := bodyOf Tryd.f33
noncomputable def laws_sameFloat.C : Ctx := { ty := tys, fn := [], lp := [], n := 37, k := 0 }
theorem laws_sameFloat.hC : CtxOK Tryd.prog laws_sameFloat.C := CtxOK.of mo tys_ok FnsOK.nil
theorem laws_sameFloat.lp : LpOK Tryd.prog laws_sameFloat.C laws_sameFloat.b := (LpOK.nil (by kernel_rfl))
noncomputable def laws_sameFloat.t (x0 : Nat) (x1 : Nat) : T Bool :=
  .br (fne .f64 x0 x0)
  (.br (fne .f64 x0 x0)
   (.leaf (fne .f64 x1 x1))
   (.leaf false))
  (.br (fne .f64 x1 x1)
   (.br (fne .f64 x0 x0)
    (.leaf (fne .f64 x1 x1))
    (.leaf false))
   (.br (feq .f64 x0 0)
    (.br (feq .f64 x1 0)
     (.leaf ((fgt .f64 (fdiv .f64 4607182418800017408 x0) 0) == (fgt .f64 (fdiv .f64 4607182418800017408 x1) 0)))
     (.leaf (feq .f64 x0 x1)))
    (.leaf (feq .f64 x0 x1))))
noncomputable def laws_sameFloat (x0 : Nat) (x1 : Nat) : Bool := (laws_sameFloat.t x0 x1).val
def laws_sameFloat.cd : Cd (Nat × Nat) (List V × Hp) := Cd.iso (Cd.pair (Cd.cons (Cd.fl .f64) (Cd.cons (Cd.fl .f64) Cd.nil)) Cd.nil) (fun a => (a.1.1, a.1.2.1)) (fun a => ((a.1, (a.2, ())), ())) (fun _ => rfl)
noncomputable def laws_sameFloat.tr (a : Nat × Nat) : T Bool := laws_sameFloat.t a.1 a.2
def laws_sameFloat.enc : (Nat × Nat) → Bool → V := fun a r => .bo r
noncomputable def laws_sameFloat.c : List V → Hp → T V := cdQ laws_sameFloat.cd (fun a => .leaf (laws_sameFloat.enc a (laws_sameFloat a.1 a.2)))
theorem laws_sameFloat.run (a : Nat × Nat) : runF laws_sameFloat.C Tryd.f33.results.toList laws_sameFloat.b (laws_sameFloat.cd.enc a).1 (laws_sameFloat.cd.enc a).2 = (laws_sameFloat.tr a).map fun r => (laws_sameFloat.enc a r, (laws_sameFloat.cd.enc a).2) := by kernel_rfl
theorem laws_sameFloat.cok : OKq Tryd.prog 33 laws_sameFloat.c := con_q' laws_sameFloat.cd laws_sameFloat.hC Tryd.func33 (by kernel_rfl) (by kernel_rfl) (by kernel_rfl) laws_sameFloat.lp (fun a => by kernel_rfl) laws_sameFloat.run (Tells.val (tree := laws_sameFloat.tr) fun a => by kernel_rfl)
/-! ### laws_eqStone -/
noncomputable def laws_eqStone.b : Code := bodyOf Tryd.f7
noncomputable def laws_eqStone.C : Ctx := { ty := tys, fn := [(33, .q laws_sameFloat.c)], lp := [], n := 37, k := 1 }
theorem laws_eqStone.hC : CtxOK Tryd.prog laws_eqStone.C := CtxOK.of mo tys_ok (FnsOK.cons laws_sameFloat.cok FnsOK.nil)
theorem laws_eqStone.lp : LpOK Tryd.prog laws_eqStone.C laws_eqStone.b := (LpOK.nil (by kernel_rfl))
noncomputable def laws_eqStone.t (x0 : Nat) (x1 : Nat) (x2 : Nat) (x3 : Nat) (x4 : Nat) (x5 : Nat) (x6 : Nat) (x7 : Nat) (x8 : Int) : T Bool :=
  .br (fcvOpen .f32 .f64 x0)
  .bad
  (.br (fcvOpen .f32 .f64 x4)
   .bad
   (.br (!(laws_sameFloat (fcv .f32 .f64 x0) (fcv .f32 .f64 x4)))
    (.leaf false)
    (.br (fcvOpen .f32 .f64 x1)
     .bad
     (.br (fcvOpen .f32 .f64 x5)
      .bad
      (.br (!(laws_sameFloat (fcv .f32 .f64 x1) (fcv .f32 .f64 x5)))
       (.leaf false)
       (.br (fcvOpen .f32 .f64 x2)
        .bad
        (.br (fcvOpen .f32 .f64 x6)
         .bad
         (.br (!(laws_sameFloat (fcv .f32 .f64 x2) (fcv .f32 .f64 x6)))
          (.leaf false)
          (.br (fcvOpen .f32 .f64 x3)
           .bad
           (.br (fcvOpen .f32 .f64 x7)
            .bad
            (.br (!(laws_sameFloat (fcv .f32 .f64 x3) (fcv .f32 .f64 x7)))
             (.leaf false)
             (.leaf true))))))))))))
noncomputable def laws_eqStone (x0 : Nat) (x1 : Nat) (x2 : Nat) (x3 : Nat) (x4 : Nat) (x5 : Nat) (x6 : Nat) (x7 : Nat) (x8 : Int) : Bool := (laws_eqStone.t x0 x1 x2 x3 x4 x5 x6 x7 x8).val
noncomputable def laws_eqStone.ok (x0 : Nat) (x1 : Nat) (x2 : Nat) (x3 : Nat) (x4 : Nat) (x5 : Nat) (x6 : Nat) (x7 : Nat) (x8 : Int) : Bool := (laws_eqStone.t x0 x1 x2 x3 x4 x5 x6 x7 x8).ok
def laws_eqStone.cd : Cd (Nat × Nat × Nat × Nat × Nat × Nat × Nat × Nat × Int) (List V × Hp) := Cd.iso (Cd.pair (Cd.cons (Cd.agg (Cd.cons (Cd.fl .f32) (Cd.cons (Cd.fl .f32) (Cd.cons (Cd.fl .f32) (Cd.cons (Cd.fl .f32) Cd.nil))))) (Cd.cons (Cd.agg (Cd.cons (Cd.fl .f32) (Cd.cons (Cd.fl .f32) (Cd.cons (Cd.fl .f32) (Cd.cons (Cd.fl .f32) Cd.nil))))) Cd.nil)) (Cd.cons (Cd.ro 0 2 (Cd.vs (Cd.cons (Cd.it .i64) Cd.nil))) Cd.nil)) (fun a => (a.1.1.1, a.1.1.2.1, a.1.1.2.2.1, a.1.1.2.2.2.1, a.1.2.1.1, a.1.2.1.2.1, a.1.2.1.2.2.1, a.1.2.1.2.2.2.1, a.2.1.1)) (fun a => (((a.1, (a.2.1, (a.2.2.1, (a.2.2.2.1, ())))), ((a.2.2.2.2.1, (a.2.2.2.2.2.1, (a.2.2.2.2.2.2.1, (a.2.2.2.2.2.2.2.1, ())))), ())), ((a.2.2.2.2.2.2.2.2, ()), ()))) (fun _ => rfl)
noncomputable def laws_eqStone.tr (a : Nat × Nat × Nat × Nat × Nat × Nat × Nat × Nat × Int) : T Bool := laws_eqStone.t a.1 a.2.1 a.2.2.1 a.2.2.2.1 a.2.2.2.2.1 a.2.2.2.2.2.1 a.2.2.2.2.2.2.1 a.2.2.2.2.2.2.2.1 a.2.2.2.2.2.2.2.2
def laws_eqStone.enc : (Nat × Nat × Nat × Nat × Nat × Nat × Nat × Nat × Int) → Bool → V := fun a r => .bo r
noncomputable def laws_eqStone.c : List V → Hp → T V := cdQ laws_eqStone.cd (fun a => .br (laws_eqStone.ok a.1 a.2.1 a.2.2.1 a.2.2.2.1 a.2.2.2.2.1 a.2.2.2.2.2.1 a.2.2.2.2.2.2.1 a.2.2.2.2.2.2.2.1 a.2.2.2.2.2.2.2.2) (.leaf (laws_eqStone.enc a (laws_eqStone a.1 a.2.1 a.2.2.1 a.2.2.2.1 a.2.2.2.2.1 a.2.2.2.2.2.1 a.2.2.2.2.2.2.1 a.2.2.2.2.2.2.2.1 a.2.2.2.2.2.2.2.2))) .bad)
theorem laws_eqStone.run (a : Nat × Nat × Nat × Nat × Nat × Nat × Nat × Nat × Int) : runF laws_eqStone.C Tryd.f7.results.toList laws_eqStone.b (laws_eqStone.cd.enc a).1 (laws_eqStone.cd.enc a).2 = (laws_eqStone.tr a).map fun r => (laws_eqStone.enc a r, (laws_eqStone.cd.enc a).2) := by kernel_rfl
theorem laws_eqStone.cok : OKq Tryd.prog 7 laws_eqStone.c := con_q' laws_eqStone.cd laws_eqStone.hC Tryd.func7 (by kernel_rfl) (by kernel_rfl) (by kernel_rfl) laws_eqStone.lp (fun a => by kernel_rfl) laws_eqStone.run (Tells.ok (tree := laws_eqStone.tr))
/-! ### laws_FnExactReadStone -/
noncomputable def laws_FnExactReadStone.b : Code := bodyOf Tryd.f3
noncomputable def laws_FnExactReadStone.C : Ctx := { ty := tys, fn := [(5, .q spec_ReadStone.c), (6, .q impl_ReadStone.c), (7, .q laws_eqStone.c)], lp := [], n := 29, k := 1, g := 1 }
theorem laws_FnExactReadStone.hC : CtxOK Tryd.prog laws_FnExactReadStone.C := CtxOK.of mo tys_ok (FnsOK.cons spec_ReadStone.cok (FnsOK.cons impl_ReadStone.cok (FnsOK.cons laws_eqStone.cok FnsOK.nil)))
theorem laws_FnExactReadStone.lp : LpOK Tryd.prog laws_FnExactReadStone.C laws_FnExactReadStone.b := (LpOK.nil (by kernel_rfl))
noncomputable def laws_FnExactReadStone.t (x0 : ByteArray) (x1 : Int) : T Bool :=
  .br (decide (((ByteArray.size x0 : Nat) : Int) > (1048576 : Int)))
  (.leaf true)
  (.br (spec_ReadStone.ok x0 x1)
   (.br (impl_ReadStone.ok x0 x1)
    (.br (laws_eqStone.ok ((impl_ReadStone x0 x1).1) ((impl_ReadStone x0 x1).2.1) ((impl_ReadStone x0 x1).2.2.1) ((impl_ReadStone x0 x1).2.2.2.1) ((spec_ReadStone x0 x1).1) ((spec_ReadStone x0 x1).2.1) ((spec_ReadStone x0 x1).2.2.1) ((spec_ReadStone x0 x1).2.2.2.1) x1)
     (.br (!(laws_eqStone ((impl_ReadStone x0 x1).1) ((impl_ReadStone x0 x1).2.1) ((impl_ReadStone x0 x1).2.2.1) ((impl_ReadStone x0 x1).2.2.2.1) ((spec_ReadStone x0 x1).1) ((spec_ReadStone x0 x1).2.1) ((spec_ReadStone x0 x1).2.2.1) ((spec_ReadStone x0 x1).2.2.2.1) x1))
      (.leaf false)
      (.br ((impl_ReadStone x0 x1).2.2.2.2 != (spec_ReadStone x0 x1).2.2.2.2)
       (.leaf false)
       (.leaf true)))
     .bad)
    .bad)
   .bad)
noncomputable def laws_FnExactReadStone (x0 : ByteArray) (x1 : Int) : Bool := (laws_FnExactReadStone.t x0 x1).val
noncomputable def laws_FnExactReadStone.ok (x0 : ByteArray) (x1 : Int) : Bool := (laws_FnExactReadStone.t x0 x1).ok
def laws_FnExactReadStone.cd : Cd (ByteArray × Int) (List V × Hp) := Cd.iso (Cd.pair (Cd.cons Cd.st Cd.nil) (Cd.cons (Cd.ro 0 2 (Cd.vs (Cd.cons (Cd.it .i64) Cd.nil))) Cd.nil)) (fun a => (a.1.1, a.2.1.1)) (fun a => ((a.1, ()), ((a.2, ()), ()))) (fun _ => rfl)
noncomputable def laws_FnExactReadStone.tr (a : ByteArray × Int) : T Bool := laws_FnExactReadStone.t a.1 a.2
def laws_FnExactReadStone.enc : (ByteArray × Int) → Bool → V := fun a r => .bo r
noncomputable def laws_FnExactReadStone.c : List V → Hp → T V := cdQ laws_FnExactReadStone.cd (fun a => .br (laws_FnExactReadStone.ok a.1 a.2) (.leaf (laws_FnExactReadStone.enc a (laws_FnExactReadStone a.1 a.2))) .bad)
theorem laws_FnExactReadStone.run (a : ByteArray × Int) : runF laws_FnExactReadStone.C Tryd.f3.results.toList laws_FnExactReadStone.b (laws_FnExactReadStone.cd.enc a).1 (laws_FnExactReadStone.cd.enc a).2 = (laws_FnExactReadStone.tr a).map fun r => (laws_FnExactReadStone.enc a r, (laws_FnExactReadStone.cd.enc a).2) := by kernel_rfl
theorem laws_FnExactReadStone.cok : OKq Tryd.prog 3 laws_FnExactReadStone.c := con_q' laws_FnExactReadStone.cd laws_FnExactReadStone.hC Tryd.func3 (by kernel_rfl) (by kernel_rfl) (by kernel_rfl) laws_FnExactReadStone.lp (fun a => by kernel_rfl) laws_FnExactReadStone.run (Tells.ok (tree := laws_FnExactReadStone.tr))
theorem laws_FnExactReadStone.walk (a : ByteArray × Int) (h : (laws_FnExactReadStone.tr a).get = some true) {ρ : Nat → Option Sx.Loc} {w : World} {vs : List Value} (hargs : V.Rs ρ (laws_FnExactReadStone.cd.enc a).1 vs) (hh : HpR ρ (laws_FnExactReadStone.cd.enc a).2 w) :
    Calls Tryd.prog 3 vs.toArray w fun e w' => e = .returned (.bool true) ∧ Below w.heap.size w w' :=
  law_cd laws_FnExactReadStone.cd laws_FnExactReadStone.hC Tryd.func3 (by kernel_rfl) (by kernel_rfl) laws_FnExactReadStone.lp (fun a => by kernel_rfl) laws_FnExactReadStone.run (fun a => by kernel_rfl) a (by kernel_rfl) h hargs hh
end Go.Proofs.YtffpnngoafpidaaDoor
