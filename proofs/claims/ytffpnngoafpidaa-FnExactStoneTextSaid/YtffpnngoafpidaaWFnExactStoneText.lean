/- The walk of FnExactStoneText: what each function that it comes to computes, as a tree of tests. -/
import Derived.Test.YtffpnngoafpidaaSxU
import Derived.Test.YtffpnngoafpidaaShelf
import Derived.Test.YtffpnngoafpidaaSxP
import Derived.Test.YtffpnngoafpidaaChecked
namespace Go.Proofs.Ytffpnngoafpidaa
open Go Go.RowKit Sx
set_option linter.unusedVariables false
set_option maxRecDepth 100000
set_option maxHeartbeats 0
noncomputable def ti1 : TI := ⟨Try.t1.desc, 1, 8, [.nf]⟩
theorem ti1_ok : TyOK Try.prog 1 ti1 := TyOK.of (inf := Try.t1) Try.underlying1 (by kernel_rfl) (by kernel_rfl) (by kernel_rfl) (by kernel_rfl)
noncomputable def ti2 : TI := ⟨Try.t2.desc, 1, 8, [.it .i64 (0 : Int)]⟩
theorem ti2_ok : TyOK Try.prog 2 ti2 := TyOK.of (inf := Try.t2) Try.underlying2 (by kernel_rfl) (by kernel_rfl) (by kernel_rfl) (by kernel_rfl)
noncomputable def ti3 : TI := ⟨Try.t3.desc, 1, 8, [.it .i64 (0 : Int)]⟩
theorem ti3_ok : TyOK Try.prog 3 ti3 := TyOK.of (inf := Try.t3) Try.underlying3 (by kernel_rfl) (by kernel_rfl) (by kernel_rfl) (by kernel_rfl)
noncomputable def ti4 : TI := ⟨Try.t4.desc, 1, 1, [.kb false]⟩
theorem ti4_ok : TyOK Try.prog 4 ti4 := TyOK.of (inf := Try.t4) Try.underlying4 (by kernel_rfl) (by kernel_rfl) (by kernel_rfl) (by kernel_rfl)
noncomputable def ti5 : TI := ⟨Try.t5.desc, 1, 1, [.it .u8 (0 : Int)]⟩
theorem ti5_ok : TyOK Try.prog 5 ti5 := TyOK.of (inf := Try.t5) Try.underlying5 (by kernel_rfl) (by kernel_rfl) (by kernel_rfl) (by kernel_rfl)
noncomputable def ti6 : TI := ⟨Try.t5.desc, 1, 1, [.it .u8 (0 : Int)]⟩
theorem ti6_ok : TyOK Try.prog 6 ti6 := TyOK.of (inf := Try.t6) Try.underlying6 (by kernel_rfl) (by kernel_rfl) (by kernel_rfl) (by kernel_rfl)
noncomputable def ti7 : TI := ⟨Try.t7.desc, 4, 24, [.it .i64 (0 : Int), .it .i64 (0 : Int), .kb false, .it .u8 (0 : Int)]⟩
theorem ti7_ok : TyOK Try.prog 7 ti7 := TyOK.of (inf := Try.t7) Try.underlying7 (by kernel_rfl) (by kernel_rfl) (by kernel_rfl) (by kernel_rfl)
noncomputable def ti8 : TI := ⟨Try.t7.desc, 4, 24, [.it .i64 (0 : Int), .it .i64 (0 : Int), .kb false, .it .u8 (0 : Int)]⟩
theorem ti8_ok : TyOK Try.prog 8 ti8 := TyOK.of (inf := Try.t8) Try.underlying8 (by kernel_rfl) (by kernel_rfl) (by kernel_rfl) (by kernel_rfl)
noncomputable def ti9 : TI := ⟨Try.t9.desc, 1, 16, [.st (ByteArray.mk #[])]⟩
theorem ti9_ok : TyOK Try.prog 9 ti9 := TyOK.of (inf := Try.t9) Try.underlying9 (by kernel_rfl) (by kernel_rfl) (by kernel_rfl) (by kernel_rfl)
noncomputable def ti10 : TI := ⟨Try.t9.desc, 1, 16, [.st (ByteArray.mk #[])]⟩
theorem ti10_ok : TyOK Try.prog 10 ti10 := TyOK.of (inf := Try.t10) Try.underlying10 (by kernel_rfl) (by kernel_rfl) (by kernel_rfl) (by kernel_rfl)
noncomputable def ti11 : TI := ⟨Try.t9.desc, 1, 16, [.st (ByteArray.mk #[])]⟩
theorem ti11_ok : TyOK Try.prog 11 ti11 := TyOK.of (inf := Try.t11) Try.underlying11 (by kernel_rfl) (by kernel_rfl) (by kernel_rfl) (by kernel_rfl)
noncomputable def ti12 : TI := ⟨Try.t12.desc, 1, 8, [.it .u64 (0 : Int)]⟩
theorem ti12_ok : TyOK Try.prog 12 ti12 := TyOK.of (inf := Try.t12) Try.underlying12 (by kernel_rfl) (by kernel_rfl) (by kernel_rfl) (by kernel_rfl)
noncomputable def ti13 : TI := ⟨Try.t13.desc, 2, 24, [.st (ByteArray.mk #[]), .it .u64 (0 : Int)]⟩
theorem ti13_ok : TyOK Try.prog 13 ti13 := TyOK.of (inf := Try.t13) Try.underlying13 (by kernel_rfl) (by kernel_rfl) (by kernel_rfl) (by kernel_rfl)
noncomputable def ti14 : TI := ⟨Try.t13.desc, 2, 24, [.st (ByteArray.mk #[]), .it .u64 (0 : Int)]⟩
theorem ti14_ok : TyOK Try.prog 14 ti14 := TyOK.of (inf := Try.t14) Try.underlying14 (by kernel_rfl) (by kernel_rfl) (by kernel_rfl) (by kernel_rfl)
noncomputable def ti15 : TI := ⟨Try.t15.desc, 1, 8, [.pn]⟩
theorem ti15_ok : TyOK Try.prog 15 ti15 := TyOK.of (inf := Try.t15) Try.underlying15 (by kernel_rfl) (by kernel_rfl) (by kernel_rfl) (by kernel_rfl)
noncomputable def ti16 : TI := ⟨Try.t16.desc, 1, 8, [.pn]⟩
theorem ti16_ok : TyOK Try.prog 16 ti16 := TyOK.of (inf := Try.t16) Try.underlying16 (by kernel_rfl) (by kernel_rfl) (by kernel_rfl) (by kernel_rfl)
noncomputable def ti17 : TI := ⟨Try.t17.desc, 1, 8, [.pn]⟩
theorem ti17_ok : TyOK Try.prog 17 ti17 := TyOK.of (inf := Try.t17) Try.underlying17 (by kernel_rfl) (by kernel_rfl) (by kernel_rfl) (by kernel_rfl)
noncomputable def ti18 : TI := ⟨Try.t18.desc, 1, 8, [.pn]⟩
theorem ti18_ok : TyOK Try.prog 18 ti18 := TyOK.of (inf := Try.t18) Try.underlying18 (by kernel_rfl) (by kernel_rfl) (by kernel_rfl) (by kernel_rfl)
noncomputable def ti19 : TI := ⟨Try.t18.desc, 1, 8, [.pn]⟩
theorem ti19_ok : TyOK Try.prog 19 ti19 := TyOK.of (inf := Try.t19) Try.underlying19 (by kernel_rfl) (by kernel_rfl) (by kernel_rfl) (by kernel_rfl)
noncomputable def ti21 : TI := ⟨Try.t21.desc, 1, 4, [.it .i32 (0 : Int)]⟩
theorem ti21_ok : TyOK Try.prog 21 ti21 := TyOK.of (inf := Try.t21) Try.underlying21 (by kernel_rfl) (by kernel_rfl) (by kernel_rfl) (by kernel_rfl)
noncomputable def ti22 : TI := ⟨Try.t22.desc, 1, 4, [.fl .f32 0]⟩
theorem ti22_ok : TyOK Try.prog 22 ti22 := TyOK.of (inf := Try.t22) Try.underlying22 (by kernel_rfl) (by kernel_rfl) (by kernel_rfl) (by kernel_rfl)
noncomputable def ti23 : TI := ⟨Try.t23.desc, 4, 16, [.fl .f32 0, .fl .f32 0, .fl .f32 0, .fl .f32 0]⟩
theorem ti23_ok : TyOK Try.prog 23 ti23 := TyOK.of (inf := Try.t23) Try.underlying23 (by kernel_rfl) (by kernel_rfl) (by kernel_rfl) (by kernel_rfl)
noncomputable def ti24 : TI := ⟨Try.t23.desc, 4, 16, [.fl .f32 0, .fl .f32 0, .fl .f32 0, .fl .f32 0]⟩
theorem ti24_ok : TyOK Try.prog 24 ti24 := TyOK.of (inf := Try.t24) Try.underlying24 (by kernel_rfl) (by kernel_rfl) (by kernel_rfl) (by kernel_rfl)
noncomputable def ti25 : TI := ⟨Try.t25.desc, 1, 24, [.sn]⟩
theorem ti25_ok : TyOK Try.prog 25 ti25 := TyOK.of (inf := Try.t25) Try.underlying25 (by kernel_rfl) (by kernel_rfl) (by kernel_rfl) (by kernel_rfl)
noncomputable def ti27 : TI := ⟨Try.t27.desc, 1, 8, [.nf]⟩
theorem ti27_ok : TyOK Try.prog 27 ti27 := TyOK.of (inf := Try.t27) Try.underlying27 (by kernel_rfl) (by kernel_rfl) (by kernel_rfl) (by kernel_rfl)
noncomputable def ti28 : TI := ⟨Try.t23.desc, 4, 16, [.fl .f32 0, .fl .f32 0, .fl .f32 0, .fl .f32 0]⟩
theorem ti28_ok : TyOK Try.prog 28 ti28 := TyOK.of (inf := Try.t28) Try.underlying28 (by kernel_rfl) (by kernel_rfl) (by kernel_rfl) (by kernel_rfl)
noncomputable def ti29 : TI := ⟨Try.t29.desc, 1, 8, [.nf]⟩
theorem ti29_ok : TyOK Try.prog 29 ti29 := TyOK.of (inf := Try.t29) Try.underlying29 (by kernel_rfl) (by kernel_rfl) (by kernel_rfl) (by kernel_rfl)
noncomputable def ti30 : TI := ⟨Try.t30.desc, 1, 8, [.nf]⟩
theorem ti30_ok : TyOK Try.prog 30 ti30 := TyOK.of (inf := Try.t30) Try.underlying30 (by kernel_rfl) (by kernel_rfl) (by kernel_rfl) (by kernel_rfl)
noncomputable def ti31 : TI := ⟨Try.t31.desc, 1, 8, [.nf]⟩
theorem ti31_ok : TyOK Try.prog 31 ti31 := TyOK.of (inf := Try.t31) Try.underlying31 (by kernel_rfl) (by kernel_rfl) (by kernel_rfl) (by kernel_rfl)
noncomputable def ti32 : TI := ⟨Try.t32.desc, 1, 8, [.fl .f64 0]⟩
theorem ti32_ok : TyOK Try.prog 32 ti32 := TyOK.of (inf := Try.t32) Try.underlying32 (by kernel_rfl) (by kernel_rfl) (by kernel_rfl) (by kernel_rfl)
noncomputable def ti33 : TI := ⟨Try.t33.desc, 1, 8, [.nf]⟩
theorem ti33_ok : TyOK Try.prog 33 ti33 := TyOK.of (inf := Try.t33) Try.underlying33 (by kernel_rfl) (by kernel_rfl) (by kernel_rfl) (by kernel_rfl)
noncomputable def ti34 : TI := ⟨Try.t34.desc, 1, 8, [.nf]⟩
theorem ti34_ok : TyOK Try.prog 34 ti34 := TyOK.of (inf := Try.t34) Try.underlying34 (by kernel_rfl) (by kernel_rfl) (by kernel_rfl) (by kernel_rfl)
noncomputable def ti35 : TI := ⟨Try.t35.desc, 1, 24, [.sn]⟩
theorem ti35_ok : TyOK Try.prog 35 ti35 := TyOK.of (inf := Try.t35) Try.underlying35 (by kernel_rfl) (by kernel_rfl) (by kernel_rfl) (by kernel_rfl)
noncomputable def ti36 : TI := ⟨Try.t36.desc, 1, 8, [.nf]⟩
theorem ti36_ok : TyOK Try.prog 36 ti36 := TyOK.of (inf := Try.t36) Try.underlying36 (by kernel_rfl) (by kernel_rfl) (by kernel_rfl) (by kernel_rfl)
noncomputable def ti38 : TI := ⟨Try.t38.desc, 1, 8, [.nf]⟩
theorem ti38_ok : TyOK Try.prog 38 ti38 := TyOK.of (inf := Try.t38) Try.underlying38 (by kernel_rfl) (by kernel_rfl) (by kernel_rfl) (by kernel_rfl)
noncomputable def ti39 : TI := ⟨Try.t39.desc, 1, 24, [.sn]⟩
theorem ti39_ok : TyOK Try.prog 39 ti39 := TyOK.of (inf := Try.t39) Try.underlying39 (by kernel_rfl) (by kernel_rfl) (by kernel_rfl) (by kernel_rfl)
noncomputable def ti40 : TI := ⟨Try.t40.desc, 1, 8, [.nf]⟩
theorem ti40_ok : TyOK Try.prog 40 ti40 := TyOK.of (inf := Try.t40) Try.underlying40 (by kernel_rfl) (by kernel_rfl) (by kernel_rfl) (by kernel_rfl)
noncomputable def ti41 : TI := ⟨Try.t41.desc, 1, 8, [.nf]⟩
theorem ti41_ok : TyOK Try.prog 41 ti41 := TyOK.of (inf := Try.t41) Try.underlying41 (by kernel_rfl) (by kernel_rfl) (by kernel_rfl) (by kernel_rfl)
noncomputable def ti42 : TI := ⟨Try.t42.desc, 1, 8, [.nf]⟩
theorem ti42_ok : TyOK Try.prog 42 ti42 := TyOK.of (inf := Try.t42) Try.underlying42 (by kernel_rfl) (by kernel_rfl) (by kernel_rfl) (by kernel_rfl)
noncomputable def ti43 : TI := ⟨Try.t43.desc, 1, 8, [.nf]⟩
theorem ti43_ok : TyOK Try.prog 43 ti43 := TyOK.of (inf := Try.t43) Try.underlying43 (by kernel_rfl) (by kernel_rfl) (by kernel_rfl) (by kernel_rfl)
noncomputable def ti44 : TI := ⟨Try.t44.desc, 1, 8, [.nf]⟩
theorem ti44_ok : TyOK Try.prog 44 ti44 := TyOK.of (inf := Try.t44) Try.underlying44 (by kernel_rfl) (by kernel_rfl) (by kernel_rfl) (by kernel_rfl)
noncomputable def ti46 : TI := ⟨Try.t46.desc, 1, 8, [.nf]⟩
theorem ti46_ok : TyOK Try.prog 46 ti46 := TyOK.of (inf := Try.t46) Try.underlying46 (by kernel_rfl) (by kernel_rfl) (by kernel_rfl) (by kernel_rfl)
noncomputable def ti47 : TI := ⟨Try.t47.desc, 1, 8, [.nf]⟩
theorem ti47_ok : TyOK Try.prog 47 ti47 := TyOK.of (inf := Try.t47) Try.underlying47 (by kernel_rfl) (by kernel_rfl) (by kernel_rfl) (by kernel_rfl)
noncomputable def ti48 : TI := ⟨Try.t48.desc, 1, 8, [.nf]⟩
theorem ti48_ok : TyOK Try.prog 48 ti48 := TyOK.of (inf := Try.t48) Try.underlying48 (by kernel_rfl) (by kernel_rfl) (by kernel_rfl) (by kernel_rfl)
noncomputable def ti50 : TI := ⟨Try.t50.desc, 1, 8, [.nf]⟩
theorem ti50_ok : TyOK Try.prog 50 ti50 := TyOK.of (inf := Try.t50) Try.underlying50 (by kernel_rfl) (by kernel_rfl) (by kernel_rfl) (by kernel_rfl)
noncomputable def ti51 : TI := ⟨Try.t51.desc, 1, 8, [.nf]⟩
theorem ti51_ok : TyOK Try.prog 51 ti51 := TyOK.of (inf := Try.t51) Try.underlying51 (by kernel_rfl) (by kernel_rfl) (by kernel_rfl) (by kernel_rfl)
noncomputable def ti52 : TI := ⟨Try.t52.desc, 1, 8, [.nf]⟩
theorem ti52_ok : TyOK Try.prog 52 ti52 := TyOK.of (inf := Try.t52) Try.underlying52 (by kernel_rfl) (by kernel_rfl) (by kernel_rfl) (by kernel_rfl)
noncomputable def ti53 : TI := ⟨Try.t53.desc, 1, 8, [.nf]⟩
theorem ti53_ok : TyOK Try.prog 53 ti53 := TyOK.of (inf := Try.t53) Try.underlying53 (by kernel_rfl) (by kernel_rfl) (by kernel_rfl) (by kernel_rfl)
noncomputable def ti54 : TI := ⟨Try.t54.desc, 1, 24, [.sn]⟩
theorem ti54_ok : TyOK Try.prog 54 ti54 := TyOK.of (inf := Try.t54) Try.underlying54 (by kernel_rfl) (by kernel_rfl) (by kernel_rfl) (by kernel_rfl)
noncomputable def ti55 : TI := ⟨Try.t55.desc, 1, 8, [.nf]⟩
theorem ti55_ok : TyOK Try.prog 55 ti55 := TyOK.of (inf := Try.t55) Try.underlying55 (by kernel_rfl) (by kernel_rfl) (by kernel_rfl) (by kernel_rfl)
noncomputable def ti56 : TI := ⟨Try.t56.desc, 1, 8, [.nf]⟩
theorem ti56_ok : TyOK Try.prog 56 ti56 := TyOK.of (inf := Try.t56) Try.underlying56 (by kernel_rfl) (by kernel_rfl) (by kernel_rfl) (by kernel_rfl)
noncomputable def ti57 : TI := ⟨Try.t57.desc, 1, 8, [.nf]⟩
theorem ti57_ok : TyOK Try.prog 57 ti57 := TyOK.of (inf := Try.t57) Try.underlying57 (by kernel_rfl) (by kernel_rfl) (by kernel_rfl) (by kernel_rfl)
noncomputable def ti58 : TI := ⟨Try.t58.desc, 1, 8, [.nf]⟩
theorem ti58_ok : TyOK Try.prog 58 ti58 := TyOK.of (inf := Try.t58) Try.underlying58 (by kernel_rfl) (by kernel_rfl) (by kernel_rfl) (by kernel_rfl)
noncomputable def ti59 : TI := ⟨Try.t59.desc, 1, 8, [.nf]⟩
theorem ti59_ok : TyOK Try.prog 59 ti59 := TyOK.of (inf := Try.t59) Try.underlying59 (by kernel_rfl) (by kernel_rfl) (by kernel_rfl) (by kernel_rfl)
noncomputable def ti61 : TI := ⟨Try.t61.desc, 1, 8, [.nf]⟩
theorem ti61_ok : TyOK Try.prog 61 ti61 := TyOK.of (inf := Try.t61) Try.underlying61 (by kernel_rfl) (by kernel_rfl) (by kernel_rfl) (by kernel_rfl)
noncomputable def ti63 : TI := ⟨Try.t63.desc, 1, 8, [.nf]⟩
theorem ti63_ok : TyOK Try.prog 63 ti63 := TyOK.of (inf := Try.t63) Try.underlying63 (by kernel_rfl) (by kernel_rfl) (by kernel_rfl) (by kernel_rfl)
noncomputable def ti64 : TI := ⟨Try.t64.desc, 1, 8, [.nf]⟩
theorem ti64_ok : TyOK Try.prog 64 ti64 := TyOK.of (inf := Try.t64) Try.underlying64 (by kernel_rfl) (by kernel_rfl) (by kernel_rfl) (by kernel_rfl)
noncomputable def ti65 : TI := ⟨Try.t65.desc, 1, 8, [.nf]⟩
theorem ti65_ok : TyOK Try.prog 65 ti65 := TyOK.of (inf := Try.t65) Try.underlying65 (by kernel_rfl) (by kernel_rfl) (by kernel_rfl) (by kernel_rfl)
noncomputable def ti67 : TI := ⟨Try.t67.desc, 1, 8, [.nf]⟩
theorem ti67_ok : TyOK Try.prog 67 ti67 := TyOK.of (inf := Try.t67) Try.underlying67 (by kernel_rfl) (by kernel_rfl) (by kernel_rfl) (by kernel_rfl)
noncomputable def ti69 : TI := ⟨Try.t69.desc, 1, 8, [.nf]⟩
theorem ti69_ok : TyOK Try.prog 69 ti69 := TyOK.of (inf := Try.t69) Try.underlying69 (by kernel_rfl) (by kernel_rfl) (by kernel_rfl) (by kernel_rfl)
noncomputable def ti70 : TI := ⟨Try.t70.desc, 1, 8, [.nf]⟩
theorem ti70_ok : TyOK Try.prog 70 ti70 := TyOK.of (inf := Try.t70) Try.underlying70 (by kernel_rfl) (by kernel_rfl) (by kernel_rfl) (by kernel_rfl)
noncomputable def ti71 : TI := ⟨Try.t71.desc, 1, 8, [.nf]⟩
theorem ti71_ok : TyOK Try.prog 71 ti71 := TyOK.of (inf := Try.t71) Try.underlying71 (by kernel_rfl) (by kernel_rfl) (by kernel_rfl) (by kernel_rfl)
noncomputable def ti73 : TI := ⟨Try.t73.desc, 1, 8, [.nf]⟩
theorem ti73_ok : TyOK Try.prog 73 ti73 := TyOK.of (inf := Try.t73) Try.underlying73 (by kernel_rfl) (by kernel_rfl) (by kernel_rfl) (by kernel_rfl)
noncomputable def ti74 : TI := ⟨Try.t74.desc, 1, 8, [.nf]⟩
theorem ti74_ok : TyOK Try.prog 74 ti74 := TyOK.of (inf := Try.t74) Try.underlying74 (by kernel_rfl) (by kernel_rfl) (by kernel_rfl) (by kernel_rfl)
noncomputable def ti75 : TI := ⟨Try.t75.desc, 1, 8, [.nf]⟩
theorem ti75_ok : TyOK Try.prog 75 ti75 := TyOK.of (inf := Try.t75) Try.underlying75 (by kernel_rfl) (by kernel_rfl) (by kernel_rfl) (by kernel_rfl)
noncomputable def ti76 : TI := ⟨Try.t76.desc, 1, 8, [.nf]⟩
theorem ti76_ok : TyOK Try.prog 76 ti76 := TyOK.of (inf := Try.t76) Try.underlying76 (by kernel_rfl) (by kernel_rfl) (by kernel_rfl) (by kernel_rfl)
noncomputable def ti78 : TI := ⟨Try.t78.desc, 1, 8, [.nf]⟩
theorem ti78_ok : TyOK Try.prog 78 ti78 := TyOK.of (inf := Try.t78) Try.underlying78 (by kernel_rfl) (by kernel_rfl) (by kernel_rfl) (by kernel_rfl)
noncomputable def ti79 : TI := ⟨Try.t79.desc, 1, 8, [.nf]⟩
theorem ti79_ok : TyOK Try.prog 79 ti79 := TyOK.of (inf := Try.t79) Try.underlying79 (by kernel_rfl) (by kernel_rfl) (by kernel_rfl) (by kernel_rfl)
noncomputable def ti80 : TI := ⟨Try.t80.desc, 1, 8, [.nf]⟩
theorem ti80_ok : TyOK Try.prog 80 ti80 := TyOK.of (inf := Try.t80) Try.underlying80 (by kernel_rfl) (by kernel_rfl) (by kernel_rfl) (by kernel_rfl)
noncomputable def ti81 : TI := ⟨Try.t81.desc, 1, 8, [.nf]⟩
theorem ti81_ok : TyOK Try.prog 81 ti81 := TyOK.of (inf := Try.t81) Try.underlying81 (by kernel_rfl) (by kernel_rfl) (by kernel_rfl) (by kernel_rfl)
noncomputable def ti82 : TI := ⟨Try.t82.desc, 1, 8, [.nf]⟩
theorem ti82_ok : TyOK Try.prog 82 ti82 := TyOK.of (inf := Try.t82) Try.underlying82 (by kernel_rfl) (by kernel_rfl) (by kernel_rfl) (by kernel_rfl)
noncomputable def ti83 : TI := ⟨Try.t83.desc, 1, 8, [.nf]⟩
theorem ti83_ok : TyOK Try.prog 83 ti83 := TyOK.of (inf := Try.t83) Try.underlying83 (by kernel_rfl) (by kernel_rfl) (by kernel_rfl) (by kernel_rfl)
noncomputable def ti84 : TI := ⟨Try.t84.desc, 1, 8, [.nf]⟩
theorem ti84_ok : TyOK Try.prog 84 ti84 := TyOK.of (inf := Try.t84) Try.underlying84 (by kernel_rfl) (by kernel_rfl) (by kernel_rfl) (by kernel_rfl)
noncomputable def ti85 : TI := ⟨Try.t85.desc, 1, 8, [.nf]⟩
theorem ti85_ok : TyOK Try.prog 85 ti85 := TyOK.of (inf := Try.t85) Try.underlying85 (by kernel_rfl) (by kernel_rfl) (by kernel_rfl) (by kernel_rfl)
noncomputable def ti86 : TI := ⟨Try.t86.desc, 1, 8, [.nf]⟩
theorem ti86_ok : TyOK Try.prog 86 ti86 := TyOK.of (inf := Try.t86) Try.underlying86 (by kernel_rfl) (by kernel_rfl) (by kernel_rfl) (by kernel_rfl)
noncomputable def ti87 : TI := ⟨Try.t87.desc, 1, 8, [.pn]⟩
theorem ti87_ok : TyOK Try.prog 87 ti87 := TyOK.of (inf := Try.t87) Try.underlying87 (by kernel_rfl) (by kernel_rfl) (by kernel_rfl) (by kernel_rfl)
noncomputable def ti88 : TI := ⟨Try.t88.desc, 1, 8, [.nf]⟩
theorem ti88_ok : TyOK Try.prog 88 ti88 := TyOK.of (inf := Try.t88) Try.underlying88 (by kernel_rfl) (by kernel_rfl) (by kernel_rfl) (by kernel_rfl)
noncomputable def ti89 : TI := ⟨Try.t89.desc, 1, 8, [.nf]⟩
theorem ti89_ok : TyOK Try.prog 89 ti89 := TyOK.of (inf := Try.t89) Try.underlying89 (by kernel_rfl) (by kernel_rfl) (by kernel_rfl) (by kernel_rfl)
noncomputable def ti90 : TI := ⟨Try.t90.desc, 1, 8, [.nf]⟩
theorem ti90_ok : TyOK Try.prog 90 ti90 := TyOK.of (inf := Try.t90) Try.underlying90 (by kernel_rfl) (by kernel_rfl) (by kernel_rfl) (by kernel_rfl)
noncomputable def ti91 : TI := ⟨Try.t91.desc, 1, 8, [.nf]⟩
theorem ti91_ok : TyOK Try.prog 91 ti91 := TyOK.of (inf := Try.t91) Try.underlying91 (by kernel_rfl) (by kernel_rfl) (by kernel_rfl) (by kernel_rfl)
noncomputable def ti92 : TI := ⟨Try.t92.desc, 1, 8, [.nf]⟩
theorem ti92_ok : TyOK Try.prog 92 ti92 := TyOK.of (inf := Try.t92) Try.underlying92 (by kernel_rfl) (by kernel_rfl) (by kernel_rfl) (by kernel_rfl)
noncomputable def ti93 : TI := ⟨Try.t93.desc, 1, 8, [.nf]⟩
theorem ti93_ok : TyOK Try.prog 93 ti93 := TyOK.of (inf := Try.t93) Try.underlying93 (by kernel_rfl) (by kernel_rfl) (by kernel_rfl) (by kernel_rfl)
noncomputable def ti94 : TI := ⟨Try.t94.desc, 1, 8, [.nf]⟩
theorem ti94_ok : TyOK Try.prog 94 ti94 := TyOK.of (inf := Try.t94) Try.underlying94 (by kernel_rfl) (by kernel_rfl) (by kernel_rfl) (by kernel_rfl)
noncomputable def ti95 : TI := ⟨Try.t95.desc, 1, 8, [.pn]⟩
theorem ti95_ok : TyOK Try.prog 95 ti95 := TyOK.of (inf := Try.t95) Try.underlying95 (by kernel_rfl) (by kernel_rfl) (by kernel_rfl) (by kernel_rfl)
noncomputable def ti96 : TI := ⟨Try.t96.desc, 1, 8, [.nf]⟩
theorem ti96_ok : TyOK Try.prog 96 ti96 := TyOK.of (inf := Try.t96) Try.underlying96 (by kernel_rfl) (by kernel_rfl) (by kernel_rfl) (by kernel_rfl)
noncomputable def ti97 : TI := ⟨Try.t97.desc, 1, 8, [.nf]⟩
theorem ti97_ok : TyOK Try.prog 97 ti97 := TyOK.of (inf := Try.t97) Try.underlying97 (by kernel_rfl) (by kernel_rfl) (by kernel_rfl) (by kernel_rfl)
noncomputable def ti98 : TI := ⟨Try.t98.desc, 1, 8, [.nf]⟩
theorem ti98_ok : TyOK Try.prog 98 ti98 := TyOK.of (inf := Try.t98) Try.underlying98 (by kernel_rfl) (by kernel_rfl) (by kernel_rfl) (by kernel_rfl)
noncomputable def ti99 : TI := ⟨Try.t99.desc, 1, 8, [.nf]⟩
theorem ti99_ok : TyOK Try.prog 99 ti99 := TyOK.of (inf := Try.t99) Try.underlying99 (by kernel_rfl) (by kernel_rfl) (by kernel_rfl) (by kernel_rfl)
noncomputable def ti100 : TI := ⟨Try.t100.desc, 1, 8, [.nf]⟩
theorem ti100_ok : TyOK Try.prog 100 ti100 := TyOK.of (inf := Try.t100) Try.underlying100 (by kernel_rfl) (by kernel_rfl) (by kernel_rfl) (by kernel_rfl)
noncomputable def ti101 : TI := ⟨Try.t101.desc, 1, 24, [.sn]⟩
theorem ti101_ok : TyOK Try.prog 101 ti101 := TyOK.of (inf := Try.t101) Try.underlying101 (by kernel_rfl) (by kernel_rfl) (by kernel_rfl) (by kernel_rfl)
noncomputable def ti102 : TI := ⟨Try.t102.desc, 1, 8, [.nf]⟩
theorem ti102_ok : TyOK Try.prog 102 ti102 := TyOK.of (inf := Try.t102) Try.underlying102 (by kernel_rfl) (by kernel_rfl) (by kernel_rfl) (by kernel_rfl)
noncomputable def ti103 : TI := ⟨Try.t103.desc, 1, 8, [.nf]⟩
theorem ti103_ok : TyOK Try.prog 103 ti103 := TyOK.of (inf := Try.t103) Try.underlying103 (by kernel_rfl) (by kernel_rfl) (by kernel_rfl) (by kernel_rfl)
noncomputable def ti104 : TI := ⟨Try.t104.desc, 1, 8, [.it .u64 (0 : Int)]⟩
theorem ti104_ok : TyOK Try.prog 104 ti104 := TyOK.of (inf := Try.t104) Try.underlying104 (by kernel_rfl) (by kernel_rfl) (by kernel_rfl) (by kernel_rfl)
noncomputable def ti105 : TI := ⟨Try.t105.desc, 3, 40, [.sn, .it .i64 (0 : Int), .it .u64 (0 : Int)]⟩
theorem ti105_ok : TyOK Try.prog 105 ti105 := TyOK.of (inf := Try.t105) Try.underlying105 (by kernel_rfl) (by kernel_rfl) (by kernel_rfl) (by kernel_rfl)
noncomputable def ti106 : TI := ⟨Try.t105.desc, 3, 40, [.sn, .it .i64 (0 : Int), .it .u64 (0 : Int)]⟩
theorem ti106_ok : TyOK Try.prog 106 ti106 := TyOK.of (inf := Try.t106) Try.underlying106 (by kernel_rfl) (by kernel_rfl) (by kernel_rfl) (by kernel_rfl)
noncomputable def ti107 : TI := ⟨Try.t107.desc, 1, 8, [.nf]⟩
theorem ti107_ok : TyOK Try.prog 107 ti107 := TyOK.of (inf := Try.t107) Try.underlying107 (by kernel_rfl) (by kernel_rfl) (by kernel_rfl) (by kernel_rfl)
noncomputable def ti108 : TI := ⟨Try.t108.desc, 1, 4, [.it .u32 (0 : Int)]⟩
theorem ti108_ok : TyOK Try.prog 108 ti108 := TyOK.of (inf := Try.t108) Try.underlying108 (by kernel_rfl) (by kernel_rfl) (by kernel_rfl) (by kernel_rfl)
noncomputable def ti109 : TI := ⟨Try.t109.desc, 1, 8, [.nf]⟩
theorem ti109_ok : TyOK Try.prog 109 ti109 := TyOK.of (inf := Try.t109) Try.underlying109 (by kernel_rfl) (by kernel_rfl) (by kernel_rfl) (by kernel_rfl)
noncomputable def ti110 : TI := ⟨Try.t110.desc, 1, 8, [.pn]⟩
theorem ti110_ok : TyOK Try.prog 110 ti110 := TyOK.of (inf := Try.t110) Try.underlying110 (by kernel_rfl) (by kernel_rfl) (by kernel_rfl) (by kernel_rfl)
noncomputable def ti111 : TI := ⟨Try.t111.desc, 2, 32, [.pn, .sn]⟩
theorem ti111_ok : TyOK Try.prog 111 ti111 := TyOK.of (inf := Try.t111) Try.underlying111 (by kernel_rfl) (by kernel_rfl) (by kernel_rfl) (by kernel_rfl)
noncomputable def ti112 : TI := ⟨Try.t111.desc, 2, 32, [.pn, .sn]⟩
theorem ti112_ok : TyOK Try.prog 112 ti112 := TyOK.of (inf := Try.t112) Try.underlying112 (by kernel_rfl) (by kernel_rfl) (by kernel_rfl) (by kernel_rfl)
noncomputable def ti113 : TI := ⟨Try.t113.desc, 1, 8, [.nf]⟩
theorem ti113_ok : TyOK Try.prog 113 ti113 := TyOK.of (inf := Try.t113) Try.underlying113 (by kernel_rfl) (by kernel_rfl) (by kernel_rfl) (by kernel_rfl)
noncomputable def ti117 : TI := ⟨Try.t117.desc, 1, 8, [.nf]⟩
theorem ti117_ok : TyOK Try.prog 117 ti117 := TyOK.of (inf := Try.t117) Try.underlying117 (by kernel_rfl) (by kernel_rfl) (by kernel_rfl) (by kernel_rfl)
noncomputable def ti118 : TI := ⟨Try.t118.desc, 1, 8, [.nf]⟩
theorem ti118_ok : TyOK Try.prog 118 ti118 := TyOK.of (inf := Try.t118) Try.underlying118 (by kernel_rfl) (by kernel_rfl) (by kernel_rfl) (by kernel_rfl)
noncomputable def ti119 : TI := ⟨Try.t119.desc, 1, 8, [.it .u64 (0 : Int)]⟩
theorem ti119_ok : TyOK Try.prog 119 ti119 := TyOK.of (inf := Try.t119) Try.underlying119 (by kernel_rfl) (by kernel_rfl) (by kernel_rfl) (by kernel_rfl)
noncomputable def ti120 : TI := ⟨Try.t120.desc, 1, 8, [.pn]⟩
theorem ti120_ok : TyOK Try.prog 120 ti120 := TyOK.of (inf := Try.t120) Try.underlying120 (by kernel_rfl) (by kernel_rfl) (by kernel_rfl) (by kernel_rfl)
noncomputable def ti121 : TI := ⟨Try.t121.desc, 1, 8, [.pn]⟩
theorem ti121_ok : TyOK Try.prog 121 ti121 := TyOK.of (inf := Try.t121) Try.underlying121 (by kernel_rfl) (by kernel_rfl) (by kernel_rfl) (by kernel_rfl)
noncomputable def ti122 : TI := ⟨Try.t122.desc, 1, 8, [.nf]⟩
theorem ti122_ok : TyOK Try.prog 122 ti122 := TyOK.of (inf := Try.t122) Try.underlying122 (by kernel_rfl) (by kernel_rfl) (by kernel_rfl) (by kernel_rfl)
noncomputable def ti123 : TI := ⟨Try.t123.desc, 1, 8, [.nf]⟩
theorem ti123_ok : TyOK Try.prog 123 ti123 := TyOK.of (inf := Try.t123) Try.underlying123 (by kernel_rfl) (by kernel_rfl) (by kernel_rfl) (by kernel_rfl)
noncomputable def ti124 : TI := ⟨Try.t124.desc, 4, 40, [.pn, .pn, .pn, .st (ByteArray.mk #[])]⟩
theorem ti124_ok : TyOK Try.prog 124 ti124 := TyOK.of (inf := Try.t124) Try.underlying124 (by kernel_rfl) (by kernel_rfl) (by kernel_rfl) (by kernel_rfl)
noncomputable def ti125 : TI := ⟨Try.t124.desc, 4, 40, [.pn, .pn, .pn, .st (ByteArray.mk #[])]⟩
theorem ti125_ok : TyOK Try.prog 125 ti125 := TyOK.of (inf := Try.t125) Try.underlying125 (by kernel_rfl) (by kernel_rfl) (by kernel_rfl) (by kernel_rfl)
noncomputable def ti126 : TI := ⟨Try.t126.desc, 0, 0, []⟩
theorem ti126_ok : TyOK Try.prog 126 ti126 := TyOK.of (inf := Try.t126) Try.underlying126 (by kernel_rfl) (by kernel_rfl) (by kernel_rfl) (by kernel_rfl)
noncomputable def ti127 : TI := ⟨Try.t127.desc, 0, 0, []⟩
theorem ti127_ok : TyOK Try.prog 127 ti127 := TyOK.of (inf := Try.t127) Try.underlying127 (by kernel_rfl) (by kernel_rfl) (by kernel_rfl) (by kernel_rfl)
noncomputable def ti128 : TI := ⟨Try.t127.desc, 0, 0, []⟩
theorem ti128_ok : TyOK Try.prog 128 ti128 := TyOK.of (inf := Try.t128) Try.underlying128 (by kernel_rfl) (by kernel_rfl) (by kernel_rfl) (by kernel_rfl)
noncomputable def ti129 : TI := ⟨Try.t129.desc, 1, 8, [.nf]⟩
theorem ti129_ok : TyOK Try.prog 129 ti129 := TyOK.of (inf := Try.t129) Try.underlying129 (by kernel_rfl) (by kernel_rfl) (by kernel_rfl) (by kernel_rfl)
noncomputable def ti130 : TI := ⟨Try.t5.desc, 1, 1, [.it .u8 (0 : Int)]⟩
theorem ti130_ok : TyOK Try.prog 130 ti130 := TyOK.of (inf := Try.t130) Try.underlying130 (by kernel_rfl) (by kernel_rfl) (by kernel_rfl) (by kernel_rfl)
noncomputable def ti131 : TI := ⟨Try.t5.desc, 1, 1, [.it .u8 (0 : Int)]⟩
theorem ti131_ok : TyOK Try.prog 131 ti131 := TyOK.of (inf := Try.t131) Try.underlying131 (by kernel_rfl) (by kernel_rfl) (by kernel_rfl) (by kernel_rfl)
noncomputable def ti132 : TI := ⟨Try.t132.desc, 1, 8, [.nf]⟩
theorem ti132_ok : TyOK Try.prog 132 ti132 := TyOK.of (inf := Try.t132) Try.underlying132 (by kernel_rfl) (by kernel_rfl) (by kernel_rfl) (by kernel_rfl)
noncomputable def ti133 : TI := ⟨Try.t21.desc, 1, 4, [.it .i32 (0 : Int)]⟩
theorem ti133_ok : TyOK Try.prog 133 ti133 := TyOK.of (inf := Try.t133) Try.underlying133 (by kernel_rfl) (by kernel_rfl) (by kernel_rfl) (by kernel_rfl)
noncomputable def ti134 : TI := ⟨Try.t21.desc, 1, 4, [.it .i32 (0 : Int)]⟩
theorem ti134_ok : TyOK Try.prog 134 ti134 := TyOK.of (inf := Try.t134) Try.underlying134 (by kernel_rfl) (by kernel_rfl) (by kernel_rfl) (by kernel_rfl)
noncomputable def ti135 : TI := ⟨Try.t135.desc, 11, 48, [.it .u64 (0 : Int), .it .u64 (0 : Int), .it .u32 (0 : Int), .it .u8 (0 : Int), .it .u8 (0 : Int), .it .u8 (0 : Int), .it .u8 (0 : Int), .nf, .pn, .it .i32 (0 : Int), .it .i32 (0 : Int)]⟩
theorem ti135_ok : TyOK Try.prog 135 ti135 := TyOK.of (inf := Try.t135) Try.underlying135 (by kernel_rfl) (by kernel_rfl) (by kernel_rfl) (by kernel_rfl)
noncomputable def ti136 : TI := ⟨Try.t135.desc, 11, 48, [.it .u64 (0 : Int), .it .u64 (0 : Int), .it .u32 (0 : Int), .it .u8 (0 : Int), .it .u8 (0 : Int), .it .u8 (0 : Int), .it .u8 (0 : Int), .nf, .pn, .it .i32 (0 : Int), .it .i32 (0 : Int)]⟩
theorem ti136_ok : TyOK Try.prog 136 ti136 := TyOK.of (inf := Try.t136) Try.underlying136 (by kernel_rfl) (by kernel_rfl) (by kernel_rfl) (by kernel_rfl)
noncomputable def tys : List (Nat × TI) := [(1, ti1), (2, ti2), (3, ti3), (4, ti4), (5, ti5), (6, ti6), (7, ti7), (8, ti8), (9, ti9), (10, ti10), (11, ti11), (12, ti12), (13, ti13), (14, ti14), (15, ti15), (16, ti16), (17, ti17), (18, ti18), (19, ti19), (21, ti21), (22, ti22), (23, ti23), (24, ti24), (25, ti25), (27, ti27), (28, ti28), (29, ti29), (30, ti30), (31, ti31), (32, ti32), (33, ti33), (34, ti34), (35, ti35), (36, ti36), (38, ti38), (39, ti39), (40, ti40), (41, ti41), (42, ti42), (43, ti43), (44, ti44), (46, ti46), (47, ti47), (48, ti48), (50, ti50), (51, ti51), (52, ti52), (53, ti53), (54, ti54), (55, ti55), (56, ti56), (57, ti57), (58, ti58), (59, ti59), (61, ti61), (63, ti63), (64, ti64), (65, ti65), (67, ti67), (69, ti69), (70, ti70), (71, ti71), (73, ti73), (74, ti74), (75, ti75), (76, ti76), (78, ti78), (79, ti79), (80, ti80), (81, ti81), (82, ti82), (83, ti83), (84, ti84), (85, ti85), (86, ti86), (87, ti87), (88, ti88), (89, ti89), (90, ti90), (91, ti91), (92, ti92), (93, ti93), (94, ti94), (95, ti95), (96, ti96), (97, ti97), (98, ti98), (99, ti99), (100, ti100), (101, ti101), (102, ti102), (103, ti103), (104, ti104), (105, ti105), (106, ti106), (107, ti107), (108, ti108), (109, ti109), (110, ti110), (111, ti111), (112, ti112), (113, ti113), (117, ti117), (118, ti118), (119, ti119), (120, ti120), (121, ti121), (122, ti122), (123, ti123), (124, ti124), (125, ti125), (126, ti126), (127, ti127), (128, ti128), (129, ti129), (130, ti130), (131, ti131), (132, ti132), (133, ti133), (134, ti134), (135, ti135), (136, ti136)]
theorem mo : Try.prog.follows .mixedOrders = true := by kernel_rfl
theorem tys_ok : TysOK Try.prog tys := (TysOK.cons ti1_ok (TysOK.cons ti2_ok (TysOK.cons ti3_ok (TysOK.cons ti4_ok (TysOK.cons ti5_ok (TysOK.cons ti6_ok (TysOK.cons ti7_ok (TysOK.cons ti8_ok (TysOK.cons ti9_ok (TysOK.cons ti10_ok (TysOK.cons ti11_ok (TysOK.cons ti12_ok (TysOK.cons ti13_ok (TysOK.cons ti14_ok (TysOK.cons ti15_ok (TysOK.cons ti16_ok (TysOK.cons ti17_ok (TysOK.cons ti18_ok (TysOK.cons ti19_ok (TysOK.cons ti21_ok (TysOK.cons ti22_ok (TysOK.cons ti23_ok (TysOK.cons ti24_ok (TysOK.cons ti25_ok (TysOK.cons ti27_ok (TysOK.cons ti28_ok (TysOK.cons ti29_ok (TysOK.cons ti30_ok (TysOK.cons ti31_ok (TysOK.cons ti32_ok (TysOK.cons ti33_ok (TysOK.cons ti34_ok (TysOK.cons ti35_ok (TysOK.cons ti36_ok (TysOK.cons ti38_ok (TysOK.cons ti39_ok (TysOK.cons ti40_ok (TysOK.cons ti41_ok (TysOK.cons ti42_ok (TysOK.cons ti43_ok (TysOK.cons ti44_ok (TysOK.cons ti46_ok (TysOK.cons ti47_ok (TysOK.cons ti48_ok (TysOK.cons ti50_ok (TysOK.cons ti51_ok (TysOK.cons ti52_ok (TysOK.cons ti53_ok (TysOK.cons ti54_ok (TysOK.cons ti55_ok (TysOK.cons ti56_ok (TysOK.cons ti57_ok (TysOK.cons ti58_ok (TysOK.cons ti59_ok (TysOK.cons ti61_ok (TysOK.cons ti63_ok (TysOK.cons ti64_ok (TysOK.cons ti65_ok (TysOK.cons ti67_ok (TysOK.cons ti69_ok (TysOK.cons ti70_ok (TysOK.cons ti71_ok (TysOK.cons ti73_ok (TysOK.cons ti74_ok (TysOK.cons ti75_ok (TysOK.cons ti76_ok (TysOK.cons ti78_ok (TysOK.cons ti79_ok (TysOK.cons ti80_ok (TysOK.cons ti81_ok (TysOK.cons ti82_ok (TysOK.cons ti83_ok (TysOK.cons ti84_ok (TysOK.cons ti85_ok (TysOK.cons ti86_ok (TysOK.cons ti87_ok (TysOK.cons ti88_ok (TysOK.cons ti89_ok (TysOK.cons ti90_ok (TysOK.cons ti91_ok (TysOK.cons ti92_ok (TysOK.cons ti93_ok (TysOK.cons ti94_ok (TysOK.cons ti95_ok (TysOK.cons ti96_ok (TysOK.cons ti97_ok (TysOK.cons ti98_ok (TysOK.cons ti99_ok (TysOK.cons ti100_ok (TysOK.cons ti101_ok (TysOK.cons ti102_ok (TysOK.cons ti103_ok (TysOK.cons ti104_ok (TysOK.cons ti105_ok (TysOK.cons ti106_ok (TysOK.cons ti107_ok (TysOK.cons ti108_ok (TysOK.cons ti109_ok (TysOK.cons ti110_ok (TysOK.cons ti111_ok (TysOK.cons ti112_ok (TysOK.cons ti113_ok (TysOK.cons ti117_ok (TysOK.cons ti118_ok (TysOK.cons ti119_ok (TysOK.cons ti120_ok (TysOK.cons ti121_ok (TysOK.cons ti122_ok (TysOK.cons ti123_ok (TysOK.cons ti124_ok (TysOK.cons ti125_ok (TysOK.cons ti126_ok (TysOK.cons ti127_ok (TysOK.cons ti128_ok (TysOK.cons ti129_ok (TysOK.cons ti130_ok (TysOK.cons ti131_ok (TysOK.cons ti132_ok (TysOK.cons ti133_ok (TysOK.cons ti134_ok (TysOK.cons ti135_ok (TysOK.cons ti136_ok TysOK.nil))))))))))))))))))))))))))))))))))))))))))))))))))))))))))))))))))))))))))))))))))))))))))))))))))))))))))))))))))))))))))
/-! ### laws_toStone -/
noncomputable def laws_toStone.b : Code := bodyOf Try.f10
noncomputable def laws_toStone.C : Ctx := { ty := tys, fn := [], lp := [], n := 17, k := 0 }
theorem laws_toStone.hC : CtxOK Try.prog laws_toStone.C := CtxOK.of mo tys_ok FnsOK.nil
theorem laws_toStone.lp : LpOK Try.prog laws_toStone.C laws_toStone.b := (LpOK.nil (by kernel_rfl))
noncomputable def laws_toStone.t (x0 : Nat) (x1 : Nat) (x2 : Nat) (x3 : Nat) : T (Nat × Nat × Nat × Nat) :=
  .leaf (x0, x1, x2, x3)
noncomputable def laws_toStone (x0 : Nat) (x1 : Nat) (x2 : Nat) (x3 : Nat) : Nat × Nat × Nat × Nat := (laws_toStone.t x0 x1 x2 x3).val
def laws_toStone.cd : Cd (Nat × Nat × Nat × Nat) (List V × Hp) := Cd.iso (Cd.pair (Cd.cons (Cd.agg (Cd.cons (Cd.fl .f32) (Cd.cons (Cd.fl .f32) (Cd.cons (Cd.fl .f32) (Cd.cons (Cd.fl .f32) Cd.nil))))) Cd.nil) Cd.nil) (fun a => (a.1.1.1, a.1.1.2.1, a.1.1.2.2.1, a.1.1.2.2.2.1)) (fun a => (((a.1, (a.2.1, (a.2.2.1, (a.2.2.2, ())))), ()), ())) (fun _ => rfl)
noncomputable def laws_toStone.tr (a : Nat × Nat × Nat × Nat) : T (Nat × Nat × Nat × Nat) := laws_toStone.t a.1 a.2.1 a.2.2.1 a.2.2.2
def laws_toStone.enc : (Nat × Nat × Nat × Nat) → (Nat × Nat × Nat × Nat) → V := fun a r => .agg [.fl .f32 r.1, .fl .f32 r.2.1, .fl .f32 r.2.2.1, .fl .f32 r.2.2.2]
noncomputable def laws_toStone.c : List V → Hp → T V := cdQ laws_toStone.cd (fun a => .leaf (laws_toStone.enc a (laws_toStone a.1 a.2.1 a.2.2.1 a.2.2.2)))
theorem laws_toStone.run (a : Nat × Nat × Nat × Nat) : runF laws_toStone.C Try.f10.results.toList laws_toStone.b (laws_toStone.cd.enc a).1 (laws_toStone.cd.enc a).2 = (laws_toStone.tr a).map fun r => (laws_toStone.enc a r, (laws_toStone.cd.enc a).2) := by kernel_rfl
theorem laws_toStone.cok : OKq Try.prog 10 laws_toStone.c := con_q' laws_toStone.cd laws_toStone.hC Try.func10 (by kernel_rfl) (by kernel_rfl) (by kernel_rfl) laws_toStone.lp (fun a => by kernel_rfl) laws_toStone.run (Tells.val (tree := laws_toStone.tr) fun a => by kernel_rfl)
/-! ### spec_l04Rate -/
noncomputable def spec_l04Rate.b : Code := bodyOf Try.f47
noncomputable def spec_l04Rate.C : Ctx := { ty := tys, fn := [], lp := [], n := 9, k := 0 }
theorem spec_l04Rate.hC : CtxOK Try.prog spec_l04Rate.C := CtxOK.of mo tys_ok FnsOK.nil
theorem spec_l04Rate.lp : LpOK Try.prog spec_l04Rate.C spec_l04Rate.b := (LpOK.nil (by kernel_rfl))
noncomputable def spec_l04Rate.t (x0 : Nat) : T Bool :=
  .br (fge .f32 x0 0)
  (.leaf (fle .f32 x0 1149239296))
  (.leaf false)
noncomputable def spec_l04Rate (x0 : Nat) : Bool := (spec_l04Rate.t x0).val
def spec_l04Rate.cd : Cd Nat (List V × Hp) := Cd.iso (Cd.pair (Cd.cons (Cd.fl .f32) Cd.nil) Cd.nil) (fun a => a.1.1) (fun a => ((a, ()), ())) (fun _ => rfl)
noncomputable def spec_l04Rate.tr (a : Nat) : T Bool := spec_l04Rate.t a
def spec_l04Rate.enc : Nat → Bool → V := fun a r => .bo r
noncomputable def spec_l04Rate.c : List V → Hp → T V := cdQ spec_l04Rate.cd (fun a => .leaf (spec_l04Rate.enc a (spec_l04Rate a)))
theorem spec_l04Rate.run (a : Nat) : runF spec_l04Rate.C Try.f47.results.toList spec_l04Rate.b (spec_l04Rate.cd.enc a).1 (spec_l04Rate.cd.enc a).2 = (spec_l04Rate.tr a).map fun r => (spec_l04Rate.enc a r, (spec_l04Rate.cd.enc a).2) := by kernel_rfl
theorem spec_l04Rate.cok : OKq Try.prog 47 spec_l04Rate.c := con_q' spec_l04Rate.cd spec_l04Rate.hC Try.func47 (by kernel_rfl) (by kernel_rfl) (by kernel_rfl) spec_l04Rate.lp (fun a => by kernel_rfl) spec_l04Rate.run (Tells.val (tree := spec_l04Rate.tr) fun a => by kernel_rfl)
/-! ### spec_l01Part -/
noncomputable def spec_l01Part.b : Code := bodyOf Try.f63
noncomputable def spec_l01Part.C : Ctx := { ty := tys, fn := [], lp := [], n := 9, k := 0 }
theorem spec_l01Part.hC : CtxOK Try.prog spec_l01Part.C := CtxOK.of mo tys_ok FnsOK.nil
theorem spec_l01Part.lp : LpOK Try.prog spec_l01Part.C spec_l01Part.b := (LpOK.nil (by kernel_rfl))
noncomputable def spec_l01Part.t (x0 : Nat) : T Bool :=
  .br (fge .f32 x0 0)
  (.leaf (fle .f32 x0 1065353216))
  (.leaf false)
noncomputable def spec_l01Part (x0 : Nat) : Bool := (spec_l01Part.t x0).val
def spec_l01Part.cd : Cd Nat (List V × Hp) := Cd.iso (Cd.pair (Cd.cons (Cd.fl .f32) Cd.nil) Cd.nil) (fun a => a.1.1) (fun a => ((a, ()), ())) (fun _ => rfl)
noncomputable def spec_l01Part.tr (a : Nat) : T Bool := spec_l01Part.t a
def spec_l01Part.enc : Nat → Bool → V := fun a r => .bo r
noncomputable def spec_l01Part.c : List V → Hp → T V := cdQ spec_l01Part.cd (fun a => .leaf (spec_l01Part.enc a (spec_l01Part a)))
theorem spec_l01Part.run (a : Nat) : runF spec_l01Part.C Try.f63.results.toList spec_l01Part.b (spec_l01Part.cd.enc a).1 (spec_l01Part.cd.enc a).2 = (spec_l01Part.tr a).map fun r => (spec_l01Part.enc a r, (spec_l01Part.cd.enc a).2) := by kernel_rfl
theorem spec_l01Part.cok : OKq Try.prog 63 spec_l01Part.c := con_q' spec_l01Part.cd spec_l01Part.hC Try.func63 (by kernel_rfl) (by kernel_rfl) (by kernel_rfl) spec_l01Part.lp (fun a => by kernel_rfl) spec_l01Part.run (Tells.val (tree := spec_l01Part.tr) fun a => by kernel_rfl)
/-! ### spec_l04Ok -/
noncomputable def spec_l04Ok.b : Code := bodyOf Try.f45
noncomputable def spec_l04Ok.C : Ctx := { ty := tys, fn := [(47, .q spec_l04Rate.c), (63, .q spec_l01Part.c)], lp := [], n := 21, k := 0 }
theorem spec_l04Ok.hC : CtxOK Try.prog spec_l04Ok.C := CtxOK.of mo tys_ok (FnsOK.cons spec_l04Rate.cok (FnsOK.cons spec_l01Part.cok FnsOK.nil))
theorem spec_l04Ok.lp : LpOK Try.prog spec_l04Ok.C spec_l04Ok.b := (LpOK.nil (by kernel_rfl))
noncomputable def spec_l04Ok.t (x0 : Nat) (x1 : Nat) (x2 : Nat) (x3 : Nat) : T Bool :=
  .br (spec_l04Rate x0)
  (.br (spec_l04Rate x1)
   (.br (spec_l04Rate x2)
    (.leaf (spec_l01Part x3))
    (.leaf false))
   (.leaf false))
  (.leaf false)
noncomputable def spec_l04Ok (x0 : Nat) (x1 : Nat) (x2 : Nat) (x3 : Nat) : Bool := (spec_l04Ok.t x0 x1 x2 x3).val
def spec_l04Ok.cd : Cd (Nat × Nat × Nat × Nat) (List V × Hp) := Cd.iso (Cd.pair (Cd.cons (Cd.agg (Cd.cons (Cd.fl .f32) (Cd.cons (Cd.fl .f32) (Cd.cons (Cd.fl .f32) (Cd.cons (Cd.fl .f32) Cd.nil))))) Cd.nil) Cd.nil) (fun a => (a.1.1.1, a.1.1.2.1, a.1.1.2.2.1, a.1.1.2.2.2.1)) (fun a => (((a.1, (a.2.1, (a.2.2.1, (a.2.2.2, ())))), ()), ())) (fun _ => rfl)
noncomputable def spec_l04Ok.tr (a : Nat × Nat × Nat × Nat) : T Bool := spec_l04Ok.t a.1 a.2.1 a.2.2.1 a.2.2.2
def spec_l04Ok.enc : (Nat × Nat × Nat × Nat) → Bool → V := fun a r => .bo r
noncomputable def spec_l04Ok.c : List V → Hp → T V := cdQ spec_l04Ok.cd (fun a => .leaf (spec_l04Ok.enc a (spec_l04Ok a.1 a.2.1 a.2.2.1 a.2.2.2)))
theorem spec_l04Ok.run (a : Nat × Nat × Nat × Nat) : runF spec_l04Ok.C Try.f45.results.toList spec_l04Ok.b (spec_l04Ok.cd.enc a).1 (spec_l04Ok.cd.enc a).2 = (spec_l04Ok.tr a).map fun r => (spec_l04Ok.enc a r, (spec_l04Ok.cd.enc a).2) := by kernel_rfl
theorem spec_l04Ok.cok : OKq Try.prog 45 spec_l04Ok.c := con_q' spec_l04Ok.cd spec_l04Ok.hC Try.func45 (by kernel_rfl) (by kernel_rfl) (by kernel_rfl) spec_l04Ok.lp (fun a => by kernel_rfl) spec_l04Ok.run (Tells.val (tree := spec_l04Ok.tr) fun a => by kernel_rfl)
/-! ### spec_l01Bits -/
noncomputable def spec_l01Bits.b : Code := bodyOf Try.f96
noncomputable def spec_l01Bits.C : Ctx := { ty := tys, fn := [(92, .q f32bitsC)], lp := [], n := 8, k := 0 }
theorem spec_l01Bits.hC : CtxOK Try.prog spec_l01Bits.C := CtxOK.of mo tys_ok (FnsOK.cons (f32bits_ok Try.func92 (by kernel_rfl) (by kernel_rfl) (by kernel_rfl) (by kernel_rfl)) FnsOK.nil)
theorem spec_l01Bits.lp : LpOK Try.prog spec_l01Bits.C spec_l01Bits.b := (LpOK.nil (by kernel_rfl))
noncomputable def spec_l01Bits.t (x0 : Nat) : T Int :=
  .br (fne .f32 x0 x0)
  (.leaf (2143289344 : Int))
  (.br (isNaN .f32 x0)
   .bad
   (.leaf ((x0 : Nat) : Int)))
noncomputable def spec_l01Bits (x0 : Nat) : Int := (spec_l01Bits.t x0).val
noncomputable def spec_l01Bits.ok (x0 : Nat) : Bool := (spec_l01Bits.t x0).ok
def spec_l01Bits.cd : Cd Nat (List V × Hp) := Cd.iso (Cd.pair (Cd.cons (Cd.fl .f32) Cd.nil) Cd.nil) (fun a => a.1.1) (fun a => ((a, ()), ())) (fun _ => rfl)
noncomputable def spec_l01Bits.tr (a : Nat) : T Int := spec_l01Bits.t a
def spec_l01Bits.enc : Nat → Int → V := fun a r => .it .u32 r
noncomputable def spec_l01Bits.c : List V → Hp → T V := cdQ spec_l01Bits.cd (fun a => .br (spec_l01Bits.ok a) (.leaf (spec_l01Bits.enc a (spec_l01Bits a))) .bad)
theorem spec_l01Bits.run (a : Nat) : runF spec_l01Bits.C Try.f96.results.toList spec_l01Bits.b (spec_l01Bits.cd.enc a).1 (spec_l01Bits.cd.enc a).2 = (spec_l01Bits.tr a).map fun r => (spec_l01Bits.enc a r, (spec_l01Bits.cd.enc a).2) := by kernel_rfl
theorem spec_l01Bits.cok : OKq Try.prog 96 spec_l01Bits.c := con_q' spec_l01Bits.cd spec_l01Bits.hC Try.func96 (by kernel_rfl) (by kernel_rfl) (by kernel_rfl) spec_l01Bits.lp (fun a => by kernel_rfl) spec_l01Bits.run (Tells.ok (tree := spec_l01Bits.tr))
/-! ### spec_l01Hex -/
noncomputable def spec_l01Hex.b : Code := bodyOf Try.f87
noncomputable def spec_l01Hex.l4.s (x0 : Int) (x1 : Nat) (x2 : Int) (x3 : List Int) : T ((Int × Int × List Int) ⊕ (List Int)) :=
  .br (decide (x2 ≥ (0 : Int)))
  (.br (bounds (Int.tmod x0 (16 : Int)) (ByteArray.size (ByteArray.mk #[48, 49, 50, 51, 52, 53, 54, 55, 56, 57, 97, 98, 99, 100, 101, 102])))
   (.br (bounds x2 x1)
    (.br (Nat.ble ((Int.toNat x2 * 1) + 1) (List.length x3))
     (.leaf (.inl ((IntKind.wrap .u32 (Int.tdiv x0 (16 : Int))), (IntKind.wrap .i64 (x2 - (1 : Int))), (List.set x3 (Int.toNat x2 * 1) (byteAt (ByteArray.mk #[48, 49, 50, 51, 52, 53, 54, 55, 56, 57, 97, 98, 99, 100, 101, 102]) (Int.tmod x0 (16 : Int)))))))
     .bad)
    .bad)
   .bad)
  (.leaf (.inr x3))
noncomputable def spec_l01Hex.l4.st (p : Nat) (x : Int × Int × List Int) : T ((Int × Int × List Int) ⊕ (List Int)) := spec_l01Hex.l4.s x.1 p x.2.1 x.2.2
noncomputable def spec_l01Hex.l4.r (p : Nat) (x : Int × Int × List Int) : Option (List Int) := iterT (spec_l01Hex.l4.st p) manyRounds x
def spec_l01Hex.l4.cd : Cd (Nat × (Int × Int × List Int)) (List V × Hp) := Cd.iso (Cd.pair (Cd.cons (Cd.it .u32) (Cd.cons (Cd.own 0) (Cd.cons (Cd.it .i64) Cd.nil))) (Cd.cons (Cd.rw 5 1 (Cd.is .u8)) Cd.nil)) (fun a => (a.1.2.1, (a.1.1, a.1.2.2.1, a.2.1))) (fun a => ((a.2.1, (a.1, (a.2.2.1, ()))), (a.2.2.2, ()))) (fun _ => rfl)
def spec_l01Hex.l4.out (p : Nat) : (List Int) → X × List V × Hp := (fun r => (.ex 0, [.own 0 p], [some ⟨true, 5, 1, .is .u8 r⟩]))
def spec_l01Hex.l4.ex (p : Nat) : (List Int) → T (X × List V × Hp) := leafT (fun r => (.ex 0, [.own 0 p], [some ⟨true, 5, 1, .is .u8 r⟩]))
noncomputable def spec_l01Hex.l4.c : List V → Hp → T (X × List V × Hp) := cdL spec_l01Hex.l4.cd fun x => optT (spec_l01Hex.l4.r x.1 x.2) (spec_l01Hex.l4.ex x.1)
noncomputable def spec_l01Hex.C : Ctx := { ty := tys, fn := [(96, .q spec_l01Bits.c)], lp := [(4, ⟨[3, 4, 5], [4], spec_l01Hex.l4.c⟩)], n := 23, k := 0 }
theorem spec_l01Hex.hC : CtxOK Try.prog spec_l01Hex.C := CtxOK.of mo tys_ok (FnsOK.cons spec_l01Bits.cok FnsOK.nil)
noncomputable def spec_l01Hex.b4 : Code := (nthC (loopsOf spec_l01Hex.b) 0)
theorem spec_l01Hex.lp4 : LpOK Try.prog spec_l01Hex.C spec_l01Hex.b4 := (LpOK.nil (by kernel_rfl))
theorem spec_l01Hex.l4.round (p : Nat) (s : Int × Int × List Int) : roundL spec_l01Hex.C [3, 4, 5] [4] spec_l01Hex.b4 (spec_l01Hex.l4.cd.enc (p, s)).1 (spec_l01Hex.l4.cd.enc (p, s)).2 = (spec_l01Hex.l4.st p s).map (encSum (fun s => spec_l01Hex.l4.cd.enc (p, s)) (spec_l01Hex.l4.out p)) := by kernel_rfl
theorem spec_l01Hex.l4.lok : LoopOK Try.prog spec_l01Hex.C ⟨[3, 4, 5], [4], spec_l01Hex.l4.c⟩ spec_l01Hex.b4 := loop_cd spec_l01Hex.l4.cd spec_l01Hex.hC spec_l01Hex.lp4 spec_l01Hex.l4.round fun p => Gets.leaf
theorem spec_l01Hex.lp : LpOK Try.prog spec_l01Hex.C spec_l01Hex.b := lp_of (by kernel_rfl) (LpsOK.cons (k := 4) (by kernel_rfl) (by kernel_rfl) spec_l01Hex.l4.lok LpsOK.nil)
noncomputable def spec_l01Hex.t (x0 : Nat) : T ByteArray :=
  .br (spec_l01Bits.ok x0)
  (.br (decide (0 ≤ (8 : Int)) && decide ((8 : Int) ≤ (8 : Int)) && decide ((8 : Int) ≤ 35184372088832) && decide (((1 : Nat) : Int) * (8 : Int) ≤ 35184372088832))
   (.br (Option.isSome (spec_l01Hex.l4.r 8 ((spec_l01Bits x0), (7 : Int), (List.replicate ((Int.toNat (8 : Int)) * 1) 0))))
    (.br (Nat.ble 8 (List.length (Option.getD (spec_l01Hex.l4.r 8 ((spec_l01Bits x0), (7 : Int), (List.replicate ((Int.toNat (8 : Int)) * 1) 0))) default)))
     (.leaf (strOf (List.take 8 (Option.getD (spec_l01Hex.l4.r 8 ((spec_l01Bits x0), (7 : Int), (List.replicate ((Int.toNat (8 : Int)) * 1) 0))) default))))
     .bad)
    .bad)
   .bad)
  .bad
noncomputable def spec_l01Hex (x0 : Nat) : ByteArray := (spec_l01Hex.t x0).val
noncomputable def spec_l01Hex.ok (x0 : Nat) : Bool := (spec_l01Hex.t x0).ok
def spec_l01Hex.cd : Cd Nat (List V × Hp) := Cd.iso (Cd.pair (Cd.cons (Cd.fl .f32) Cd.nil) Cd.nil) (fun a => a.1.1) (fun a => ((a, ()), ())) (fun _ => rfl)
noncomputable def spec_l01Hex.tr (a : Nat) : T ByteArray := spec_l01Hex.t a
def spec_l01Hex.enc : Nat → ByteArray → V := fun a r => .st r
noncomputable def spec_l01Hex.c : List V → Hp → T V := cdQ spec_l01Hex.cd (fun a => .br (spec_l01Hex.ok a) (.leaf (spec_l01Hex.enc a (spec_l01Hex a))) .bad)
theorem spec_l01Hex.run (a : Nat) : runF spec_l01Hex.C Try.f87.results.toList spec_l01Hex.b (spec_l01Hex.cd.enc a).1 (spec_l01Hex.cd.enc a).2 = (spec_l01Hex.tr a).map fun r => (spec_l01Hex.enc a r, (spec_l01Hex.cd.enc a).2) := by kernel_rfl
theorem spec_l01Hex.cok : OKq Try.prog 87 spec_l01Hex.c := con_q' spec_l01Hex.cd spec_l01Hex.hC Try.func87 (by kernel_rfl) (by kernel_rfl) (by kernel_rfl) spec_l01Hex.lp (fun a => by kernel_rfl) spec_l01Hex.run (Tells.ok (tree := spec_l01Hex.tr))
/-! ### spec_l04Text -/
noncomputable def spec_l04Text.b : Code := bodyOf Try.f66
noncomputable def spec_l04Text.C : Ctx := { ty := tys, fn := [(87, .q spec_l01Hex.c)], lp := [], n := 21, k := 0 }
theorem spec_l04Text.hC : CtxOK Try.prog spec_l04Text.C := CtxOK.of mo tys_ok (FnsOK.cons spec_l01Hex.cok FnsOK.nil)
theorem spec_l04Text.lp : LpOK Try.prog spec_l04Text.C spec_l04Text.b := (LpOK.nil (by kernel_rfl))
noncomputable def spec_l04Text.t (x0 : Nat) (x1 : Nat) (x2 : Nat) (x3 : Nat) : T ByteArray :=
  .br (spec_l01Hex.ok x0)
  (.br (decide (((ByteArray.size (spec_l01Hex x0) + ByteArray.size (ByteArray.mk #[47]) : Nat) : Int) > IntKind.max .i64))
   .bad
   (.br (spec_l01Hex.ok x1)
    (.br (decide (((ByteArray.size ((spec_l01Hex x0) ++ (ByteArray.mk #[47])) + ByteArray.size (spec_l01Hex x1) : Nat) : Int) > IntKind.max .i64))
     .bad
     (.br (decide (((ByteArray.size (((spec_l01Hex x0) ++ (ByteArray.mk #[47])) ++ (spec_l01Hex x1)) + ByteArray.size (ByteArray.mk #[47]) : Nat) : Int) > IntKind.max .i64))
      .bad
      (.br (spec_l01Hex.ok x2)
       (.br (decide (((ByteArray.size ((((spec_l01Hex x0) ++ (ByteArray.mk #[47])) ++ (spec_l01Hex x1)) ++ (ByteArray.mk #[47])) + ByteArray.size (spec_l01Hex x2) : Nat) : Int) > IntKind.max .i64))
        .bad
        (.br (decide (((ByteArray.size (((((spec_l01Hex x0) ++ (ByteArray.mk #[47])) ++ (spec_l01Hex x1)) ++ (ByteArray.mk #[47])) ++ (spec_l01Hex x2)) + ByteArray.size (ByteArray.mk #[47]) : Nat) : Int) > IntKind.max .i64))
         .bad
         (.br (spec_l01Hex.ok x3)
          (.br (decide (((ByteArray.size ((((((spec_l01Hex x0) ++ (ByteArray.mk #[47])) ++ (spec_l01Hex x1)) ++ (ByteArray.mk #[47])) ++ (spec_l01Hex x2)) ++ (ByteArray.mk #[47])) + ByteArray.size (spec_l01Hex x3) : Nat) : Int) > IntKind.max .i64))
           .bad
           (.leaf (((((((spec_l01Hex x0) ++ (ByteArray.mk #[47])) ++ (spec_l01Hex x1)) ++ (ByteArray.mk #[47])) ++ (spec_l01Hex x2)) ++ (ByteArray.mk #[47])) ++ (spec_l01Hex x3))))
          .bad)))
       .bad)))
    .bad))
  .bad
noncomputable def spec_l04Text (x0 : Nat) (x1 : Nat) (x2 : Nat) (x3 : Nat) : ByteArray := (spec_l04Text.t x0 x1 x2 x3).val
noncomputable def spec_l04Text.ok (x0 : Nat) (x1 : Nat) (x2 : Nat) (x3 : Nat) : Bool := (spec_l04Text.t x0 x1 x2 x3).ok
def spec_l04Text.cd : Cd (Nat × Nat × Nat × Nat) (List V × Hp) := Cd.iso (Cd.pair (Cd.cons (Cd.agg (Cd.cons (Cd.fl .f32) (Cd.cons (Cd.fl .f32) (Cd.cons (Cd.fl .f32) (Cd.cons (Cd.fl .f32) Cd.nil))))) Cd.nil) Cd.nil) (fun a => (a.1.1.1, a.1.1.2.1, a.1.1.2.2.1, a.1.1.2.2.2.1)) (fun a => (((a.1, (a.2.1, (a.2.2.1, (a.2.2.2, ())))), ()), ())) (fun _ => rfl)
noncomputable def spec_l04Text.tr (a : Nat × Nat × Nat × Nat) : T ByteArray := spec_l04Text.t a.1 a.2.1 a.2.2.1 a.2.2.2
def spec_l04Text.enc : (Nat × Nat × Nat × Nat) → ByteArray → V := fun a r => .st r
noncomputable def spec_l04Text.c : List V → Hp → T V := cdQ spec_l04Text.cd (fun a => .br (spec_l04Text.ok a.1 a.2.1 a.2.2.1 a.2.2.2) (.leaf (spec_l04Text.enc a (spec_l04Text a.1 a.2.1 a.2.2.1 a.2.2.2))) .bad)
theorem spec_l04Text.run (a : Nat × Nat × Nat × Nat) : runF spec_l04Text.C Try.f66.results.toList spec_l04Text.b (spec_l04Text.cd.enc a).1 (spec_l04Text.cd.enc a).2 = (spec_l04Text.tr a).map fun r => (spec_l04Text.enc a r, (spec_l04Text.cd.enc a).2) := by kernel_rfl
theorem spec_l04Text.cok : OKq Try.prog 66 spec_l04Text.c := con_q' spec_l04Text.cd spec_l04Text.hC Try.func66 (by kernel_rfl) (by kernel_rfl) (by kernel_rfl) spec_l04Text.lp (fun a => by kernel_rfl) spec_l04Text.run (Tells.ok (tree := spec_l04Text.tr))
/-! ### spec_StoneText -/
noncomputable def spec_StoneText.b : Code := bodyOf Try.f28
noncomputable def spec_StoneText.C : Ctx := { ty := tys, fn := [(45, .q spec_l04Ok.c), (66, .q spec_l04Text.c)], lp := [], n := 8, k := 0 }
theorem spec_StoneText.hC : CtxOK Try.prog spec_StoneText.C := CtxOK.of mo tys_ok (FnsOK.cons spec_l04Ok.cok (FnsOK.cons spec_l04Text.cok FnsOK.nil))
theorem spec_StoneText.lp : LpOK Try.prog spec_StoneText.C spec_StoneText.b := (LpOK.nil (by kernel_rfl))
noncomputable def spec_StoneText.t (x0 : Nat) (x1 : Nat) (x2 : Nat) (x3 : Nat) : T ByteArray :=
  .br (!(spec_l04Ok x0 x1 x2 x3))
  (.leaf (ByteArray.mk #[]))
  (.br (spec_l04Text.ok x0 x1 x2 x3)
   (.leaf (spec_l04Text x0 x1 x2 x3))
   .bad)
noncomputable def spec_StoneText (x0 : Nat) (x1 : Nat) (x2 : Nat) (x3 : Nat) : ByteArray := (spec_StoneText.t x0 x1 x2 x3).val
noncomputable def spec_StoneText.ok (x0 : Nat) (x1 : Nat) (x2 : Nat) (x3 : Nat) : Bool := (spec_StoneText.t x0 x1 x2 x3).ok
def spec_StoneText.cd : Cd (Nat × Nat × Nat × Nat) (List V × Hp) := Cd.iso (Cd.pair (Cd.cons (Cd.agg (Cd.cons (Cd.fl .f32) (Cd.cons (Cd.fl .f32) (Cd.cons (Cd.fl .f32) (Cd.cons (Cd.fl .f32) Cd.nil))))) Cd.nil) Cd.nil) (fun a => (a.1.1.1, a.1.1.2.1, a.1.1.2.2.1, a.1.1.2.2.2.1)) (fun a => (((a.1, (a.2.1, (a.2.2.1, (a.2.2.2, ())))), ()), ())) (fun _ => rfl)
noncomputable def spec_StoneText.tr (a : Nat × Nat × Nat × Nat) : T ByteArray := spec_StoneText.t a.1 a.2.1 a.2.2.1 a.2.2.2
def spec_StoneText.enc : (Nat × Nat × Nat × Nat) → ByteArray → V := fun a r => .st r
noncomputable def spec_StoneText.c : List V → Hp → T V := cdQ spec_StoneText.cd (fun a => .br (spec_StoneText.ok a.1 a.2.1 a.2.2.1 a.2.2.2) (.leaf (spec_StoneText.enc a (spec_StoneText a.1 a.2.1 a.2.2.1 a.2.2.2))) .bad)
theorem spec_StoneText.run (a : Nat × Nat × Nat × Nat) : runF spec_StoneText.C Try.f28.results.toList spec_StoneText.b (spec_StoneText.cd.enc a).1 (spec_StoneText.cd.enc a).2 = (spec_StoneText.tr a).map fun r => (spec_StoneText.enc a r, (spec_StoneText.cd.enc a).2) := by kernel_rfl
theorem spec_StoneText.cok : OKq Try.prog 28 spec_StoneText.c := con_q' spec_StoneText.cd spec_StoneText.hC Try.func28 (by kernel_rfl) (by kernel_rfl) (by kernel_rfl) spec_StoneText.lp (fun a => by kernel_rfl) spec_StoneText.run (Tells.ok (tree := spec_StoneText.tr))
/-! ### impl_between -/
noncomputable def impl_between.b : Code := bodyOf Try.f76
noncomputable def impl_between.C : Ctx := { ty := tys, fn := [], lp := [], n := 15, k := 0 }
theorem impl_between.hC : CtxOK Try.prog impl_between.C := CtxOK.of mo tys_ok FnsOK.nil
theorem impl_between.lp : LpOK Try.prog impl_between.C impl_between.b := (LpOK.nil (by kernel_rfl))
noncomputable def impl_between.t (x0 : Nat) (x1 : Nat) (x2 : Nat) : T Bool :=
  .br (fle .f32 x1 x0)
  (.leaf (fle .f32 x0 x2))
  (.leaf false)
noncomputable def impl_between (x0 : Nat) (x1 : Nat) (x2 : Nat) : Bool := (impl_between.t x0 x1 x2).val
def impl_between.cd : Cd (Nat × Nat × Nat) (List V × Hp) := Cd.iso (Cd.pair (Cd.cons (Cd.fl .f32) (Cd.cons (Cd.fl .f32) (Cd.cons (Cd.fl .f32) Cd.nil))) Cd.nil) (fun a => (a.1.1, a.1.2.1, a.1.2.2.1)) (fun a => ((a.1, (a.2.1, (a.2.2, ()))), ())) (fun _ => rfl)
noncomputable def impl_between.tr (a : Nat × Nat × Nat) : T Bool := impl_between.t a.1 a.2.1 a.2.2
def impl_between.enc : (Nat × Nat × Nat) → Bool → V := fun a r => .bo r
noncomputable def impl_between.c : List V → Hp → T V := cdQ impl_between.cd (fun a => .leaf (impl_between.enc a (impl_between a.1 a.2.1 a.2.2)))
theorem impl_between.run (a : Nat × Nat × Nat) : runF impl_between.C Try.f76.results.toList impl_between.b (impl_between.cd.enc a).1 (impl_between.cd.enc a).2 = (impl_between.tr a).map fun r => (impl_between.enc a r, (impl_between.cd.enc a).2) := by kernel_rfl
theorem impl_between.cok : OKq Try.prog 76 impl_between.c := con_q' impl_between.cd impl_between.hC Try.func76 (by kernel_rfl) (by kernel_rfl) (by kernel_rfl) impl_between.lp (fun a => by kernel_rfl) impl_between.run (Tells.val (tree := impl_between.tr) fun a => by kernel_rfl)
/-! ### impl_IsRate -/
noncomputable def impl_IsRate.b : Code := bodyOf Try.f53
noncomputable def impl_IsRate.C : Ctx := { ty := tys, fn := [(76, .q impl_between.c)], lp := [], n := 5, k := 0 }
theorem impl_IsRate.hC : CtxOK Try.prog impl_IsRate.C := CtxOK.of mo tys_ok (FnsOK.cons impl_between.cok FnsOK.nil)
theorem impl_IsRate.lp : LpOK Try.prog impl_IsRate.C impl_IsRate.b := (LpOK.nil (by kernel_rfl))
noncomputable def impl_IsRate.t (x0 : Nat) : T Bool :=
  .leaf (impl_between x0 0 1149239296)
noncomputable def impl_IsRate (x0 : Nat) : Bool := (impl_IsRate.t x0).val
def impl_IsRate.cd : Cd Nat (List V × Hp) := Cd.iso (Cd.pair (Cd.cons (Cd.fl .f32) Cd.nil) Cd.nil) (fun a => a.1.1) (fun a => ((a, ()), ())) (fun _ => rfl)
noncomputable def impl_IsRate.tr (a : Nat) : T Bool := impl_IsRate.t a
def impl_IsRate.enc : Nat → Bool → V := fun a r => .bo r
noncomputable def impl_IsRate.c : List V → Hp → T V := cdQ impl_IsRate.cd (fun a => .leaf (impl_IsRate.enc a (impl_IsRate a)))
theorem impl_IsRate.run (a : Nat) : runF impl_IsRate.C Try.f53.results.toList impl_IsRate.b (impl_IsRate.cd.enc a).1 (impl_IsRate.cd.enc a).2 = (impl_IsRate.tr a).map fun r => (impl_IsRate.enc a r, (impl_IsRate.cd.enc a).2) := by kernel_rfl
theorem impl_IsRate.cok : OKq Try.prog 53 impl_IsRate.c := con_q' impl_IsRate.cd impl_IsRate.hC Try.func53 (by kernel_rfl) (by kernel_rfl) (by kernel_rfl) impl_IsRate.lp (fun a => by kernel_rfl) impl_IsRate.run (Tells.val (tree := impl_IsRate.tr) fun a => by kernel_rfl)
/-! ### impl_IsPart -/
noncomputable def impl_IsPart.b : Code := bodyOf Try.f65
noncomputable def impl_IsPart.C : Ctx := { ty := tys, fn := [(76, .q impl_between.c)], lp := [], n := 5, k := 0 }
theorem impl_IsPart.hC : CtxOK Try.prog impl_IsPart.C := CtxOK.of mo tys_ok (FnsOK.cons impl_between.cok FnsOK.nil)
theorem impl_IsPart.lp : LpOK Try.prog impl_IsPart.C impl_IsPart.b := (LpOK.nil (by kernel_rfl))
noncomputable def impl_IsPart.t (x0 : Nat) : T Bool :=
  .leaf (impl_between x0 0 1065353216)
noncomputable def impl_IsPart (x0 : Nat) : Bool := (impl_IsPart.t x0).val
def impl_IsPart.cd : Cd Nat (List V × Hp) := Cd.iso (Cd.pair (Cd.cons (Cd.fl .f32) Cd.nil) Cd.nil) (fun a => a.1.1) (fun a => ((a, ()), ())) (fun _ => rfl)
noncomputable def impl_IsPart.tr (a : Nat) : T Bool := impl_IsPart.t a
def impl_IsPart.enc : Nat → Bool → V := fun a r => .bo r
noncomputable def impl_IsPart.c : List V → Hp → T V := cdQ impl_IsPart.cd (fun a => .leaf (impl_IsPart.enc a (impl_IsPart a)))
theorem impl_IsPart.run (a : Nat) : runF impl_IsPart.C Try.f65.results.toList impl_IsPart.b (impl_IsPart.cd.enc a).1 (impl_IsPart.cd.enc a).2 = (impl_IsPart.tr a).map fun r => (impl_IsPart.enc a r, (impl_IsPart.cd.enc a).2) := by kernel_rfl
theorem impl_IsPart.cok : OKq Try.prog 65 impl_IsPart.c := con_q' impl_IsPart.cd impl_IsPart.hC Try.func65 (by kernel_rfl) (by kernel_rfl) (by kernel_rfl) impl_IsPart.lp (fun a => by kernel_rfl) impl_IsPart.run (Tells.val (tree := impl_IsPart.tr) fun a => by kernel_rfl)
/-! ### impl_ValidStone -/
noncomputable def impl_ValidStone.b : Code := bodyOf Try.f36
noncomputable def impl_ValidStone.C : Ctx := { ty := tys, fn := [(53, .q impl_IsRate.c), (65, .q impl_IsPart.c)], lp := [], n := 21, k := 0 }
theorem impl_ValidStone.hC : CtxOK Try.prog impl_ValidStone.C := CtxOK.of mo tys_ok (FnsOK.cons impl_IsRate.cok (FnsOK.cons impl_IsPart.cok FnsOK.nil))
theorem impl_ValidStone.lp : LpOK Try.prog impl_ValidStone.C impl_ValidStone.b := (LpOK.nil (by kernel_rfl))
noncomputable def impl_ValidStone.t (x0 : Nat) (x1 : Nat) (x2 : Nat) (x3 : Nat) : T Bool :=
  .br (impl_IsRate x0)
  (.br (impl_IsRate x1)
   (.br (impl_IsRate x2)
    (.leaf (impl_IsPart x3))
    (.leaf false))
   (.leaf false))
  (.leaf false)
noncomputable def impl_ValidStone (x0 : Nat) (x1 : Nat) (x2 : Nat) (x3 : Nat) : Bool := (impl_ValidStone.t x0 x1 x2 x3).val
def impl_ValidStone.cd : Cd (Nat × Nat × Nat × Nat) (List V × Hp) := Cd.iso (Cd.pair (Cd.cons (Cd.agg (Cd.cons (Cd.fl .f32) (Cd.cons (Cd.fl .f32) (Cd.cons (Cd.fl .f32) (Cd.cons (Cd.fl .f32) Cd.nil))))) Cd.nil) Cd.nil) (fun a => (a.1.1.1, a.1.1.2.1, a.1.1.2.2.1, a.1.1.2.2.2.1)) (fun a => (((a.1, (a.2.1, (a.2.2.1, (a.2.2.2, ())))), ()), ())) (fun _ => rfl)
noncomputable def impl_ValidStone.tr (a : Nat × Nat × Nat × Nat) : T Bool := impl_ValidStone.t a.1 a.2.1 a.2.2.1 a.2.2.2
def impl_ValidStone.enc : (Nat × Nat × Nat × Nat) → Bool → V := fun a r => .bo r
noncomputable def impl_ValidStone.c : List V → Hp → T V := cdQ impl_ValidStone.cd (fun a => .leaf (impl_ValidStone.enc a (impl_ValidStone a.1 a.2.1 a.2.2.1 a.2.2.2)))
theorem impl_ValidStone.run (a : Nat × Nat × Nat × Nat) : runF impl_ValidStone.C Try.f36.results.toList impl_ValidStone.b (impl_ValidStone.cd.enc a).1 (impl_ValidStone.cd.enc a).2 = (impl_ValidStone.tr a).map fun r => (impl_ValidStone.enc a r, (impl_ValidStone.cd.enc a).2) := by kernel_rfl
theorem impl_ValidStone.cok : OKq Try.prog 36 impl_ValidStone.c := con_q' impl_ValidStone.cd impl_ValidStone.hC Try.func36 (by kernel_rfl) (by kernel_rfl) (by kernel_rfl) impl_ValidStone.lp (fun a => by kernel_rfl) impl_ValidStone.run (Tells.val (tree := impl_ValidStone.tr) fun a => by kernel_rfl)
/-! ### impl_NumberText -/
noncomputable def impl_NumberText.b : Code := bodyOf Try.f88
noncomputable def impl_NumberText.l5.s (x0 : Nat) (x1 : Int) (x2 : List Int) : T (Unit ⊕ Unit) :=
  .br (decide (x1 ≥ (0 : Int)))
  .bad
  (.leaf (.inr ()))
noncomputable def impl_NumberText.l5.st (p : Nat × Int × List Int) (x : Unit) : T (Unit ⊕ Unit) := impl_NumberText.l5.s p.1 p.2.1 p.2.2
noncomputable def impl_NumberText.l5.r (p : Nat × Int × List Int) (x : Unit) : Option Unit := iterT (impl_NumberText.l5.st p) manyRounds x
def impl_NumberText.l5.cd : Cd ((Nat × Int × List Int) × Unit) (List V × Hp) := Cd.iso (Cd.pair (Cd.cons Cd.qn (Cd.cons (Cd.own 0) (Cd.cons (Cd.it .i64) Cd.nil))) (Cd.cons (Cd.rw 5 1 (Cd.is .u8)) Cd.nil)) (fun a => ((a.1.2.1, a.1.2.2.1, a.2.1), ())) (fun a => (((), (a.1.1, (a.1.2.1, ()))), (a.1.2.2, ()))) (fun _ => rfl)
def impl_NumberText.l5.out (p : Nat × Int × List Int) : Unit → X × List V × Hp := (fun r => (.ex 0, [.own 0 p.1], [some ⟨true, 5, 1, .is .u8 p.2.2⟩]))
def impl_NumberText.l5.ex (p : Nat × Int × List Int) : Unit → T (X × List V × Hp) := leafT (fun r => (.ex 0, [.own 0 p.1], [some ⟨true, 5, 1, .is .u8 p.2.2⟩]))
noncomputable def impl_NumberText.l5.c : List V → Hp → T (X × List V × Hp) := cdL impl_NumberText.l5.cd fun x => optT (impl_NumberText.l5.r x.1 x.2) (impl_NumberText.l5.ex x.1)
noncomputable def impl_NumberText.l5v1.s (x0 : Int) (x1 : Nat) (x2 : Int) (x3 : List Int) : T ((Nat × Int × List Int) ⊕ (Nat × List Int)) :=
  .br (decide (x2 ≥ (0 : Int)))
  (.br (decide (x2 < 0))
   .bad
   (.br (bounds (ibits .and .u32 (Int.fdiv x0 (2 ^ min (Int.toNat x2) 32)) (15 : Int)) (ByteArray.size (ByteArray.mk #[48, 49, 50, 51, 52, 53, 54, 55, 56, 57, 97, 98, 99, 100, 101, 102])))
    (.br ((Nat.ble 1 (List.length [(byteAt (ByteArray.mk #[48, 49, 50, 51, 52, 53, 54, 55, 56, 57, 97, 98, 99, 100, 101, 102]) (ibits .and .u32 (Int.fdiv x0 (2 ^ min (Int.toNat x2) 32)) (15 : Int)))])) && (Nat.beq (List.length x3) (x1 * 1) && Nat.ble ((x1 + 1) * 1) 35184372088832 && Nat.ble (x1 + 1) 35184372088832))
     (.leaf (.inl ((x1 + 1), (IntKind.wrap .i64 (x2 - (4 : Int))), (x3 ++ (List.take 1 (List.drop 0 [(byteAt (ByteArray.mk #[48, 49, 50, 51, 52, 53, 54, 55, 56, 57, 97, 98, 99, 100, 101, 102]) (ibits .and .u32 (Int.fdiv x0 (2 ^ min (Int.toNat x2) 32)) (15 : Int)))]))))))
     .bad)
    .bad))
  (.leaf (.inr (x1, x3)))
noncomputable def impl_NumberText.l5v1.st (p : Int) (x : Nat × Int × List Int) : T ((Nat × Int × List Int) ⊕ (Nat × List Int)) := impl_NumberText.l5v1.s p x.1 x.2.1 x.2.2
noncomputable def impl_NumberText.l5v1.r (p : Int) (x : Nat × Int × List Int) : Option (Nat × List Int) := iterT (impl_NumberText.l5v1.st p) manyRounds x
def impl_NumberText.l5v1.cd : Cd (Int × (Nat × Int × List Int)) (List V × Hp) := Cd.iso (Cd.pair (Cd.cons (Cd.it .u32) (Cd.cons (Cd.own 0) (Cd.cons (Cd.it .i64) Cd.nil))) (Cd.cons (Cd.rw 5 1 (Cd.is .u8)) Cd.nil)) (fun a => (a.1.1, (a.1.2.1, a.1.2.2.1, a.2.1))) (fun a => ((a.1, (a.2.1, (a.2.2.1, ()))), (a.2.2.2, ()))) (fun _ => rfl)
def impl_NumberText.l5v1.out (p : Int) : (Nat × List Int) → X × List V × Hp := (fun r => (.ex 0, [.own 0 r.1], [some ⟨true, 5, 1, .is .u8 r.2⟩]))
def impl_NumberText.l5v1.ex (p : Int) : (Nat × List Int) → T (X × List V × Hp) := leafT (fun r => (.ex 0, [.own 0 r.1], [some ⟨true, 5, 1, .is .u8 r.2⟩]))
noncomputable def impl_NumberText.l5v1.c : List V → Hp → T (X × List V × Hp) := cdL impl_NumberText.l5v1.cd fun x => optT (impl_NumberText.l5v1.r x.1 x.2) (impl_NumberText.l5v1.ex x.1)
noncomputable def impl_NumberText.C : Ctx := { ty := tys, fn := [(92, .q f32bitsC)], lp := [(5, ⟨[3, 4, 5], [4], altL impl_NumberText.l5.c impl_NumberText.l5v1.c⟩)], n := 26, k := 0 }
theorem impl_NumberText.hC : CtxOK Try.prog impl_NumberText.C := CtxOK.of mo tys_ok (FnsOK.cons (f32bits_ok Try.func92 (by kernel_rfl) (by kernel_rfl) (by kernel_rfl) (by kernel_rfl)) FnsOK.nil)
noncomputable def impl_NumberText.b5 : Code := (nthC (loopsOf impl_NumberText.b) 0)
theorem impl_NumberText.lp5 : LpOK Try.prog impl_NumberText.C impl_NumberText.b5 := (LpOK.nil (by kernel_rfl))
theorem impl_NumberText.l5.round (p : Nat × Int × List Int) (s : Unit) : roundL impl_NumberText.C [3, 4, 5] [4] impl_NumberText.b5 (impl_NumberText.l5.cd.enc (p, s)).1 (impl_NumberText.l5.cd.enc (p, s)).2 = (impl_NumberText.l5.st p s).map (encSum (fun s => impl_NumberText.l5.cd.enc (p, s)) (impl_NumberText.l5.out p)) := by kernel_rfl
theorem impl_NumberText.l5.lok : LoopOK Try.prog impl_NumberText.C ⟨[3, 4, 5], [4], impl_NumberText.l5.c⟩ impl_NumberText.b5 := loop_cd impl_NumberText.l5.cd impl_NumberText.hC impl_NumberText.lp5 impl_NumberText.l5.round fun p => Gets.leaf
theorem impl_NumberText.l5v1.round (p : Int) (s : Nat × Int × List Int) : roundL impl_NumberText.C [3, 4, 5] [4] impl_NumberText.b5 (impl_NumberText.l5v1.cd.enc (p, s)).1 (impl_NumberText.l5v1.cd.enc (p, s)).2 = (impl_NumberText.l5v1.st p s).map (encSum (fun s => impl_NumberText.l5v1.cd.enc (p, s)) (impl_NumberText.l5v1.out p)) := by kernel_rfl
theorem impl_NumberText.l5v1.lok : LoopOK Try.prog impl_NumberText.C ⟨[3, 4, 5], [4], impl_NumberText.l5v1.c⟩ impl_NumberText.b5 := loop_cd impl_NumberText.l5v1.cd impl_NumberText.hC impl_NumberText.lp5 impl_NumberText.l5v1.round fun p => Gets.leaf
theorem impl_NumberText.lp : LpOK Try.prog impl_NumberText.C impl_NumberText.b := lp_of (by kernel_rfl) (LpsOK.cons (k := 5) (by kernel_rfl) (by kernel_rfl) (LoopOK.alt impl_NumberText.l5.lok impl_NumberText.l5v1.lok) LpsOK.nil)
noncomputable def impl_NumberText.t (x0 : Nat) : T ByteArray :=
  .br (fne .f32 x0 x0)
  (.leaf (ByteArray.mk #[55, 102, 99, 48, 48, 48, 48, 48]))
  (.br (isNaN .f32 x0)
   (.br (Option.isSome (impl_NumberText.l5.r (0, (28 : Int), []) ()))
    (.br (Nat.ble 0 (List.length ([] : List Int)))
     (.leaf (strOf (List.take 0 ([] : List Int))))
     .bad)
    .bad)
   (.br (Option.isSome (impl_NumberText.l5v1.r ((x0 : Nat) : Int) (0, (28 : Int), [])))
    (.br (Nat.ble ((Option.getD (impl_NumberText.l5v1.r ((x0 : Nat) : Int) (0, (28 : Int), [])) default).1) (List.length ((Option.getD (impl_NumberText.l5v1.r ((x0 : Nat) : Int) (0, (28 : Int), [])) default).2)))
     (.leaf (strOf (List.take ((Option.getD (impl_NumberText.l5v1.r ((x0 : Nat) : Int) (0, (28 : Int), [])) default).1) ((Option.getD (impl_NumberText.l5v1.r ((x0 : Nat) : Int) (0, (28 : Int), [])) default).2))))
     .bad)
    .bad))
noncomputable def impl_NumberText (x0 : Nat) : ByteArray := (impl_NumberText.t x0).val
noncomputable def impl_NumberText.ok (x0 : Nat) : Bool := (impl_NumberText.t x0).ok
def impl_NumberText.cd : Cd Nat (List V × Hp) := Cd.iso (Cd.pair (Cd.cons (Cd.fl .f32) Cd.nil) Cd.nil) (fun a => a.1.1) (fun a => ((a, ()), ())) (fun _ => rfl)
noncomputable def impl_NumberText.tr (a : Nat) : T ByteArray := impl_NumberText.t a
def impl_NumberText.enc : Nat → ByteArray → V := fun a r => .st r
noncomputable def impl_NumberText.c : List V → Hp → T V := cdQ impl_NumberText.cd (fun a => .br (impl_NumberText.ok a) (.leaf (impl_NumberText.enc a (impl_NumberText a))) .bad)
theorem impl_NumberText.run (a : Nat) : runF impl_NumberText.C Try.f88.results.toList impl_NumberText.b (impl_NumberText.cd.enc a).1 (impl_NumberText.cd.enc a).2 = (impl_NumberText.tr a).map fun r => (impl_NumberText.enc a r, (impl_NumberText.cd.enc a).2) := by kernel_rfl
theorem impl_NumberText.cok : OKq Try.prog 88 impl_NumberText.c := con_q' impl_NumberText.cd impl_NumberText.hC Try.func88 (by kernel_rfl) (by kernel_rfl) (by kernel_rfl) impl_NumberText.lp (fun a => by kernel_rfl) impl_NumberText.run (Tells.ok (tree := impl_NumberText.tr))
/-! ### impl_texts -/
noncomputable def impl_texts.b : Code := bodyOf Try.f67
noncomputable def impl_texts.l3.s (x0 : ByteArray) (x1 : Nat) (x2 : Nat) (x3 : Int) (x4 : Int) (x5 : List Nat) (x6 : List ByteArray) : T ((Nat × Int × List ByteArray) ⊕ (Nat × List ByteArray)) :=
  .br (decide (x4 < x3))
  (.br (bounds x4 x2)
   (.br (Nat.ble ((Int.toNat x4 * 1) + 1) (List.length x5))
    (.br (impl_NumberText.ok (List.getD x5 (Int.toNat x4 * 1) 0))
     (.br ((Nat.ble 1 (List.length [(impl_NumberText (List.getD x5 (Int.toNat x4 * 1) 0))])) && (Nat.beq (List.length x6) (x1 * 1) && Nat.ble ((x1 + 1) * 16) 35184372088832 && Nat.ble (x1 + 1) 35184372088832))
      (.leaf (.inl ((x1 + 1), (IntKind.wrap .i64 (x4 + (1 : Int))), (x6 ++ (List.take 1 (List.drop 0 [(impl_NumberText (List.getD x5 (Int.toNat x4 * 1) 0))]))))))
      .bad)
     .bad)
    .bad)
   .bad)
  (.leaf (.inr (x1, x6)))
noncomputable def impl_texts.l3.st (p : ByteArray × Nat × Int × List Nat) (x : Nat × Int × List ByteArray) : T ((Nat × Int × List ByteArray) ⊕ (Nat × List ByteArray)) := impl_texts.l3.s p.1 x.1 p.2.1 p.2.2.1 x.2.1 p.2.2.2 x.2.2
noncomputable def impl_texts.l3.r (p : ByteArray × Nat × Int × List Nat) (x : Nat × Int × List ByteArray) : Option (Nat × List ByteArray) := iterT (impl_texts.l3.st p) manyRounds x
def impl_texts.l3.cd : Cd ((ByteArray × Nat × Int × List Nat) × (Nat × Int × List ByteArray)) (List V × Hp) := Cd.iso (Cd.pair (Cd.cons Cd.st (Cd.cons (Cd.own 1) (Cd.cons (Cd.own 0) (Cd.cons (Cd.it .i64) (Cd.cons (Cd.it .i64) Cd.nil))))) (Cd.cons (Cd.rw 22 1 (Cd.fs .f32)) (Cd.cons (Cd.rw 9 1 Cd.ss) Cd.nil))) (fun a => ((a.1.1, a.1.2.2.1, a.1.2.2.2.1, a.2.1), (a.1.2.1, a.1.2.2.2.2.1, a.2.2.1))) (fun a => ((a.1.1, (a.2.1, (a.1.2.1, (a.1.2.2.1, (a.2.2.1, ()))))), (a.1.2.2.2, (a.2.2.2, ())))) (fun _ => rfl)
def impl_texts.l3.out (p : ByteArray × Nat × Int × List Nat) : (Nat × List ByteArray) → X × List V × Hp := (fun r => (.ex 0, [.st p.1, .own 1 r.1], [some ⟨true, 22, 1, .fs .f32 p.2.2.2⟩, some ⟨true, 9, 1, .ss r.2⟩]))
def impl_texts.l3.ex (p : ByteArray × Nat × Int × List Nat) : (Nat × List ByteArray) → T (X × List V × Hp) := leafT (fun r => (.ex 0, [.st p.1, .own 1 r.1], [some ⟨true, 22, 1, .fs .f32 p.2.2.2⟩, some ⟨true, 9, 1, .ss r.2⟩]))
noncomputable def impl_texts.l3.c : List V → Hp → T (X × List V × Hp) := cdL impl_texts.l3.cd fun x => optT (impl_texts.l3.r x.1 x.2) (impl_texts.l3.ex x.1)
noncomputable def impl_texts.C : Ctx := { ty := tys, fn := [(88, .q impl_NumberText.c), (89, .q joinC)], lp := [(3, ⟨[0, 5, 9, 10, 11], [0, 5], impl_texts.l3.c⟩)], n := 24, k := 1 }
theorem impl_texts.hC : CtxOK Try.prog impl_texts.C := CtxOK.of mo tys_ok (FnsOK.cons impl_NumberText.cok (FnsOK.cons (join_ok Try.func89 (by kernel_rfl) (by kernel_rfl) (fun bk o c xs sep w h1 h2 h3 h4 h5 => Try.strings_Join bk o c xs sep w h1 h2 h3 h4 h5)) FnsOK.nil))
noncomputable def impl_texts.b3 : Code := (nthC (loopsOf impl_texts.b) 0)
theorem impl_texts.lp3 : LpOK Try.prog impl_texts.C impl_texts.b3 := (LpOK.nil (by kernel_rfl))
theorem impl_texts.l3.round (p : ByteArray × Nat × Int × List Nat) (s : Nat × Int × List ByteArray) : roundL impl_texts.C [0, 5, 9, 10, 11] [0, 5] impl_texts.b3 (impl_texts.l3.cd.enc (p, s)).1 (impl_texts.l3.cd.enc (p, s)).2 = (impl_texts.l3.st p s).map (encSum (fun s => impl_texts.l3.cd.enc (p, s)) (impl_texts.l3.out p)) := by kernel_rfl
theorem impl_texts.l3.lok : LoopOK Try.prog impl_texts.C ⟨[0, 5, 9, 10, 11], [0, 5], impl_texts.l3.c⟩ impl_texts.b3 := loop_cd impl_texts.l3.cd impl_texts.hC impl_texts.lp3 impl_texts.l3.round fun p => Gets.leaf
theorem impl_texts.lp : LpOK Try.prog impl_texts.C impl_texts.b := lp_of (by kernel_rfl) (LpsOK.cons (k := 3) (by kernel_rfl) (by kernel_rfl) impl_texts.l3.lok LpsOK.nil)
noncomputable def impl_texts.t (x0 : ByteArray) (x1 : Nat) (x2 : List Nat) : T ByteArray :=
  .br (Option.isSome (impl_texts.l3.r (x0, x1, ((x1 : Nat) : Int), x2) (0, (0 : Int), [])))
  (.br (joinOk ((Option.getD (impl_texts.l3.r (x0, x1, ((x1 : Nat) : Int), x2) (0, (0 : Int), [])) default).2) ((Option.getD (impl_texts.l3.r (x0, x1, ((x1 : Nat) : Int), x2) (0, (0 : Int), [])) default).1) x0)
   (.leaf (joinB ((Option.getD (impl_texts.l3.r (x0, x1, ((x1 : Nat) : Int), x2) (0, (0 : Int), [])) default).2) x0))
   .bad)
  .bad
noncomputable def impl_texts (x0 : ByteArray) (x1 : Nat) (x2 : List Nat) : ByteArray := (impl_texts.t x0 x1 x2).val
noncomputable def impl_texts.ok (x0 : ByteArray) (x1 : Nat) (x2 : List Nat) : Bool := (impl_texts.t x0 x1 x2).ok
def impl_texts.cd : Cd (ByteArray × Nat × List Nat) (List V × Hp) := Cd.iso (Cd.pair (Cd.cons Cd.st (Cd.cons (Cd.own 0) Cd.nil)) (Cd.cons (Cd.rw 22 1 (Cd.fs .f32)) Cd.nil)) (fun a => (a.1.1, a.1.2.1, a.2.1)) (fun a => ((a.1, (a.2.1, ())), (a.2.2, ()))) (fun _ => rfl)
noncomputable def impl_texts.tr (a : ByteArray × Nat × List Nat) : T ByteArray := impl_texts.t a.1 a.2.1 a.2.2
def impl_texts.enc : (ByteArray × Nat × List Nat) → ByteArray → V := fun a r => .st r
noncomputable def impl_texts.c : List V → Hp → T V := cdQ impl_texts.cd (fun a => .br (impl_texts.ok a.1 a.2.1 a.2.2) (.leaf (impl_texts.enc a (impl_texts a.1 a.2.1 a.2.2))) .bad)
theorem impl_texts.run (a : ByteArray × Nat × List Nat) : runF impl_texts.C Try.f67.results.toList impl_texts.b (impl_texts.cd.enc a).1 (impl_texts.cd.enc a).2 = (impl_texts.tr a).map fun r => (impl_texts.enc a r, (impl_texts.cd.enc a).2) := by kernel_rfl
theorem impl_texts.cok : OKq Try.prog 67 impl_texts.c := con_q' impl_texts.cd impl_texts.hC Try.func67 (by kernel_rfl) (by kernel_rfl) (by kernel_rfl) impl_texts.lp (fun a => by kernel_rfl) impl_texts.run (Tells.ok (tree := impl_texts.tr))
/-! ### impl_StoneText -/
noncomputable def impl_StoneText.b : Code := bodyOf Try.f29
noncomputable def impl_StoneText.C : Ctx := { ty := tys, fn := [(36, .q impl_ValidStone.c), (67, .q impl_texts.c)], lp := [], n := 16, k := 0 }
theorem impl_StoneText.hC : CtxOK Try.prog impl_StoneText.C := CtxOK.of mo tys_ok (FnsOK.cons impl_ValidStone.cok (FnsOK.cons impl_texts.cok FnsOK.nil))
theorem impl_StoneText.lp : LpOK Try.prog impl_StoneText.C impl_StoneText.b := (LpOK.nil (by kernel_rfl))
noncomputable def impl_StoneText.t (x0 : Nat) (x1 : Nat) (x2 : Nat) (x3 : Nat) : T ByteArray :=
  .br (!(impl_ValidStone x0 x1 x2 x3))
  (.leaf (ByteArray.mk #[]))
  (.br (impl_texts.ok (ByteArray.mk #[47]) 4 [x0, x1, x2, x3])
   (.leaf (impl_texts (ByteArray.mk #[47]) 4 [x0, x1, x2, x3]))
   .bad)
noncomputable def impl_StoneText (x0 : Nat) (x1 : Nat) (x2 : Nat) (x3 : Nat) : ByteArray := (impl_StoneText.t x0 x1 x2 x3).val
noncomputable def impl_StoneText.ok (x0 : Nat) (x1 : Nat) (x2 : Nat) (x3 : Nat) : Bool := (impl_StoneText.t x0 x1 x2 x3).ok
def impl_StoneText.cd : Cd (Nat × Nat × Nat × Nat) (List V × Hp) := Cd.iso (Cd.pair (Cd.cons (Cd.agg (Cd.cons (Cd.fl .f32) (Cd.cons (Cd.fl .f32) (Cd.cons (Cd.fl .f32) (Cd.cons (Cd.fl .f32) Cd.nil))))) Cd.nil) Cd.nil) (fun a => (a.1.1.1, a.1.1.2.1, a.1.1.2.2.1, a.1.1.2.2.2.1)) (fun a => (((a.1, (a.2.1, (a.2.2.1, (a.2.2.2, ())))), ()), ())) (fun _ => rfl)
noncomputable def impl_StoneText.tr (a : Nat × Nat × Nat × Nat) : T ByteArray := impl_StoneText.t a.1 a.2.1 a.2.2.1 a.2.2.2
def impl_StoneText.enc : (Nat × Nat × Nat × Nat) → ByteArray → V := fun a r => .st r
noncomputable def impl_StoneText.c : List V → Hp → T V := cdQ impl_StoneText.cd (fun a => .br (impl_StoneText.ok a.1 a.2.1 a.2.2.1 a.2.2.2) (.leaf (impl_StoneText.enc a (impl_StoneText a.1 a.2.1 a.2.2.1 a.2.2.2))) .bad)
theorem impl_StoneText.run (a : Nat × Nat × Nat × Nat) : runF impl_StoneText.C Try.f29.results.toList impl_StoneText.b (impl_StoneText.cd.enc a).1 (impl_StoneText.cd.enc a).2 = (impl_StoneText.tr a).map fun r => (impl_StoneText.enc a r, (impl_StoneText.cd.enc a).2) := by kernel_rfl
theorem impl_StoneText.cok : OKq Try.prog 29 impl_StoneText.c := con_q' impl_StoneText.cd impl_StoneText.hC Try.func29 (by kernel_rfl) (by kernel_rfl) (by kernel_rfl) impl_StoneText.lp (fun a => by kernel_rfl) impl_StoneText.run (Tells.ok (tree := impl_StoneText.tr))
/-! ### laws_FnExactStoneText -/
noncomputable def laws_FnExactStoneText.b : Code := bodyOf Try.f7
noncomputable def laws_FnExactStoneText.C : Ctx := { ty := tys, fn := [(10, .q laws_toStone.c), (28, .q spec_StoneText.c), (29, .q impl_StoneText.c)], lp := [], n := 14, k := 0 }
theorem laws_FnExactStoneText.hC : CtxOK Try.prog laws_FnExactStoneText.C := CtxOK.of mo tys_ok (FnsOK.cons laws_toStone.cok (FnsOK.cons spec_StoneText.cok (FnsOK.cons impl_StoneText.cok FnsOK.nil)))
theorem laws_FnExactStoneText.lp : LpOK Try.prog laws_FnExactStoneText.C laws_FnExactStoneText.b := (LpOK.nil (by kernel_rfl))
noncomputable def laws_FnExactStoneText.t (x0 : Nat) (x1 : Nat) (x2 : Nat) (x3 : Nat) : T Bool :=
  .br (spec_StoneText.ok ((laws_toStone x0 x1 x2 x3).1) ((laws_toStone x0 x1 x2 x3).2.1) ((laws_toStone x0 x1 x2 x3).2.2.1) ((laws_toStone x0 x1 x2 x3).2.2.2))
  (.br (impl_StoneText.ok ((laws_toStone x0 x1 x2 x3).1) ((laws_toStone x0 x1 x2 x3).2.1) ((laws_toStone x0 x1 x2 x3).2.2.1) ((laws_toStone x0 x1 x2 x3).2.2.2))
   (.br (!seq? (impl_StoneText ((laws_toStone x0 x1 x2 x3).1) ((laws_toStone x0 x1 x2 x3).2.1) ((laws_toStone x0 x1 x2 x3).2.2.1) ((laws_toStone x0 x1 x2 x3).2.2.2)) (spec_StoneText ((laws_toStone x0 x1 x2 x3).1) ((laws_toStone x0 x1 x2 x3).2.1) ((laws_toStone x0 x1 x2 x3).2.2.1) ((laws_toStone x0 x1 x2 x3).2.2.2)))
    (.leaf false)
    (.leaf true))
   .bad)
  .bad
noncomputable def laws_FnExactStoneText (x0 : Nat) (x1 : Nat) (x2 : Nat) (x3 : Nat) : Bool := (laws_FnExactStoneText.t x0 x1 x2 x3).val
noncomputable def laws_FnExactStoneText.ok (x0 : Nat) (x1 : Nat) (x2 : Nat) (x3 : Nat) : Bool := (laws_FnExactStoneText.t x0 x1 x2 x3).ok
def laws_FnExactStoneText.cd : Cd (Nat × Nat × Nat × Nat) (List V × Hp) := Cd.iso (Cd.pair (Cd.cons (Cd.agg (Cd.cons (Cd.fl .f32) (Cd.cons (Cd.fl .f32) (Cd.cons (Cd.fl .f32) (Cd.cons (Cd.fl .f32) Cd.nil))))) Cd.nil) Cd.nil) (fun a => (a.1.1.1, a.1.1.2.1, a.1.1.2.2.1, a.1.1.2.2.2.1)) (fun a => (((a.1, (a.2.1, (a.2.2.1, (a.2.2.2, ())))), ()), ())) (fun _ => rfl)
noncomputable def laws_FnExactStoneText.tr (a : Nat × Nat × Nat × Nat) : T Bool := laws_FnExactStoneText.t a.1 a.2.1 a.2.2.1 a.2.2.2
def laws_FnExactStoneText.enc : (Nat × Nat × Nat × Nat) → Bool → V := fun a r => .bo r
noncomputable def laws_FnExactStoneText.c : List V → Hp → T V := cdQ laws_FnExactStoneText.cd (fun a => .br (laws_FnExactStoneText.ok a.1 a.2.1 a.2.2.1 a.2.2.2) (.leaf (laws_FnExactStoneText.enc a (laws_FnExactStoneText a.1 a.2.1 a.2.2.1 a.2.2.2))) .bad)
theorem laws_FnExactStoneText.run (a : Nat × Nat × Nat × Nat) : runF laws_FnExactStoneText.C Try.f7.results.toList laws_FnExactStoneText.b (laws_FnExactStoneText.cd.enc a).1 (laws_FnExactStoneText.cd.enc a).2 = (laws_FnExactStoneText.tr a).map fun r => (laws_FnExactStoneText.enc a r, (laws_FnExactStoneText.cd.enc a).2) := by kernel_rfl
theorem laws_FnExactStoneText.cok : OKq Try.prog 7 laws_FnExactStoneText.c := con_q' laws_FnExactStoneText.cd laws_FnExactStoneText.hC Try.func7 (by kernel_rfl) (by kernel_rfl) (by kernel_rfl) laws_FnExactStoneText.lp (fun a => by kernel_rfl) laws_FnExactStoneText.run (Tells.ok (tree := laws_FnExactStoneText.tr))
theorem laws_FnExactStoneText.walk (a : Nat × Nat × Nat × Nat) (h : (laws_FnExactStoneText.tr a).get = some true) {ρ : Nat → Option Sx.Loc} {w : World} {vs : List Value} (hargs : V.Rs ρ (laws_FnExactStoneText.cd.enc a).1 vs) (hh : HpR ρ (laws_FnExactStoneText.cd.enc a).2 w) :
    Calls Try.prog 7 vs.toArray w fun e w' => e = .returned (.bool true) ∧ Below w.heap.size w w' :=
  law_cd laws_FnExactStoneText.cd laws_FnExactStoneText.hC Try.func7 (by kernel_rfl) (by kernel_rfl) laws_FnExactStoneText.lp (fun a => by kernel_rfl) laws_FnExactStoneText.run (fun a => by kernel_rfl) a (by kernel_rfl) h hargs hh
end Go.Proofs.Ytffpnngoafpidaa
