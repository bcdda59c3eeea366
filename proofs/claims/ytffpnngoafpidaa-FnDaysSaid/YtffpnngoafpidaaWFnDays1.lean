/- The walk of FnDays, part 1. -/
import Derived.Test.YtffpnngoafpidaaSxP
import Derived.Test.YtffpnngoafpidaaChecked
namespace Go.Proofs.Ytffpnngoafpidaa
open Go Go.RowKit Sx
set_option linter.unusedVariables false
set_option maxRecDepth 100000
set_option maxHeartbeats 0
noncomputable def ti1 : TI := ⟨Try.t1.desc, 1, 8, [.nf]⟩
theorem ti1_ok : TyOK Try.prog 1 ti1 := TyOK.of (inf := Try.t1) Try.underlying1 (by kernel_rfl) (by kernel_rfl) (by kernel_rfl) (by kernel_rfl)
noncomputable def ti2 : TI := ⟨Try.t2.desc, 1, 8, [.it .i64 (0 : Int)]⟩
theorem ti2_ok : TyOK Try.prog 2 ti2 := TyOK.of (inf := Try.t2) Try.underlying2 (by kernel_rfl) (by kernel_rfl) (by kernel_rfl) (by kernel_rfl)
noncomputable def ti3 : TI := ⟨Try.t3.desc, 1, 8, [.it .i64 (0 : Int)]⟩
theorem ti3_ok : TyOK Try.prog 3 ti3 := TyOK.of (inf := Try.t3) Try.underlying3 (by kernel_rfl) (by kernel_rfl) (by kernel_rfl) (by kernel_rfl)
noncomputable def ti4 : TI := ⟨Try.t4.desc, 1, 1, [.kb false]⟩
theorem ti4_ok : TyOK Try.prog 4 ti4 := TyOK.of (inf := Try.t4) Try.underlying4 (by kernel_rfl) (by kernel_rfl) (by kernel_rfl) (by kernel_rfl)
noncomputable def ti5 : TI := ⟨Try.t5.desc, 1, 1, [.it .u8 (0 : Int)]⟩
theorem ti5_ok : TyOK Try.prog 5 ti5 := TyOK.of (inf := Try.t5) Try.underlying5 (by kernel_rfl) (by kernel_rfl) (by kernel_rfl) (by kernel_rfl)
noncomputable def ti6 : TI := ⟨Try.t5.desc, 1, 1, [.it .u8 (0 : Int)]⟩
theorem ti6_ok : TyOK Try.prog 6 ti6 := TyOK.of (inf := Try.t6) Try.underlying6 (by kernel_rfl) (by kernel_rfl) (by kernel_rfl) (by kernel_rfl)
noncomputable def ti7 : TI := ⟨Try.t7.desc, 4, 24, [.it .i64 (0 : Int), .it .i64 (0 : Int), .kb false, .it .u8 (0 : Int)]⟩
theorem ti7_ok : TyOK Try.prog 7 ti7 := TyOK.of (inf := Try.t7) Try.underlying7 (by kernel_rfl) (by kernel_rfl) (by kernel_rfl) (by kernel_rfl)
noncomputable def ti8 : TI := ⟨Try.t7.desc, 4, 24, [.it .i64 (0 : Int), .it .i64 (0 : Int), .kb false, .it .u8 (0 : Int)]⟩
theorem ti8_ok : TyOK Try.prog 8 ti8 := TyOK.of (inf := Try.t8) Try.underlying8 (by kernel_rfl) (by kernel_rfl) (by kernel_rfl) (by kernel_rfl)
noncomputable def ti9 : TI := ⟨Try.t9.desc, 1, 16, [.st (ByteArray.mk #[])]⟩
theorem ti9_ok : TyOK Try.prog 9 ti9 := TyOK.of (inf := Try.t9) Try.underlying9 (by kernel_rfl) (by kernel_rfl) (by kernel_rfl) (by kernel_rfl)
noncomputable def ti10 : TI := ⟨Try.t9.desc, 1, 16, [.st (ByteArray.mk #[])]⟩
theorem ti10_ok : TyOK Try.prog 10 ti10 := TyOK.of (inf := Try.t10) Try.underlying10 (by kernel_rfl) (by kernel_rfl) (by kernel_rfl) (by kernel_rfl)
noncomputable def ti11 : TI := ⟨Try.t9.desc, 1, 16, [.st (ByteArray.mk #[])]⟩
theorem ti11_ok : TyOK Try.prog 11 ti11 := TyOK.of (inf := Try.t11) Try.underlying11 (by kernel_rfl) (by kernel_rfl) (by kernel_rfl) (by kernel_rfl)
noncomputable def ti12 : TI := ⟨Try.t12.desc, 1, 8, [.it .u64 (0 : Int)]⟩
theorem ti12_ok : TyOK Try.prog 12 ti12 := TyOK.of (inf := Try.t12) Try.underlying12 (by kernel_rfl) (by kernel_rfl) (by kernel_rfl) (by kernel_rfl)
noncomputable def ti13 : TI := ⟨Try.t13.desc, 2, 24, [.st (ByteArray.mk #[]), .it .u64 (0 : Int)]⟩
theorem ti13_ok : TyOK Try.prog 13 ti13 := TyOK.of (inf := Try.t13) Try.underlying13 (by kernel_rfl) (by kernel_rfl) (by kernel_rfl) (by kernel_rfl)
noncomputable def ti14 : TI := ⟨Try.t13.desc, 2, 24, [.st (ByteArray.mk #[]), .it .u64 (0 : Int)]⟩
theorem ti14_ok : TyOK Try.prog 14 ti14 := TyOK.of (inf := Try.t14) Try.underlying14 (by kernel_rfl) (by kernel_rfl) (by kernel_rfl) (by kernel_rfl)
noncomputable def ti15 : TI := ⟨Try.t15.desc, 1, 8, [.pn]⟩
theorem ti15_ok : TyOK Try.prog 15 ti15 := TyOK.of (inf := Try.t15) Try.underlying15 (by kernel_rfl) (by kernel_rfl) (by kernel_rfl) (by kernel_rfl)
noncomputable def ti16 : TI := ⟨Try.t16.desc, 1, 8, [.pn]⟩
theorem ti16_ok : TyOK Try.prog 16 ti16 := TyOK.of (inf := Try.t16) Try.underlying16 (by kernel_rfl) (by kernel_rfl) (by kernel_rfl) (by kernel_rfl)
noncomputable def ti17 : TI := ⟨Try.t17.desc, 1, 8, [.pn]⟩
theorem ti17_ok : TyOK Try.prog 17 ti17 := TyOK.of (inf := Try.t17) Try.underlying17 (by kernel_rfl) (by kernel_rfl) (by kernel_rfl) (by kernel_rfl)
noncomputable def ti18 : TI := ⟨Try.t18.desc, 1, 8, [.pn]⟩
theorem ti18_ok : TyOK Try.prog 18 ti18 := TyOK.of (inf := Try.t18) Try.underlying18 (by kernel_rfl) (by kernel_rfl) (by kernel_rfl) (by kernel_rfl)
noncomputable def ti19 : TI := ⟨Try.t18.desc, 1, 8, [.pn]⟩
theorem ti19_ok : TyOK Try.prog 19 ti19 := TyOK.of (inf := Try.t19) Try.underlying19 (by kernel_rfl) (by kernel_rfl) (by kernel_rfl) (by kernel_rfl)
noncomputable def ti21 : TI := ⟨Try.t21.desc, 1, 4, [.it .i32 (0 : Int)]⟩
theorem ti21_ok : TyOK Try.prog 21 ti21 := TyOK.of (inf := Try.t21) Try.underlying21 (by kernel_rfl) (by kernel_rfl) (by kernel_rfl) (by kernel_rfl)
noncomputable def ti22 : TI := ⟨Try.t22.desc, 1, 4, [.fl .f32 0]⟩
theorem ti22_ok : TyOK Try.prog 22 ti22 := TyOK.of (inf := Try.t22) Try.underlying22 (by kernel_rfl) (by kernel_rfl) (by kernel_rfl) (by kernel_rfl)
noncomputable def ti23 : TI := ⟨Try.t23.desc, 4, 16, [.fl .f32 0, .fl .f32 0, .fl .f32 0, .fl .f32 0]⟩
theorem ti23_ok : TyOK Try.prog 23 ti23 := TyOK.of (inf := Try.t23) Try.underlying23 (by kernel_rfl) (by kernel_rfl) (by kernel_rfl) (by kernel_rfl)
noncomputable def ti24 : TI := ⟨Try.t23.desc, 4, 16, [.fl .f32 0, .fl .f32 0, .fl .f32 0, .fl .f32 0]⟩
theorem ti24_ok : TyOK Try.prog 24 ti24 := TyOK.of (inf := Try.t24) Try.underlying24 (by kernel_rfl) (by kernel_rfl) (by kernel_rfl) (by kernel_rfl)
noncomputable def ti25 : TI := ⟨Try.t25.desc, 1, 24, [.sn]⟩
theorem ti25_ok : TyOK Try.prog 25 ti25 := TyOK.of (inf := Try.t25) Try.underlying25 (by kernel_rfl) (by kernel_rfl) (by kernel_rfl) (by kernel_rfl)
noncomputable def ti27 : TI := ⟨Try.t27.desc, 1, 8, [.nf]⟩
theorem ti27_ok : TyOK Try.prog 27 ti27 := TyOK.of (inf := Try.t27) Try.underlying27 (by kernel_rfl) (by kernel_rfl) (by kernel_rfl) (by kernel_rfl)
noncomputable def ti28 : TI := ⟨Try.t23.desc, 4, 16, [.fl .f32 0, .fl .f32 0, .fl .f32 0, .fl .f32 0]⟩
theorem ti28_ok : TyOK Try.prog 28 ti28 := TyOK.of (inf := Try.t28) Try.underlying28 (by kernel_rfl) (by kernel_rfl) (by kernel_rfl) (by kernel_rfl)
noncomputable def ti29 : TI := ⟨Try.t29.desc, 1, 8, [.nf]⟩
theorem ti29_ok : TyOK Try.prog 29 ti29 := TyOK.of (inf := Try.t29) Try.underlying29 (by kernel_rfl) (by kernel_rfl) (by kernel_rfl) (by kernel_rfl)
noncomputable def ti30 : TI := ⟨Try.t30.desc, 1, 8, [.nf]⟩
theorem ti30_ok : TyOK Try.prog 30 ti30 := TyOK.of (inf := Try.t30) Try.underlying30 (by kernel_rfl) (by kernel_rfl) (by kernel_rfl) (by kernel_rfl)
noncomputable def ti31 : TI := ⟨Try.t31.desc, 1, 8, [.nf]⟩
theorem ti31_ok : TyOK Try.prog 31 ti31 := TyOK.of (inf := Try.t31) Try.underlying31 (by kernel_rfl) (by kernel_rfl) (by kernel_rfl) (by kernel_rfl)
noncomputable def ti32 : TI := ⟨Try.t32.desc, 1, 8, [.fl .f64 0]⟩
theorem ti32_ok : TyOK Try.prog 32 ti32 := TyOK.of (inf := Try.t32) Try.underlying32 (by kernel_rfl) (by kernel_rfl) (by kernel_rfl) (by kernel_rfl)
noncomputable def ti33 : TI := ⟨Try.t33.desc, 1, 8, [.nf]⟩
theorem ti33_ok : TyOK Try.prog 33 ti33 := TyOK.of (inf := Try.t33) Try.underlying33 (by kernel_rfl) (by kernel_rfl) (by kernel_rfl) (by kernel_rfl)
noncomputable def ti34 : TI := ⟨Try.t34.desc, 1, 8, [.nf]⟩
theorem ti34_ok : TyOK Try.prog 34 ti34 := TyOK.of (inf := Try.t34) Try.underlying34 (by kernel_rfl) (by kernel_rfl) (by kernel_rfl) (by kernel_rfl)
noncomputable def ti35 : TI := ⟨Try.t35.desc, 1, 24, [.sn]⟩
theorem ti35_ok : TyOK Try.prog 35 ti35 := TyOK.of (inf := Try.t35) Try.underlying35 (by kernel_rfl) (by kernel_rfl) (by kernel_rfl) (by kernel_rfl)
noncomputable def ti36 : TI := ⟨Try.t36.desc, 1, 8, [.nf]⟩
theorem ti36_ok : TyOK Try.prog 36 ti36 := TyOK.of (inf := Try.t36) Try.underlying36 (by kernel_rfl) (by kernel_rfl) (by kernel_rfl) (by kernel_rfl)
noncomputable def ti38 : TI := ⟨Try.t38.desc, 1, 8, [.nf]⟩
theorem ti38_ok : TyOK Try.prog 38 ti38 := TyOK.of (inf := Try.t38) Try.underlying38 (by kernel_rfl) (by kernel_rfl) (by kernel_rfl) (by kernel_rfl)
noncomputable def ti39 : TI := ⟨Try.t39.desc, 1, 24, [.sn]⟩
theorem ti39_ok : TyOK Try.prog 39 ti39 := TyOK.of (inf := Try.t39) Try.underlying39 (by kernel_rfl) (by kernel_rfl) (by kernel_rfl) (by kernel_rfl)
noncomputable def ti40 : TI := ⟨Try.t40.desc, 1, 8, [.nf]⟩
theorem ti40_ok : TyOK Try.prog 40 ti40 := TyOK.of (inf := Try.t40) Try.underlying40 (by kernel_rfl) (by kernel_rfl) (by kernel_rfl) (by kernel_rfl)
noncomputable def ti41 : TI := ⟨Try.t41.desc, 1, 8, [.nf]⟩
theorem ti41_ok : TyOK Try.prog 41 ti41 := TyOK.of (inf := Try.t41) Try.underlying41 (by kernel_rfl) (by kernel_rfl) (by kernel_rfl) (by kernel_rfl)
noncomputable def ti42 : TI := ⟨Try.t42.desc, 1, 8, [.nf]⟩
theorem ti42_ok : TyOK Try.prog 42 ti42 := TyOK.of (inf := Try.t42) Try.underlying42 (by kernel_rfl) (by kernel_rfl) (by kernel_rfl) (by kernel_rfl)
noncomputable def ti43 : TI := ⟨Try.t43.desc, 1, 8, [.nf]⟩
theorem ti43_ok : TyOK Try.prog 43 ti43 := TyOK.of (inf := Try.t43) Try.underlying43 (by kernel_rfl) (by kernel_rfl) (by kernel_rfl) (by kernel_rfl)
noncomputable def ti44 : TI := ⟨Try.t44.desc, 1, 8, [.nf]⟩
theorem ti44_ok : TyOK Try.prog 44 ti44 := TyOK.of (inf := Try.t44) Try.underlying44 (by kernel_rfl) (by kernel_rfl) (by kernel_rfl) (by kernel_rfl)
noncomputable def ti46 : TI := ⟨Try.t46.desc, 1, 8, [.nf]⟩
theorem ti46_ok : TyOK Try.prog 46 ti46 := TyOK.of (inf := Try.t46) Try.underlying46 (by kernel_rfl) (by kernel_rfl) (by kernel_rfl) (by kernel_rfl)
noncomputable def ti47 : TI := ⟨Try.t47.desc, 1, 8, [.nf]⟩
theorem ti47_ok : TyOK Try.prog 47 ti47 := TyOK.of (inf := Try.t47) Try.underlying47 (by kernel_rfl) (by kernel_rfl) (by kernel_rfl) (by kernel_rfl)
noncomputable def ti48 : TI := ⟨Try.t48.desc, 1, 8, [.nf]⟩
theorem ti48_ok : TyOK Try.prog 48 ti48 := TyOK.of (inf := Try.t48) Try.underlying48 (by kernel_rfl) (by kernel_rfl) (by kernel_rfl) (by kernel_rfl)
noncomputable def ti50 : TI := ⟨Try.t50.desc, 1, 8, [.nf]⟩
theorem ti50_ok : TyOK Try.prog 50 ti50 := TyOK.of (inf := Try.t50) Try.underlying50 (by kernel_rfl) (by kernel_rfl) (by kernel_rfl) (by kernel_rfl)
noncomputable def ti51 : TI := ⟨Try.t51.desc, 1, 8, [.nf]⟩
theorem ti51_ok : TyOK Try.prog 51 ti51 := TyOK.of (inf := Try.t51) Try.underlying51 (by kernel_rfl) (by kernel_rfl) (by kernel_rfl) (by kernel_rfl)
noncomputable def ti52 : TI := ⟨Try.t52.desc, 1, 8, [.nf]⟩
theorem ti52_ok : TyOK Try.prog 52 ti52 := TyOK.of (inf := Try.t52) Try.underlying52 (by kernel_rfl) (by kernel_rfl) (by kernel_rfl) (by kernel_rfl)
noncomputable def ti53 : TI := ⟨Try.t53.desc, 1, 8, [.nf]⟩
theorem ti53_ok : TyOK Try.prog 53 ti53 := TyOK.of (inf := Try.t53) Try.underlying53 (by kernel_rfl) (by kernel_rfl) (by kernel_rfl) (by kernel_rfl)
noncomputable def ti54 : TI := ⟨Try.t54.desc, 1, 24, [.sn]⟩
theorem ti54_ok : TyOK Try.prog 54 ti54 := TyOK.of (inf := Try.t54) Try.underlying54 (by kernel_rfl) (by kernel_rfl) (by kernel_rfl) (by kernel_rfl)
noncomputable def ti55 : TI := ⟨Try.t55.desc, 1, 8, [.nf]⟩
theorem ti55_ok : TyOK Try.prog 55 ti55 := TyOK.of (inf := Try.t55) Try.underlying55 (by kernel_rfl) (by kernel_rfl) (by kernel_rfl) (by kernel_rfl)
noncomputable def ti56 : TI := ⟨Try.t56.desc, 1, 8, [.nf]⟩
theorem ti56_ok : TyOK Try.prog 56 ti56 := TyOK.of (inf := Try.t56) Try.underlying56 (by kernel_rfl) (by kernel_rfl) (by kernel_rfl) (by kernel_rfl)
noncomputable def ti57 : TI := ⟨Try.t57.desc, 1, 8, [.nf]⟩
theorem ti57_ok : TyOK Try.prog 57 ti57 := TyOK.of (inf := Try.t57) Try.underlying57 (by kernel_rfl) (by kernel_rfl) (by kernel_rfl) (by kernel_rfl)
noncomputable def ti58 : TI := ⟨Try.t58.desc, 1, 8, [.nf]⟩
theorem ti58_ok : TyOK Try.prog 58 ti58 := TyOK.of (inf := Try.t58) Try.underlying58 (by kernel_rfl) (by kernel_rfl) (by kernel_rfl) (by kernel_rfl)
noncomputable def ti59 : TI := ⟨Try.t59.desc, 1, 8, [.nf]⟩
theorem ti59_ok : TyOK Try.prog 59 ti59 := TyOK.of (inf := Try.t59) Try.underlying59 (by kernel_rfl) (by kernel_rfl) (by kernel_rfl) (by kernel_rfl)
noncomputable def ti61 : TI := ⟨Try.t61.desc, 1, 8, [.nf]⟩
theorem ti61_ok : TyOK Try.prog 61 ti61 := TyOK.of (inf := Try.t61) Try.underlying61 (by kernel_rfl) (by kernel_rfl) (by kernel_rfl) (by kernel_rfl)
noncomputable def ti63 : TI := ⟨Try.t63.desc, 1, 8, [.nf]⟩
theorem ti63_ok : TyOK Try.prog 63 ti63 := TyOK.of (inf := Try.t63) Try.underlying63 (by kernel_rfl) (by kernel_rfl) (by kernel_rfl) (by kernel_rfl)
noncomputable def ti64 : TI := ⟨Try.t64.desc, 1, 8, [.nf]⟩
theorem ti64_ok : TyOK Try.prog 64 ti64 := TyOK.of (inf := Try.t64) Try.underlying64 (by kernel_rfl) (by kernel_rfl) (by kernel_rfl) (by kernel_rfl)
noncomputable def ti65 : TI := ⟨Try.t65.desc, 1, 8, [.nf]⟩
theorem ti65_ok : TyOK Try.prog 65 ti65 := TyOK.of (inf := Try.t65) Try.underlying65 (by kernel_rfl) (by kernel_rfl) (by kernel_rfl) (by kernel_rfl)
noncomputable def ti67 : TI := ⟨Try.t67.desc, 1, 8, [.nf]⟩
theorem ti67_ok : TyOK Try.prog 67 ti67 := TyOK.of (inf := Try.t67) Try.underlying67 (by kernel_rfl) (by kernel_rfl) (by kernel_rfl) (by kernel_rfl)
noncomputable def ti69 : TI := ⟨Try.t69.desc, 1, 8, [.nf]⟩
theorem ti69_ok : TyOK Try.prog 69 ti69 := TyOK.of (inf := Try.t69) Try.underlying69 (by kernel_rfl) (by kernel_rfl) (by kernel_rfl) (by kernel_rfl)
noncomputable def ti70 : TI := ⟨Try.t70.desc, 1, 8, [.nf]⟩
theorem ti70_ok : TyOK Try.prog 70 ti70 := TyOK.of (inf := Try.t70) Try.underlying70 (by kernel_rfl) (by kernel_rfl) (by kernel_rfl) (by kernel_rfl)
noncomputable def ti71 : TI := ⟨Try.t71.desc, 1, 8, [.nf]⟩
theorem ti71_ok : TyOK Try.prog 71 ti71 := TyOK.of (inf := Try.t71) Try.underlying71 (by kernel_rfl) (by kernel_rfl) (by kernel_rfl) (by kernel_rfl)
noncomputable def ti73 : TI := ⟨Try.t73.desc, 1, 8, [.nf]⟩
theorem ti73_ok : TyOK Try.prog 73 ti73 := TyOK.of (inf := Try.t73) Try.underlying73 (by kernel_rfl) (by kernel_rfl) (by kernel_rfl) (by kernel_rfl)
noncomputable def ti74 : TI := ⟨Try.t74.desc, 1, 8, [.nf]⟩
theorem ti74_ok : TyOK Try.prog 74 ti74 := TyOK.of (inf := Try.t74) Try.underlying74 (by kernel_rfl) (by kernel_rfl) (by kernel_rfl) (by kernel_rfl)
noncomputable def ti75 : TI := ⟨Try.t75.desc, 1, 8, [.nf]⟩
theorem ti75_ok : TyOK Try.prog 75 ti75 := TyOK.of (inf := Try.t75) Try.underlying75 (by kernel_rfl) (by kernel_rfl) (by kernel_rfl) (by kernel_rfl)
noncomputable def ti76 : TI := ⟨Try.t76.desc, 1, 8, [.nf]⟩
theorem ti76_ok : TyOK Try.prog 76 ti76 := TyOK.of (inf := Try.t76) Try.underlying76 (by kernel_rfl) (by kernel_rfl) (by kernel_rfl) (by kernel_rfl)
noncomputable def ti78 : TI := ⟨Try.t78.desc, 1, 8, [.nf]⟩
theorem ti78_ok : TyOK Try.prog 78 ti78 := TyOK.of (inf := Try.t78) Try.underlying78 (by kernel_rfl) (by kernel_rfl) (by kernel_rfl) (by kernel_rfl)
noncomputable def ti79 : TI := ⟨Try.t79.desc, 1, 8, [.nf]⟩
theorem ti79_ok : TyOK Try.prog 79 ti79 := TyOK.of (inf := Try.t79) Try.underlying79 (by kernel_rfl) (by kernel_rfl) (by kernel_rfl) (by kernel_rfl)
noncomputable def ti80 : TI := ⟨Try.t80.desc, 1, 8, [.nf]⟩
theorem ti80_ok : TyOK Try.prog 80 ti80 := TyOK.of (inf := Try.t80) Try.underlying80 (by kernel_rfl) (by kernel_rfl) (by kernel_rfl) (by kernel_rfl)
noncomputable def ti81 : TI := ⟨Try.t81.desc, 1, 8, [.nf]⟩
theorem ti81_ok : TyOK Try.prog 81 ti81 := TyOK.of (inf := Try.t81) Try.underlying81 (by kernel_rfl) (by kernel_rfl) (by kernel_rfl) (by kernel_rfl)
noncomputable def ti82 : TI := ⟨Try.t82.desc, 1, 8, [.nf]⟩
theorem ti82_ok : TyOK Try.prog 82 ti82 := TyOK.of (inf := Try.t82) Try.underlying82 (by kernel_rfl) (by kernel_rfl) (by kernel_rfl) (by kernel_rfl)
noncomputable def ti83 : TI := ⟨Try.t83.desc, 1, 8, [.nf]⟩
theorem ti83_ok : TyOK Try.prog 83 ti83 := TyOK.of (inf := Try.t83) Try.underlying83 (by kernel_rfl) (by kernel_rfl) (by kernel_rfl) (by kernel_rfl)
noncomputable def ti84 : TI := ⟨Try.t84.desc, 1, 8, [.nf]⟩
theorem ti84_ok : TyOK Try.prog 84 ti84 := TyOK.of (inf := Try.t84) Try.underlying84 (by kernel_rfl) (by kernel_rfl) (by kernel_rfl) (by kernel_rfl)
noncomputable def ti85 : TI := ⟨Try.t85.desc, 1, 8, [.nf]⟩
theorem ti85_ok : TyOK Try.prog 85 ti85 := TyOK.of (inf := Try.t85) Try.underlying85 (by kernel_rfl) (by kernel_rfl) (by kernel_rfl) (by kernel_rfl)
noncomputable def ti86 : TI := ⟨Try.t86.desc, 1, 8, [.nf]⟩
theorem ti86_ok : TyOK Try.prog 86 ti86 := TyOK.of (inf := Try.t86) Try.underlying86 (by kernel_rfl) (by kernel_rfl) (by kernel_rfl) (by kernel_rfl)
noncomputable def ti87 : TI := ⟨Try.t87.desc, 1, 8, [.pn]⟩
theorem ti87_ok : TyOK Try.prog 87 ti87 := TyOK.of (inf := Try.t87) Try.underlying87 (by kernel_rfl) (by kernel_rfl) (by kernel_rfl) (by kernel_rfl)
noncomputable def ti88 : TI := ⟨Try.t88.desc, 1, 8, [.nf]⟩
theorem ti88_ok : TyOK Try.prog 88 ti88 := TyOK.of (inf := Try.t88) Try.underlying88 (by kernel_rfl) (by kernel_rfl) (by kernel_rfl) (by kernel_rfl)
noncomputable def ti89 : TI := ⟨Try.t89.desc, 1, 8, [.nf]⟩
theorem ti89_ok : TyOK Try.prog 89 ti89 := TyOK.of (inf := Try.t89) Try.underlying89 (by kernel_rfl) (by kernel_rfl) (by kernel_rfl) (by kernel_rfl)
noncomputable def ti90 : TI := ⟨Try.t90.desc, 1, 8, [.nf]⟩
theorem ti90_ok : TyOK Try.prog 90 ti90 := TyOK.of (inf := Try.t90) Try.underlying90 (by kernel_rfl) (by kernel_rfl) (by kernel_rfl) (by kernel_rfl)
noncomputable def ti91 : TI := ⟨Try.t91.desc, 1, 8, [.nf]⟩
theorem ti91_ok : TyOK Try.prog 91 ti91 := TyOK.of (inf := Try.t91) Try.underlying91 (by kernel_rfl) (by kernel_rfl) (by kernel_rfl) (by kernel_rfl)
noncomputable def ti92 : TI := ⟨Try.t92.desc, 1, 8, [.nf]⟩
theorem ti92_ok : TyOK Try.prog 92 ti92 := TyOK.of (inf := Try.t92) Try.underlying92 (by kernel_rfl) (by kernel_rfl) (by kernel_rfl) (by kernel_rfl)
noncomputable def ti93 : TI := ⟨Try.t93.desc, 1, 8, [.nf]⟩
theorem ti93_ok : TyOK Try.prog 93 ti93 := TyOK.of (inf := Try.t93) Try.underlying93 (by kernel_rfl) (by kernel_rfl) (by kernel_rfl) (by kernel_rfl)
noncomputable def ti94 : TI := ⟨Try.t94.desc, 1, 8, [.nf]⟩
theorem ti94_ok : TyOK Try.prog 94 ti94 := TyOK.of (inf := Try.t94) Try.underlying94 (by kernel_rfl) (by kernel_rfl) (by kernel_rfl) (by kernel_rfl)
noncomputable def ti95 : TI := ⟨Try.t95.desc, 1, 8, [.pn]⟩
theorem ti95_ok : TyOK Try.prog 95 ti95 := TyOK.of (inf := Try.t95) Try.underlying95 (by kernel_rfl) (by kernel_rfl) (by kernel_rfl) (by kernel_rfl)
noncomputable def ti96 : TI := ⟨Try.t96.desc, 1, 8, [.nf]⟩
theorem ti96_ok : TyOK Try.prog 96 ti96 := TyOK.of (inf := Try.t96) Try.underlying96 (by kernel_rfl) (by kernel_rfl) (by kernel_rfl) (by kernel_rfl)
noncomputable def ti97 : TI := ⟨Try.t97.desc, 1, 8, [.nf]⟩
theorem ti97_ok : TyOK Try.prog 97 ti97 := TyOK.of (inf := Try.t97) Try.underlying97 (by kernel_rfl) (by kernel_rfl) (by kernel_rfl) (by kernel_rfl)
noncomputable def ti98 : TI := ⟨Try.t98.desc, 1, 8, [.nf]⟩
theorem ti98_ok : TyOK Try.prog 98 ti98 := TyOK.of (inf := Try.t98) Try.underlying98 (by kernel_rfl) (by kernel_rfl) (by kernel_rfl) (by kernel_rfl)
noncomputable def ti99 : TI := ⟨Try.t99.desc, 1, 8, [.nf]⟩
theorem ti99_ok : TyOK Try.prog 99 ti99 := TyOK.of (inf := Try.t99) Try.underlying99 (by kernel_rfl) (by kernel_rfl) (by kernel_rfl) (by kernel_rfl)
noncomputable def ti100 : TI := ⟨Try.t100.desc, 1, 8, [.nf]⟩
theorem ti100_ok : TyOK Try.prog 100 ti100 := TyOK.of (inf := Try.t100) Try.underlying100 (by kernel_rfl) (by kernel_rfl) (by kernel_rfl) (by kernel_rfl)
noncomputable def ti101 : TI := ⟨Try.t101.desc, 1, 24, [.sn]⟩
theorem ti101_ok : TyOK Try.prog 101 ti101 := TyOK.of (inf := Try.t101) Try.underlying101 (by kernel_rfl) (by kernel_rfl) (by kernel_rfl) (by kernel_rfl)
noncomputable def ti102 : TI := ⟨Try.t102.desc, 1, 8, [.nf]⟩
theorem ti102_ok : TyOK Try.prog 102 ti102 := TyOK.of (inf := Try.t102) Try.underlying102 (by kernel_rfl) (by kernel_rfl) (by kernel_rfl) (by kernel_rfl)
noncomputable def ti103 : TI := ⟨Try.t103.desc, 1, 8, [.nf]⟩
theorem ti103_ok : TyOK Try.prog 103 ti103 := TyOK.of (inf := Try.t103) Try.underlying103 (by kernel_rfl) (by kernel_rfl) (by kernel_rfl) (by kernel_rfl)
noncomputable def ti104 : TI := ⟨Try.t104.desc, 1, 8, [.it .u64 (0 : Int)]⟩
theorem ti104_ok : TyOK Try.prog 104 ti104 := TyOK.of (inf := Try.t104) Try.underlying104 (by kernel_rfl) (by kernel_rfl) (by kernel_rfl) (by kernel_rfl)
noncomputable def ti105 : TI := ⟨Try.t105.desc, 3, 40, [.sn, .it .i64 (0 : Int), .it .u64 (0 : Int)]⟩
theorem ti105_ok : TyOK Try.prog 105 ti105 := TyOK.of (inf := Try.t105) Try.underlying105 (by kernel_rfl) (by kernel_rfl) (by kernel_rfl) (by kernel_rfl)
noncomputable def ti106 : TI := ⟨Try.t105.desc, 3, 40, [.sn, .it .i64 (0 : Int), .it .u64 (0 : Int)]⟩
theorem ti106_ok : TyOK Try.prog 106 ti106 := TyOK.of (inf := Try.t106) Try.underlying106 (by kernel_rfl) (by kernel_rfl) (by kernel_rfl) (by kernel_rfl)
noncomputable def ti107 : TI := ⟨Try.t107.desc, 1, 8, [.nf]⟩
theorem ti107_ok : TyOK Try.prog 107 ti107 := TyOK.of (inf := Try.t107) Try.underlying107 (by kernel_rfl) (by kernel_rfl) (by kernel_rfl) (by kernel_rfl)
noncomputable def ti108 : TI := ⟨Try.t108.desc, 1, 4, [.it .u32 (0 : Int)]⟩
theorem ti108_ok : TyOK Try.prog 108 ti108 := TyOK.of (inf := Try.t108) Try.underlying108 (by kernel_rfl) (by kernel_rfl) (by kernel_rfl) (by kernel_rfl)
noncomputable def ti109 : TI := ⟨Try.t109.desc, 1, 8, [.nf]⟩
theorem ti109_ok : TyOK Try.prog 109 ti109 := TyOK.of (inf := Try.t109) Try.underlying109 (by kernel_rfl) (by kernel_rfl) (by kernel_rfl) (by kernel_rfl)
noncomputable def ti110 : TI := ⟨Try.t110.desc, 1, 8, [.pn]⟩
theorem ti110_ok : TyOK Try.prog 110 ti110 := TyOK.of (inf := Try.t110) Try.underlying110 (by kernel_rfl) (by kernel_rfl) (by kernel_rfl) (by kernel_rfl)
noncomputable def ti111 : TI := ⟨Try.t111.desc, 2, 32, [.pn, .sn]⟩
theorem ti111_ok : TyOK Try.prog 111 ti111 := TyOK.of (inf := Try.t111) Try.underlying111 (by kernel_rfl) (by kernel_rfl) (by kernel_rfl) (by kernel_rfl)
noncomputable def ti112 : TI := ⟨Try.t111.desc, 2, 32, [.pn, .sn]⟩
theorem ti112_ok : TyOK Try.prog 112 ti112 := TyOK.of (inf := Try.t112) Try.underlying112 (by kernel_rfl) (by kernel_rfl) (by kernel_rfl) (by kernel_rfl)
noncomputable def ti113 : TI := ⟨Try.t113.desc, 1, 8, [.nf]⟩
theorem ti113_ok : TyOK Try.prog 113 ti113 := TyOK.of (inf := Try.t113) Try.underlying113 (by kernel_rfl) (by kernel_rfl) (by kernel_rfl) (by kernel_rfl)
noncomputable def ti117 : TI := ⟨Try.t117.desc, 1, 8, [.nf]⟩
theorem ti117_ok : TyOK Try.prog 117 ti117 := TyOK.of (inf := Try.t117) Try.underlying117 (by kernel_rfl) (by kernel_rfl) (by kernel_rfl) (by kernel_rfl)
noncomputable def ti118 : TI := ⟨Try.t118.desc, 1, 8, [.nf]⟩
theorem ti118_ok : TyOK Try.prog 118 ti118 := TyOK.of (inf := Try.t118) Try.underlying118 (by kernel_rfl) (by kernel_rfl) (by kernel_rfl) (by kernel_rfl)
noncomputable def ti119 : TI := ⟨Try.t119.desc, 1, 8, [.it .u64 (0 : Int)]⟩
theorem ti119_ok : TyOK Try.prog 119 ti119 := TyOK.of (inf := Try.t119) Try.underlying119 (by kernel_rfl) (by kernel_rfl) (by kernel_rfl) (by kernel_rfl)
noncomputable def ti120 : TI := ⟨Try.t120.desc, 1, 8, [.pn]⟩
theorem ti120_ok : TyOK Try.prog 120 ti120 := TyOK.of (inf := Try.t120) Try.underlying120 (by kernel_rfl) (by kernel_rfl) (by kernel_rfl) (by kernel_rfl)
noncomputable def ti121 : TI := ⟨Try.t121.desc, 1, 8, [.pn]⟩
theorem ti121_ok : TyOK Try.prog 121 ti121 := TyOK.of (inf := Try.t121) Try.underlying121 (by kernel_rfl) (by kernel_rfl) (by kernel_rfl) (by kernel_rfl)
noncomputable def ti122 : TI := ⟨Try.t122.desc, 1, 8, [.nf]⟩
theorem ti122_ok : TyOK Try.prog 122 ti122 := TyOK.of (inf := Try.t122) Try.underlying122 (by kernel_rfl) (by kernel_rfl) (by kernel_rfl) (by kernel_rfl)
noncomputable def ti123 : TI := ⟨Try.t123.desc, 1, 8, [.nf]⟩
theorem ti123_ok : TyOK Try.prog 123 ti123 := TyOK.of (inf := Try.t123) Try.underlying123 (by kernel_rfl) (by kernel_rfl) (by kernel_rfl) (by kernel_rfl)
noncomputable def ti124 : TI := ⟨Try.t124.desc, 4, 40, [.pn, .pn, .pn, .st (ByteArray.mk #[])]⟩
theorem ti124_ok : TyOK Try.prog 124 ti124 := TyOK.of (inf := Try.t124) Try.underlying124 (by kernel_rfl) (by kernel_rfl) (by kernel_rfl) (by kernel_rfl)
noncomputable def ti125 : TI := ⟨Try.t124.desc, 4, 40, [.pn, .pn, .pn, .st (ByteArray.mk #[])]⟩
theorem ti125_ok : TyOK Try.prog 125 ti125 := TyOK.of (inf := Try.t125) Try.underlying125 (by kernel_rfl) (by kernel_rfl) (by kernel_rfl) (by kernel_rfl)
noncomputable def ti126 : TI := ⟨Try.t126.desc, 0, 0, []⟩
theorem ti126_ok : TyOK Try.prog 126 ti126 := TyOK.of (inf := Try.t126) Try.underlying126 (by kernel_rfl) (by kernel_rfl) (by kernel_rfl) (by kernel_rfl)
noncomputable def ti127 : TI := ⟨Try.t127.desc, 0, 0, []⟩
theorem ti127_ok : TyOK Try.prog 127 ti127 := TyOK.of (inf := Try.t127) Try.underlying127 (by kernel_rfl) (by kernel_rfl) (by kernel_rfl) (by kernel_rfl)
noncomputable def ti128 : TI := ⟨Try.t127.desc, 0, 0, []⟩
theorem ti128_ok : TyOK Try.prog 128 ti128 := TyOK.of (inf := Try.t128) Try.underlying128 (by kernel_rfl) (by kernel_rfl) (by kernel_rfl) (by kernel_rfl)
noncomputable def ti129 : TI := ⟨Try.t129.desc, 1, 8, [.nf]⟩
theorem ti129_ok : TyOK Try.prog 129 ti129 := TyOK.of (inf := Try.t129) Try.underlying129 (by kernel_rfl) (by kernel_rfl) (by kernel_rfl) (by kernel_rfl)
noncomputable def ti130 : TI := ⟨Try.t5.desc, 1, 1, [.it .u8 (0 : Int)]⟩
theorem ti130_ok : TyOK Try.prog 130 ti130 := TyOK.of (inf := Try.t130) Try.underlying130 (by kernel_rfl) (by kernel_rfl) (by kernel_rfl) (by kernel_rfl)
noncomputable def ti131 : TI := ⟨Try.t5.desc, 1, 1, [.it .u8 (0 : Int)]⟩
theorem ti131_ok : TyOK Try.prog 131 ti131 := TyOK.of (inf := Try.t131) Try.underlying131 (by kernel_rfl) (by kernel_rfl) (by kernel_rfl) (by kernel_rfl)
noncomputable def ti132 : TI := ⟨Try.t132.desc, 1, 8, [.nf]⟩
theorem ti132_ok : TyOK Try.prog 132 ti132 := TyOK.of (inf := Try.t132) Try.underlying132 (by kernel_rfl) (by kernel_rfl) (by kernel_rfl) (by kernel_rfl)
noncomputable def ti133 : TI := ⟨Try.t21.desc, 1, 4, [.it .i32 (0 : Int)]⟩
theorem ti133_ok : TyOK Try.prog 133 ti133 := TyOK.of (inf := Try.t133) Try.underlying133 (by kernel_rfl) (by kernel_rfl) (by kernel_rfl) (by kernel_rfl)
noncomputable def ti134 : TI := ⟨Try.t21.desc, 1, 4, [.it .i32 (0 : Int)]⟩
theorem ti134_ok : TyOK Try.prog 134 ti134 := TyOK.of (inf := Try.t134) Try.underlying134 (by kernel_rfl) (by kernel_rfl) (by kernel_rfl) (by kernel_rfl)
noncomputable def ti135 : TI := ⟨Try.t135.desc, 11, 48, [.it .u64 (0 : Int), .it .u64 (0 : Int), .it .u32 (0 : Int), .it .u8 (0 : Int), .it .u8 (0 : Int), .it .u8 (0 : Int), .it .u8 (0 : Int), .nf, .pn, .it .i32 (0 : Int), .it .i32 (0 : Int)]⟩
theorem ti135_ok : TyOK Try.prog 135 ti135 := TyOK.of (inf := Try.t135) Try.underlying135 (by kernel_rfl) (by kernel_rfl) (by kernel_rfl) (by kernel_rfl)
noncomputable def ti136 : TI := ⟨Try.t135.desc, 11, 48, [.it .u64 (0 : Int), .it .u64 (0 : Int), .it .u32 (0 : Int), .it .u8 (0 : Int), .it .u8 (0 : Int), .it .u8 (0 : Int), .it .u8 (0 : Int), .nf, .pn, .it .i32 (0 : Int), .it .i32 (0 : Int)]⟩
theorem ti136_ok : TyOK Try.prog 136 ti136 := TyOK.of (inf := Try.t136) Try.underlying136 (by kernel_rfl) (by kernel_rfl) (by kernel_rfl) (by kernel_rfl)
noncomputable def tys : List (Nat × TI) := [(1, ti1), (2, ti2), (3, ti3), (4, ti4), (5, ti5), (6, ti6), (7, ti7), (8, ti8), (9, ti9), (10, ti10), (11, ti11), (12, ti12), (13, ti13), (14, ti14), (15, ti15), (16, ti16), (17, ti17), (18, ti18), (19, ti19), (21, ti21), (22, ti22), (23, ti23), (24, ti24), (25, ti25), (27, ti27), (28, ti28), (29, ti29), (30, ti30), (31, ti31), (32, ti32), (33, ti33), (34, ti34), (35, ti35), (36, ti36), (38, ti38), (39, ti39), (40, ti40), (41, ti41), (42, ti42), (43, ti43), (44, ti44), (46, ti46), (47, ti47), (48, ti48), (50, ti50), (51, ti51), (52, ti52), (53, ti53), (54, ti54), (55, ti55), (56, ti56), (57, ti57), (58, ti58), (59, ti59), (61, ti61), (63, ti63), (64, ti64), (65, ti65), (67, ti67), (69, ti69), (70, ti70), (71, ti71), (73, ti73), (74, ti74), (75, ti75), (76, ti76), (78, ti78), (79, ti79), (80, ti80), (81, ti81), (82, ti82), (83, ti83), (84, ti84), (85, ti85), (86, ti86), (87, ti87), (88, ti88), (89, ti89), (90, ti90), (91, ti91), (92, ti92), (93, ti93), (94, ti94), (95, ti95), (96, ti96), (97, ti97), (98, ti98), (99, ti99), (100, ti100), (101, ti101), (102, ti102), (103, ti103), (104, ti104), (105, ti105), (106, ti106), (107, ti107), (108, ti108), (109, ti109), (110, ti110), (111, ti111), (112, ti112), (113, ti113), (117, ti117), (118, ti118), (119, ti119), (120, ti120), (121, ti121), (122, ti122), (123, ti123), (124, ti124), (125, ti125), (126, ti126), (127, ti127), (128, ti128), (129, ti129), (130, ti130), (131, ti131), (132, ti132), (133, ti133), (134, ti134), (135, ti135), (136, ti136)]
theorem mo : Try.prog.follows .mixedOrders = true := by kernel_rfl
theorem tys_ok : TysOK Try.prog tys := (TysOK.cons ti1_ok (TysOK.cons ti2_ok (TysOK.cons ti3_ok (TysOK.cons ti4_ok (TysOK.cons ti5_ok (TysOK.cons ti6_ok (TysOK.cons ti7_ok (TysOK.cons ti8_ok (TysOK.cons ti9_ok (TysOK.cons ti10_ok (TysOK.cons ti11_ok (TysOK.cons ti12_ok (TysOK.cons ti13_ok (TysOK.cons ti14_ok (TysOK.cons ti15_ok (TysOK.cons ti16_ok (TysOK.cons ti17_ok (TysOK.cons ti18_ok (TysOK.cons ti19_ok (TysOK.cons ti21_ok (TysOK.cons ti22_ok (TysOK.cons ti23_ok (TysOK.cons ti24_ok (TysOK.cons ti25_ok (TysOK.cons ti27_ok (TysOK.cons ti28_ok (TysOK.cons ti29_ok (TysOK.cons ti30_ok (TysOK.cons ti31_ok (TysOK.cons ti32_ok (TysOK.cons ti33_ok (TysOK.cons ti34_ok (TysOK.cons ti35_ok (TysOK.cons ti36_ok (TysOK.cons ti38_ok (TysOK.cons ti39_ok (TysOK.cons ti40_ok (TysOK.cons ti41_ok (TysOK.cons ti42_ok (TysOK.cons ti43_ok (TysOK.cons ti44_ok (TysOK.cons ti46_ok (TysOK.cons ti47_ok (TysOK.cons ti48_ok (TysOK.cons ti50_ok (TysOK.cons ti51_ok (TysOK.cons ti52_ok (TysOK.cons ti53_ok (TysOK.cons ti54_ok (TysOK.cons ti55_ok (TysOK.cons ti56_ok (TysOK.cons ti57_ok (TysOK.cons ti58_ok (TysOK.cons ti59_ok (TysOK.cons ti61_ok (TysOK.cons ti63_ok (TysOK.cons ti64_ok (TysOK.cons ti65_ok (TysOK.cons ti67_ok (TysOK.cons ti69_ok (TysOK.cons ti70_ok (TysOK.cons ti71_ok (TysOK.cons ti73_ok (TysOK.cons ti74_ok (TysOK.cons ti75_ok (TysOK.cons ti76_ok (TysOK.cons ti78_ok (TysOK.cons ti79_ok (TysOK.cons ti80_ok (TysOK.cons ti81_ok (TysOK.cons ti82_ok (TysOK.cons ti83_ok (TysOK.cons ti84_ok (TysOK.cons ti85_ok (TysOK.cons ti86_ok (TysOK.cons ti87_ok (TysOK.cons ti88_ok (TysOK.cons ti89_ok (TysOK.cons ti90_ok (TysOK.cons ti91_ok (TysOK.cons ti92_ok (TysOK.cons ti93_ok (TysOK.cons ti94_ok (TysOK.cons ti95_ok (TysOK.cons ti96_ok (TysOK.cons ti97_ok (TysOK.cons ti98_ok (TysOK.cons ti99_ok (TysOK.cons ti100_ok (TysOK.cons ti101_ok (TysOK.cons ti102_ok (TysOK.cons ti103_ok (TysOK.cons ti104_ok (TysOK.cons ti105_ok (TysOK.cons ti106_ok (TysOK.cons ti107_ok (TysOK.cons ti108_ok (TysOK.cons ti109_ok (TysOK.cons ti110_ok (TysOK.cons ti111_ok (TysOK.cons ti112_ok (TysOK.cons ti113_ok (TysOK.cons ti117_ok (TysOK.cons ti118_ok (TysOK.cons ti119_ok (TysOK.cons ti120_ok (TysOK.cons ti121_ok (TysOK.cons ti122_ok (TysOK.cons ti123_ok (TysOK.cons ti124_ok (TysOK.cons ti125_ok (TysOK.cons ti126_ok (TysOK.cons ti127_ok (TysOK.cons ti128_ok (TysOK.cons ti129_ok (TysOK.cons ti130_ok (TysOK.cons ti131_ok (TysOK.cons ti132_ok (TysOK.cons ti133_ok (TysOK.cons ti134_ok (TysOK.cons ti135_ok (TysOK.cons ti136_ok TysOK.nil))))))))))))))))))))))))))))))))))))))))))))))))))))))))))))))))))))))))))))))))))))))))))))))))))))))))))))))))))))))))))
/-! ### laws_f6big -/
noncomputable def laws_f6big.b : Code := bodyOf Try.f30
noncomputable def laws_f6big.C : Ctx := { ty := tys, fn := [], lp := [], n := 6, k := 1 }
theorem laws_f6big.hC : CtxOK Try.prog laws_f6big.C := CtxOK.of mo tys_ok FnsOK.nil
theorem laws_f6big.lp : LpOK Try.prog laws_f6big.C laws_f6big.b := (LpOK.nil (by kernel_rfl))
noncomputable def laws_f6big.t (x0 : Nat) (x1 : List Int) : T Bool :=
  .leaf (decide (((x0 : Nat) : Int) > (4096 : Int)))
noncomputable def laws_f6big (x0 : Nat) (x1 : List Int) : Bool := (laws_f6big.t x0 x1).val
def laws_f6big.cd : Cd (Nat × List Int) (List V × Hp) := Cd.iso (Cd.pair (Cd.cons (Cd.sl 0 (Cd.natc 0)) Cd.nil) (Cd.cons (Cd.ro 0 0 (Cd.is .u8)) Cd.nil)) (fun a => (a.1.1.2, a.2.1)) (fun a => ((((), a.1), ()), (a.2, ()))) (fun _ => rfl)
noncomputable def laws_f6big.tr (a : Nat × List Int) : T Bool := laws_f6big.t a.1 a.2
def laws_f6big.enc : (Nat × List Int) → Bool → V := fun a r => .bo r
noncomputable def laws_f6big.c : List V → Hp → T V := cdQ laws_f6big.cd (fun a => .leaf (laws_f6big.enc a (laws_f6big a.1 a.2)))
theorem laws_f6big.run (a : Nat × List Int) : runF laws_f6big.C Try.f30.results.toList laws_f6big.b (laws_f6big.cd.enc a).1 (laws_f6big.cd.enc a).2 = (laws_f6big.tr a).map fun r => (laws_f6big.enc a r, (laws_f6big.cd.enc a).2) := by kernel_rfl
theorem laws_f6big.cok : OKq Try.prog 30 laws_f6big.c := con_q' laws_f6big.cd laws_f6big.hC Try.func30 (by kernel_rfl) (by kernel_rfl) (by kernel_rfl) laws_f6big.lp (fun a => by kernel_rfl) laws_f6big.run (Tells.val (tree := laws_f6big.tr) fun a => by kernel_rfl)
/-! ### spec_l00From -/
noncomputable def spec_l00From.b : Code := bodyOf Try.f69
noncomputable def spec_l00From.C : Ctx := { ty := tys, fn := [], lp := [], n := 6, k := 1 }
theorem spec_l00From.hC : CtxOK Try.prog spec_l00From.C := CtxOK.of mo tys_ok FnsOK.nil
theorem spec_l00From.lp : LpOK Try.prog spec_l00From.C spec_l00From.b := (LpOK.nil (by kernel_rfl))
noncomputable def spec_l00From.t (x0 : Nat) (x1 : List Int) : T (Nat × Int × Int) :=
  .leaf (x0, (0 : Int), (0 : Int))
noncomputable def spec_l00From (x0 : Nat) (x1 : List Int) : Nat × Int × Int := (spec_l00From.t x0 x1).val
def spec_l00From.cd : Cd (Nat × List Int) (List V × Hp) := Cd.iso (Cd.pair (Cd.cons (Cd.sl 0 (Cd.natc 0)) Cd.nil) (Cd.cons (Cd.ro 0 0 (Cd.is .u8)) Cd.nil)) (fun a => (a.1.1.2, a.2.1)) (fun a => ((((), a.1), ()), (a.2, ()))) (fun _ => rfl)
noncomputable def spec_l00From.tr (a : Nat × List Int) : T (Nat × Int × Int) := spec_l00From.t a.1 a.2
def spec_l00From.enc : (Nat × List Int) → (Nat × Int × Int) → V × Hp := fun a r => (.pt 1 0, [some ⟨false, 0, 0, .is .u8 a.2⟩, some ⟨true, 106, 3, .vs [.sl 0 0 r.1, .it .i64 r.2.1, .it .u64 r.2.2]⟩])
noncomputable def spec_l00From.c : List V → Hp → T (V × Hp) := cdE spec_l00From.cd (fun a => .leaf (spec_l00From.enc a (spec_l00From a.1 a.2)))
theorem spec_l00From.run (a : Nat × List Int) : runF spec_l00From.C Try.f69.results.toList spec_l00From.b (spec_l00From.cd.enc a).1 (spec_l00From.cd.enc a).2 = (spec_l00From.tr a).map (spec_l00From.enc a) := by kernel_rfl
theorem spec_l00From.cok : OKe Try.prog 69 spec_l00From.c := con_e' spec_l00From.cd spec_l00From.hC Try.func69 (by kernel_rfl) (by kernel_rfl) (by kernel_rfl) spec_l00From.lp (fun a => by kernel_rfl) spec_l00From.run (Tells.val (tree := spec_l00From.tr) fun a => by kernel_rfl)
/-! ### spec_l00Src_next -/
noncomputable def spec_l00Src_next.b : Code := bodyOf Try.f91
noncomputable def spec_l00Src_next.C : Ctx := { ty := tys, fn := [], lp := [], n := 62, k := 2 }
theorem spec_l00Src_next.hC : CtxOK Try.prog spec_l00Src_next.C := CtxOK.of mo tys_ok FnsOK.nil
theorem spec_l00Src_next.lp : LpOK Try.prog spec_l00Src_next.C spec_l00Src_next.b := (LpOK.nil (by kernel_rfl))
noncomputable def spec_l00Src_next.t (x0 : Nat) (x1 : Int) (x2 : Int) (x3 : List Int) : T (Int × Nat × Int × Int) :=
  .br (decide (x1 < ((x0 : Nat) : Int)))
  (.br (bounds x1 x0)
   (.br (Nat.ble ((0 + (Int.toNat x1 * 1)) + 1) (List.length x3))
    (.br (decide ((IntKind.wrap .i64 (x1 + (1 : Int))) ≤ ((x0 : Nat) : Int)))
     (.leaf ((IntKind.wrap .i64 (List.getD x3 (0 + (Int.toNat x1 * 1)) 0)), x0, (IntKind.wrap .i64 (x1 + (1 : Int))), (IntKind.wrap .u64 ((IntKind.wrap .u64 ((IntKind.wrap .u64 (x2 * (6364136223846793005 : Int))) + (IntKind.wrap .u64 (IntKind.wrap .i64 (List.getD x3 (0 + (Int.toNat x1 * 1)) 0))))) + (1442695040888963407 : Int)))))
     (.leaf ((IntKind.wrap .i64 (ibits .and .u64 (Int.fdiv (IntKind.wrap .u64 ((IntKind.wrap .u64 ((IntKind.wrap .u64 (x2 * (6364136223846793005 : Int))) + (IntKind.wrap .u64 (IntKind.wrap .i64 (List.getD x3 (0 + (Int.toNat x1 * 1)) 0))))) + (1442695040888963407 : Int))) (2 ^ min (Int.toNat (40 : Int)) 64)) (255 : Int))), x0, (IntKind.wrap .i64 (x1 + (1 : Int))), (IntKind.wrap .u64 ((IntKind.wrap .u64 ((IntKind.wrap .u64 (x2 * (6364136223846793005 : Int))) + (IntKind.wrap .u64 (IntKind.wrap .i64 (List.getD x3 (0 + (Int.toNat x1 * 1)) 0))))) + (1442695040888963407 : Int))))))
    .bad)
   .bad)
  (.br (decide ((IntKind.wrap .i64 (x1 + (1 : Int))) ≤ ((x0 : Nat) : Int)))
   (.leaf ((0 : Int), x0, (IntKind.wrap .i64 (x1 + (1 : Int))), (IntKind.wrap .u64 ((IntKind.wrap .u64 ((IntKind.wrap .u64 (x2 * (6364136223846793005 : Int))) + (IntKind.wrap .u64 (0 : Int)))) + (1442695040888963407 : Int)))))
   (.leaf ((IntKind.wrap .i64 (ibits .and .u64 (Int.fdiv (IntKind.wrap .u64 ((IntKind.wrap .u64 ((IntKind.wrap .u64 (x2 * (6364136223846793005 : Int))) + (IntKind.wrap .u64 (0 : Int)))) + (1442695040888963407 : Int))) (2 ^ min (Int.toNat (40 : Int)) 64)) (255 : Int))), x0, (IntKind.wrap .i64 (x1 + (1 : Int))), (IntKind.wrap .u64 ((IntKind.wrap .u64 ((IntKind.wrap .u64 (x2 * (6364136223846793005 : Int))) + (IntKind.wrap .u64 (0 : Int)))) + (1442695040888963407 : Int))))))
noncomputable def spec_l00Src_next (x0 : Nat) (x1 : Int) (x2 : Int) (x3 : List Int) : Int × Nat × Int × Int := (spec_l00Src_next.t x0 x1 x2 x3).val
noncomputable def spec_l00Src_next.ok (x0 : Nat) (x1 : Int) (x2 : Int) (x3 : List Int) : Bool := (spec_l00Src_next.t x0 x1 x2 x3).ok
def spec_l00Src_next.cd : Cd (Nat × Int × Int × List Int) (List V × Hp) := Cd.iso (Cd.pair (Cd.cons (Cd.pt 0 (Cd.natc 0)) Cd.nil) (Cd.cons (Cd.rw 106 3 (Cd.vs (Cd.cons (Cd.sl 1 (Cd.natc 0)) (Cd.cons (Cd.it .i64) (Cd.cons (Cd.it .u64) Cd.nil))))) (Cd.cons (Cd.ro 0 0 (Cd.is .u8)) Cd.nil))) (fun a => (a.2.1.1.2, a.2.1.2.1, a.2.1.2.2.1, a.2.2.1)) (fun a => (((), ()), ((((), a.1), (a.2.1, (a.2.2.1, ()))), (a.2.2.2, ())))) (fun _ => rfl)
noncomputable def spec_l00Src_next.tr (a : Nat × Int × Int × List Int) : T (Int × Nat × Int × Int) := spec_l00Src_next.t a.1 a.2.1 a.2.2.1 a.2.2.2
def spec_l00Src_next.enc : (Nat × Int × Int × List Int) → (Int × Nat × Int × Int) → V × Hp := fun a r => (.it .i64 r.1, [some ⟨true, 106, 3, .vs [.sl 1 0 r.2.1, .it .i64 r.2.2.1, .it .u64 r.2.2.2]⟩, some ⟨false, 0, 0, .is .u8 a.2.2.2⟩])
noncomputable def spec_l00Src_next.c : List V → Hp → T (V × Hp) := cdE spec_l00Src_next.cd (fun a => .br (spec_l00Src_next.ok a.1 a.2.1 a.2.2.1 a.2.2.2) (.leaf (spec_l00Src_next.enc a (spec_l00Src_next a.1 a.2.1 a.2.2.1 a.2.2.2))) .bad)
theorem spec_l00Src_next.run (a : Nat × Int × Int × List Int) : runF spec_l00Src_next.C Try.f91.results.toList spec_l00Src_next.b (spec_l00Src_next.cd.enc a).1 (spec_l00Src_next.cd.enc a).2 = (spec_l00Src_next.tr a).map (spec_l00Src_next.enc a) := by kernel_rfl
theorem spec_l00Src_next.cok : OKe Try.prog 91 spec_l00Src_next.c := con_e' spec_l00Src_next.cd spec_l00Src_next.hC Try.func91 (by kernel_rfl) (by kernel_rfl) (by kernel_rfl) spec_l00Src_next.lp (fun a => by kernel_rfl) spec_l00Src_next.run (Tells.ok (tree := spec_l00Src_next.tr))
/-! ### spec_l00Src_pick -/
noncomputable def spec_l00Src_pick.b : Code := bodyOf Try.f70
noncomputable def spec_l00Src_pick.C : Ctx := { ty := tys, fn := [(91, .e spec_l00Src_next.c)], lp := [], n := 20, k := 2 }
theorem spec_l00Src_pick.hC : CtxOK Try.prog spec_l00Src_pick.C := CtxOK.of mo tys_ok (FnsOK.cons spec_l00Src_next.cok FnsOK.nil)
theorem spec_l00Src_pick.lp : LpOK Try.prog spec_l00Src_pick.C spec_l00Src_pick.b := (LpOK.nil (by kernel_rfl))
noncomputable def spec_l00Src_pick.t (x0 : Int) (x1 : Nat) (x2 : Int) (x3 : Int) (x4 : List Int) : T (Int × Nat × Int × Int) :=
  .br (decide (x0 ≤ (1 : Int)))
  (.leaf ((0 : Int), x1, x2, x3))
  (.br (spec_l00Src_next.ok x1 x2 x3 x4)
   (.br (decide (x0 > (200 : Int)))
    (.br (spec_l00Src_next.ok ((spec_l00Src_next x1 x2 x3 x4).2.1) ((spec_l00Src_next x1 x2 x3 x4).2.2.1) ((spec_l00Src_next x1 x2 x3 x4).2.2.2) x4)
     (.br (x0 == 0)
      .bad
      (.leaf ((Int.tmod (IntKind.wrap .i64 ((IntKind.wrap .i64 ((spec_l00Src_next x1 x2 x3 x4).1 * (256 : Int))) + (spec_l00Src_next ((spec_l00Src_next x1 x2 x3 x4).2.1) ((spec_l00Src_next x1 x2 x3 x4).2.2.1) ((spec_l00Src_next x1 x2 x3 x4).2.2.2) x4).1)) x0), (spec_l00Src_next ((spec_l00Src_next x1 x2 x3 x4).2.1) ((spec_l00Src_next x1 x2 x3 x4).2.2.1) ((spec_l00Src_next x1 x2 x3 x4).2.2.2) x4).2.1, (spec_l00Src_next ((spec_l00Src_next x1 x2 x3 x4).2.1) ((spec_l00Src_next x1 x2 x3 x4).2.2.1) ((spec_l00Src_next x1 x2 x3 x4).2.2.2) x4).2.2.1, (spec_l00Src_next ((spec_l00Src_next x1 x2 x3 x4).2.1) ((spec_l00Src_next x1 x2 x3 x4).2.2.1) ((spec_l00Src_next x1 x2 x3 x4).2.2.2) x4).2.2.2)))
     .bad)
    (.br (x0 == 0)
     .bad
     (.leaf ((Int.tmod (spec_l00Src_next x1 x2 x3 x4).1 x0), (spec_l00Src_next x1 x2 x3 x4).2.1, (spec_l00Src_next x1 x2 x3 x4).2.2.1, (spec_l00Src_next x1 x2 x3 x4).2.2.2))))
   .bad)
noncomputable def spec_l00Src_pick (x0 : Int) (x1 : Nat) (x2 : Int) (x3 : Int) (x4 : List Int) : Int × Nat × Int × Int := (spec_l00Src_pick.t x0 x1 x2 x3 x4).val
noncomputable def spec_l00Src_pick.ok (x0 : Int) (x1 : Nat) (x2 : Int) (x3 : Int) (x4 : List Int) : Bool := (spec_l00Src_pick.t x0 x1 x2 x3 x4).ok
def spec_l00Src_pick.cd : Cd (Int × Nat × Int × Int × List Int) (List V × Hp) := Cd.iso (Cd.pair (Cd.cons (Cd.pt 0 (Cd.natc 0)) (Cd.cons (Cd.it .i64) Cd.nil)) (Cd.cons (Cd.rw 106 3 (Cd.vs (Cd.cons (Cd.sl 1 (Cd.natc 0)) (Cd.cons (Cd.it .i64) (Cd.cons (Cd.it .u64) Cd.nil))))) (Cd.cons (Cd.ro 0 0 (Cd.is .u8)) Cd.nil))) (fun a => (a.1.2.1, a.2.1.1.2, a.2.1.2.1, a.2.1.2.2.1, a.2.2.1)) (fun a => (((), (a.1, ())), ((((), a.2.1), (a.2.2.1, (a.2.2.2.1, ()))), (a.2.2.2.2, ())))) (fun _ => rfl)
noncomputable def spec_l00Src_pick.tr (a : Int × Nat × Int × Int × List Int) : T (Int × Nat × Int × Int) := spec_l00Src_pick.t a.1 a.2.1 a.2.2.1 a.2.2.2.1 a.2.2.2.2
def spec_l00Src_pick.enc : (Int × Nat × Int × Int × List Int) → (Int × Nat × Int × Int) → V × Hp := fun a r => (.it .i64 r.1, [some ⟨true, 106, 3, .vs [.sl 1 0 r.2.1, .it .i64 r.2.2.1, .it .u64 r.2.2.2]⟩, some ⟨false, 0, 0, .is .u8 a.2.2.2.2⟩])
noncomputable def spec_l00Src_pick.c : List V → Hp → T (V × Hp) := cdE spec_l00Src_pick.cd (fun a => .br (spec_l00Src_pick.ok a.1 a.2.1 a.2.2.1 a.2.2.2.1 a.2.2.2.2) (.leaf (spec_l00Src_pick.enc a (spec_l00Src_pick a.1 a.2.1 a.2.2.1 a.2.2.2.1 a.2.2.2.2))) .bad)
theorem spec_l00Src_pick.run (a : Int × Nat × Int × Int × List Int) : runF spec_l00Src_pick.C Try.f70.results.toList spec_l00Src_pick.b (spec_l00Src_pick.cd.enc a).1 (spec_l00Src_pick.cd.enc a).2 = (spec_l00Src_pick.tr a).map (spec_l00Src_pick.enc a) := by kernel_rfl
theorem spec_l00Src_pick.cok : OKe Try.prog 70 spec_l00Src_pick.c := con_e' spec_l00Src_pick.cd spec_l00Src_pick.hC Try.func70 (by kernel_rfl) (by kernel_rfl) (by kernel_rfl) spec_l00Src_pick.lp (fun a => by kernel_rfl) spec_l00Src_pick.run (Tells.ok (tree := spec_l00Src_pick.tr))
/-! ### spec_l00Src_one -/
noncomputable def spec_l00Src_one.b : Code := bodyOf Try.f90
noncomputable def spec_l00Src_one.C : Ctx := { ty := tys, fn := [(70, .e spec_l00Src_pick.c)], lp := [], n := 9, k := 2 }
theorem spec_l00Src_one.hC : CtxOK Try.prog spec_l00Src_one.C := CtxOK.of mo tys_ok (FnsOK.cons spec_l00Src_pick.cok FnsOK.nil)
theorem spec_l00Src_one.lp : LpOK Try.prog spec_l00Src_one.C spec_l00Src_one.b := (LpOK.nil (by kernel_rfl))
noncomputable def spec_l00Src_one.t (x0 : Int) (x1 : Nat) (x2 : Int) (x3 : Int) (x4 : List Int) : T (Bool × Nat × Int × Int) :=
  .br (spec_l00Src_pick.ok x0 x1 x2 x3 x4)
  (.leaf (((spec_l00Src_pick x0 x1 x2 x3 x4).1 == (0 : Int)), (spec_l00Src_pick x0 x1 x2 x3 x4).2.1, (spec_l00Src_pick x0 x1 x2 x3 x4).2.2.1, (spec_l00Src_pick x0 x1 x2 x3 x4).2.2.2))
  .bad
noncomputable def spec_l00Src_one (x0 : Int) (x1 : Nat) (x2 : Int) (x3 : Int) (x4 : List Int) : Bool × Nat × Int × Int := (spec_l00Src_one.t x0 x1 x2 x3 x4).val
noncomputable def spec_l00Src_one.ok (x0 : Int) (x1 : Nat) (x2 : Int) (x3 : Int) (x4 : List Int) : Bool := (spec_l00Src_one.t x0 x1 x2 x3 x4).ok
def spec_l00Src_one.cd : Cd (Int × Nat × Int × Int × List Int) (List V × Hp) := Cd.iso (Cd.pair (Cd.cons (Cd.pt 0 (Cd.natc 0)) (Cd.cons (Cd.it .i64) Cd.nil)) (Cd.cons (Cd.rw 106 3 (Cd.vs (Cd.cons (Cd.sl 1 (Cd.natc 0)) (Cd.cons (Cd.it .i64) (Cd.cons (Cd.it .u64) Cd.nil))))) (Cd.cons (Cd.ro 0 0 (Cd.is .u8)) Cd.nil))) (fun a => (a.1.2.1, a.2.1.1.2, a.2.1.2.1, a.2.1.2.2.1, a.2.2.1)) (fun a => (((), (a.1, ())), ((((), a.2.1), (a.2.2.1, (a.2.2.2.1, ()))), (a.2.2.2.2, ())))) (fun _ => rfl)
noncomputable def spec_l00Src_one.tr (a : Int × Nat × Int × Int × List Int) : T (Bool × Nat × Int × Int) := spec_l00Src_one.t a.1 a.2.1 a.2.2.1 a.2.2.2.1 a.2.2.2.2
def spec_l00Src_one.enc : (Int × Nat × Int × Int × List Int) → (Bool × Nat × Int × Int) → V × Hp := fun a r => (.bo r.1, [some ⟨true, 106, 3, .vs [.sl 1 0 r.2.1, .it .i64 r.2.2.1, .it .u64 r.2.2.2]⟩, some ⟨false, 0, 0, .is .u8 a.2.2.2.2⟩])
noncomputable def spec_l00Src_one.c : List V → Hp → T (V × Hp) := cdE spec_l00Src_one.cd (fun a => .br (spec_l00Src_one.ok a.1 a.2.1 a.2.2.1 a.2.2.2.1 a.2.2.2.2) (.leaf (spec_l00Src_one.enc a (spec_l00Src_one a.1 a.2.1 a.2.2.1 a.2.2.2.1 a.2.2.2.2))) .bad)
theorem spec_l00Src_one.run (a : Int × Nat × Int × Int × List Int) : runF spec_l00Src_one.C Try.f90.results.toList spec_l00Src_one.b (spec_l00Src_one.cd.enc a).1 (spec_l00Src_one.cd.enc a).2 = (spec_l00Src_one.tr a).map (spec_l00Src_one.enc a) := by kernel_rfl
theorem spec_l00Src_one.cok : OKe Try.prog 90 spec_l00Src_one.c := con_e' spec_l00Src_one.cd spec_l00Src_one.hC Try.func90 (by kernel_rfl) (by kernel_rfl) (by kernel_rfl) spec_l00Src_one.lp (fun a => by kernel_rfl) spec_l00Src_one.run (Tells.ok (tree := spec_l00Src_one.tr))
/-! ### spec_l04Drawn -/
noncomputable def spec_l04Drawn.b : Code := bodyOf Try.f68
noncomputable def spec_l04Drawn.C : Ctx := { ty := tys, fn := [(70, .e spec_l00Src_pick.c), (90, .e spec_l00Src_one.c)], lp := [], n := 27, k := 2 }
theorem spec_l04Drawn.hC : CtxOK Try.prog spec_l04Drawn.C := CtxOK.of mo tys_ok (FnsOK.cons spec_l00Src_pick.cok (FnsOK.cons spec_l00Src_one.cok FnsOK.nil))
theorem spec_l04Drawn.lp : LpOK Try.prog spec_l04Drawn.C spec_l04Drawn.b := (LpOK.nil (by kernel_rfl))
noncomputable def spec_l04Drawn.t (x0 : Nat) (x1 : Int) (x2 : Int) (x3 : List Int) : T (Nat × Nat × Nat × Nat × Nat × Int × Int) :=
  let y4 := (spec_l00Src_pick (32 : Int) x0 x1 x2 x3)
  .br (spec_l00Src_pick.ok (32 : Int) x0 x1 x2 x3)
  (let y5 := (spec_l00Src_pick (16 : Int) y4.2.1 y4.2.2.1 y4.2.2.2 x3)
   .br (spec_l00Src_pick.ok (16 : Int) y4.2.1 y4.2.2.1 y4.2.2.2 x3)
   (let y6 := (spec_l00Src_pick (24 : Int) y5.2.1 y5.2.2.1 y5.2.2.2 x3)
    .br (spec_l00Src_pick.ok (24 : Int) y5.2.1 y5.2.2.1 y5.2.2.2 x3)
    (let y7 := (spec_l00Src_one (2 : Int) y6.2.1 y6.2.2.1 y6.2.2.2 x3)
     .br (spec_l00Src_one.ok (2 : Int) y6.2.1 y6.2.2.1 y6.2.2.2 x3)
     (.br y7.1
      (let y8 := (spec_l00Src_pick (17 : Int) y7.2.1 y7.2.2.1 y7.2.2.2 x3)
       .br (spec_l00Src_pick.ok (17 : Int) y7.2.1 y7.2.2.1 y7.2.2.2 x3)
       (.leaf ((fdiv .f32 (fofint .f32 y4.1) 1082130432), (fdiv .f32 (fofint .f32 y5.1) 1090519040), (fdiv .f32 (fofint .f32 y6.1) 1090519040), (fdiv .f32 (fofint .f32 y8.1) 1098907648), y8.2.1, y8.2.2.1, y8.2.2.2))
       .bad)
      (.leaf ((fdiv .f32 (fofint .f32 y4.1) 1082130432), (fdiv .f32 (fofint .f32 y5.1) 1090519040), (fdiv .f32 (fofint .f32 y6.1) 1090519040), 1065353216, y7.2.1, y7.2.2.1, y7.2.2.2)))
     .bad)
    .bad)
   .bad)
  .bad
noncomputable def spec_l04Drawn (x0 : Nat) (x1 : Int) (x2 : Int) (x3 : List Int) : Nat × Nat × Nat × Nat × Nat × Int × Int := (spec_l04Drawn.t x0 x1 x2 x3).val
noncomputable def spec_l04Drawn.ok (x0 : Nat) (x1 : Int) (x2 : Int) (x3 : List Int) : Bool := (spec_l04Drawn.t x0 x1 x2 x3).ok
def spec_l04Drawn.cd : Cd (Nat × Int × Int × List Int) (List V × Hp) := Cd.iso (Cd.pair (Cd.cons (Cd.pt 0 (Cd.natc 0)) Cd.nil) (Cd.cons (Cd.rw 106 3 (Cd.vs (Cd.cons (Cd.sl 1 (Cd.natc 0)) (Cd.cons (Cd.it .i64) (Cd.cons (Cd.it .u64) Cd.nil))))) (Cd.cons (Cd.ro 0 0 (Cd.is .u8)) Cd.nil))) (fun a => (a.2.1.1.2, a.2.1.2.1, a.2.1.2.2.1, a.2.2.1)) (fun a => (((), ()), ((((), a.1), (a.2.1, (a.2.2.1, ()))), (a.2.2.2, ())))) (fun _ => rfl)
noncomputable def spec_l04Drawn.tr (a : Nat × Int × Int × List Int) : T (Nat × Nat × Nat × Nat × Nat × Int × Int) := spec_l04Drawn.t a.1 a.2.1 a.2.2.1 a.2.2.2
def spec_l04Drawn.enc : (Nat × Int × Int × List Int) → (Nat × Nat × Nat × Nat × Nat × Int × Int) → V × Hp := fun a r => (.agg [.fl .f32 r.1, .fl .f32 r.2.1, .fl .f32 r.2.2.1, .fl .f32 r.2.2.2.1], [some ⟨true, 106, 3, .vs [.sl 1 0 r.2.2.2.2.1, .it .i64 r.2.2.2.2.2.1, .it .u64 r.2.2.2.2.2.2]⟩, some ⟨false, 0, 0, .is .u8 a.2.2.2⟩])
noncomputable def spec_l04Drawn.c : List V → Hp → T (V × Hp) := cdE spec_l04Drawn.cd (fun a => .br (spec_l04Drawn.ok a.1 a.2.1 a.2.2.1 a.2.2.2) (.leaf (spec_l04Drawn.enc a (spec_l04Drawn a.1 a.2.1 a.2.2.1 a.2.2.2))) .bad)
theorem spec_l04Drawn.run (a : Nat × Int × Int × List Int) : runF spec_l04Drawn.C Try.f68.results.toList spec_l04Drawn.b (spec_l04Drawn.cd.enc a).1 (spec_l04Drawn.cd.enc a).2 = (spec_l04Drawn.tr a).map (spec_l04Drawn.enc a) := by kernel_rfl
theorem spec_l04Drawn.cok : OKe Try.prog 68 spec_l04Drawn.c := con_e' spec_l04Drawn.cd spec_l04Drawn.hC Try.func68 (by kernel_rfl) (by kernel_rfl) (by kernel_rfl) spec_l04Drawn.lp (fun a => by kernel_rfl) spec_l04Drawn.run (Tells.ok (tree := spec_l04Drawn.tr))
/-! ### spec_P6Stone -/
noncomputable def spec_P6Stone.b : Code := bodyOf Try.f31
noncomputable def spec_P6Stone.C : Ctx := { ty := tys, fn := [(69, .e spec_l00From.c), (68, .e spec_l04Drawn.c)], lp := [], n := 6, k := 1 }
theorem spec_P6Stone.hC : CtxOK Try.prog spec_P6Stone.C := CtxOK.of mo tys_ok (FnsOK.cons spec_l00From.cok (FnsOK.cons spec_l04Drawn.cok FnsOK.nil))
theorem spec_P6Stone.lp : LpOK Try.prog spec_P6Stone.C spec_P6Stone.b := (LpOK.nil (by kernel_rfl))
noncomputable def spec_P6Stone.t (x0 : Nat) (x1 : List Int) : T (Nat × Nat × Nat × Nat) :=
  let y3 := (spec_l00From x0 x1)
  let y9 := (spec_l04Drawn y3.1 y3.2.1 y3.2.2 x1)
  .br (spec_l04Drawn.ok y3.1 y3.2.1 y3.2.2 x1)
  (.leaf (y9.1, y9.2.1, y9.2.2.1, y9.2.2.2.1))
  .bad
noncomputable def spec_P6Stone (x0 : Nat) (x1 : List Int) : Nat × Nat × Nat × Nat := (spec_P6Stone.t x0 x1).val
noncomputable def spec_P6Stone.ok (x0 : Nat) (x1 : List Int) : Bool := (spec_P6Stone.t x0 x1).ok
def spec_P6Stone.cd : Cd (Nat × List Int) (List V × Hp) := Cd.iso (Cd.pair (Cd.cons (Cd.sl 0 (Cd.natc 0)) Cd.nil) (Cd.cons (Cd.ro 0 0 (Cd.is .u8)) Cd.nil)) (fun a => (a.1.1.2, a.2.1)) (fun a => ((((), a.1), ()), (a.2, ()))) (fun _ => rfl)
noncomputable def spec_P6Stone.tr (a : Nat × List Int) : T (Nat × Nat × Nat × Nat) := spec_P6Stone.t a.1 a.2
def spec_P6Stone.enc : (Nat × List Int) → (Nat × Nat × Nat × Nat) → V := fun a r => .agg [.fl .f32 r.1, .fl .f32 r.2.1, .fl .f32 r.2.2.1, .fl .f32 r.2.2.2]
noncomputable def spec_P6Stone.c : List V → Hp → T V := cdQ spec_P6Stone.cd (fun a => .br (spec_P6Stone.ok a.1 a.2) (.leaf (spec_P6Stone.enc a (spec_P6Stone a.1 a.2))) .bad)
theorem spec_P6Stone.run (a : Nat × List Int) : runF spec_P6Stone.C Try.f31.results.toList spec_P6Stone.b (spec_P6Stone.cd.enc a).1 (spec_P6Stone.cd.enc a).2 = (spec_P6Stone.tr a).map fun r => (spec_P6Stone.enc a r, (spec_P6Stone.cd.enc a).2) := by kernel_rfl
theorem spec_P6Stone.cok : OKq Try.prog 31 spec_P6Stone.c := con_q' spec_P6Stone.cd spec_P6Stone.hC Try.func31 (by kernel_rfl) (by kernel_rfl) (by kernel_rfl) spec_P6Stone.lp (fun a => by kernel_rfl) spec_P6Stone.run (Tells.ok (tree := spec_P6Stone.tr))
/-! ### spec_P6Torques -/
noncomputable def spec_P6Torques.b : Code := bodyOf Try.f32
noncomputable def spec_P6Torques.l4.s (x0 : Nat) (x1 : Int) (x2 : List Int) (x3 : Nat) (x4 : Int) (x5 : Int) (x6 : List Nat) : T ((Nat × Int × Nat × Int × Int × List Nat) ⊕ (Nat × List Nat)) :=
  .br (decide (x1 > (0 : Int)))
  (let y13 := (spec_l00Src_pick (200 : Int) x3 x4 x5 x2)
   .br (spec_l00Src_pick.ok (200 : Int) x3 x4 x5 x2)
   (.br ((Nat.ble 1 (List.length [(fdiv .f32 (fofint .f32 y13.1) 1082130432)])) && (Nat.beq (List.length x6) (x0 * 1) && Nat.ble ((x0 + 1) * 4) 35184372088832 && Nat.ble (x0 + 1) 35184372088832))
    (.leaf (.inl ((x0 + 1), (IntKind.wrap .i64 (x1 - (1 : Int))), y13.2.1, y13.2.2.1, y13.2.2.2, (x6 ++ (List.take 1 (List.drop 0 [(fdiv .f32 (fofint .f32 y13.1) 1082130432)]))))))
    .bad)
   .bad)
  (.leaf (.inr (x0, x6)))
noncomputable def spec_P6Torques.l4.st (p : List Int) (x : Nat × Int × Nat × Int × Int × List Nat) : T ((Nat × Int × Nat × Int × Int × List Nat) ⊕ (Nat × List Nat)) := spec_P6Torques.l4.s x.1 x.2.1 p x.2.2.1 x.2.2.2.1 x.2.2.2.2.1 x.2.2.2.2.2
noncomputable def spec_P6Torques.l4.r (p : List Int) (x : Nat × Int × Nat × Int × Int × List Nat) : Option (Nat × List Nat) := iterT (spec_P6Torques.l4.st p) manyRounds x
def spec_P6Torques.l4.cd : Cd ((List Int) × (Nat × Int × Nat × Int × Int × List Nat)) (List V × Hp) := Cd.iso (Cd.pair (Cd.cons (Cd.pt 1 (Cd.natc 0)) (Cd.cons (Cd.own 2) (Cd.cons (Cd.it .i64) Cd.nil))) (Cd.cons (Cd.ro 0 0 (Cd.is .u8)) (Cd.cons (Cd.rw 106 3 (Cd.vs (Cd.cons (Cd.sl 0 (Cd.natc 0)) (Cd.cons (Cd.it .i64) (Cd.cons (Cd.it .u64) Cd.nil))))) (Cd.cons (Cd.rw 22 1 (Cd.fs .f32)) Cd.nil)))) (fun a => (a.2.1, (a.1.2.1, a.1.2.2.1, a.2.2.1.1.2, a.2.2.1.2.1, a.2.2.1.2.2.1, a.2.2.2.1))) (fun a => (((), (a.2.1, (a.2.2.1, ()))), (a.1, ((((), a.2.2.2.1), (a.2.2.2.2.1, (a.2.2.2.2.2.1, ()))), (a.2.2.2.2.2.2, ()))))) (fun _ => rfl)
def spec_P6Torques.l4.out (p : List Int) : (Nat × List Nat) → X × List V × Hp := (fun r => (.ex 0, [.own 1 r.1], [some ⟨false, 0, 0, .is .u8 p⟩, some ⟨true, 22, 1, .fs .f32 r.2⟩]))
def spec_P6Torques.l4.ex (p : List Int) : (Nat × List Nat) → T (X × List V × Hp) := leafT (fun r => (.ex 0, [.own 1 r.1], [some ⟨false, 0, 0, .is .u8 p⟩, some ⟨true, 22, 1, .fs .f32 r.2⟩]))
noncomputable def spec_P6Torques.l4.c : List V → Hp → T (X × List V × Hp) := cdL spec_P6Torques.l4.cd fun x => optT (spec_P6Torques.l4.r x.1 x.2) (spec_P6Torques.l4.ex x.1)
noncomputable def spec_P6Torques.C : Ctx := { ty := tys, fn := [(69, .e spec_l00From.c), (70, .e spec_l00Src_pick.c)], lp := [(4, ⟨[3, 4, 5], [4], spec_P6Torques.l4.c⟩)], n := 23, k := 1 }
theorem spec_P6Torques.hC : CtxOK Try.prog spec_P6Torques.C := CtxOK.of mo tys_ok (FnsOK.cons spec_l00From.cok (FnsOK.cons spec_l00Src_pick.cok FnsOK.nil))
noncomputable def spec_P6Torques.b4 : Code := (nthC (loopsOf spec_P6Torques.b) 0)
theorem spec_P6Torques.lp4 : LpOK Try.prog spec_P6Torques.C spec_P6Torques.b4 := (LpOK.nil (by kernel_rfl))
theorem spec_P6Torques.l4.round (p : List Int) (s : Nat × Int × Nat × Int × Int × List Nat) : roundL spec_P6Torques.C [3, 4, 5] [4] spec_P6Torques.b4 (spec_P6Torques.l4.cd.enc (p, s)).1 (spec_P6Torques.l4.cd.enc (p, s)).2 = (spec_P6Torques.l4.st p s).map (encSum (fun s => spec_P6Torques.l4.cd.enc (p, s)) (spec_P6Torques.l4.out p)) := by kernel_rfl
theorem spec_P6Torques.l4.lok : LoopOK Try.prog spec_P6Torques.C ⟨[3, 4, 5], [4], spec_P6Torques.l4.c⟩ spec_P6Torques.b4 := loop_cd spec_P6Torques.l4.cd spec_P6Torques.hC spec_P6Torques.lp4 spec_P6Torques.l4.round fun p => Gets.leaf
theorem spec_P6Torques.lp : LpOK Try.prog spec_P6Torques.C spec_P6Torques.b := lp_of (by kernel_rfl) (LpsOK.cons (k := 4) (by kernel_rfl) (by kernel_rfl) spec_P6Torques.l4.lok LpsOK.nil)
noncomputable def spec_P6Torques.t (x0 : Nat) (x1 : List Int) : T (Nat × List Nat) :=
  let y11 := (spec_l00From x0 x1)
  let y12 := (spec_l00Src_pick (7 : Int) y11.1 y11.2.1 y11.2.2 x1)
  .br (spec_l00Src_pick.ok (7 : Int) y11.1 y11.2.1 y11.2.2 x1)
  (let y14 := (spec_P6Torques.l4.r x1 (0, y12.1, y12.2.1, y12.2.2.1, y12.2.2.2, []))
   .br (Option.isSome y14)
   (.leaf ((Option.getD y14 default).1, (Option.getD y14 default).2))
   .bad)
  .bad
noncomputable def spec_P6Torques (x0 : Nat) (x1 : List Int) : Nat × List Nat := (spec_P6Torques.t x0 x1).val
noncomputable def spec_P6Torques.ok (x0 : Nat) (x1 : List Int) : Bool := (spec_P6Torques.t x0 x1).ok
def spec_P6Torques.cd : Cd (Nat × List Int) (List V × Hp) := Cd.iso (Cd.pair (Cd.cons (Cd.sl 0 (Cd.natc 0)) Cd.nil) (Cd.cons (Cd.ro 0 0 (Cd.is .u8)) Cd.nil)) (fun a => (a.1.1.2, a.2.1)) (fun a => ((((), a.1), ()), (a.2, ()))) (fun _ => rfl)
noncomputable def spec_P6Torques.tr (a : Nat × List Int) : T (Nat × List Nat) := spec_P6Torques.t a.1 a.2
def spec_P6Torques.enc : (Nat × List Int) → (Nat × List Nat) → V × Hp := fun a r => (.own 1 r.1, [some ⟨false, 0, 0, .is .u8 a.2⟩, some ⟨true, 22, 1, .fs .f32 r.2⟩])
noncomputable def spec_P6Torques.c : List V → Hp → T (V × Hp) := cdE spec_P6Torques.cd (fun a => .br (spec_P6Torques.ok a.1 a.2) (.leaf (spec_P6Torques.enc a (spec_P6Torques a.1 a.2))) .bad)
theorem spec_P6Torques.run (a : Nat × List Int) : runF spec_P6Torques.C Try.f32.results.toList spec_P6Torques.b (spec_P6Torques.cd.enc a).1 (spec_P6Torques.cd.enc a).2 = (spec_P6Torques.tr a).map (spec_P6Torques.enc a) := by kernel_rfl
theorem spec_P6Torques.cok : OKe Try.prog 32 spec_P6Torques.c := con_e' spec_P6Torques.cd spec_P6Torques.hC Try.func32 (by kernel_rfl) (by kernel_rfl) (by kernel_rfl) spec_P6Torques.lp (fun a => by kernel_rfl) spec_P6Torques.run (Tells.ok (tree := spec_P6Torques.tr))
/-! ### spec_P6Pick -/
noncomputable def spec_P6Pick.b : Code := bodyOf Try.f33
noncomputable def spec_P6Pick.C : Ctx := { ty := tys, fn := [(69, .e spec_l00From.c), (70, .e spec_l00Src_pick.c)], lp := [], n := 9, k := 1 }
theorem spec_P6Pick.hC : CtxOK Try.prog spec_P6Pick.C := CtxOK.of mo tys_ok (FnsOK.cons spec_l00From.cok (FnsOK.cons spec_l00Src_pick.cok FnsOK.nil))
theorem spec_P6Pick.lp : LpOK Try.prog spec_P6Pick.C spec_P6Pick.b := (LpOK.nil (by kernel_rfl))
noncomputable def spec_P6Pick.t (x0 : Nat) (x1 : Int) (x2 : List Int) : T Int :=
  let y16 := (spec_l00From x0 x2)
  let y17 := (spec_l00Src_pick x1 y16.1 y16.2.1 y16.2.2 x2)
  .br (spec_l00Src_pick.ok x1 y16.1 y16.2.1 y16.2.2 x2)
  (.leaf y17.1)
  .bad
noncomputable def spec_P6Pick (x0 : Nat) (x1 : Int) (x2 : List Int) : Int := (spec_P6Pick.t x0 x1 x2).val
noncomputable def spec_P6Pick.ok (x0 : Nat) (x1 : Int) (x2 : List Int) : Bool := (spec_P6Pick.t x0 x1 x2).ok
def spec_P6Pick.cd : Cd (Nat × Int × List Int) (List V × Hp) := Cd.iso (Cd.pair (Cd.cons (Cd.sl 0 (Cd.natc 0)) (Cd.cons (Cd.it .i64) Cd.nil)) (Cd.cons (Cd.ro 0 0 (Cd.is .u8)) Cd.nil)) (fun a => (a.1.1.2, a.1.2.1, a.2.1)) (fun a => ((((), a.1), (a.2.1, ())), (a.2.2, ()))) (fun _ => rfl)
noncomputable def spec_P6Pick.tr (a : Nat × Int × List Int) : T Int := spec_P6Pick.t a.1 a.2.1 a.2.2
def spec_P6Pick.enc : (Nat × Int × List Int) → Int → V := fun a r => .it .i64 r
noncomputable def spec_P6Pick.c : List V → Hp → T V := cdQ spec_P6Pick.cd (fun a => .br (spec_P6Pick.ok a.1 a.2.1 a.2.2) (.leaf (spec_P6Pick.enc a (spec_P6Pick a.1 a.2.1 a.2.2))) .bad)
theorem spec_P6Pick.run (a : Nat × Int × List Int) : runF spec_P6Pick.C Try.f33.results.toList spec_P6Pick.b (spec_P6Pick.cd.enc a).1 (spec_P6Pick.cd.enc a).2 = (spec_P6Pick.tr a).map fun r => (spec_P6Pick.enc a r, (spec_P6Pick.cd.enc a).2) := by kernel_rfl
theorem spec_P6Pick.cok : OKq Try.prog 33 spec_P6Pick.c := con_q' spec_P6Pick.cd spec_P6Pick.hC Try.func33 (by kernel_rfl) (by kernel_rfl) (by kernel_rfl) spec_P6Pick.lp (fun a => by kernel_rfl) spec_P6Pick.run (Tells.ok (tree := spec_P6Pick.tr))
/-! ### impl_between -/
noncomputable def impl_between.b : Code := bodyOf Try.f76
noncomputable def impl_between.C : Ctx := { ty := tys, fn := [], lp := [], n := 15, k := 0 }
theorem impl_between.hC : CtxOK Try.prog impl_between.C := CtxOK.of mo tys_ok FnsOK.nil
theorem impl_between.lp : LpOK Try.prog impl_between.C impl_between.b := (LpOK.nil (by kernel_rfl))
noncomputable def impl_between.t (x0 : Nat) (x1 : Nat) (x2 : Nat) : T Bool :=
  .br (fle .f32 x1 x0)
  (.leaf (fle .f32 x0 x2))
  (.leaf false)
noncomputable def impl_between (x0 : Nat) (x1 : Nat) (x2 : Nat) : Bool := (impl_between.t x0 x1 x2).val
def impl_between.cd : Cd (Nat × Nat × Nat) (List V × Hp) := Cd.iso (Cd.pair (Cd.cons (Cd.fl .f32) (Cd.cons (Cd.fl .f32) (Cd.cons (Cd.fl .f32) Cd.nil))) Cd.nil) (fun a => (a.1.1, a.1.2.1, a.1.2.2.1)) (fun a => ((a.1, (a.2.1, (a.2.2, ()))), ())) (fun _ => rfl)
noncomputable def impl_between.tr (a : Nat × Nat × Nat) : T Bool := impl_between.t a.1 a.2.1 a.2.2
def impl_between.enc : (Nat × Nat × Nat) → Bool → V := fun a r => .bo r
noncomputable def impl_between.c : List V → Hp → T V := cdQ impl_between.cd (fun a => .leaf (impl_between.enc a (impl_between a.1 a.2.1 a.2.2)))
theorem impl_between.run (a : Nat × Nat × Nat) : runF impl_between.C Try.f76.results.toList impl_between.b (impl_between.cd.enc a).1 (impl_between.cd.enc a).2 = (impl_between.tr a).map fun r => (impl_between.enc a r, (impl_between.cd.enc a).2) := by kernel_rfl
theorem impl_between.cok : OKq Try.prog 76 impl_between.c := con_q' impl_between.cd impl_between.hC Try.func76 (by kernel_rfl) (by kernel_rfl) (by kernel_rfl) impl_between.lp (fun a => by kernel_rfl) impl_between.run (Tells.val (tree := impl_between.tr) fun a => by kernel_rfl)
/-! ### impl_isAmount -/
noncomputable def impl_isAmount.b : Code := bodyOf Try.f50
noncomputable def impl_isAmount.C : Ctx := { ty := tys, fn := [(76, .q impl_between.c)], lp := [], n := 5, k := 0 }
theorem impl_isAmount.hC : CtxOK Try.prog impl_isAmount.C := CtxOK.of mo tys_ok (FnsOK.cons impl_between.cok FnsOK.nil)
theorem impl_isAmount.lp : LpOK Try.prog impl_isAmount.C impl_isAmount.b := (LpOK.nil (by kernel_rfl))
noncomputable def impl_isAmount.t (x0 : Nat) : T Bool :=
  .leaf (impl_between x0 0 1233125376)
noncomputable def impl_isAmount (x0 : Nat) : Bool := (impl_isAmount.t x0).val
def impl_isAmount.cd : Cd Nat (List V × Hp) := Cd.iso (Cd.pair (Cd.cons (Cd.fl .f32) Cd.nil) Cd.nil) (fun a => a.1.1) (fun a => ((a, ()), ())) (fun _ => rfl)
noncomputable def impl_isAmount.tr (a : Nat) : T Bool := impl_isAmount.t a
def impl_isAmount.enc : Nat → Bool → V := fun a r => .bo r
noncomputable def impl_isAmount.c : List V → Hp → T V := cdQ impl_isAmount.cd (fun a => .leaf (impl_isAmount.enc a (impl_isAmount a)))
theorem impl_isAmount.run (a : Nat) : runF impl_isAmount.C Try.f50.results.toList impl_isAmount.b (impl_isAmount.cd.enc a).1 (impl_isAmount.cd.enc a).2 = (impl_isAmount.tr a).map fun r => (impl_isAmount.enc a r, (impl_isAmount.cd.enc a).2) := by kernel_rfl
theorem impl_isAmount.cok : OKq Try.prog 50 impl_isAmount.c := con_q' impl_isAmount.cd impl_isAmount.hC Try.func50 (by kernel_rfl) (by kernel_rfl) (by kernel_rfl) impl_isAmount.lp (fun a => by kernel_rfl) impl_isAmount.run (Tells.val (tree := impl_isAmount.tr) fun a => by kernel_rfl)
/-! ### impl_areAmounts_1 -/
noncomputable def impl_areAmounts_1.b : Code := bodyOf Try.f86
noncomputable def impl_areAmounts_1.C : Ctx := { ty := tys, fn := [(50, .q impl_isAmount.c)], lp := [], n := 6, k := 0 }
theorem impl_areAmounts_1.hC : CtxOK Try.prog impl_areAmounts_1.C := CtxOK.of mo tys_ok (FnsOK.cons impl_isAmount.cok FnsOK.nil)
theorem impl_areAmounts_1.lp : LpOK Try.prog impl_areAmounts_1.C impl_areAmounts_1.b := (LpOK.nil (by kernel_rfl))
noncomputable def impl_areAmounts_1.t (x0 : Nat) : T Bool :=
  .leaf (!(impl_isAmount x0))
noncomputable def impl_areAmounts_1 (x0 : Nat) : Bool := (impl_areAmounts_1.t x0).val
def impl_areAmounts_1.cd : Cd Nat (List V × Hp) := Cd.iso (Cd.pair (Cd.cons (Cd.fl .f32) Cd.nil) Cd.nil) (fun a => a.1.1) (fun a => ((a, ()), ())) (fun _ => rfl)
noncomputable def impl_areAmounts_1.tr (a : Nat) : T Bool := impl_areAmounts_1.t a
def impl_areAmounts_1.enc : Nat → Bool → V := fun a r => .bo r
noncomputable def impl_areAmounts_1.c : List V → Hp → T V := cdQ impl_areAmounts_1.cd (fun a => .leaf (impl_areAmounts_1.enc a (impl_areAmounts_1 a)))
theorem impl_areAmounts_1.run (a : Nat) : runF impl_areAmounts_1.C Try.f86.results.toList impl_areAmounts_1.b (impl_areAmounts_1.cd.enc a).1 (impl_areAmounts_1.cd.enc a).2 = (impl_areAmounts_1.tr a).map fun r => (impl_areAmounts_1.enc a r, (impl_areAmounts_1.cd.enc a).2) := by kernel_rfl
theorem impl_areAmounts_1.cok : OKq Try.prog 86 impl_areAmounts_1.c := con_q' impl_areAmounts_1.cd impl_areAmounts_1.hC Try.func86 (by kernel_rfl) (by kernel_rfl) (by kernel_rfl) impl_areAmounts_1.lp (fun a => by kernel_rfl) impl_areAmounts_1.run (Tells.val (tree := impl_areAmounts_1.tr) fun a => by kernel_rfl)
/-! ### slices_IndexFunc_float32_float32 -/
noncomputable def slices_IndexFunc_float32_float32.b : Code := bodyOf Try.f77
noncomputable def slices_IndexFunc_float32_float32.l2.s (x0 : Nat) (x1 : Int) (x2 : Int) (x3 : List Nat) : T (Int ⊕ (Int ⊕ Unit)) :=
  .br (decide (x2 < x1))
  (.br (bounds x2 x0)
   (.br (Nat.ble ((Int.toNat x2 * 1) + 1) (List.length x3))
    (.br (impl_areAmounts_1 (List.getD x3 (Int.toNat x2 * 1) 0))
     (.leaf (.inr (.inl x2)))
     (.leaf (.inl (IntKind.wrap .i64 (x2 + (1 : Int))))))
    .bad)
   .bad)
  (.leaf (.inr (.inr ())))
noncomputable def slices_IndexFunc_float32_float32.l2.st (p : Nat × Int × List Nat) (x : Int) : T (Int ⊕ (Int ⊕ Unit)) := slices_IndexFunc_float32_float32.l2.s p.1 p.2.1 x p.2.2
noncomputable def slices_IndexFunc_float32_float32.l2.r (p : Nat × Int × List Nat) (x : Int) : Option (Int ⊕ Unit) := iterT (slices_IndexFunc_float32_float32.l2.st p) manyRounds x
def slices_IndexFunc_float32_float32.l2.cd : Cd ((Nat × Int × List Nat) × Int) (List V × Hp) := Cd.iso (Cd.pair (Cd.cons (Cd.own 0) (Cd.cons (Cd.fu 86 Cd.nil) (Cd.cons (Cd.it .i64) (Cd.cons (Cd.it .i64) Cd.nil)))) (Cd.cons (Cd.rw 22 1 (Cd.fs .f32)) Cd.nil)) (fun a => ((a.1.1, a.1.2.2.1, a.2.1), a.1.2.2.2.1)) (fun a => ((a.1.1, ((), (a.1.2.1, (a.2, ())))), (a.1.2.2, ()))) (fun _ => rfl)
def slices_IndexFunc_float32_float32.l2.out (p : Nat × Int × List Nat) : (Int ⊕ Unit) → X × List V × Hp := sumO (fun r => (.ret, [.it .i64 r], [some ⟨true, 22, 1, .fs .f32 p.2.2⟩])) (fun r => (.ex 0, [.unk], [some ⟨true, 22, 1, .fs .f32 p.2.2⟩]))
def slices_IndexFunc_float32_float32.l2.ex (p : Nat × Int × List Nat) : (Int ⊕ Unit) → T (X × List V × Hp) := sumT (leafT (fun r => (.ret, [.it .i64 r], [some ⟨true, 22, 1, .fs .f32 p.2.2⟩]))) (leafT (fun r => (.ex 0, [.unk], [some ⟨true, 22, 1, .fs .f32 p.2.2⟩])))
noncomputable def slices_IndexFunc_float32_float32.l2.c : List V → Hp → T (X × List V × Hp) := cdL slices_IndexFunc_float32_float32.l2.cd fun x => optT (slices_IndexFunc_float32_float32.l2.r x.1 x.2) (slices_IndexFunc_float32_float32.l2.ex x.1)
noncomputable def slices_IndexFunc_float32_float32.C : Ctx := { ty := tys, fn := [(86, .q impl_areAmounts_1.c)], lp := [(2, ⟨[0, 1, 7, 8], [4], slices_IndexFunc_float32_float32.l2.c⟩)], n := 19, k := 1 }
theorem slices_IndexFunc_float32_float32.hC : CtxOK Try.prog slices_IndexFunc_float32_float32.C := CtxOK.of mo tys_ok (FnsOK.cons impl_areAmounts_1.cok FnsOK.nil)
noncomputable def slices_IndexFunc_float32_float32.b2 : Code := (nthC (loopsOf slices_IndexFunc_float32_float32.b) 0)
theorem slices_IndexFunc_float32_float32.lp2 : LpOK Try.prog slices_IndexFunc_float32_float32.C slices_IndexFunc_float32_float32.b2 := (LpOK.nil (by kernel_rfl))
theorem slices_IndexFunc_float32_float32.l2.round (p : Nat × Int × List Nat) (s : Int) : roundL slices_IndexFunc_float32_float32.C [0, 1, 7, 8] [4] slices_IndexFunc_float32_float32.b2 (slices_IndexFunc_float32_float32.l2.cd.enc (p, s)).1 (slices_IndexFunc_float32_float32.l2.cd.enc (p, s)).2 = (slices_IndexFunc_float32_float32.l2.st p s).map (encSum (fun s => slices_IndexFunc_float32_float32.l2.cd.enc (p, s)) (slices_IndexFunc_float32_float32.l2.out p)) := by kernel_rfl
theorem slices_IndexFunc_float32_float32.l2.lok : LoopOK Try.prog slices_IndexFunc_float32_float32.C ⟨[0, 1, 7, 8], [4], slices_IndexFunc_float32_float32.l2.c⟩ slices_IndexFunc_float32_float32.b2 := loop_cd slices_IndexFunc_float32_float32.l2.cd slices_IndexFunc_float32_float32.hC slices_IndexFunc_float32_float32.lp2 slices_IndexFunc_float32_float32.l2.round fun p => (Gets.sum Gets.leaf Gets.leaf)
theorem slices_IndexFunc_float32_float32.lp : LpOK Try.prog slices_IndexFunc_float32_float32.C slices_IndexFunc_float32_float32.b := lp_of (by kernel_rfl) (LpsOK.cons (k := 2) (by kernel_rfl) (by kernel_rfl) slices_IndexFunc_float32_float32.l2.lok LpsOK.nil)
noncomputable def slices_IndexFunc_float32_float32.t (x0 : Nat) (x1 : List Nat) : T Int :=
  .br (Option.isSome (slices_IndexFunc_float32_float32.l2.r (x0, ((x0 : Nat) : Int), x1) (0 : Int)))
  (.br (Sum.isLeft (Option.getD (slices_IndexFunc_float32_float32.l2.r (x0, ((x0 : Nat) : Int), x1) (0 : Int)) default))
   (.leaf (getLeftD (Option.getD (slices_IndexFunc_float32_float32.l2.r (x0, ((x0 : Nat) : Int), x1) (0 : Int)) default)))
   (.leaf (-1 : Int)))
  .bad
noncomputable def slices_IndexFunc_float32_float32 (x0 : Nat) (x1 : List Nat) : Int := (slices_IndexFunc_float32_float32.t x0 x1).val
noncomputable def slices_IndexFunc_float32_float32.ok (x0 : Nat) (x1 : List Nat) : Bool := (slices_IndexFunc_float32_float32.t x0 x1).ok
def slices_IndexFunc_float32_float32.cd : Cd (Nat × List Nat) (List V × Hp) := Cd.iso (Cd.pair (Cd.cons (Cd.own 0) (Cd.cons (Cd.fu 86 Cd.nil) Cd.nil)) (Cd.cons (Cd.rw 22 1 (Cd.fs .f32)) Cd.nil)) (fun a => (a.1.1, a.2.1)) (fun a => ((a.1, ((), ())), (a.2, ()))) (fun _ => rfl)
noncomputable def slices_IndexFunc_float32_float32.tr (a : Nat × List Nat) : T Int := slices_IndexFunc_float32_float32.t a.1 a.2
def slices_IndexFunc_float32_float32.enc : (Nat × List Nat) → Int → V := fun a r => .it .i64 r
noncomputable def slices_IndexFunc_float32_float32.c : List V → Hp → T V := cdQ slices_IndexFunc_float32_float32.cd (fun a => .br (slices_IndexFunc_float32_float32.ok a.1 a.2) (.leaf (slices_IndexFunc_float32_float32.enc a (slices_IndexFunc_float32_float32 a.1 a.2))) .bad)
theorem slices_IndexFunc_float32_float32.run (a : Nat × List Nat) : runF slices_IndexFunc_float32_float32.C Try.f77.results.toList slices_IndexFunc_float32_float32.b (slices_IndexFunc_float32_float32.cd.enc a).1 (slices_IndexFunc_float32_float32.cd.enc a).2 = (slices_IndexFunc_float32_float32.tr a).map fun r => (slices_IndexFunc_float32_float32.enc a r, (slices_IndexFunc_float32_float32.cd.enc a).2) := by kernel_rfl
theorem slices_IndexFunc_float32_float32.cok : OKq Try.prog 77 slices_IndexFunc_float32_float32.c := con_q' slices_IndexFunc_float32_float32.cd slices_IndexFunc_float32_float32.hC Try.func77 (by kernel_rfl) (by kernel_rfl) (by kernel_rfl) slices_IndexFunc_float32_float32.lp (fun a => by kernel_rfl) slices_IndexFunc_float32_float32.run (Tells.ok (tree := slices_IndexFunc_float32_float32.tr))
/-! ### slices_ContainsFunc_float32_float32 -/
noncomputable def slices_ContainsFunc_float32_float32.b : Code := bodyOf Try.f51
noncomputable def slices_ContainsFunc_float32_float32.C : Ctx := { ty := tys, fn := [(77, .q slices_IndexFunc_float32_float32.c)], lp := [], n := 9, k := 1 }
theorem slices_ContainsFunc_float32_float32.hC : CtxOK Try.prog slices_ContainsFunc_float32_float32.C := CtxOK.of mo tys_ok (FnsOK.cons slices_IndexFunc_float32_float32.cok FnsOK.nil)
theorem slices_ContainsFunc_float32_float32.lp : LpOK Try.prog slices_ContainsFunc_float32_float32.C slices_ContainsFunc_float32_float32.b := (LpOK.nil (by kernel_rfl))
noncomputable def slices_ContainsFunc_float32_float32.t (x0 : Nat) (x1 : List Nat) : T Bool :=
  .br (slices_IndexFunc_float32_float32.ok x0 x1)
  (.leaf (decide ((slices_IndexFunc_float32_float32 x0 x1) ≥ (0 : Int))))
  .bad
noncomputable def slices_ContainsFunc_float32_float32 (x0 : Nat) (x1 : List Nat) : Bool := (slices_ContainsFunc_float32_float32.t x0 x1).val
noncomputable def slices_ContainsFunc_float32_float32.ok (x0 : Nat) (x1 : List Nat) : Bool := (slices_ContainsFunc_float32_float32.t x0 x1).ok
def slices_ContainsFunc_float32_float32.cd : Cd (Nat × List Nat) (List V × Hp) := Cd.iso (Cd.pair (Cd.cons (Cd.own 0) (Cd.cons (Cd.fu 86 Cd.nil) Cd.nil)) (Cd.cons (Cd.rw 22 1 (Cd.fs .f32)) Cd.nil)) (fun a => (a.1.1, a.2.1)) (fun a => ((a.1, ((), ())), (a.2, ()))) (fun _ => rfl)
noncomputable def slices_ContainsFunc_float32_float32.tr (a : Nat × List Nat) : T Bool := slices_ContainsFunc_float32_float32.t a.1 a.2
def slices_ContainsFunc_float32_float32.enc : (Nat × List Nat) → Bool → V := fun a r => .bo r
noncomputable def slices_ContainsFunc_float32_float32.c : List V → Hp → T V := cdQ slices_ContainsFunc_float32_float32.cd (fun a => .br (slices_ContainsFunc_float32_float32.ok a.1 a.2) (.leaf (slices_ContainsFunc_float32_float32.enc a (slices_ContainsFunc_float32_float32 a.1 a.2))) .bad)
theorem slices_ContainsFunc_float32_float32.run (a : Nat × List Nat) : runF slices_ContainsFunc_float32_float32.C Try.f51.results.toList slices_ContainsFunc_float32_float32.b (slices_ContainsFunc_float32_float32.cd.enc a).1 (slices_ContainsFunc_float32_float32.cd.enc a).2 = (slices_ContainsFunc_float32_float32.tr a).map fun r => (slices_ContainsFunc_float32_float32.enc a r, (slices_ContainsFunc_float32_float32.cd.enc a).2) := by kernel_rfl
theorem slices_ContainsFunc_float32_float32.cok : OKq Try.prog 51 slices_ContainsFunc_float32_float32.c := con_q' slices_ContainsFunc_float32_float32.cd slices_ContainsFunc_float32_float32.hC Try.func51 (by kernel_rfl) (by kernel_rfl) (by kernel_rfl) slices_ContainsFunc_float32_float32.lp (fun a => by kernel_rfl) slices_ContainsFunc_float32_float32.run (Tells.ok (tree := slices_ContainsFunc_float32_float32.tr))
/-! ### impl_areAmounts -/
noncomputable def impl_areAmounts.b : Code := bodyOf Try.f64
noncomputable def impl_areAmounts.C : Ctx := { ty := tys, fn := [(51, .q slices_ContainsFunc_float32_float32.c)], lp := [], n := 6, k := 1 }
theorem impl_areAmounts.hC : CtxOK Try.prog impl_areAmounts.C := CtxOK.of mo tys_ok (FnsOK.cons slices_ContainsFunc_float32_float32.cok FnsOK.nil)
theorem impl_areAmounts.lp : LpOK Try.prog impl_areAmounts.C impl_areAmounts.b := (LpOK.nil (by kernel_rfl))
noncomputable def impl_areAmounts.t (x0 : Nat) (x1 : List Nat) : T Bool :=
  .br (slices_ContainsFunc_float32_float32.ok x0 x1)
  (.leaf (!(slices_ContainsFunc_float32_float32 x0 x1)))
  .bad
noncomputable def impl_areAmounts (x0 : Nat) (x1 : List Nat) : Bool := (impl_areAmounts.t x0 x1).val
noncomputable def impl_areAmounts.ok (x0 : Nat) (x1 : List Nat) : Bool := (impl_areAmounts.t x0 x1).ok
def impl_areAmounts.cd : Cd (Nat × List Nat) (List V × Hp) := Cd.iso (Cd.pair (Cd.cons (Cd.own 0) Cd.nil) (Cd.cons (Cd.rw 22 1 (Cd.fs .f32)) Cd.nil)) (fun a => (a.1.1, a.2.1)) (fun a => ((a.1, ()), (a.2, ()))) (fun _ => rfl)
noncomputable def impl_areAmounts.tr (a : Nat × List Nat) : T Bool := impl_areAmounts.t a.1 a.2
def impl_areAmounts.enc : (Nat × List Nat) → Bool → V := fun a r => .bo r
noncomputable def impl_areAmounts.c : List V → Hp → T V := cdQ impl_areAmounts.cd (fun a => .br (impl_areAmounts.ok a.1 a.2) (.leaf (impl_areAmounts.enc a (impl_areAmounts a.1 a.2))) .bad)
theorem impl_areAmounts.run (a : Nat × List Nat) : runF impl_areAmounts.C Try.f64.results.toList impl_areAmounts.b (impl_areAmounts.cd.enc a).1 (impl_areAmounts.cd.enc a).2 = (impl_areAmounts.tr a).map fun r => (impl_areAmounts.enc a r, (impl_areAmounts.cd.enc a).2) := by kernel_rfl
theorem impl_areAmounts.cok : OKq Try.prog 64 impl_areAmounts.c := con_q' impl_areAmounts.cd impl_areAmounts.hC Try.func64 (by kernel_rfl) (by kernel_rfl) (by kernel_rfl) impl_areAmounts.lp (fun a => by kernel_rfl) impl_areAmounts.run (Tells.ok (tree := impl_areAmounts.tr))
/-! ### impl_IsRate -/
noncomputable def impl_IsRate.b : Code := bodyOf Try.f53
noncomputable def impl_IsRate.C : Ctx := { ty := tys, fn := [(76, .q impl_between.c)], lp := [], n := 5, k := 0 }
theorem impl_IsRate.hC : CtxOK Try.prog impl_IsRate.C := CtxOK.of mo tys_ok (FnsOK.cons impl_between.cok FnsOK.nil)
theorem impl_IsRate.lp : LpOK Try.prog impl_IsRate.C impl_IsRate.b := (LpOK.nil (by kernel_rfl))
noncomputable def impl_IsRate.t (x0 : Nat) : T Bool :=
  .leaf (impl_between x0 0 1149239296)
noncomputable def impl_IsRate (x0 : Nat) : Bool := (impl_IsRate.t x0).val
def impl_IsRate.cd : Cd Nat (List V × Hp) := Cd.iso (Cd.pair (Cd.cons (Cd.fl .f32) Cd.nil) Cd.nil) (fun a => a.1.1) (fun a => ((a, ()), ())) (fun _ => rfl)
noncomputable def impl_IsRate.tr (a : Nat) : T Bool := impl_IsRate.t a
def impl_IsRate.enc : Nat → Bool → V := fun a r => .bo r
noncomputable def impl_IsRate.c : List V → Hp → T V := cdQ impl_IsRate.cd (fun a => .leaf (impl_IsRate.enc a (impl_IsRate a)))
theorem impl_IsRate.run (a : Nat) : runF impl_IsRate.C Try.f53.results.toList impl_IsRate.b (impl_IsRate.cd.enc a).1 (impl_IsRate.cd.enc a).2 = (impl_IsRate.tr a).map fun r => (impl_IsRate.enc a r, (impl_IsRate.cd.enc a).2) := by kernel_rfl
theorem impl_IsRate.cok : OKq Try.prog 53 impl_IsRate.c := con_q' impl_IsRate.cd impl_IsRate.hC Try.func53 (by kernel_rfl) (by kernel_rfl) (by kernel_rfl) impl_IsRate.lp (fun a => by kernel_rfl) impl_IsRate.run (Tells.val (tree := impl_IsRate.tr) fun a => by kernel_rfl)
/-! ### impl_IsPart -/
noncomputable def impl_IsPart.b : Code := bodyOf Try.f65
noncomputable def impl_IsPart.C : Ctx := { ty := tys, fn := [(76, .q impl_between.c)], lp := [], n := 5, k := 0 }
theorem impl_IsPart.hC : CtxOK Try.prog impl_IsPart.C := CtxOK.of mo tys_ok (FnsOK.cons impl_between.cok FnsOK.nil)
theorem impl_IsPart.lp : LpOK Try.prog impl_IsPart.C impl_IsPart.b := (LpOK.nil (by kernel_rfl))
noncomputable def impl_IsPart.t (x0 : Nat) : T Bool :=
  .leaf (impl_between x0 0 1065353216)
noncomputable def impl_IsPart (x0 : Nat) : Bool := (impl_IsPart.t x0).val
def impl_IsPart.cd : Cd Nat (List V × Hp) := Cd.iso (Cd.pair (Cd.cons (Cd.fl .f32) Cd.nil) Cd.nil) (fun a => a.1.1) (fun a => ((a, ()), ())) (fun _ => rfl)
noncomputable def impl_IsPart.tr (a : Nat) : T Bool := impl_IsPart.t a
def impl_IsPart.enc : Nat → Bool → V := fun a r => .bo r
noncomputable def impl_IsPart.c : List V → Hp → T V := cdQ impl_IsPart.cd (fun a => .leaf (impl_IsPart.enc a (impl_IsPart a)))
theorem impl_IsPart.run (a : Nat) : runF impl_IsPart.C Try.f65.results.toList impl_IsPart.b (impl_IsPart.cd.enc a).1 (impl_IsPart.cd.enc a).2 = (impl_IsPart.tr a).map fun r => (impl_IsPart.enc a r, (impl_IsPart.cd.enc a).2) := by kernel_rfl
theorem impl_IsPart.cok : OKq Try.prog 65 impl_IsPart.c := con_q' impl_IsPart.cd impl_IsPart.hC Try.func65 (by kernel_rfl) (by kernel_rfl) (by kernel_rfl) impl_IsPart.lp (fun a => by kernel_rfl) impl_IsPart.run (Tells.val (tree := impl_IsPart.tr) fun a => by kernel_rfl)
/-! ### impl_ValidStone -/
noncomputable def impl_ValidStone.b : Code := bodyOf Try.f36
noncomputable def impl_ValidStone.C : Ctx := { ty := tys, fn := [(53, .q impl_IsRate.c), (65, .q impl_IsPart.c)], lp := [], n := 21, k := 0 }
theorem impl_ValidStone.hC : CtxOK Try.prog impl_ValidStone.C := CtxOK.of mo tys_ok (FnsOK.cons impl_IsRate.cok (FnsOK.cons impl_IsPart.cok FnsOK.nil))
theorem impl_ValidStone.lp : LpOK Try.prog impl_ValidStone.C impl_ValidStone.b := (LpOK.nil (by kernel_rfl))
noncomputable def impl_ValidStone.t (x0 : Nat) (x1 : Nat) (x2 : Nat) (x3 : Nat) : T Bool :=
  .br (impl_IsRate x0)
  (.br (impl_IsRate x1)
   (.br (impl_IsRate x2)
    (.leaf (impl_IsPart x3))
    (.leaf false))
   (.leaf false))
  (.leaf false)
noncomputable def impl_ValidStone (x0 : Nat) (x1 : Nat) (x2 : Nat) (x3 : Nat) : Bool := (impl_ValidStone.t x0 x1 x2 x3).val
def impl_ValidStone.cd : Cd (Nat × Nat × Nat × Nat) (List V × Hp) := Cd.iso (Cd.pair (Cd.cons (Cd.agg (Cd.cons (Cd.fl .f32) (Cd.cons (Cd.fl .f32) (Cd.cons (Cd.fl .f32) (Cd.cons (Cd.fl .f32) Cd.nil))))) Cd.nil) Cd.nil) (fun a => (a.1.1.1, a.1.1.2.1, a.1.1.2.2.1, a.1.1.2.2.2.1)) (fun a => (((a.1, (a.2.1, (a.2.2.1, (a.2.2.2, ())))), ()), ())) (fun _ => rfl)
noncomputable def impl_ValidStone.tr (a : Nat × Nat × Nat × Nat) : T Bool := impl_ValidStone.t a.1 a.2.1 a.2.2.1 a.2.2.2
def impl_ValidStone.enc : (Nat × Nat × Nat × Nat) → Bool → V := fun a r => .bo r
noncomputable def impl_ValidStone.c : List V → Hp → T V := cdQ impl_ValidStone.cd (fun a => .leaf (impl_ValidStone.enc a (impl_ValidStone a.1 a.2.1 a.2.2.1 a.2.2.2)))
theorem impl_ValidStone.run (a : Nat × Nat × Nat × Nat) : runF impl_ValidStone.C Try.f36.results.toList impl_ValidStone.b (impl_ValidStone.cd.enc a).1 (impl_ValidStone.cd.enc a).2 = (impl_ValidStone.tr a).map fun r => (impl_ValidStone.enc a r, (impl_ValidStone.cd.enc a).2) := by kernel_rfl
theorem impl_ValidStone.cok : OKq Try.prog 36 impl_ValidStone.c := con_q' impl_ValidStone.cd impl_ValidStone.hC Try.func36 (by kernel_rfl) (by kernel_rfl) (by kernel_rfl) impl_ValidStone.lp (fun a => by kernel_rfl) impl_ValidStone.run (Tells.val (tree := impl_ValidStone.tr) fun a => by kernel_rfl)
/-! ### impl_stoneCode -/
noncomputable def impl_stoneCode.b : Code := bodyOf Try.f49
noncomputable def impl_stoneCode.C : Ctx := { ty := tys, fn := [(36, .q impl_ValidStone.c)], lp := [], n := 12, k := 0 }
theorem impl_stoneCode.hC : CtxOK Try.prog impl_stoneCode.C := CtxOK.of mo tys_ok (FnsOK.cons impl_ValidStone.cok FnsOK.nil)
theorem impl_stoneCode.lp : LpOK Try.prog impl_stoneCode.C impl_stoneCode.b := (LpOK.nil (by kernel_rfl))
noncomputable def impl_stoneCode.t (x0 : Nat) (x1 : Nat) (x2 : Nat) (x3 : Nat) (x4 : Bool) : T Int :=
  .br (!(impl_ValidStone x0 x1 x2 x3))
  (.leaf (1 : Int))
  (.br (!x4)
   (.leaf (2 : Int))
   (.leaf (0 : Int)))
noncomputable def impl_stoneCode (x0 : Nat) (x1 : Nat) (x2 : Nat) (x3 : Nat) (x4 : Bool) : Int := (impl_stoneCode.t x0 x1 x2 x3 x4).val
def impl_stoneCode.cd : Cd (Nat × Nat × Nat × Nat × Bool) (List V × Hp) := Cd.iso (Cd.pair (Cd.cons (Cd.agg (Cd.cons (Cd.fl .f32) (Cd.cons (Cd.fl .f32) (Cd.cons (Cd.fl .f32) (Cd.cons (Cd.fl .f32) Cd.nil))))) (Cd.cons Cd.bo Cd.nil)) Cd.nil) (fun a => (a.1.1.1, a.1.1.2.1, a.1.1.2.2.1, a.1.1.2.2.2.1, a.1.2.1)) (fun a => (((a.1, (a.2.1, (a.2.2.1, (a.2.2.2.1, ())))), (a.2.2.2.2, ())), ())) (fun _ => rfl)
noncomputable def impl_stoneCode.tr (a : Nat × Nat × Nat × Nat × Bool) : T Int := impl_stoneCode.t a.1 a.2.1 a.2.2.1 a.2.2.2.1 a.2.2.2.2
def impl_stoneCode.enc : (Nat × Nat × Nat × Nat × Bool) → Int → V := fun a r => .it .i64 r
noncomputable def impl_stoneCode.c : List V → Hp → T V := cdQ impl_stoneCode.cd (fun a => .leaf (impl_stoneCode.enc a (impl_stoneCode a.1 a.2.1 a.2.2.1 a.2.2.2.1 a.2.2.2.2)))
theorem impl_stoneCode.run (a : Nat × Nat × Nat × Nat × Bool) : runF impl_stoneCode.C Try.f49.results.toList impl_stoneCode.b (impl_stoneCode.cd.enc a).1 (impl_stoneCode.cd.enc a).2 = (impl_stoneCode.tr a).map fun r => (impl_stoneCode.enc a r, (impl_stoneCode.cd.enc a).2) := by kernel_rfl
theorem impl_stoneCode.cok : OKq Try.prog 49 impl_stoneCode.c := con_q' impl_stoneCode.cd impl_stoneCode.hC Try.func49 (by kernel_rfl) (by kernel_rfl) (by kernel_rfl) impl_stoneCode.lp (fun a => by kernel_rfl) impl_stoneCode.run (Tells.val (tree := impl_stoneCode.tr) fun a => by kernel_rfl)
/-! ### impl_Stone_rubbed -/
noncomputable def impl_Stone_rubbed.b : Code := bodyOf Try.f82
noncomputable def impl_Stone_rubbed.C : Ctx := { ty := tys, fn := [], lp := [], n := 16, k := 1 }
theorem impl_Stone_rubbed.hC : CtxOK Try.prog impl_Stone_rubbed.C := CtxOK.of mo tys_ok FnsOK.nil
theorem impl_Stone_rubbed.lp : LpOK Try.prog impl_Stone_rubbed.C impl_Stone_rubbed.b := (LpOK.nil (by kernel_rfl))
noncomputable def impl_Stone_rubbed.t (x0 : Nat) (x1 : Nat) (x2 : Nat) (x3 : Nat) (x4 : Nat) : T Nat :=
  .leaf (fadd .f32 x1 (fmul .f32 x2 x0))
noncomputable def impl_Stone_rubbed (x0 : Nat) (x1 : Nat) (x2 : Nat) (x3 : Nat) (x4 : Nat) : Nat := (impl_Stone_rubbed.t x0 x1 x2 x3 x4).val
def impl_Stone_rubbed.cd : Cd (Nat × Nat × Nat × Nat × Nat) (List V × Hp) := Cd.iso (Cd.pair (Cd.cons (Cd.pt 0 (Cd.natc 0)) (Cd.cons (Cd.fl .f32) Cd.nil)) (Cd.cons (Cd.rw 28 4 (Cd.vs (Cd.cons (Cd.fl .f32) (Cd.cons (Cd.fl .f32) (Cd.cons (Cd.fl .f32) (Cd.cons (Cd.fl .f32) Cd.nil)))))) Cd.nil)) (fun a => (a.1.2.1, a.2.1.1, a.2.1.2.1, a.2.1.2.2.1, a.2.1.2.2.2.1)) (fun a => (((), (a.1, ())), ((a.2.1, (a.2.2.1, (a.2.2.2.1, (a.2.2.2.2, ())))), ()))) (fun _ => rfl)
noncomputable def impl_Stone_rubbed.tr (a : Nat × Nat × Nat × Nat × Nat) : T Nat := impl_Stone_rubbed.t a.1 a.2.1 a.2.2.1 a.2.2.2.1 a.2.2.2.2
def impl_Stone_rubbed.enc : (Nat × Nat × Nat × Nat × Nat) → Nat → V := fun a r => .fl .f32 r
noncomputable def impl_Stone_rubbed.c : List V → Hp → T V := cdQ impl_Stone_rubbed.cd (fun a => .leaf (impl_Stone_rubbed.enc a (impl_Stone_rubbed a.1 a.2.1 a.2.2.1 a.2.2.2.1 a.2.2.2.2)))
theorem impl_Stone_rubbed.run (a : Nat × Nat × Nat × Nat × Nat) : runF impl_Stone_rubbed.C Try.f82.results.toList impl_Stone_rubbed.b (impl_Stone_rubbed.cd.enc a).1 (impl_Stone_rubbed.cd.enc a).2 = (impl_Stone_rubbed.tr a).map fun r => (impl_Stone_rubbed.enc a r, (impl_Stone_rubbed.cd.enc a).2) := by kernel_rfl
theorem impl_Stone_rubbed.cok : OKq Try.prog 82 impl_Stone_rubbed.c := con_q' impl_Stone_rubbed.cd impl_Stone_rubbed.hC Try.func82 (by kernel_rfl) (by kernel_rfl) (by kernel_rfl) impl_Stone_rubbed.lp (fun a => by kernel_rfl) impl_Stone_rubbed.run (Tells.val (tree := impl_Stone_rubbed.tr) fun a => by kernel_rfl)
/-! ### impl_Stone_load -/
noncomputable def impl_Stone_load.b : Code := bodyOf Try.f58
noncomputable def impl_Stone_load.C : Ctx := { ty := tys, fn := [(82, .q impl_Stone_rubbed.c)], lp := [], n := 17, k := 1 }
theorem impl_Stone_load.hC : CtxOK Try.prog impl_Stone_load.C := CtxOK.of mo tys_ok (FnsOK.cons impl_Stone_rubbed.cok FnsOK.nil)
theorem impl_Stone_load.lp : LpOK Try.prog impl_Stone_load.C impl_Stone_load.b := (LpOK.nil (by kernel_rfl))
noncomputable def impl_Stone_load.t (x0 : Nat) (x1 : Nat) (x2 : Nat) (x3 : Nat) (x4 : Nat) (x5 : Nat) : T Nat :=
  .leaf (fadd .f32 (impl_Stone_rubbed x0 x2 x3 x4 x5) (fmul .f32 x4 x1))
noncomputable def impl_Stone_load (x0 : Nat) (x1 : Nat) (x2 : Nat) (x3 : Nat) (x4 : Nat) (x5 : Nat) : Nat := (impl_Stone_load.t x0 x1 x2 x3 x4 x5).val
def impl_Stone_load.cd : Cd (Nat × Nat × Nat × Nat × Nat × Nat) (List V × Hp) := Cd.iso (Cd.pair (Cd.cons (Cd.pt 0 (Cd.natc 0)) (Cd.cons (Cd.fl .f32) (Cd.cons (Cd.fl .f32) Cd.nil))) (Cd.cons (Cd.rw 28 4 (Cd.vs (Cd.cons (Cd.fl .f32) (Cd.cons (Cd.fl .f32) (Cd.cons (Cd.fl .f32) (Cd.cons (Cd.fl .f32) Cd.nil)))))) Cd.nil)) (fun a => (a.1.2.1, a.1.2.2.1, a.2.1.1, a.2.1.2.1, a.2.1.2.2.1, a.2.1.2.2.2.1)) (fun a => (((), (a.1, (a.2.1, ()))), ((a.2.2.1, (a.2.2.2.1, (a.2.2.2.2.1, (a.2.2.2.2.2, ())))), ()))) (fun _ => rfl)
noncomputable def impl_Stone_load.tr (a : Nat × Nat × Nat × Nat × Nat × Nat) : T Nat := impl_Stone_load.t a.1 a.2.1 a.2.2.1 a.2.2.2.1 a.2.2.2.2.1 a.2.2.2.2.2
def impl_Stone_load.enc : (Nat × Nat × Nat × Nat × Nat × Nat) → Nat → V := fun a r => .fl .f32 r
noncomputable def impl_Stone_load.c : List V → Hp → T V := cdQ impl_Stone_load.cd (fun a => .leaf (impl_Stone_load.enc a (impl_Stone_load a.1 a.2.1 a.2.2.1 a.2.2.2.1 a.2.2.2.2.1 a.2.2.2.2.2)))
theorem impl_Stone_load.run (a : Nat × Nat × Nat × Nat × Nat × Nat) : runF impl_Stone_load.C Try.f58.results.toList impl_Stone_load.b (impl_Stone_load.cd.enc a).1 (impl_Stone_load.cd.enc a).2 = (impl_Stone_load.tr a).map fun r => (impl_Stone_load.enc a r, (impl_Stone_load.cd.enc a).2) := by kernel_rfl
theorem impl_Stone_load.cok : OKq Try.prog 58 impl_Stone_load.c := con_q' impl_Stone_load.cd impl_Stone_load.hC Try.func58 (by kernel_rfl) (by kernel_rfl) (by kernel_rfl) impl_Stone_load.lp (fun a => by kernel_rfl) impl_Stone_load.run (Tells.val (tree := impl_Stone_load.tr) fun a => by kernel_rfl)
/-! ### impl_Stone_steadySpeed_1 -/
noncomputable def impl_Stone_steadySpeed_1.b : Code := bodyOf Try.f95
noncomputable def impl_Stone_steadySpeed_1.C : Ctx := { ty := tys, fn := [(58, .q impl_Stone_load.c)], lp := [], n := 9, k := 3 }
theorem impl_Stone_steadySpeed_1.hC : CtxOK Try.prog impl_Stone_steadySpeed_1.C := CtxOK.of mo tys_ok (FnsOK.cons impl_Stone_load.cok FnsOK.nil)
theorem impl_Stone_steadySpeed_1.lp : LpOK Try.prog impl_Stone_steadySpeed_1.C impl_Stone_steadySpeed_1.b := (LpOK.nil (by kernel_rfl))
noncomputable def impl_Stone_steadySpeed_1.t (x0 : Nat) (x1 : Nat) (x2 : Nat) (x3 : Nat) (x4 : Nat) (x5 : Nat) : T Nat :=
  .leaf (impl_Stone_load x0 x1 x2 x3 x4 x5)
noncomputable def impl_Stone_steadySpeed_1 (x0 : Nat) (x1 : Nat) (x2 : Nat) (x3 : Nat) (x4 : Nat) (x5 : Nat) : Nat := (impl_Stone_steadySpeed_1.t x0 x1 x2 x3 x4 x5).val
def impl_Stone_steadySpeed_1.cd : Cd (Nat × Nat × Nat × Nat × Nat × Nat) (List V × Hp) := Cd.iso (Cd.pair (Cd.cons (Cd.fl .f32) (Cd.cons (Cd.pt 0 (Cd.natc 0)) (Cd.cons (Cd.pt 1 (Cd.natc 0)) Cd.nil))) (Cd.cons (Cd.rw 95 1 (Cd.vs (Cd.cons (Cd.pt 2 (Cd.natc 0)) Cd.nil))) (Cd.cons (Cd.rw 22 1 (Cd.vs (Cd.cons (Cd.fl .f32) Cd.nil))) (Cd.cons (Cd.rw 28 4 (Cd.vs (Cd.cons (Cd.fl .f32) (Cd.cons (Cd.fl .f32) (Cd.cons (Cd.fl .f32) (Cd.cons (Cd.fl .f32) Cd.nil)))))) Cd.nil)))) (fun a => (a.1.1, a.2.2.1.1, a.2.2.2.1.1, a.2.2.2.1.2.1, a.2.2.2.1.2.2.1, a.2.2.2.1.2.2.2.1)) (fun a => ((a.1, ((), ((), ()))), (((), ()), ((a.2.1, ()), ((a.2.2.1, (a.2.2.2.1, (a.2.2.2.2.1, (a.2.2.2.2.2, ())))), ()))))) (fun _ => rfl)
noncomputable def impl_Stone_steadySpeed_1.tr (a : Nat × Nat × Nat × Nat × Nat × Nat) : T Nat := impl_Stone_steadySpeed_1.t a.1 a.2.1 a.2.2.1 a.2.2.2.1 a.2.2.2.2.1 a.2.2.2.2.2
def impl_Stone_steadySpeed_1.enc : (Nat × Nat × Nat × Nat × Nat × Nat) → Nat → V := fun a r => .fl .f32 r
noncomputable def impl_Stone_steadySpeed_1.c : List V → Hp → T V := cdQ impl_Stone_steadySpeed_1.cd (fun a => .leaf (impl_Stone_steadySpeed_1.enc a (impl_Stone_steadySpeed_1 a.1 a.2.1 a.2.2.1 a.2.2.2.1 a.2.2.2.2.1 a.2.2.2.2.2)))
theorem impl_Stone_steadySpeed_1.run (a : Nat × Nat × Nat × Nat × Nat × Nat) : runF impl_Stone_steadySpeed_1.C Try.f95.results.toList impl_Stone_steadySpeed_1.b (impl_Stone_steadySpeed_1.cd.enc a).1 (impl_Stone_steadySpeed_1.cd.enc a).2 = (impl_Stone_steadySpeed_1.tr a).map fun r => (impl_Stone_steadySpeed_1.enc a r, (impl_Stone_steadySpeed_1.cd.enc a).2) := by kernel_rfl
theorem impl_Stone_steadySpeed_1.cok : OKq Try.prog 95 impl_Stone_steadySpeed_1.c := con_q' impl_Stone_steadySpeed_1.cd impl_Stone_steadySpeed_1.hC Try.func95 (by kernel_rfl) (by kernel_rfl) (by kernel_rfl) impl_Stone_steadySpeed_1.lp (fun a => by kernel_rfl) impl_Stone_steadySpeed_1.run (Tells.val (tree := impl_Stone_steadySpeed_1.tr) fun a => by kernel_rfl)
/-! ### impl_halved -/
noncomputable def impl_halved.b : Code := bodyOf Try.f84
noncomputable def impl_halved.C : Ctx := { ty := tys, fn := [], lp := [], n := 9, k := 0 }
theorem impl_halved.hC : CtxOK Try.prog impl_halved.C := CtxOK.of mo tys_ok FnsOK.nil
theorem impl_halved.lp : LpOK Try.prog impl_halved.C impl_halved.b := (LpOK.nil (by kernel_rfl))
noncomputable def impl_halved.t (x0 : Nat) (x1 : Nat) : T Nat :=
  .leaf (fdiv .f32 (fadd .f32 x0 x1) 1073741824)
noncomputable def impl_halved (x0 : Nat) (x1 : Nat) : Nat := (impl_halved.t x0 x1).val
def impl_halved.cd : Cd (Nat × Nat) (List V × Hp) := Cd.iso (Cd.pair (Cd.cons (Cd.fl .f32) (Cd.cons (Cd.fl .f32) Cd.nil)) Cd.nil) (fun a => (a.1.1, a.1.2.1)) (fun a => ((a.1, (a.2, ())), ())) (fun _ => rfl)
noncomputable def impl_halved.tr (a : Nat × Nat) : T Nat := impl_halved.t a.1 a.2
def impl_halved.enc : (Nat × Nat) → Nat → V := fun a r => .fl .f32 r
noncomputable def impl_halved.c : List V → Hp → T V := cdQ impl_halved.cd (fun a => .leaf (impl_halved.enc a (impl_halved a.1 a.2)))
theorem impl_halved.run (a : Nat × Nat) : runF impl_halved.C Try.f84.results.toList impl_halved.b (impl_halved.cd.enc a).1 (impl_halved.cd.enc a).2 = (impl_halved.tr a).map fun r => (impl_halved.enc a r, (impl_halved.cd.enc a).2) := by kernel_rfl
theorem impl_halved.cok : OKq Try.prog 84 impl_halved.c := con_q' impl_halved.cd impl_halved.hC Try.func84 (by kernel_rfl) (by kernel_rfl) (by kernel_rfl) impl_halved.lp (fun a => by kernel_rfl) impl_halved.run (Tells.val (tree := impl_halved.tr) fun a => by kernel_rfl)
/-! ### impl_steady -/
noncomputable def impl_steady.b : Code := bodyOf Try.f61
noncomputable def impl_steady.l3.s (x0 : Nat) (x1 : Nat) (x2 : Nat) (x3 : Int) (x4 : Int) (x5 : Nat) (x6 : Nat) (x7 : Nat) (x8 : Nat) (x9 : Nat) : T ((Nat × Nat × Int) ⊕ Nat) :=
  .br (decide (x4 < x3))
  (.br (fgt .f32 (impl_Stone_steadySpeed_1 (impl_halved x1 x2) x5 x6 x7 x8 x9) x0)
   (.leaf (.inl (x1, (impl_halved x1 x2), (IntKind.wrap .i64 (x4 + (1 : Int))))))
   (.leaf (.inl ((impl_halved x1 x2), x2, (IntKind.wrap .i64 (x4 + (1 : Int)))))))
  (.leaf (.inr x1))
noncomputable def impl_steady.l3.st (p : Nat × Int × Nat × Nat × Nat × Nat × Nat) (x : Nat × Nat × Int) : T ((Nat × Nat × Int) ⊕ Nat) := impl_steady.l3.s p.1 x.1 x.2.1 p.2.1 x.2.2 p.2.2.1 p.2.2.2.1 p.2.2.2.2.1 p.2.2.2.2.2.1 p.2.2.2.2.2.2
noncomputable def impl_steady.l3.r (p : Nat × Int × Nat × Nat × Nat × Nat × Nat) (x : Nat × Nat × Int) : Option Nat := iterT (impl_steady.l3.st p) manyRounds x
def impl_steady.l3.cd : Cd ((Nat × Int × Nat × Nat × Nat × Nat × Nat) × (Nat × Nat × Int)) (List V × Hp) := Cd.iso (Cd.pair (Cd.cons (Cd.fl .f32) (Cd.cons (Cd.fu 95 (Cd.cons (Cd.pt 0 (Cd.natc 0)) (Cd.cons (Cd.pt 1 (Cd.natc 0)) Cd.nil))) (Cd.cons (Cd.fl .f32) (Cd.cons (Cd.fl .f32) (Cd.cons (Cd.it .i64) (Cd.cons (Cd.it .i64) Cd.nil)))))) (Cd.cons (Cd.rw 95 1 (Cd.vs (Cd.cons (Cd.pt 2 (Cd.natc 0)) Cd.nil))) (Cd.cons (Cd.rw 22 1 (Cd.vs (Cd.cons (Cd.fl .f32) Cd.nil))) (Cd.cons (Cd.rw 28 4 (Cd.vs (Cd.cons (Cd.fl .f32) (Cd.cons (Cd.fl .f32) (Cd.cons (Cd.fl .f32) (Cd.cons (Cd.fl .f32) Cd.nil)))))) Cd.nil)))) (fun a => ((a.1.1, a.1.2.2.2.2.1, a.2.2.1.1, a.2.2.2.1.1, a.2.2.2.1.2.1, a.2.2.2.1.2.2.1, a.2.2.2.1.2.2.2.1), (a.1.2.2.1, a.1.2.2.2.1, a.1.2.2.2.2.2.1))) (fun a => ((a.1.1, (((), ((), ())), (a.2.1, (a.2.2.1, (a.1.2.1, (a.2.2.2, ())))))), (((), ()), ((a.1.2.2.1, ()), ((a.1.2.2.2.1, (a.1.2.2.2.2.1, (a.1.2.2.2.2.2.1, (a.1.2.2.2.2.2.2, ())))), ()))))) (fun _ => rfl)
def impl_steady.l3.out (p : Nat × Int × Nat × Nat × Nat × Nat × Nat) : Nat → X × List V × Hp := (fun r => (.ex 0, [.fl .f32 r], [some ⟨true, 95, 1, .vs [.pt 2 0]⟩, some ⟨true, 22, 1, .vs [.fl .f32 p.2.2.1]⟩, some ⟨true, 28, 4, .vs [.fl .f32 p.2.2.2.1, .fl .f32 p.2.2.2.2.1, .fl .f32 p.2.2.2.2.2.1, .fl .f32 p.2.2.2.2.2.2]⟩]))
def impl_steady.l3.ex (p : Nat × Int × Nat × Nat × Nat × Nat × Nat) : Nat → T (X × List V × Hp) := leafT (fun r => (.ex 0, [.fl .f32 r], [some ⟨true, 95, 1, .vs [.pt 2 0]⟩, some ⟨true, 22, 1, .vs [.fl .f32 p.2.2.1]⟩, some ⟨true, 28, 4, .vs [.fl .f32 p.2.2.2.1, .fl .f32 p.2.2.2.2.1, .fl .f32 p.2.2.2.2.2.1, .fl .f32 p.2.2.2.2.2.2]⟩]))
noncomputable def impl_steady.l3.c : List V → Hp → T (X × List V × Hp) := cdL impl_steady.l3.cd fun x => optT (impl_steady.l3.r x.1 x.2) (impl_steady.l3.ex x.1)
noncomputable def impl_steady.C : Ctx := { ty := tys, fn := [(84, .q impl_halved.c), (95, .q impl_Stone_steadySpeed_1.c)], lp := [(3, ⟨[0, 2, 7, 8, 10, 11], [7], impl_steady.l3.c⟩)], n := 25, k := 3 }
theorem impl_steady.hC : CtxOK Try.prog impl_steady.C := CtxOK.of mo tys_ok (FnsOK.cons impl_halved.cok (FnsOK.cons impl_Stone_steadySpeed_1.cok FnsOK.nil))
noncomputable def impl_steady.b3 : Code := (nthC (loopsOf impl_steady.b) 0)
theorem impl_steady.lp3 : LpOK Try.prog impl_steady.C impl_steady.b3 := (LpOK.nil (by kernel_rfl))
theorem impl_steady.l3.round (p : Nat × Int × Nat × Nat × Nat × Nat × Nat) (s : Nat × Nat × Int) : roundL impl_steady.C [0, 2, 7, 8, 10, 11] [7] impl_steady.b3 (impl_steady.l3.cd.enc (p, s)).1 (impl_steady.l3.cd.enc (p, s)).2 = (impl_steady.l3.st p s).map (encSum (fun s => impl_steady.l3.cd.enc (p, s)) (impl_steady.l3.out p)) := by kernel_rfl
theorem impl_steady.l3.lok : LoopOK Try.prog impl_steady.C ⟨[0, 2, 7, 8, 10, 11], [7], impl_steady.l3.c⟩ impl_steady.b3 := loop_cd impl_steady.l3.cd impl_steady.hC impl_steady.lp3 impl_steady.l3.round fun p => Gets.leaf
theorem impl_steady.lp : LpOK Try.prog impl_steady.C impl_steady.b := lp_of (by kernel_rfl) (LpsOK.cons (k := 3) (by kernel_rfl) (by kernel_rfl) impl_steady.l3.lok LpsOK.nil)
noncomputable def impl_steady.t (x0 : Nat) (x1 : Int) (x2 : Nat) (x3 : Nat) (x4 : Nat) (x5 : Nat) (x6 : Nat) : T Nat :=
  .br (Option.isSome (impl_steady.l3.r (x0, x1, x2, x3, x4, x5, x6) (0, 1149239296, (0 : Int))))
  (.leaf (Option.getD (impl_steady.l3.r (x0, x1, x2, x3, x4, x5, x6) (0, 1149239296, (0 : Int))) default))
  .bad
noncomputable def impl_steady (x0 : Nat) (x1 : Int) (x2 : Nat) (x3 : Nat) (x4 : Nat) (x5 : Nat) (x6 : Nat) : Nat := (impl_steady.t x0 x1 x2 x3 x4 x5 x6).val
noncomputable def impl_steady.ok (x0 : Nat) (x1 : Int) (x2 : Nat) (x3 : Nat) (x4 : Nat) (x5 : Nat) (x6 : Nat) : Bool := (impl_steady.t x0 x1 x2 x3 x4 x5 x6).ok
def impl_steady.cd : Cd (Nat × Int × Nat × Nat × Nat × Nat × Nat) (List V × Hp) := Cd.iso (Cd.pair (Cd.cons (Cd.fl .f32) (Cd.cons (Cd.it .i64) (Cd.cons (Cd.fu 95 (Cd.cons (Cd.pt 0 (Cd.natc 0)) (Cd.cons (Cd.pt 1 (Cd.natc 0)) Cd.nil))) Cd.nil))) (Cd.cons (Cd.rw 95 1 (Cd.vs (Cd.cons (Cd.pt 2 (Cd.natc 0)) Cd.nil))) (Cd.cons (Cd.rw 22 1 (Cd.vs (Cd.cons (Cd.fl .f32) Cd.nil))) (Cd.cons (Cd.rw 28 4 (Cd.vs (Cd.cons (Cd.fl .f32) (Cd.cons (Cd.fl .f32) (Cd.cons (Cd.fl .f32) (Cd.cons (Cd.fl .f32) Cd.nil)))))) Cd.nil)))) (fun a => (a.1.1, a.1.2.1, a.2.2.1.1, a.2.2.2.1.1, a.2.2.2.1.2.1, a.2.2.2.1.2.2.1, a.2.2.2.1.2.2.2.1)) (fun a => ((a.1, (a.2.1, (((), ((), ())), ()))), (((), ()), ((a.2.2.1, ()), ((a.2.2.2.1, (a.2.2.2.2.1, (a.2.2.2.2.2.1, (a.2.2.2.2.2.2, ())))), ()))))) (fun _ => rfl)
noncomputable def impl_steady.tr (a : Nat × Int × Nat × Nat × Nat × Nat × Nat) : T Nat := impl_steady.t a.1 a.2.1 a.2.2.1 a.2.2.2.1 a.2.2.2.2.1 a.2.2.2.2.2.1 a.2.2.2.2.2.2
def impl_steady.enc : (Nat × Int × Nat × Nat × Nat × Nat × Nat) → Nat → V := fun a r => .fl .f32 r
noncomputable def impl_steady.c : List V → Hp → T V := cdQ impl_steady.cd (fun a => .br (impl_steady.ok a.1 a.2.1 a.2.2.1 a.2.2.2.1 a.2.2.2.2.1 a.2.2.2.2.2.1 a.2.2.2.2.2.2) (.leaf (impl_steady.enc a (impl_steady a.1 a.2.1 a.2.2.1 a.2.2.2.1 a.2.2.2.2.1 a.2.2.2.2.2.1 a.2.2.2.2.2.2))) .bad)
theorem impl_steady.run (a : Nat × Int × Nat × Nat × Nat × Nat × Nat) : runF impl_steady.C Try.f61.results.toList impl_steady.b (impl_steady.cd.enc a).1 (impl_steady.cd.enc a).2 = (impl_steady.tr a).map fun r => (impl_steady.enc a r, (impl_steady.cd.enc a).2) := by kernel_rfl
theorem impl_steady.cok : OKq Try.prog 61 impl_steady.c := con_q' impl_steady.cd impl_steady.hC Try.func61 (by kernel_rfl) (by kernel_rfl) (by kernel_rfl) impl_steady.lp (fun a => by kernel_rfl) impl_steady.run (Tells.ok (tree := impl_steady.tr))
/-! ### impl_Stone_steadySpeed -/
noncomputable def impl_Stone_steadySpeed.b : Code := bodyOf Try.f78
noncomputable def impl_Stone_steadySpeed.C : Ctx := { ty := tys, fn := [(95, .q impl_Stone_steadySpeed_1.c), (61, .q impl_steady.c)], lp := [], n := 20, k := 1 }
theorem impl_Stone_steadySpeed.hC : CtxOK Try.prog impl_Stone_steadySpeed.C := CtxOK.of mo tys_ok (FnsOK.cons impl_Stone_steadySpeed_1.cok (FnsOK.cons impl_steady.cok FnsOK.nil))
theorem impl_Stone_steadySpeed.lp : LpOK Try.prog impl_Stone_steadySpeed.C impl_Stone_steadySpeed.b := (LpOK.nil (by kernel_rfl))
noncomputable def impl_Stone_steadySpeed.t (x0 : Nat) (x1 : Nat) (x2 : Int) (x3 : Nat) (x4 : Nat) (x5 : Nat) (x6 : Nat) : T (Nat × Bool) :=
  .br (fgt .f32 (impl_Stone_steadySpeed_1 0 x1 x3 x4 x5 x6) x0)
  (.leaf (0, false))
  (.br (impl_steady.ok x0 x2 x1 x3 x4 x5 x6)
   (.leaf ((impl_steady x0 x2 x1 x3 x4 x5 x6), true))
   .bad)
noncomputable def impl_Stone_steadySpeed (x0 : Nat) (x1 : Nat) (x2 : Int) (x3 : Nat) (x4 : Nat) (x5 : Nat) (x6 : Nat) : Nat × Bool := (impl_Stone_steadySpeed.t x0 x1 x2 x3 x4 x5 x6).val
noncomputable def impl_Stone_steadySpeed.ok (x0 : Nat) (x1 : Nat) (x2 : Int) (x3 : Nat) (x4 : Nat) (x5 : Nat) (x6 : Nat) : Bool := (impl_Stone_steadySpeed.t x0 x1 x2 x3 x4 x5 x6).ok
def impl_Stone_steadySpeed.cd : Cd (Nat × Nat × Int × Nat × Nat × Nat × Nat) (List V × Hp) := Cd.iso (Cd.pair (Cd.cons (Cd.pt 0 (Cd.natc 0)) (Cd.cons (Cd.fl .f32) (Cd.cons (Cd.fl .f32) (Cd.cons (Cd.it .i64) Cd.nil)))) (Cd.cons (Cd.rw 28 4 (Cd.vs (Cd.cons (Cd.fl .f32) (Cd.cons (Cd.fl .f32) (Cd.cons (Cd.fl .f32) (Cd.cons (Cd.fl .f32) Cd.nil)))))) Cd.nil)) (fun a => (a.1.2.1, a.1.2.2.1, a.1.2.2.2.1, a.2.1.1, a.2.1.2.1, a.2.1.2.2.1, a.2.1.2.2.2.1)) (fun a => (((), (a.1, (a.2.1, (a.2.2.1, ())))), ((a.2.2.2.1, (a.2.2.2.2.1, (a.2.2.2.2.2.1, (a.2.2.2.2.2.2, ())))), ()))) (fun _ => rfl)
noncomputable def impl_Stone_steadySpeed.tr (a : Nat × Nat × Int × Nat × Nat × Nat × Nat) : T (Nat × Bool) := impl_Stone_steadySpeed.t a.1 a.2.1 a.2.2.1 a.2.2.2.1 a.2.2.2.2.1 a.2.2.2.2.2.1 a.2.2.2.2.2.2
def impl_Stone_steadySpeed.enc : (Nat × Nat × Int × Nat × Nat × Nat × Nat) → (Nat × Bool) → V := fun a r => .tup [.fl .f32 r.1, .bo r.2]
noncomputable def impl_Stone_steadySpeed.c : List V → Hp → T V := cdQ impl_Stone_steadySpeed.cd (fun a => .br (impl_Stone_steadySpeed.ok a.1 a.2.1 a.2.2.1 a.2.2.2.1 a.2.2.2.2.1 a.2.2.2.2.2.1 a.2.2.2.2.2.2) (.leaf (impl_Stone_steadySpeed.enc a (impl_Stone_steadySpeed a.1 a.2.1 a.2.2.1 a.2.2.2.1 a.2.2.2.2.1 a.2.2.2.2.2.1 a.2.2.2.2.2.2))) .bad)
theorem impl_Stone_steadySpeed.run (a : Nat × Nat × Int × Nat × Nat × Nat × Nat) : runF impl_Stone_steadySpeed.C Try.f78.results.toList impl_Stone_steadySpeed.b (impl_Stone_steadySpeed.cd.enc a).1 (impl_Stone_steadySpeed.cd.enc a).2 = (impl_Stone_steadySpeed.tr a).map fun r => (impl_Stone_steadySpeed.enc a r, (impl_Stone_steadySpeed.cd.enc a).2) := by kernel_rfl
theorem impl_Stone_steadySpeed.cok : OKq Try.prog 78 impl_Stone_steadySpeed.c := con_q' impl_Stone_steadySpeed.cd impl_Stone_steadySpeed.hC Try.func78 (by kernel_rfl) (by kernel_rfl) (by kernel_rfl) impl_Stone_steadySpeed.lp (fun a => by kernel_rfl) impl_Stone_steadySpeed.run (Tells.ok (tree := impl_Stone_steadySpeed.tr))
/-! ### impl_Stone_flour -/
noncomputable def impl_Stone_flour.b : Code := bodyOf Try.f79
noncomputable def impl_Stone_flour.C : Ctx := { ty := tys, fn := [], lp := [], n := 15, k := 1 }
theorem impl_Stone_flour.hC : CtxOK Try.prog impl_Stone_flour.C := CtxOK.of mo tys_ok FnsOK.nil
theorem impl_Stone_flour.lp : LpOK Try.prog impl_Stone_flour.C impl_Stone_flour.b := (LpOK.nil (by kernel_rfl))
noncomputable def impl_Stone_flour.t (x0 : Nat) (x1 : Nat) (x2 : Nat) (x3 : Nat) (x4 : Nat) (x5 : Nat) : T Nat :=
  .leaf (fmul .f32 (fmul .f32 x0 x1) x5)
noncomputable def impl_Stone_flour (x0 : Nat) (x1 : Nat) (x2 : Nat) (x3 : Nat) (x4 : Nat) (x5 : Nat) : Nat := (impl_Stone_flour.t x0 x1 x2 x3 x4 x5).val
def impl_Stone_flour.cd : Cd (Nat × Nat × Nat × Nat × Nat × Nat) (List V × Hp) := Cd.iso (Cd.pair (Cd.cons (Cd.pt 0 (Cd.natc 0)) (Cd.cons (Cd.fl .f32) (Cd.cons (Cd.fl .f32) Cd.nil))) (Cd.cons (Cd.rw 28 4 (Cd.vs (Cd.cons (Cd.fl .f32) (Cd.cons (Cd.fl .f32) (Cd.cons (Cd.fl .f32) (Cd.cons (Cd.fl .f32) Cd.nil)))))) Cd.nil)) (fun a => (a.1.2.1, a.1.2.2.1, a.2.1.1, a.2.1.2.1, a.2.1.2.2.1, a.2.1.2.2.2.1)) (fun a => (((), (a.1, (a.2.1, ()))), ((a.2.2.1, (a.2.2.2.1, (a.2.2.2.2.1, (a.2.2.2.2.2, ())))), ()))) (fun _ => rfl)
noncomputable def impl_Stone_flour.tr (a : Nat × Nat × Nat × Nat × Nat × Nat) : T Nat := impl_Stone_flour.t a.1 a.2.1 a.2.2.1 a.2.2.2.1 a.2.2.2.2.1 a.2.2.2.2.2
def impl_Stone_flour.enc : (Nat × Nat × Nat × Nat × Nat × Nat) → Nat → V := fun a r => .fl .f32 r
noncomputable def impl_Stone_flour.c : List V → Hp → T V := cdQ impl_Stone_flour.cd (fun a => .leaf (impl_Stone_flour.enc a (impl_Stone_flour a.1 a.2.1 a.2.2.1 a.2.2.2.1 a.2.2.2.2.1 a.2.2.2.2.2)))
theorem impl_Stone_flour.run (a : Nat × Nat × Nat × Nat × Nat × Nat) : runF impl_Stone_flour.C Try.f79.results.toList impl_Stone_flour.b (impl_Stone_flour.cd.enc a).1 (impl_Stone_flour.cd.enc a).2 = (impl_Stone_flour.tr a).map fun r => (impl_Stone_flour.enc a r, (impl_Stone_flour.cd.enc a).2) := by kernel_rfl
theorem impl_Stone_flour.cok : OKq Try.prog 79 impl_Stone_flour.c := con_q' impl_Stone_flour.cd impl_Stone_flour.hC Try.func79 (by kernel_rfl) (by kernel_rfl) (by kernel_rfl) impl_Stone_flour.lp (fun a => by kernel_rfl) impl_Stone_flour.run (Tells.val (tree := impl_Stone_flour.tr) fun a => by kernel_rfl)
/-! ### impl_atLeast0 -/
noncomputable def impl_atLeast0.b : Code := bodyOf Try.f93
noncomputable def impl_atLeast0.C : Ctx := { ty := tys, fn := [], lp := [], n := 6, k := 0 }
theorem impl_atLeast0.hC : CtxOK Try.prog impl_atLeast0.C := CtxOK.of mo tys_ok FnsOK.nil
theorem impl_atLeast0.lp : LpOK Try.prog impl_atLeast0.C impl_atLeast0.b := (LpOK.nil (by kernel_rfl))
noncomputable def impl_atLeast0.t (x0 : Nat) : T Nat :=
  .br (fgt .f32 x0 0)
  (.leaf x0)
  (.leaf 0)
noncomputable def impl_atLeast0 (x0 : Nat) : Nat := (impl_atLeast0.t x0).val
def impl_atLeast0.cd : Cd Nat (List V × Hp) := Cd.iso (Cd.pair (Cd.cons (Cd.fl .f32) Cd.nil) Cd.nil) (fun a => a.1.1) (fun a => ((a, ()), ())) (fun _ => rfl)
noncomputable def impl_atLeast0.tr (a : Nat) : T Nat := impl_atLeast0.t a
def impl_atLeast0.enc : Nat → Nat → V := fun a r => .fl .f32 r
noncomputable def impl_atLeast0.c : List V → Hp → T V := cdQ impl_atLeast0.cd (fun a => .leaf (impl_atLeast0.enc a (impl_atLeast0 a)))
theorem impl_atLeast0.run (a : Nat) : runF impl_atLeast0.C Try.f93.results.toList impl_atLeast0.b (impl_atLeast0.cd.enc a).1 (impl_atLeast0.cd.enc a).2 = (impl_atLeast0.tr a).map fun r => (impl_atLeast0.enc a r, (impl_atLeast0.cd.enc a).2) := by kernel_rfl
theorem impl_atLeast0.cok : OKq Try.prog 93 impl_atLeast0.c := con_q' impl_atLeast0.cd impl_atLeast0.hC Try.func93 (by kernel_rfl) (by kernel_rfl) (by kernel_rfl) impl_atLeast0.lp (fun a => by kernel_rfl) impl_atLeast0.run (Tells.val (tree := impl_atLeast0.tr) fun a => by kernel_rfl)
/-! ### impl_Stone_dull -/
noncomputable def impl_Stone_dull.b : Code := bodyOf Try.f73
noncomputable def impl_Stone_dull.C : Ctx := { ty := tys, fn := [(93, .q impl_atLeast0.c)], lp := [], n := 20, k := 1 }
theorem impl_Stone_dull.hC : CtxOK Try.prog impl_Stone_dull.C := CtxOK.of mo tys_ok (FnsOK.cons impl_atLeast0.cok FnsOK.nil)
theorem impl_Stone_dull.lp : LpOK Try.prog impl_Stone_dull.C impl_Stone_dull.b := (LpOK.nil (by kernel_rfl))
noncomputable def impl_Stone_dull.t (x0 : Nat) (x1 : Nat) (x2 : Nat) (x3 : Nat) (x4 : Nat) : T (Nat × Nat × Nat × Nat) :=
  .leaf (x1, x2, x3, (impl_atLeast0 (fsub .f32 x4 (fmul .f32 x4 (fdiv .f32 x0 1166016512)))))
noncomputable def impl_Stone_dull (x0 : Nat) (x1 : Nat) (x2 : Nat) (x3 : Nat) (x4 : Nat) : Nat × Nat × Nat × Nat := (impl_Stone_dull.t x0 x1 x2 x3 x4).val
def impl_Stone_dull.cd : Cd (Nat × Nat × Nat × Nat × Nat) (List V × Hp) := Cd.iso (Cd.pair (Cd.cons (Cd.pt 0 (Cd.natc 0)) (Cd.cons (Cd.fl .f32) Cd.nil)) (Cd.cons (Cd.rw 28 4 (Cd.vs (Cd.cons (Cd.fl .f32) (Cd.cons (Cd.fl .f32) (Cd.cons (Cd.fl .f32) (Cd.cons (Cd.fl .f32) Cd.nil)))))) Cd.nil)) (fun a => (a.1.2.1, a.2.1.1, a.2.1.2.1, a.2.1.2.2.1, a.2.1.2.2.2.1)) (fun a => (((), (a.1, ())), ((a.2.1, (a.2.2.1, (a.2.2.2.1, (a.2.2.2.2, ())))), ()))) (fun _ => rfl)
noncomputable def impl_Stone_dull.tr (a : Nat × Nat × Nat × Nat × Nat) : T (Nat × Nat × Nat × Nat) := impl_Stone_dull.t a.1 a.2.1 a.2.2.1 a.2.2.2.1 a.2.2.2.2
def impl_Stone_dull.enc : (Nat × Nat × Nat × Nat × Nat) → (Nat × Nat × Nat × Nat) → V × Hp := fun a r => (.tup [], [some ⟨true, 28, 4, .vs [.fl .f32 r.1, .fl .f32 r.2.1, .fl .f32 r.2.2.1, .fl .f32 r.2.2.2]⟩])
noncomputable def impl_Stone_dull.c : List V → Hp → T (V × Hp) := cdE impl_Stone_dull.cd (fun a => .leaf (impl_Stone_dull.enc a (impl_Stone_dull a.1 a.2.1 a.2.2.1 a.2.2.2.1 a.2.2.2.2)))
theorem impl_Stone_dull.run (a : Nat × Nat × Nat × Nat × Nat) : runF impl_Stone_dull.C Try.f73.results.toList impl_Stone_dull.b (impl_Stone_dull.cd.enc a).1 (impl_Stone_dull.cd.enc a).2 = (impl_Stone_dull.tr a).map (impl_Stone_dull.enc a) := by kernel_rfl
theorem impl_Stone_dull.cok : OKe Try.prog 73 impl_Stone_dull.c := con_e' impl_Stone_dull.cd impl_Stone_dull.hC Try.func73 (by kernel_rfl) (by kernel_rfl) (by kernel_rfl) impl_Stone_dull.lp (fun a => by kernel_rfl) impl_Stone_dull.run (Tells.val (tree := impl_Stone_dull.tr) fun a => by kernel_rfl)
/-! ### impl_Stone_hour -/
noncomputable def impl_Stone_hour.b : Code := bodyOf Try.f54
noncomputable def impl_Stone_hour.C : Ctx := { ty := tys, fn := [(78, .q impl_Stone_steadySpeed.c), (79, .q impl_Stone_flour.c), (73, .e impl_Stone_dull.c)], lp := [], n := 28, k := 1 }
theorem impl_Stone_hour.hC : CtxOK Try.prog impl_Stone_hour.C := CtxOK.of mo tys_ok (FnsOK.cons impl_Stone_steadySpeed.cok (FnsOK.cons impl_Stone_flour.cok (FnsOK.cons impl_Stone_dull.cok FnsOK.nil)))
theorem impl_Stone_hour.lp : LpOK Try.prog impl_Stone_hour.C impl_Stone_hour.b := (LpOK.nil (by kernel_rfl))
noncomputable def impl_Stone_hour.t (x0 : Nat) (x1 : Nat) (x2 : Nat) (x3 : Nat) (x4 : Nat) (x5 : Nat) : T (Nat × Nat × Nat × Nat × Nat) :=
  .br (impl_Stone_steadySpeed.ok x0 x1 (40 : Int) x2 x3 x4 x5)
  (.br (!(impl_Stone_steadySpeed x0 x1 (40 : Int) x2 x3 x4 x5).2)
   (.leaf (0, x2, x3, x4, x5))
   (.leaf ((fmin .f32 (impl_Stone_flour ((impl_Stone_steadySpeed x0 x1 (40 : Int) x2 x3 x4 x5).1) x1 x2 x3 x4 x5) 1233125376), (impl_Stone_dull (fmin .f32 (impl_Stone_flour ((impl_Stone_steadySpeed x0 x1 (40 : Int) x2 x3 x4 x5).1) x1 x2 x3 x4 x5) 1233125376) x2 x3 x4 x5).1, (impl_Stone_dull (fmin .f32 (impl_Stone_flour ((impl_Stone_steadySpeed x0 x1 (40 : Int) x2 x3 x4 x5).1) x1 x2 x3 x4 x5) 1233125376) x2 x3 x4 x5).2.1, (impl_Stone_dull (fmin .f32 (impl_Stone_flour ((impl_Stone_steadySpeed x0 x1 (40 : Int) x2 x3 x4 x5).1) x1 x2 x3 x4 x5) 1233125376) x2 x3 x4 x5).2.2.1, (impl_Stone_dull (fmin .f32 (impl_Stone_flour ((impl_Stone_steadySpeed x0 x1 (40 : Int) x2 x3 x4 x5).1) x1 x2 x3 x4 x5) 1233125376) x2 x3 x4 x5).2.2.2)))
  .bad
noncomputable def impl_Stone_hour (x0 : Nat) (x1 : Nat) (x2 : Nat) (x3 : Nat) (x4 : Nat) (x5 : Nat) : Nat × Nat × Nat × Nat × Nat := (impl_Stone_hour.t x0 x1 x2 x3 x4 x5).val
noncomputable def impl_Stone_hour.ok (x0 : Nat) (x1 : Nat) (x2 : Nat) (x3 : Nat) (x4 : Nat) (x5 : Nat) : Bool := (impl_Stone_hour.t x0 x1 x2 x3 x4 x5).ok
def impl_Stone_hour.cd : Cd (Nat × Nat × Nat × Nat × Nat × Nat) (List V × Hp) := Cd.iso (Cd.pair (Cd.cons (Cd.pt 0 (Cd.natc 0)) (Cd.cons (Cd.fl .f32) (Cd.cons (Cd.fl .f32) Cd.nil))) (Cd.cons (Cd.rw 28 4 (Cd.vs (Cd.cons (Cd.fl .f32) (Cd.cons (Cd.fl .f32) (Cd.cons (Cd.fl .f32) (Cd.cons (Cd.fl .f32) Cd.nil)))))) Cd.nil)) (fun a => (a.1.2.1, a.1.2.2.1, a.2.1.1, a.2.1.2.1, a.2.1.2.2.1, a.2.1.2.2.2.1)) (fun a => (((), (a.1, (a.2.1, ()))), ((a.2.2.1, (a.2.2.2.1, (a.2.2.2.2.1, (a.2.2.2.2.2, ())))), ()))) (fun _ => rfl)
noncomputable def impl_Stone_hour.tr (a : Nat × Nat × Nat × Nat × Nat × Nat) : T (Nat × Nat × Nat × Nat × Nat) := impl_Stone_hour.t a.1 a.2.1 a.2.2.1 a.2.2.2.1 a.2.2.2.2.1 a.2.2.2.2.2
def impl_Stone_hour.enc : (Nat × Nat × Nat × Nat × Nat × Nat) → (Nat × Nat × Nat × Nat × Nat) → V × Hp := fun a r => (.fl .f32 r.1, [some ⟨true, 28, 4, .vs [.fl .f32 r.2.1, .fl .f32 r.2.2.1, .fl .f32 r.2.2.2.1, .fl .f32 r.2.2.2.2]⟩])
noncomputable def impl_Stone_hour.c : List V → Hp → T (V × Hp) := cdE impl_Stone_hour.cd (fun a => .br (impl_Stone_hour.ok a.1 a.2.1 a.2.2.1 a.2.2.2.1 a.2.2.2.2.1 a.2.2.2.2.2) (.leaf (impl_Stone_hour.enc a (impl_Stone_hour a.1 a.2.1 a.2.2.1 a.2.2.2.1 a.2.2.2.2.1 a.2.2.2.2.2))) .bad)
theorem impl_Stone_hour.run (a : Nat × Nat × Nat × Nat × Nat × Nat) : runF impl_Stone_hour.C Try.f54.results.toList impl_Stone_hour.b (impl_Stone_hour.cd.enc a).1 (impl_Stone_hour.cd.enc a).2 = (impl_Stone_hour.tr a).map (impl_Stone_hour.enc a) := by kernel_rfl
theorem impl_Stone_hour.cok : OKe Try.prog 54 impl_Stone_hour.c := con_e' impl_Stone_hour.cd impl_Stone_hour.hC Try.func54 (by kernel_rfl) (by kernel_rfl) (by kernel_rfl) impl_Stone_hour.lp (fun a => by kernel_rfl) impl_Stone_hour.run (Tells.ok (tree := impl_Stone_hour.tr))
/-! ### impl_DressedDay -/
noncomputable def impl_DressedDay.b : Code := bodyOf Try.f27
noncomputable def impl_DressedDay.l8.s (x0 : Nat) (x1 : Nat) (x2 : Nat) (x3 : Int) (x4 : Nat) (x5 : Int) (x6 : Int) (x7 : List Nat) (x8 : Nat) (x9 : Nat) (x10 : Nat) (x11 : Nat) (x12 : Nat) (x13 : Nat) (x14 : Nat) (x15 : Nat) (x16 : List Nat) : T ((Nat × Int × Int × Nat × Nat × Nat × Nat × List Nat) ⊕ (Nat × Int × Nat × Nat × Nat × Nat × List Nat)) :=
  .br (decide (x6 < x5))
  (.br (bounds x6 x4)
   (.br (Nat.ble ((Int.toNat x6 * 1) + 1) (List.length x7))
    (.br (flt .f32 x11 x1)
     (.br ((Nat.ble 1 (List.length [0])) && (Nat.beq (List.length x16) (x2 * 1) && Nat.ble ((x2 + 1) * 4) 35184372088832 && Nat.ble (x2 + 1) 35184372088832))
      (.leaf (.inl ((x2 + 1), (IntKind.wrap .i64 (x3 + (1 : Int))), (IntKind.wrap .i64 (x6 + (1 : Int))), x8, x9, x10, 1065353216, (x16 ++ (List.take 1 (List.drop 0 [0]))))))
      .bad)
     (.br (impl_Stone_hour.ok (List.getD x7 (Int.toNat x6 * 1) 0) x0 x8 x9 x10 x11)
      (.br ((Nat.ble 1 (List.length [(impl_Stone_hour (List.getD x7 (Int.toNat x6 * 1) 0) x0 x8 x9 x10 x11).1])) && (Nat.beq (List.length x16) (x2 * 1) && Nat.ble ((x2 + 1) * 4) 35184372088832 && Nat.ble (x2 + 1) 35184372088832))
       (.leaf (.inl ((x2 + 1), x3, (IntKind.wrap .i64 (x6 + (1 : Int))), (impl_Stone_hour (List.getD x7 (Int.toNat x6 * 1) 0) x0 x8 x9 x10 x11).2.1, (impl_Stone_hour (List.getD x7 (Int.toNat x6 * 1) 0) x0 x8 x9 x10 x11).2.2.1, (impl_Stone_hour (List.getD x7 (Int.toNat x6 * 1) 0) x0 x8 x9 x10 x11).2.2.2.1, (impl_Stone_hour (List.getD x7 (Int.toNat x6 * 1) 0) x0 x8 x9 x10 x11).2.2.2.2, (x16 ++ (List.take 1 (List.drop 0 [(impl_Stone_hour (List.getD x7 (Int.toNat x6 * 1) 0) x0 x8 x9 x10 x11).1]))))))
       .bad)
      .bad))
    .bad)
   .bad)
  (.leaf (.inr (x2, x3, x8, x9, x10, x11, x16)))
noncomputable def impl_DressedDay.l8.st (p : Nat × Nat × Nat × Int × List Nat × Nat × Nat × Nat × Nat) (x : Nat × Int × Int × Nat × Nat × Nat × Nat × List Nat) : T ((Nat × Int × Int × Nat × Nat × Nat × Nat × List Nat) ⊕ (Nat × Int × Nat × Nat × Nat × Nat × List Nat)) := impl_DressedDay.l8.s p.1 p.2.1 x.1 x.2.1 p.2.2.1 p.2.2.2.1 x.2.2.1 p.2.2.2.2.1 x.2.2.2.1 x.2.2.2.2.1 x.2.2.2.2.2.1 x.2.2.2.2.2.2.1 p.2.2.2.2.2.1 p.2.2.2.2.2.2.1 p.2.2.2.2.2.2.2.1 p.2.2.2.2.2.2.2.2 x.2.2.2.2.2.2.2
noncomputable def impl_DressedDay.l8.r (p : Nat × Nat × Nat × Int × List Nat × Nat × Nat × Nat × Nat) (x : Nat × Int × Int × Nat × Nat × Nat × Nat × List Nat) : Option (Nat × Int × Nat × Nat × Nat × Nat × List Nat) := iterT (impl_DressedDay.l8.st p) manyRounds x
def impl_DressedDay.l8.cd : Cd ((Nat × Nat × Nat × Int × List Nat × Nat × Nat × Nat × Nat) × (Nat × Int × Int × Nat × Nat × Nat × Nat × List Nat)) (List V × Hp) := Cd.iso (Cd.pair (Cd.cons (Cd.fl .f32) (Cd.cons (Cd.fl .f32) (Cd.cons (Cd.pt 1 (Cd.natc 0)) (Cd.cons (Cd.pt 2 (Cd.natc 0)) (Cd.cons (Cd.own 3) (Cd.cons (Cd.it .i64) (Cd.cons (Cd.own 0) (Cd.cons (Cd.it .i64) (Cd.cons (Cd.it .i64) Cd.nil))))))))) (Cd.cons (Cd.rw 22 1 (Cd.fs .f32)) (Cd.cons (Cd.rw 28 4 (Cd.vs (Cd.cons (Cd.fl .f32) (Cd.cons (Cd.fl .f32) (Cd.cons (Cd.fl .f32) (Cd.cons (Cd.fl .f32) Cd.nil)))))) (Cd.cons (Cd.rw 28 4 (Cd.vs (Cd.cons (Cd.fl .f32) (Cd.cons (Cd.fl .f32) (Cd.cons (Cd.fl .f32) (Cd.cons (Cd.fl .f32) Cd.nil)))))) (Cd.cons (Cd.rw 22 1 (Cd.fs .f32)) Cd.nil))))) (fun a => ((a.1.1, a.1.2.1, a.1.2.2.2.2.2.2.1, a.1.2.2.2.2.2.2.2.1, a.2.1, a.2.2.2.1.1, a.2.2.2.1.2.1, a.2.2.2.1.2.2.1, a.2.2.2.1.2.2.2.1), (a.1.2.2.2.2.1, a.1.2.2.2.2.2.1, a.1.2.2.2.2.2.2.2.2.1, a.2.2.1.1, a.2.2.1.2.1, a.2.2.1.2.2.1, a.2.2.1.2.2.2.1, a.2.2.2.2.1))) (fun a => ((a.1.1, (a.1.2.1, ((), ((), (a.2.1, (a.2.2.1, (a.1.2.2.1, (a.1.2.2.2.1, (a.2.2.2.1, ()))))))))), (a.1.2.2.2.2.1, ((a.2.2.2.2.1, (a.2.2.2.2.2.1, (a.2.2.2.2.2.2.1, (a.2.2.2.2.2.2.2.1, ())))), ((a.1.2.2.2.2.2.1, (a.1.2.2.2.2.2.2.1, (a.1.2.2.2.2.2.2.2.1, (a.1.2.2.2.2.2.2.2.2, ())))), (a.2.2.2.2.2.2.2.2, ())))))) (fun _ => rfl)
def impl_DressedDay.l8.out (p : Nat × Nat × Nat × Int × List Nat × Nat × Nat × Nat × Nat) : (Nat × Int × Nat × Nat × Nat × Nat × List Nat) → X × List V × Hp := (fun r => (.ex 1, [.pt 1 0, .pt 2 0, .own 3 r.1, .it .i64 r.2.1], [some ⟨true, 22, 1, .fs .f32 p.2.2.2.2.1⟩, some ⟨true, 28, 4, .vs [.fl .f32 r.2.2.1, .fl .f32 r.2.2.2.1, .fl .f32 r.2.2.2.2.1, .fl .f32 r.2.2.2.2.2.1]⟩, some ⟨true, 28, 4, .vs [.fl .f32 p.2.2.2.2.2.1, .fl .f32 p.2.2.2.2.2.2.1, .fl .f32 p.2.2.2.2.2.2.2.1, .fl .f32 p.2.2.2.2.2.2.2.2]⟩, some ⟨true, 22, 1, .fs .f32 r.2.2.2.2.2.2⟩]))
def impl_DressedDay.l8.ex (p : Nat × Nat × Nat × Int × List Nat × Nat × Nat × Nat × Nat) : (Nat × Int × Nat × Nat × Nat × Nat × List Nat) → T (X × List V × Hp) := leafT (fun r => (.ex 1, [.pt 1 0, .pt 2 0, .own 3 r.1, .it .i64 r.2.1], [some ⟨true, 22, 1, .fs .f32 p.2.2.2.2.1⟩, some ⟨true, 28, 4, .vs [.fl .f32 r.2.2.1, .fl .f32 r.2.2.2.1, .fl .f32 r.2.2.2.2.1, .fl .f32 r.2.2.2.2.2.1]⟩, some ⟨true, 28, 4, .vs [.fl .f32 p.2.2.2.2.2.1, .fl .f32 p.2.2.2.2.2.2.1, .fl .f32 p.2.2.2.2.2.2.2.1, .fl .f32 p.2.2.2.2.2.2.2.2]⟩, some ⟨true, 22, 1, .fs .f32 r.2.2.2.2.2.2⟩]))
noncomputable def impl_DressedDay.l8.c : List V → Hp → T (X × List V × Hp) := cdL impl_DressedDay.l8.cd fun x => optT (impl_DressedDay.l8.r x.1 x.2) (impl_DressedDay.l8.ex x.1)
noncomputable def impl_DressedDay.C : Ctx := { ty := tys, fn := [(64, .q impl_areAmounts.c), (53, .q impl_IsRate.c), (65, .q impl_IsPart.c), (49, .q impl_stoneCode.c), (54, .e impl_Stone_hour.c)], lp := [(8, ⟨[2, 3, 4, 8, 13, 14, 41, 42, 43], [4, 8, 13, 14], impl_DressedDay.l8.c⟩)], n := 65, k := 1 }
theorem impl_DressedDay.hC : CtxOK Try.prog impl_DressedDay.C := CtxOK.of mo tys_ok (FnsOK.cons impl_areAmounts.cok (FnsOK.cons impl_IsRate.cok (FnsOK.cons impl_IsPart.cok (FnsOK.cons impl_stoneCode.cok (FnsOK.cons impl_Stone_hour.cok FnsOK.nil)))))
noncomputable def impl_DressedDay.b8 : Code := (nthC (loopsOf impl_DressedDay.b) 0)
theorem impl_DressedDay.lp8 : LpOK Try.prog impl_DressedDay.C impl_DressedDay.b8 := (LpOK.nil (by kernel_rfl))
theorem impl_DressedDay.l8.round (p : Nat × Nat × Nat × Int × List Nat × Nat × Nat × Nat × Nat) (s : Nat × Int × Int × Nat × Nat × Nat × Nat × List Nat) : roundL impl_DressedDay.C [2, 3, 4, 8, 13, 14, 41, 42, 43] [4, 8, 13, 14] impl_DressedDay.b8 (impl_DressedDay.l8.cd.enc (p, s)).1 (impl_DressedDay.l8.cd.enc (p, s)).2 = (impl_DressedDay.l8.st p s).map (encSum (fun s => impl_DressedDay.l8.cd.enc (p, s)) (impl_DressedDay.l8.out p)) := by kernel_rfl
theorem impl_DressedDay.l8.lok : LoopOK Try.prog impl_DressedDay.C ⟨[2, 3, 4, 8, 13, 14, 41, 42, 43], [4, 8, 13, 14], impl_DressedDay.l8.c⟩ impl_DressedDay.b8 := loop_cd impl_DressedDay.l8.cd impl_DressedDay.hC impl_DressedDay.lp8 impl_DressedDay.l8.round fun p => Gets.leaf
theorem impl_DressedDay.lp : LpOK Try.prog impl_DressedDay.C impl_DressedDay.b := lp_of (by kernel_rfl) (LpsOK.cons (k := 8) (by kernel_rfl) (by kernel_rfl) impl_DressedDay.l8.lok LpsOK.nil)
noncomputable def impl_DressedDay.t (x0 : Nat) (x1 : Nat) (x2 : Nat) (x3 : Nat) (x4 : Nat) (x5 : Nat) (x6 : Nat) (x7 : List Nat) : T ((Nat × Nat × Nat × Nat × Int × Int) ⊕ (Nat × Nat × Nat × Nat × Nat × Int × Int × List Nat)) :=
  .br (impl_areAmounts.ok x4 x7)
  (.br (impl_areAmounts x4 x7)
   (.br (impl_IsRate x5)
    (.br ((impl_stoneCode x0 x1 x2 x3 (impl_IsPart x6)) != (0 : Int))
     (.leaf (.inl (0, 0, 0, 0, (0 : Int), (impl_stoneCode x0 x1 x2 x3 (impl_IsPart x6)))))
     (.br (decide (((x4 : Nat) : Int) > (60 : Int)))
      (.leaf (.inl (0, 0, 0, 0, (0 : Int), (3 : Int))))
      (.br (Option.isSome (impl_DressedDay.l8.r (x5, x6, x4, ((x4 : Nat) : Int), x7, 0, 0, 0, 0) (0, (0 : Int), (0 : Int), x0, x1, x2, x3, [])))
       (.leaf (.inr ((Option.getD (impl_DressedDay.l8.r (x5, x6, x4, ((x4 : Nat) : Int), x7, 0, 0, 0, 0) (0, (0 : Int), (0 : Int), x0, x1, x2, x3, [])) default).2.2.1, (Option.getD (impl_DressedDay.l8.r (x5, x6, x4, ((x4 : Nat) : Int), x7, 0, 0, 0, 0) (0, (0 : Int), (0 : Int), x0, x1, x2, x3, [])) default).2.2.2.1, (Option.getD (impl_DressedDay.l8.r (x5, x6, x4, ((x4 : Nat) : Int), x7, 0, 0, 0, 0) (0, (0 : Int), (0 : Int), x0, x1, x2, x3, [])) default).2.2.2.2.1, (Option.getD (impl_DressedDay.l8.r (x5, x6, x4, ((x4 : Nat) : Int), x7, 0, 0, 0, 0) (0, (0 : Int), (0 : Int), x0, x1, x2, x3, [])) default).2.2.2.2.2.1, (Option.getD (impl_DressedDay.l8.r (x5, x6, x4, ((x4 : Nat) : Int), x7, 0, 0, 0, 0) (0, (0 : Int), (0 : Int), x0, x1, x2, x3, [])) default).1, (Option.getD (impl_DressedDay.l8.r (x5, x6, x4, ((x4 : Nat) : Int), x7, 0, 0, 0, 0) (0, (0 : Int), (0 : Int), x0, x1, x2, x3, [])) default).2.1, (0 : Int), (Option.getD (impl_DressedDay.l8.r (x5, x6, x4, ((x4 : Nat) : Int), x7, 0, 0, 0, 0) (0, (0 : Int), (0 : Int), x0, x1, x2, x3, [])) default).2.2.2.2.2.2)))
       .bad)))
    (.br ((impl_stoneCode x0 x1 x2 x3 false) != (0 : Int))
     (.leaf (.inl (0, 0, 0, 0, (0 : Int), (impl_stoneCode x0 x1 x2 x3 false))))
     (.br (decide (((x4 : Nat) : Int) > (60 : Int)))
      (.leaf (.inl (0, 0, 0, 0, (0 : Int), (3 : Int))))
      (.br (Option.isSome (impl_DressedDay.l8.r (x5, x6, x4, ((x4 : Nat) : Int), x7, 0, 0, 0, 0) (0, (0 : Int), (0 : Int), x0, x1, x2, x3, [])))
       (.leaf (.inr ((Option.getD (impl_DressedDay.l8.r (x5, x6, x4, ((x4 : Nat) : Int), x7, 0, 0, 0, 0) (0, (0 : Int), (0 : Int), x0, x1, x2, x3, [])) default).2.2.1, (Option.getD (impl_DressedDay.l8.r (x5, x6, x4, ((x4 : Nat) : Int), x7, 0, 0, 0, 0) (0, (0 : Int), (0 : Int), x0, x1, x2, x3, [])) default).2.2.2.1, (Option.getD (impl_DressedDay.l8.r (x5, x6, x4, ((x4 : Nat) : Int), x7, 0, 0, 0, 0) (0, (0 : Int), (0 : Int), x0, x1, x2, x3, [])) default).2.2.2.2.1, (Option.getD (impl_DressedDay.l8.r (x5, x6, x4, ((x4 : Nat) : Int), x7, 0, 0, 0, 0) (0, (0 : Int), (0 : Int), x0, x1, x2, x3, [])) default).2.2.2.2.2.1, (Option.getD (impl_DressedDay.l8.r (x5, x6, x4, ((x4 : Nat) : Int), x7, 0, 0, 0, 0) (0, (0 : Int), (0 : Int), x0, x1, x2, x3, [])) default).1, (Option.getD (impl_DressedDay.l8.r (x5, x6, x4, ((x4 : Nat) : Int), x7, 0, 0, 0, 0) (0, (0 : Int), (0 : Int), x0, x1, x2, x3, [])) default).2.1, (0 : Int), (Option.getD (impl_DressedDay.l8.r (x5, x6, x4, ((x4 : Nat) : Int), x7, 0, 0, 0, 0) (0, (0 : Int), (0 : Int), x0, x1, x2, x3, [])) default).2.2.2.2.2.2)))
       .bad))))
   (.br ((impl_stoneCode x0 x1 x2 x3 false) != (0 : Int))
    (.leaf (.inl (0, 0, 0, 0, (0 : Int), (impl_stoneCode x0 x1 x2 x3 false))))
    (.br (decide (((x4 : Nat) : Int) > (60 : Int)))
     (.leaf (.inl (0, 0, 0, 0, (0 : Int), (3 : Int))))
     (.br (Option.isSome (impl_DressedDay.l8.r (x5, x6, x4, ((x4 : Nat) : Int), x7, 0, 0, 0, 0) (0, (0 : Int), (0 : Int), x0, x1, x2, x3, [])))
      (.leaf (.inr ((Option.getD (impl_DressedDay.l8.r (x5, x6, x4, ((x4 : Nat) : Int), x7, 0, 0, 0, 0) (0, (0 : Int), (0 : Int), x0, x1, x2, x3, [])) default).2.2.1, (Option.getD (impl_DressedDay.l8.r (x5, x6, x4, ((x4 : Nat) : Int), x7, 0, 0, 0, 0) (0, (0 : Int), (0 : Int), x0, x1, x2, x3, [])) default).2.2.2.1, (Option.getD (impl_DressedDay.l8.r (x5, x6, x4, ((x4 : Nat) : Int), x7, 0, 0, 0, 0) (0, (0 : Int), (0 : Int), x0, x1, x2, x3, [])) default).2.2.2.2.1, (Option.getD (impl_DressedDay.l8.r (x5, x6, x4, ((x4 : Nat) : Int), x7, 0, 0, 0, 0) (0, (0 : Int), (0 : Int), x0, x1, x2, x3, [])) default).2.2.2.2.2.1, (Option.getD (impl_DressedDay.l8.r (x5, x6, x4, ((x4 : Nat) : Int), x7, 0, 0, 0, 0) (0, (0 : Int), (0 : Int), x0, x1, x2, x3, [])) default).1, (Option.getD (impl_DressedDay.l8.r (x5, x6, x4, ((x4 : Nat) : Int), x7, 0, 0, 0, 0) (0, (0 : Int), (0 : Int), x0, x1, x2, x3, [])) default).2.1, (0 : Int), (Option.getD (impl_DressedDay.l8.r (x5, x6, x4, ((x4 : Nat) : Int), x7, 0, 0, 0, 0) (0, (0 : Int), (0 : Int), x0, x1, x2, x3, [])) default).2.2.2.2.2.2)))
      .bad))))
  .bad
noncomputable def impl_DressedDay (x0 : Nat) (x1 : Nat) (x2 : Nat) (x3 : Nat) (x4 : Nat) (x5 : Nat) (x6 : Nat) (x7 : List Nat) : (Nat × Nat × Nat × Nat × Int × Int) ⊕ (Nat × Nat × Nat × Nat × Nat × Int × Int × List Nat) := (impl_DressedDay.t x0 x1 x2 x3 x4 x5 x6 x7).val
noncomputable def impl_DressedDay.ok (x0 : Nat) (x1 : Nat) (x2 : Nat) (x3 : Nat) (x4 : Nat) (x5 : Nat) (x6 : Nat) (x7 : List Nat) : Bool := (impl_DressedDay.t x0 x1 x2 x3 x4 x5 x6 x7).ok
def impl_DressedDay.cd : Cd (Nat × Nat × Nat × Nat × Nat × Nat × Nat × List Nat) (List V × Hp) := Cd.iso (Cd.pair (Cd.cons (Cd.agg (Cd.cons (Cd.fl .f32) (Cd.cons (Cd.fl .f32) (Cd.cons (Cd.fl .f32) (Cd.cons (Cd.fl .f32) Cd.nil))))) (Cd.cons (Cd.own 0) (Cd.cons (Cd.fl .f32) (Cd.cons (Cd.fl .f32) Cd.nil)))) (Cd.cons (Cd.rw 22 1 (Cd.fs .f32)) Cd.nil)) (fun a => (a.1.1.1, a.1.1.2.1, a.1.1.2.2.1, a.1.1.2.2.2.1, a.1.2.1, a.1.2.2.1, a.1.2.2.2.1, a.2.1)) (fun a => (((a.1, (a.2.1, (a.2.2.1, (a.2.2.2.1, ())))), (a.2.2.2.2.1, (a.2.2.2.2.2.1, (a.2.2.2.2.2.2.1, ())))), (a.2.2.2.2.2.2.2, ()))) (fun _ => rfl)
noncomputable def impl_DressedDay.tr (a : Nat × Nat × Nat × Nat × Nat × Nat × Nat × List Nat) : T ((Nat × Nat × Nat × Nat × Int × Int) ⊕ (Nat × Nat × Nat × Nat × Nat × Int × Int × List Nat)) := impl_DressedDay.t a.1 a.2.1 a.2.2.1 a.2.2.2.1 a.2.2.2.2.1 a.2.2.2.2.2.1 a.2.2.2.2.2.2.1 a.2.2.2.2.2.2.2
def impl_DressedDay.enc : (Nat × Nat × Nat × Nat × Nat × Nat × Nat × List Nat) → ((Nat × Nat × Nat × Nat × Int × Int) ⊕ (Nat × Nat × Nat × Nat × Nat × Int × Int × List Nat)) → V × Hp := fun a => sumO (fun r => (.tup [.agg [.fl .f32 r.1, .fl .f32 r.2.1, .fl .f32 r.2.2.1, .fl .f32 r.2.2.2.1], .sn, .it .i64 r.2.2.2.2.1, .it .i64 r.2.2.2.2.2], [some ⟨true, 22, 1, .fs .f32 a.2.2.2.2.2.2.2⟩])) (fun r => (.tup [.agg [.fl .f32 r.1, .fl .f32 r.2.1, .fl .f32 r.2.2.1, .fl .f32 r.2.2.2.1], .own 1 r.2.2.2.2.1, .it .i64 r.2.2.2.2.2.1, .it .i64 r.2.2.2.2.2.2.1], [some ⟨true, 22, 1, .fs .f32 a.2.2.2.2.2.2.2⟩, some ⟨true, 22, 1, .fs .f32 r.2.2.2.2.2.2.2⟩]))
noncomputable def impl_DressedDay.ex : (Nat × Nat × Nat × Nat × Nat × Nat × Nat × List Nat) → ((Nat × Nat × Nat × Nat × Int × Int) ⊕ (Nat × Nat × Nat × Nat × Nat × Int × Int × List Nat)) → T (V × Hp) := fun a => sumT (leafT (fun r => (.tup [.agg [.fl .f32 r.1, .fl .f32 r.2.1, .fl .f32 r.2.2.1, .fl .f32 r.2.2.2.1], .sn, .it .i64 r.2.2.2.2.1, .it .i64 r.2.2.2.2.2], [some ⟨true, 22, 1, .fs .f32 a.2.2.2.2.2.2.2⟩]))) (leafT (fun r => (.tup [.agg [.fl .f32 r.1, .fl .f32 r.2.1, .fl .f32 r.2.2.1, .fl .f32 r.2.2.2.1], .own 1 r.2.2.2.2.1, .it .i64 r.2.2.2.2.2.1, .it .i64 r.2.2.2.2.2.2.1], [some ⟨true, 22, 1, .fs .f32 a.2.2.2.2.2.2.2⟩, some ⟨true, 22, 1, .fs .f32 r.2.2.2.2.2.2.2⟩])))
noncomputable def impl_DressedDay.c : List V → Hp → T (V × Hp) := cdE impl_DressedDay.cd (fun a => .br (impl_DressedDay.ok a.1 a.2.1 a.2.2.1 a.2.2.2.1 a.2.2.2.2.1 a.2.2.2.2.2.1 a.2.2.2.2.2.2.1 a.2.2.2.2.2.2.2) (impl_DressedDay.ex a (impl_DressedDay a.1 a.2.1 a.2.2.1 a.2.2.2.1 a.2.2.2.2.1 a.2.2.2.2.2.1 a.2.2.2.2.2.2.1 a.2.2.2.2.2.2.2)) .bad)
theorem impl_DressedDay.run (a : Nat × Nat × Nat × Nat × Nat × Nat × Nat × List Nat) : runF impl_DressedDay.C Try.f27.results.toList impl_DressedDay.b (impl_DressedDay.cd.enc a).1 (impl_DressedDay.cd.enc a).2 = (impl_DressedDay.tr a).map (impl_DressedDay.enc a) := by kernel_rfl
theorem impl_DressedDay.cok : OKe Try.prog 27 impl_DressedDay.c := con_e' impl_DressedDay.cd impl_DressedDay.hC Try.func27 (by kernel_rfl) (by kernel_rfl) (by kernel_rfl) impl_DressedDay.lp (fun a => by kernel_rfl) impl_DressedDay.run (Tells.okS (tree := impl_DressedDay.tr) (ex := impl_DressedDay.ex) fun a => (Gets.sum Gets.leaf Gets.leaf))
/-! ### impl_GrindDay -/
noncomputable def impl_GrindDay.b : Code := bodyOf Try.f24
noncomputable def impl_GrindDay.C : Ctx := { ty := tys, fn := [(27, .e impl_DressedDay.c)], lp := [], n := 25, k := 1 }
theorem impl_GrindDay.hC : CtxOK Try.prog impl_GrindDay.C := CtxOK.of mo tys_ok (FnsOK.cons impl_DressedDay.cok FnsOK.nil)
theorem impl_GrindDay.lp : LpOK Try.prog impl_GrindDay.C impl_GrindDay.b := (LpOK.nil (by kernel_rfl))
noncomputable def impl_GrindDay.t (x0 : Nat) (x1 : Nat) (x2 : Nat) (x3 : Nat) (x4 : Nat) (x5 : Nat) (x6 : List Nat) : T ((Nat × Nat × Nat × Nat × Int) ⊕ (Nat × Nat × Nat × Nat × Nat × Int × List Nat)) :=
  .br (impl_DressedDay.ok x0 x1 x2 x3 x4 x5 0 x6)
  (.br (Sum.isLeft (impl_DressedDay x0 x1 x2 x3 x4 x5 0 x6))
   (.leaf (.inl ((getLeftD (impl_DressedDay x0 x1 x2 x3 x4 x5 0 x6)).1, (getLeftD (impl_DressedDay x0 x1 x2 x3 x4 x5 0 x6)).2.1, (getLeftD (impl_DressedDay x0 x1 x2 x3 x4 x5 0 x6)).2.2.1, (getLeftD (impl_DressedDay x0 x1 x2 x3 x4 x5 0 x6)).2.2.2.1, (getLeftD (impl_DressedDay x0 x1 x2 x3 x4 x5 0 x6)).2.2.2.2.2)))
   (.leaf (.inr ((getRightD (impl_DressedDay x0 x1 x2 x3 x4 x5 0 x6)).1, (getRightD (impl_DressedDay x0 x1 x2 x3 x4 x5 0 x6)).2.1, (getRightD (impl_DressedDay x0 x1 x2 x3 x4 x5 0 x6)).2.2.1, (getRightD (impl_DressedDay x0 x1 x2 x3 x4 x5 0 x6)).2.2.2.1, (getRightD (impl_DressedDay x0 x1 x2 x3 x4 x5 0 x6)).2.2.2.2.1, (getRightD (impl_DressedDay x0 x1 x2 x3 x4 x5 0 x6)).2.2.2.2.2.2.1, (getRightD (impl_DressedDay x0 x1 x2 x3 x4 x5 0 x6)).2.2.2.2.2.2.2))))
  .bad
noncomputable def impl_GrindDay (x0 : Nat) (x1 : Nat) (x2 : Nat) (x3 : Nat) (x4 : Nat) (x5 : Nat) (x6 : List Nat) : (Nat × Nat × Nat × Nat × Int) ⊕ (Nat × Nat × Nat × Nat × Nat × Int × List Nat) := (impl_GrindDay.t x0 x1 x2 x3 x4 x5 x6).val
noncomputable def impl_GrindDay.ok (x0 : Nat) (x1 : Nat) (x2 : Nat) (x3 : Nat) (x4 : Nat) (x5 : Nat) (x6 : List Nat) : Bool := (impl_GrindDay.t x0 x1 x2 x3 x4 x5 x6).ok
def impl_GrindDay.cd : Cd (Nat × Nat × Nat × Nat × Nat × Nat × List Nat) (List V × Hp) := Cd.iso (Cd.pair (Cd.cons (Cd.agg (Cd.cons (Cd.fl .f32) (Cd.cons (Cd.fl .f32) (Cd.cons (Cd.fl .f32) (Cd.cons (Cd.fl .f32) Cd.nil))))) (Cd.cons (Cd.own 0) (Cd.cons (Cd.fl .f32) Cd.nil))) (Cd.cons (Cd.rw 22 1 (Cd.fs .f32)) Cd.nil)) (fun a => (a.1.1.1, a.1.1.2.1, a.1.1.2.2.1, a.1.1.2.2.2.1, a.1.2.1, a.1.2.2.1, a.2.1)) (fun a => (((a.1, (a.2.1, (a.2.2.1, (a.2.2.2.1, ())))), (a.2.2.2.2.1, (a.2.2.2.2.2.1, ()))), (a.2.2.2.2.2.2, ()))) (fun _ => rfl)
noncomputable def impl_GrindDay.tr (a : Nat × Nat × Nat × Nat × Nat × Nat × List Nat) : T ((Nat × Nat × Nat × Nat × Int) ⊕ (Nat × Nat × Nat × Nat × Nat × Int × List Nat)) := impl_GrindDay.t a.1 a.2.1 a.2.2.1 a.2.2.2.1 a.2.2.2.2.1 a.2.2.2.2.2.1 a.2.2.2.2.2.2
def impl_GrindDay.enc : (Nat × Nat × Nat × Nat × Nat × Nat × List Nat) → ((Nat × Nat × Nat × Nat × Int) ⊕ (Nat × Nat × Nat × Nat × Nat × Int × List Nat)) → V × Hp := fun a => sumO (fun r => (.tup [.agg [.fl .f32 r.1, .fl .f32 r.2.1, .fl .f32 r.2.2.1, .fl .f32 r.2.2.2.1], .sn, .it .i64 r.2.2.2.2], [some ⟨true, 22, 1, .fs .f32 a.2.2.2.2.2.2⟩])) (fun r => (.tup [.agg [.fl .f32 r.1, .fl .f32 r.2.1, .fl .f32 r.2.2.1, .fl .f32 r.2.2.2.1], .own 1 r.2.2.2.2.1, .it .i64 r.2.2.2.2.2.1], [some ⟨true, 22, 1, .fs .f32 a.2.2.2.2.2.2⟩, some ⟨true, 22, 1, .fs .f32 r.2.2.2.2.2.2⟩]))
noncomputable def impl_GrindDay.ex : (Nat × Nat × Nat × Nat × Nat × Nat × List Nat) → ((Nat × Nat × Nat × Nat × Int) ⊕ (Nat × Nat × Nat × Nat × Nat × Int × List Nat)) → T (V × Hp) := fun a => sumT (leafT (fun r => (.tup [.agg [.fl .f32 r.1, .fl .f32 r.2.1, .fl .f32 r.2.2.1, .fl .f32 r.2.2.2.1], .sn, .it .i64 r.2.2.2.2], [some ⟨true, 22, 1, .fs .f32 a.2.2.2.2.2.2⟩]))) (leafT (fun r => (.tup [.agg [.fl .f32 r.1, .fl .f32 r.2.1, .fl .f32 r.2.2.1, .fl .f32 r.2.2.2.1], .own 1 r.2.2.2.2.1, .it .i64 r.2.2.2.2.2.1], [some ⟨true, 22, 1, .fs .f32 a.2.2.2.2.2.2⟩, some ⟨true, 22, 1, .fs .f32 r.2.2.2.2.2.2⟩])))
noncomputable def impl_GrindDay.c : List V → Hp → T (V × Hp) := cdE impl_GrindDay.cd (fun a => .br (impl_GrindDay.ok a.1 a.2.1 a.2.2.1 a.2.2.2.1 a.2.2.2.2.1 a.2.2.2.2.2.1 a.2.2.2.2.2.2) (impl_GrindDay.ex a (impl_GrindDay a.1 a.2.1 a.2.2.1 a.2.2.2.1 a.2.2.2.2.1 a.2.2.2.2.2.1 a.2.2.2.2.2.2)) .bad)
theorem impl_GrindDay.run (a : Nat × Nat × Nat × Nat × Nat × Nat × List Nat) : runF impl_GrindDay.C Try.f24.results.toList impl_GrindDay.b (impl_GrindDay.cd.enc a).1 (impl_GrindDay.cd.enc a).2 = (impl_GrindDay.tr a).map (impl_GrindDay.enc a) := by kernel_rfl
theorem impl_GrindDay.cok : OKe Try.prog 24 impl_GrindDay.c := con_e' impl_GrindDay.cd impl_GrindDay.hC Try.func24 (by kernel_rfl) (by kernel_rfl) (by kernel_rfl) impl_GrindDay.lp (fun a => by kernel_rfl) impl_GrindDay.run (Tells.okS (tree := impl_GrindDay.tr) (ex := impl_GrindDay.ex) fun a => (Gets.sum Gets.leaf Gets.leaf))
/-! ### spec_l04Rate -/
noncomputable def spec_l04Rate.b : Code := bodyOf Try.f47
noncomputable def spec_l04Rate.C : Ctx := { ty := tys, fn := [], lp := [], n := 9, k := 0 }
theorem spec_l04Rate.hC : CtxOK Try.prog spec_l04Rate.C := CtxOK.of mo tys_ok FnsOK.nil
theorem spec_l04Rate.lp : LpOK Try.prog spec_l04Rate.C spec_l04Rate.b := (LpOK.nil (by kernel_rfl))
noncomputable def spec_l04Rate.t (x0 : Nat) : T Bool :=
  .br (fge .f32 x0 0)
  (.leaf (fle .f32 x0 1149239296))
  (.leaf false)
noncomputable def spec_l04Rate (x0 : Nat) : Bool := (spec_l04Rate.t x0).val
def spec_l04Rate.cd : Cd Nat (List V × Hp) := Cd.iso (Cd.pair (Cd.cons (Cd.fl .f32) Cd.nil) Cd.nil) (fun a => a.1.1) (fun a => ((a, ()), ())) (fun _ => rfl)
noncomputable def spec_l04Rate.tr (a : Nat) : T Bool := spec_l04Rate.t a
def spec_l04Rate.enc : Nat → Bool → V := fun a r => .bo r
noncomputable def spec_l04Rate.c : List V → Hp → T V := cdQ spec_l04Rate.cd (fun a => .leaf (spec_l04Rate.enc a (spec_l04Rate a)))
theorem spec_l04Rate.run (a : Nat) : runF spec_l04Rate.C Try.f47.results.toList spec_l04Rate.b (spec_l04Rate.cd.enc a).1 (spec_l04Rate.cd.enc a).2 = (spec_l04Rate.tr a).map fun r => (spec_l04Rate.enc a r, (spec_l04Rate.cd.enc a).2) := by kernel_rfl
theorem spec_l04Rate.cok : OKq Try.prog 47 spec_l04Rate.c := con_q' spec_l04Rate.cd spec_l04Rate.hC Try.func47 (by kernel_rfl) (by kernel_rfl) (by kernel_rfl) spec_l04Rate.lp (fun a => by kernel_rfl) spec_l04Rate.run (Tells.val (tree := spec_l04Rate.tr) fun a => by kernel_rfl)
/-! ### spec_l01Part -/
noncomputable def spec_l01Part.b : Code := bodyOf Try.f63
noncomputable def spec_l01Part.C : Ctx := { ty := tys, fn := [], lp := [], n := 9, k := 0 }
theorem spec_l01Part.hC : CtxOK Try.prog spec_l01Part.C := CtxOK.of mo tys_ok FnsOK.nil
theorem spec_l01Part.lp : LpOK Try.prog spec_l01Part.C spec_l01Part.b := (LpOK.nil (by kernel_rfl))
noncomputable def spec_l01Part.t (x0 : Nat) : T Bool :=
  .br (fge .f32 x0 0)
  (.leaf (fle .f32 x0 1065353216))
  (.leaf false)
noncomputable def spec_l01Part (x0 : Nat) : Bool := (spec_l01Part.t x0).val
def spec_l01Part.cd : Cd Nat (List V × Hp) := Cd.iso (Cd.pair (Cd.cons (Cd.fl .f32) Cd.nil) Cd.nil) (fun a => a.1.1) (fun a => ((a, ()), ())) (fun _ => rfl)
noncomputable def spec_l01Part.tr (a : Nat) : T Bool := spec_l01Part.t a
def spec_l01Part.enc : Nat → Bool → V := fun a r => .bo r
noncomputable def spec_l01Part.c : List V → Hp → T V := cdQ spec_l01Part.cd (fun a => .leaf (spec_l01Part.enc a (spec_l01Part a)))
theorem spec_l01Part.run (a : Nat) : runF spec_l01Part.C Try.f63.results.toList spec_l01Part.b (spec_l01Part.cd.enc a).1 (spec_l01Part.cd.enc a).2 = (spec_l01Part.tr a).map fun r => (spec_l01Part.enc a r, (spec_l01Part.cd.enc a).2) := by kernel_rfl
theorem spec_l01Part.cok : OKq Try.prog 63 spec_l01Part.c := con_q' spec_l01Part.cd spec_l01Part.hC Try.func63 (by kernel_rfl) (by kernel_rfl) (by kernel_rfl) spec_l01Part.lp (fun a => by kernel_rfl) spec_l01Part.run (Tells.val (tree := spec_l01Part.tr) fun a => by kernel_rfl)
/-! ### spec_l04Ok -/
noncomputable def spec_l04Ok.b : Code := bodyOf Try.f45
noncomputable def spec_l04Ok.C : Ctx := { ty := tys, fn := [(47, .q spec_l04Rate.c), (63, .q spec_l01Part.c)], lp := [], n := 21, k := 0 }
theorem spec_l04Ok.hC : CtxOK Try.prog spec_l04Ok.C := CtxOK.of mo tys_ok (FnsOK.cons spec_l04Rate.cok (FnsOK.cons spec_l01Part.cok FnsOK.nil))
theorem spec_l04Ok.lp : LpOK Try.prog spec_l04Ok.C spec_l04Ok.b := (LpOK.nil (by kernel_rfl))
noncomputable def spec_l04Ok.t (x0 : Nat) (x1 : Nat) (x2 : Nat) (x3 : Nat) : T Bool :=
  .br (spec_l04Rate x0)
  (.br (spec_l04Rate x1)
   (.br (spec_l04Rate x2)
    (.leaf (spec_l01Part x3))
    (.leaf false))
   (.leaf false))
  (.leaf false)
noncomputable def spec_l04Ok (x0 : Nat) (x1 : Nat) (x2 : Nat) (x3 : Nat) : Bool := (spec_l04Ok.t x0 x1 x2 x3).val
def spec_l04Ok.cd : Cd (Nat × Nat × Nat × Nat) (List V × Hp) := Cd.iso (Cd.pair (Cd.cons (Cd.agg (Cd.cons (Cd.fl .f32) (Cd.cons (Cd.fl .f32) (Cd.cons (Cd.fl .f32) (Cd.cons (Cd.fl .f32) Cd.nil))))) Cd.nil) Cd.nil) (fun a => (a.1.1.1, a.1.1.2.1, a.1.1.2.2.1, a.1.1.2.2.2.1)) (fun a => (((a.1, (a.2.1, (a.2.2.1, (a.2.2.2, ())))), ()), ())) (fun _ => rfl)
noncomputable def spec_l04Ok.tr (a : Nat × Nat × Nat × Nat) : T Bool := spec_l04Ok.t a.1 a.2.1 a.2.2.1 a.2.2.2
def spec_l04Ok.enc : (Nat × Nat × Nat × Nat) → Bool → V := fun a r => .bo r
noncomputable def spec_l04Ok.c : List V → Hp → T V := cdQ spec_l04Ok.cd (fun a => .leaf (spec_l04Ok.enc a (spec_l04Ok a.1 a.2.1 a.2.2.1 a.2.2.2)))
theorem spec_l04Ok.run (a : Nat × Nat × Nat × Nat) : runF spec_l04Ok.C Try.f45.results.toList spec_l04Ok.b (spec_l04Ok.cd.enc a).1 (spec_l04Ok.cd.enc a).2 = (spec_l04Ok.tr a).map fun r => (spec_l04Ok.enc a r, (spec_l04Ok.cd.enc a).2) := by kernel_rfl
theorem spec_l04Ok.cok : OKq Try.prog 45 spec_l04Ok.c := con_q' spec_l04Ok.cd spec_l04Ok.hC Try.func45 (by kernel_rfl) (by kernel_rfl) (by kernel_rfl) spec_l04Ok.lp (fun a => by kernel_rfl) spec_l04Ok.run (Tells.val (tree := spec_l04Ok.tr) fun a => by kernel_rfl)
/-! ### spec_l04Asked -/
noncomputable def spec_l04Asked.b : Code := bodyOf Try.f85
noncomputable def spec_l04Asked.C : Ctx := { ty := tys, fn := [(45, .q spec_l04Ok.c), (47, .q spec_l04Rate.c)], lp := [], n := 18, k := 0 }
theorem spec_l04Asked.hC : CtxOK Try.prog spec_l04Asked.C := CtxOK.of mo tys_ok (FnsOK.cons spec_l04Ok.cok (FnsOK.cons spec_l04Rate.cok FnsOK.nil))
theorem spec_l04Asked.lp : LpOK Try.prog spec_l04Asked.C spec_l04Asked.b := (LpOK.nil (by kernel_rfl))
noncomputable def spec_l04Asked.t (x0 : Nat) (x1 : Nat) (x2 : Nat) (x3 : Nat) (x4 : Nat) (x5 : Nat) : T Int :=
  .br (!(spec_l04Ok x0 x1 x2 x3))
  (.leaf (1 : Int))
  (.br (!(spec_l04Rate x4))
   (.leaf (2 : Int))
   (.br (!(spec_l04Rate x5))
    (.leaf (2 : Int))
    (.leaf (0 : Int))))
noncomputable def spec_l04Asked (x0 : Nat) (x1 : Nat) (x2 : Nat) (x3 : Nat) (x4 : Nat) (x5 : Nat) : Int := (spec_l04Asked.t x0 x1 x2 x3 x4 x5).val
def spec_l04Asked.cd : Cd (Nat × Nat × Nat × Nat × Nat × Nat) (List V × Hp) := Cd.iso (Cd.pair (Cd.cons (Cd.agg (Cd.cons (Cd.fl .f32) (Cd.cons (Cd.fl .f32) (Cd.cons (Cd.fl .f32) (Cd.cons (Cd.fl .f32) Cd.nil))))) (Cd.cons (Cd.fl .f32) (Cd.cons (Cd.fl .f32) Cd.nil))) Cd.nil) (fun a => (a.1.1.1, a.1.1.2.1, a.1.1.2.2.1, a.1.1.2.2.2.1, a.1.2.1, a.1.2.2.1)) (fun a => (((a.1, (a.2.1, (a.2.2.1, (a.2.2.2.1, ())))), (a.2.2.2.2.1, (a.2.2.2.2.2, ()))), ())) (fun _ => rfl)
noncomputable def spec_l04Asked.tr (a : Nat × Nat × Nat × Nat × Nat × Nat) : T Int := spec_l04Asked.t a.1 a.2.1 a.2.2.1 a.2.2.2.1 a.2.2.2.2.1 a.2.2.2.2.2
def spec_l04Asked.enc : (Nat × Nat × Nat × Nat × Nat × Nat) → Int → V := fun a r => .it .i64 r
noncomputable def spec_l04Asked.c : List V → Hp → T V := cdQ spec_l04Asked.cd (fun a => .leaf (spec_l04Asked.enc a (spec_l04Asked a.1 a.2.1 a.2.2.1 a.2.2.2.1 a.2.2.2.2.1 a.2.2.2.2.2)))
theorem spec_l04Asked.run (a : Nat × Nat × Nat × Nat × Nat × Nat) : runF spec_l04Asked.C Try.f85.results.toList spec_l04Asked.b (spec_l04Asked.cd.enc a).1 (spec_l04Asked.cd.enc a).2 = (spec_l04Asked.tr a).map fun r => (spec_l04Asked.enc a r, (spec_l04Asked.cd.enc a).2) := by kernel_rfl
theorem spec_l04Asked.cok : OKq Try.prog 85 spec_l04Asked.c := con_q' spec_l04Asked.cd spec_l04Asked.hC Try.func85 (by kernel_rfl) (by kernel_rfl) (by kernel_rfl) spec_l04Asked.lp (fun a => by kernel_rfl) spec_l04Asked.run (Tells.val (tree := spec_l04Asked.tr) fun a => by kernel_rfl)
/-! ### spec_l03Amount -/
noncomputable def spec_l03Amount.b : Code := bodyOf Try.f46
noncomputable def spec_l03Amount.C : Ctx := { ty := tys, fn := [], lp := [], n := 9, k := 0 }
theorem spec_l03Amount.hC : CtxOK Try.prog spec_l03Amount.C := CtxOK.of mo tys_ok FnsOK.nil
theorem spec_l03Amount.lp : LpOK Try.prog spec_l03Amount.C spec_l03Amount.b := (LpOK.nil (by kernel_rfl))
noncomputable def spec_l03Amount.t (x0 : Nat) : T Bool :=
  .br (fge .f32 x0 0)
  (.leaf (fle .f32 x0 1233125376))
  (.leaf false)
noncomputable def spec_l03Amount (x0 : Nat) : Bool := (spec_l03Amount.t x0).val
def spec_l03Amount.cd : Cd Nat (List V × Hp) := Cd.iso (Cd.pair (Cd.cons (Cd.fl .f32) Cd.nil) Cd.nil) (fun a => a.1.1) (fun a => ((a, ()), ())) (fun _ => rfl)
noncomputable def spec_l03Amount.tr (a : Nat) : T Bool := spec_l03Amount.t a
def spec_l03Amount.enc : Nat → Bool → V := fun a r => .bo r
noncomputable def spec_l03Amount.c : List V → Hp → T V := cdQ spec_l03Amount.cd (fun a => .leaf (spec_l03Amount.enc a (spec_l03Amount a)))
theorem spec_l03Amount.run (a : Nat) : runF spec_l03Amount.C Try.f46.results.toList spec_l03Amount.b (spec_l03Amount.cd.enc a).1 (spec_l03Amount.cd.enc a).2 = (spec_l03Amount.tr a).map fun r => (spec_l03Amount.enc a r, (spec_l03Amount.cd.enc a).2) := by kernel_rfl
theorem spec_l03Amount.cok : OKq Try.prog 46 spec_l03Amount.c := con_q' spec_l03Amount.cd spec_l03Amount.hC Try.func46 (by kernel_rfl) (by kernel_rfl) (by kernel_rfl) spec_l03Amount.lp (fun a => by kernel_rfl) spec_l03Amount.run (Tells.val (tree := spec_l03Amount.tr) fun a => by kernel_rfl)
/-! ### spec_l04Day -/
noncomputable def spec_l04Day.b : Code := bodyOf Try.f62
noncomputable def spec_l04Day.l3.s (x0 : Nat) (x1 : Bool) (x2 : Int) (x3 : Int) (x4 : List Nat) : T ((Bool × Int) ⊕ Bool) :=
  .br (decide (x3 < ((x0 : Nat) : Int)))
  (.br x1
   (.br (bounds x3 x0)
    (.br (Nat.ble ((Int.toNat x3 * 1) + 1) (List.length x4))
     (.leaf (.inl ((spec_l03Amount (List.getD x4 (Int.toNat x3 * 1) 0)), (IntKind.wrap .i64 (x3 + (1 : Int))))))
     .bad)
    .bad)
   (.leaf (.inl (false, (IntKind.wrap .i64 (x3 + (1 : Int)))))))
  (.leaf (.inr x1))
noncomputable def spec_l04Day.l3.st (p : Nat × Int × List Nat) (x : Bool × Int) : T ((Bool × Int) ⊕ Bool) := spec_l04Day.l3.s p.1 x.1 p.2.1 x.2 p.2.2
noncomputable def spec_l04Day.l3.r (p : Nat × Int × List Nat) (x : Bool × Int) : Option Bool := iterT (spec_l04Day.l3.st p) manyRounds x
def spec_l04Day.l3.cd : Cd ((Nat × Int × List Nat) × (Bool × Int)) (List V × Hp) := Cd.iso (Cd.pair (Cd.cons (Cd.own 0) (Cd.cons Cd.bo (Cd.cons (Cd.it .i64) (Cd.cons (Cd.it .i64) Cd.nil)))) (Cd.cons (Cd.rw 22 1 (Cd.fs .f32)) Cd.nil)) (fun a => ((a.1.1, a.1.2.2.1, a.2.1), (a.1.2.1, a.1.2.2.2.1))) (fun a => ((a.1.1, (a.2.1, (a.1.2.1, (a.2.2, ())))), (a.1.2.2, ()))) (fun _ => rfl)
def spec_l04Day.l3.out (p : Nat × Int × List Nat) : Bool → X × List V × Hp := (fun r => (.ex 0, [.own 0 p.1, .bo r, .it .i64 p.2.1], [some ⟨true, 22, 1, .fs .f32 p.2.2⟩]))
def spec_l04Day.l3.ex (p : Nat × Int × List Nat) : Bool → T (X × List V × Hp) := leafT (fun r => (.ex 0, [.own 0 p.1, .bo r, .it .i64 p.2.1], [some ⟨true, 22, 1, .fs .f32 p.2.2⟩]))
noncomputable def spec_l04Day.l3.c : List V → Hp → T (X × List V × Hp) := cdL spec_l04Day.l3.cd fun x => optT (spec_l04Day.l3.r x.1 x.2) (spec_l04Day.l3.ex x.1)
noncomputable def spec_l04Day.C : Ctx := { ty := tys, fn := [(85, .q spec_l04Asked.c), (46, .q spec_l03Amount.c)], lp := [(3, ⟨[1, 3, 9, 10], [1, 3, 9], spec_l04Day.l3.c⟩)], n := 42, k := 1 }
theorem spec_l04Day.hC : CtxOK Try.prog spec_l04Day.C := CtxOK.of mo tys_ok (FnsOK.cons spec_l04Asked.cok (FnsOK.cons spec_l03Amount.cok FnsOK.nil))
noncomputable def spec_l04Day.b3 : Code := (nthC (loopsOf spec_l04Day.b) 0)
theorem spec_l04Day.lp3 : LpOK Try.prog spec_l04Day.C spec_l04Day.b3 := (LpOK.nil (by kernel_rfl))
theorem spec_l04Day.l3.round (p : Nat × Int × List Nat) (s : Bool × Int) : roundL spec_l04Day.C [1, 3, 9, 10] [1, 3, 9] spec_l04Day.b3 (spec_l04Day.l3.cd.enc (p, s)).1 (spec_l04Day.l3.cd.enc (p, s)).2 = (spec_l04Day.l3.st p s).map (encSum (fun s => spec_l04Day.l3.cd.enc (p, s)) (spec_l04Day.l3.out p)) := by kernel_rfl
theorem spec_l04Day.l3.lok : LoopOK Try.prog spec_l04Day.C ⟨[1, 3, 9, 10], [1, 3, 9], spec_l04Day.l3.c⟩ spec_l04Day.b3 := loop_cd spec_l04Day.l3.cd spec_l04Day.hC spec_l04Day.lp3 spec_l04Day.l3.round fun p => Gets.leaf
theorem spec_l04Day.lp : LpOK Try.prog spec_l04Day.C spec_l04Day.b := lp_of (by kernel_rfl) (LpsOK.cons (k := 3) (by kernel_rfl) (by kernel_rfl) spec_l04Day.l3.lok LpsOK.nil)
noncomputable def spec_l04Day.t (x0 : Nat) (x1 : Nat) (x2 : Nat) (x3 : Nat) (x4 : Nat) (x5 : Nat) (x6 : Bool) (x7 : List Nat) : T Int :=
  .br (Option.isSome (spec_l04Day.l3.r (x4, (spec_l04Asked x0 x1 x2 x3 0 x5), x7) (x6, (0 : Int))))
  (.br ((spec_l04Asked x0 x1 x2 x3 0 x5) == (0 : Int))
   (.br (!(Option.getD (spec_l04Day.l3.r (x4, (spec_l04Asked x0 x1 x2 x3 0 x5), x7) (x6, (0 : Int))) default))
    (.br ((2 : Int) == (0 : Int))
     (.br (decide (((x4 : Nat) : Int) > (60 : Int)))
      (.leaf (3 : Int))
      (.leaf (2 : Int)))
     (.leaf (2 : Int)))
    (.br ((spec_l04Asked x0 x1 x2 x3 0 x5) == (0 : Int))
     (.br (decide (((x4 : Nat) : Int) > (60 : Int)))
      (.leaf (3 : Int))
      (.leaf (spec_l04Asked x0 x1 x2 x3 0 x5)))
     (.leaf (spec_l04Asked x0 x1 x2 x3 0 x5))))
   (.br ((spec_l04Asked x0 x1 x2 x3 0 x5) == (0 : Int))
    (.br (decide (((x4 : Nat) : Int) > (60 : Int)))
     (.leaf (3 : Int))
     (.leaf (spec_l04Asked x0 x1 x2 x3 0 x5)))
    (.leaf (spec_l04Asked x0 x1 x2 x3 0 x5))))
  .bad
noncomputable def spec_l04Day (x0 : Nat) (x1 : Nat) (x2 : Nat) (x3 : Nat) (x4 : Nat) (x5 : Nat) (x6 : Bool) (x7 : List Nat) : Int := (spec_l04Day.t x0 x1 x2 x3 x4 x5 x6 x7).val
noncomputable def spec_l04Day.ok (x0 : Nat) (x1 : Nat) (x2 : Nat) (x3 : Nat) (x4 : Nat) (x5 : Nat) (x6 : Bool) (x7 : List Nat) : Bool := (spec_l04Day.t x0 x1 x2 x3 x4 x5 x6 x7).ok
def spec_l04Day.cd : Cd (Nat × Nat × Nat × Nat × Nat × Nat × Bool × List Nat) (List V × Hp) := Cd.iso (Cd.pair (Cd.cons (Cd.agg (Cd.cons (Cd.fl .f32) (Cd.cons (Cd.fl .f32) (Cd.cons (Cd.fl .f32) (Cd.cons (Cd.fl .f32) Cd.nil))))) (Cd.cons (Cd.own 0) (Cd.cons (Cd.fl .f32) (Cd.cons Cd.bo Cd.nil)))) (Cd.cons (Cd.rw 22 1 (Cd.fs .f32)) Cd.nil)) (fun a => (a.1.1.1, a.1.1.2.1, a.1.1.2.2.1, a.1.1.2.2.2.1, a.1.2.1, a.1.2.2.1, a.1.2.2.2.1, a.2.1)) (fun a => (((a.1, (a.2.1, (a.2.2.1, (a.2.2.2.1, ())))), (a.2.2.2.2.1, (a.2.2.2.2.2.1, (a.2.2.2.2.2.2.1, ())))), (a.2.2.2.2.2.2.2, ()))) (fun _ => rfl)
noncomputable def spec_l04Day.tr (a : Nat × Nat × Nat × Nat × Nat × Nat × Bool × List Nat) : T Int := spec_l04Day.t a.1 a.2.1 a.2.2.1 a.2.2.2.1 a.2.2.2.2.1 a.2.2.2.2.2.1 a.2.2.2.2.2.2.1 a.2.2.2.2.2.2.2
def spec_l04Day.enc : (Nat × Nat × Nat × Nat × Nat × Nat × Bool × List Nat) → Int → V := fun a r => .it .i64 r
noncomputable def spec_l04Day.c : List V → Hp → T V := cdQ spec_l04Day.cd (fun a => .br (spec_l04Day.ok a.1 a.2.1 a.2.2.1 a.2.2.2.1 a.2.2.2.2.1 a.2.2.2.2.2.1 a.2.2.2.2.2.2.1 a.2.2.2.2.2.2.2) (.leaf (spec_l04Day.enc a (spec_l04Day a.1 a.2.1 a.2.2.1 a.2.2.2.1 a.2.2.2.2.1 a.2.2.2.2.2.1 a.2.2.2.2.2.2.1 a.2.2.2.2.2.2.2))) .bad)
theorem spec_l04Day.run (a : Nat × Nat × Nat × Nat × Nat × Nat × Bool × List Nat) : runF spec_l04Day.C Try.f62.results.toList spec_l04Day.b (spec_l04Day.cd.enc a).1 (spec_l04Day.cd.enc a).2 = (spec_l04Day.tr a).map fun r => (spec_l04Day.enc a r, (spec_l04Day.cd.enc a).2) := by kernel_rfl
theorem spec_l04Day.cok : OKq Try.prog 62 spec_l04Day.c := con_q' spec_l04Day.cd spec_l04Day.hC Try.func62 (by kernel_rfl) (by kernel_rfl) (by kernel_rfl) spec_l04Day.lp (fun a => by kernel_rfl) spec_l04Day.run (Tells.ok (tree := spec_l04Day.tr))
/-! ### spec_l04Idle -/
noncomputable def spec_l04Idle.b : Code := bodyOf Try.f81
noncomputable def spec_l04Idle.C : Ctx := { ty := tys, fn := [], lp := [], n := 12, k := 0 }
theorem spec_l04Idle.hC : CtxOK Try.prog spec_l04Idle.C := CtxOK.of mo tys_ok FnsOK.nil
theorem spec_l04Idle.lp : LpOK Try.prog spec_l04Idle.C spec_l04Idle.b := (LpOK.nil (by kernel_rfl))
noncomputable def spec_l04Idle.t (x0 : Nat) (x1 : Nat) (x2 : Nat) (x3 : Nat) (x4 : Nat) : T Nat :=
  .leaf (fadd .f32 x0 (fmul .f32 x1 x4))
noncomputable def spec_l04Idle (x0 : Nat) (x1 : Nat) (x2 : Nat) (x3 : Nat) (x4 : Nat) : Nat := (spec_l04Idle.t x0 x1 x2 x3 x4).val
def spec_l04Idle.cd : Cd (Nat × Nat × Nat × Nat × Nat) (List V × Hp) := Cd.iso (Cd.pair (Cd.cons (Cd.agg (Cd.cons (Cd.fl .f32) (Cd.cons (Cd.fl .f32) (Cd.cons (Cd.fl .f32) (Cd.cons (Cd.fl .f32) Cd.nil))))) (Cd.cons (Cd.fl .f32) Cd.nil)) Cd.nil) (fun a => (a.1.1.1, a.1.1.2.1, a.1.1.2.2.1, a.1.1.2.2.2.1, a.1.2.1)) (fun a => (((a.1, (a.2.1, (a.2.2.1, (a.2.2.2.1, ())))), (a.2.2.2.2, ())), ())) (fun _ => rfl)
noncomputable def spec_l04Idle.tr (a : Nat × Nat × Nat × Nat × Nat) : T Nat := spec_l04Idle.t a.1 a.2.1 a.2.2.1 a.2.2.2.1 a.2.2.2.2
def spec_l04Idle.enc : (Nat × Nat × Nat × Nat × Nat) → Nat → V := fun a r => .fl .f32 r
noncomputable def spec_l04Idle.c : List V → Hp → T V := cdQ spec_l04Idle.cd (fun a => .leaf (spec_l04Idle.enc a (spec_l04Idle a.1 a.2.1 a.2.2.1 a.2.2.2.1 a.2.2.2.2)))
theorem spec_l04Idle.run (a : Nat × Nat × Nat × Nat × Nat) : runF spec_l04Idle.C Try.f81.results.toList spec_l04Idle.b (spec_l04Idle.cd.enc a).1 (spec_l04Idle.cd.enc a).2 = (spec_l04Idle.tr a).map fun r => (spec_l04Idle.enc a r, (spec_l04Idle.cd.enc a).2) := by kernel_rfl
theorem spec_l04Idle.cok : OKq Try.prog 81 spec_l04Idle.c := con_q' spec_l04Idle.cd spec_l04Idle.hC Try.func81 (by kernel_rfl) (by kernel_rfl) (by kernel_rfl) spec_l04Idle.lp (fun a => by kernel_rfl) spec_l04Idle.run (Tells.val (tree := spec_l04Idle.tr) fun a => by kernel_rfl)
/-! ### spec_l04Load -/
noncomputable def spec_l04Load.b : Code := bodyOf Try.f56
noncomputable def spec_l04Load.C : Ctx := { ty := tys, fn := [(81, .q spec_l04Idle.c)], lp := [], n := 15, k := 0 }
theorem spec_l04Load.hC : CtxOK Try.prog spec_l04Load.C := CtxOK.of mo tys_ok (FnsOK.cons spec_l04Idle.cok FnsOK.nil)
theorem spec_l04Load.lp : LpOK Try.prog spec_l04Load.C spec_l04Load.b := (LpOK.nil (by kernel_rfl))
noncomputable def spec_l04Load.t (x0 : Nat) (x1 : Nat) (x2 : Nat) (x3 : Nat) (x4 : Nat) (x5 : Nat) : T Nat :=
  .leaf (fadd .f32 (spec_l04Idle x0 x1 x2 x3 x4) (fmul .f32 x2 x5))
noncomputable def spec_l04Load (x0 : Nat) (x1 : Nat) (x2 : Nat) (x3 : Nat) (x4 : Nat) (x5 : Nat) : Nat := (spec_l04Load.t x0 x1 x2 x3 x4 x5).val
def spec_l04Load.cd : Cd (Nat × Nat × Nat × Nat × Nat × Nat) (List V × Hp) := Cd.iso (Cd.pair (Cd.cons (Cd.agg (Cd.cons (Cd.fl .f32) (Cd.cons (Cd.fl .f32) (Cd.cons (Cd.fl .f32) (Cd.cons (Cd.fl .f32) Cd.nil))))) (Cd.cons (Cd.fl .f32) (Cd.cons (Cd.fl .f32) Cd.nil))) Cd.nil) (fun a => (a.1.1.1, a.1.1.2.1, a.1.1.2.2.1, a.1.1.2.2.2.1, a.1.2.1, a.1.2.2.1)) (fun a => (((a.1, (a.2.1, (a.2.2.1, (a.2.2.2.1, ())))), (a.2.2.2.2.1, (a.2.2.2.2.2, ()))), ())) (fun _ => rfl)
noncomputable def spec_l04Load.tr (a : Nat × Nat × Nat × Nat × Nat × Nat) : T Nat := spec_l04Load.t a.1 a.2.1 a.2.2.1 a.2.2.2.1 a.2.2.2.2.1 a.2.2.2.2.2
def spec_l04Load.enc : (Nat × Nat × Nat × Nat × Nat × Nat) → Nat → V := fun a r => .fl .f32 r
noncomputable def spec_l04Load.c : List V → Hp → T V := cdQ spec_l04Load.cd (fun a => .leaf (spec_l04Load.enc a (spec_l04Load a.1 a.2.1 a.2.2.1 a.2.2.2.1 a.2.2.2.2.1 a.2.2.2.2.2)))
theorem spec_l04Load.run (a : Nat × Nat × Nat × Nat × Nat × Nat) : runF spec_l04Load.C Try.f56.results.toList spec_l04Load.b (spec_l04Load.cd.enc a).1 (spec_l04Load.cd.enc a).2 = (spec_l04Load.tr a).map fun r => (spec_l04Load.enc a r, (spec_l04Load.cd.enc a).2) := by kernel_rfl
theorem spec_l04Load.cok : OKq Try.prog 56 spec_l04Load.c := con_q' spec_l04Load.cd spec_l04Load.hC Try.func56 (by kernel_rfl) (by kernel_rfl) (by kernel_rfl) spec_l04Load.lp (fun a => by kernel_rfl) spec_l04Load.run (Tells.val (tree := spec_l04Load.tr) fun a => by kernel_rfl)
/-! ### spec_l04Sum -/
noncomputable def spec_l04Sum.b : Code := bodyOf Try.f80
noncomputable def spec_l04Sum.l3.s (x0 : Nat) (x1 : Nat) (x2 : Nat) (x3 : Nat) (x4 : Int) (x5 : List Nat) : T ((Nat × Int) ⊕ Nat) :=
  .br (decide (x4 < ((x0 : Nat) : Int)))
  (.br (bounds x4 x0)
   (.br (Nat.ble ((Int.toNat x4 * 4) + 4) (List.length x5))
    (.leaf (.inl ((fadd .f32 x3 (spec_l04Load (List.getD x5 (Int.toNat x4 * 4) 0) (List.getD x5 ((Int.toNat x4 * 4) + 1) 0) (List.getD x5 (((Int.toNat x4 * 4) + 1) + 1) 0) (List.getD x5 ((((Int.toNat x4 * 4) + 1) + 1) + 1) 0) x1 x2)), (IntKind.wrap .i64 (x4 + (1 : Int))))))
    .bad)
   .bad)
  (.leaf (.inr x3))
noncomputable def spec_l04Sum.l3.st (p : Nat × Nat × Nat × List Nat) (x : Nat × Int) : T ((Nat × Int) ⊕ Nat) := spec_l04Sum.l3.s p.1 p.2.1 p.2.2.1 x.1 x.2 p.2.2.2
noncomputable def spec_l04Sum.l3.r (p : Nat × Nat × Nat × List Nat) (x : Nat × Int) : Option Nat := iterT (spec_l04Sum.l3.st p) manyRounds x
def spec_l04Sum.l3.cd : Cd ((Nat × Nat × Nat × List Nat) × (Nat × Int)) (List V × Hp) := Cd.iso (Cd.pair (Cd.cons (Cd.own 0) (Cd.cons (Cd.fl .f32) (Cd.cons (Cd.fl .f32) (Cd.cons (Cd.fl .f32) (Cd.cons (Cd.it .i64) Cd.nil))))) (Cd.cons (Cd.rw 28 4 (Cd.fs .f32)) Cd.nil)) (fun a => ((a.1.1, a.1.2.1, a.1.2.2.1, a.2.1), (a.1.2.2.2.1, a.1.2.2.2.2.1))) (fun a => ((a.1.1, (a.1.2.1, (a.1.2.2.1, (a.2.1, (a.2.2, ()))))), (a.1.2.2.2, ()))) (fun _ => rfl)
def spec_l04Sum.l3.out (p : Nat × Nat × Nat × List Nat) : Nat → X × List V × Hp := (fun r => (.ex 0, [.fl .f32 r], [some ⟨true, 28, 4, .fs .f32 p.2.2.2⟩]))
def spec_l04Sum.l3.ex (p : Nat × Nat × Nat × List Nat) : Nat → T (X × List V × Hp) := leafT (fun r => (.ex 0, [.fl .f32 r], [some ⟨true, 28, 4, .fs .f32 p.2.2.2⟩]))
noncomputable def spec_l04Sum.l3.c : List V → Hp → T (X × List V × Hp) := cdL spec_l04Sum.l3.cd fun x => optT (spec_l04Sum.l3.r x.1 x.2) (spec_l04Sum.l3.ex x.1)
noncomputable def spec_l04Sum.C : Ctx := { ty := tys, fn := [(56, .q spec_l04Load.c)], lp := [(3, ⟨[0, 1, 2, 7, 8], [7], spec_l04Sum.l3.c⟩)], n := 25, k := 1 }
theorem spec_l04Sum.hC : CtxOK Try.prog spec_l04Sum.C := CtxOK.of mo tys_ok (FnsOK.cons spec_l04Load.cok FnsOK.nil)
noncomputable def spec_l04Sum.b3 : Code := (nthC (loopsOf spec_l04Sum.b) 0)
theorem spec_l04Sum.lp3 : LpOK Try.prog spec_l04Sum.C spec_l04Sum.b3 := (LpOK.nil (by kernel_rfl))
theorem spec_l04Sum.l3.round (p : Nat × Nat × Nat × List Nat) (s : Nat × Int) : roundL spec_l04Sum.C [0, 1, 2, 7, 8] [7] spec_l04Sum.b3 (spec_l04Sum.l3.cd.enc (p, s)).1 (spec_l04Sum.l3.cd.enc (p, s)).2 = (spec_l04Sum.l3.st p s).map (encSum (fun s => spec_l04Sum.l3.cd.enc (p, s)) (spec_l04Sum.l3.out p)) := by kernel_rfl
theorem spec_l04Sum.l3.lok : LoopOK Try.prog spec_l04Sum.C ⟨[0, 1, 2, 7, 8], [7], spec_l04Sum.l3.c⟩ spec_l04Sum.b3 := loop_cd spec_l04Sum.l3.cd spec_l04Sum.hC spec_l04Sum.lp3 spec_l04Sum.l3.round fun p => Gets.leaf
theorem spec_l04Sum.lp : LpOK Try.prog spec_l04Sum.C spec_l04Sum.b := lp_of (by kernel_rfl) (LpsOK.cons (k := 3) (by kernel_rfl) (by kernel_rfl) spec_l04Sum.l3.lok LpsOK.nil)
noncomputable def spec_l04Sum.t (x0 : Nat) (x1 : Nat) (x2 : Nat) (x3 : List Nat) : T Nat :=
  .br (Option.isSome (spec_l04Sum.l3.r (x0, x1, x2, x3) (0, (0 : Int))))
  (.leaf (Option.getD (spec_l04Sum.l3.r (x0, x1, x2, x3) (0, (0 : Int))) default))
  .bad
noncomputable def spec_l04Sum (x0 : Nat) (x1 : Nat) (x2 : Nat) (x3 : List Nat) : Nat := (spec_l04Sum.t x0 x1 x2 x3).val
noncomputable def spec_l04Sum.ok (x0 : Nat) (x1 : Nat) (x2 : Nat) (x3 : List Nat) : Bool := (spec_l04Sum.t x0 x1 x2 x3).ok
def spec_l04Sum.cd : Cd (Nat × Nat × Nat × List Nat) (List V × Hp) := Cd.iso (Cd.pair (Cd.cons (Cd.own 0) (Cd.cons (Cd.fl .f32) (Cd.cons (Cd.fl .f32) Cd.nil))) (Cd.cons (Cd.rw 28 4 (Cd.fs .f32)) Cd.nil)) (fun a => (a.1.1, a.1.2.1, a.1.2.2.1, a.2.1)) (fun a => ((a.1, (a.2.1, (a.2.2.1, ()))), (a.2.2.2, ()))) (fun _ => rfl)
noncomputable def spec_l04Sum.tr (a : Nat × Nat × Nat × List Nat) : T Nat := spec_l04Sum.t a.1 a.2.1 a.2.2.1 a.2.2.2
def spec_l04Sum.enc : (Nat × Nat × Nat × List Nat) → Nat → V := fun a r => .fl .f32 r
noncomputable def spec_l04Sum.c : List V → Hp → T V := cdQ spec_l04Sum.cd (fun a => .br (spec_l04Sum.ok a.1 a.2.1 a.2.2.1 a.2.2.2) (.leaf (spec_l04Sum.enc a (spec_l04Sum a.1 a.2.1 a.2.2.1 a.2.2.2))) .bad)
theorem spec_l04Sum.run (a : Nat × Nat × Nat × List Nat) : runF spec_l04Sum.C Try.f80.results.toList spec_l04Sum.b (spec_l04Sum.cd.enc a).1 (spec_l04Sum.cd.enc a).2 = (spec_l04Sum.tr a).map fun r => (spec_l04Sum.enc a r, (spec_l04Sum.cd.enc a).2) := by kernel_rfl
theorem spec_l04Sum.cok : OKq Try.prog 80 spec_l04Sum.c := con_q' spec_l04Sum.cd spec_l04Sum.hC Try.func80 (by kernel_rfl) (by kernel_rfl) (by kernel_rfl) spec_l04Sum.lp (fun a => by kernel_rfl) spec_l04Sum.run (Tells.ok (tree := spec_l04Sum.tr))
/-! ### spec_l04Steady -/
noncomputable def spec_l04Steady.b : Code := bodyOf Try.f55
noncomputable def spec_l04Steady.l6.s (x0 : Nat) (x1 : Nat) (x2 : Nat) (x3 : Int) (x4 : Nat) (x5 : Nat) (x6 : Int) (x7 : List Nat) : T ((Nat × Nat × Int) ⊕ Nat) :=
  .br (decide (x6 < x3))
  (.br (spec_l04Sum.ok x0 (fdiv .f32 (fadd .f32 x4 x5) 1073741824) x2 x7)
   (.br (fgt .f32 (spec_l04Sum x0 (fdiv .f32 (fadd .f32 x4 x5) 1073741824) x2 x7) x1)
    (.leaf (.inl (x4, (fdiv .f32 (fadd .f32 x4 x5) 1073741824), (IntKind.wrap .i64 (x6 + (1 : Int))))))
    (.leaf (.inl ((fdiv .f32 (fadd .f32 x4 x5) 1073741824), x5, (IntKind.wrap .i64 (x6 + (1 : Int)))))))
   .bad)
  (.leaf (.inr x4))
noncomputable def spec_l04Steady.l6.st (p : Nat × Nat × Nat × Int × List Nat) (x : Nat × Nat × Int) : T ((Nat × Nat × Int) ⊕ Nat) := spec_l04Steady.l6.s p.1 p.2.1 p.2.2.1 p.2.2.2.1 x.1 x.2.1 x.2.2 p.2.2.2.2
noncomputable def spec_l04Steady.l6.r (p : Nat × Nat × Nat × Int × List Nat) (x : Nat × Nat × Int) : Option Nat := iterT (spec_l04Steady.l6.st p) manyRounds x
def spec_l04Steady.l6.cd : Cd ((Nat × Nat × Nat × Int × List Nat) × (Nat × Nat × Int)) (List V × Hp) := Cd.iso (Cd.pair (Cd.cons (Cd.own 0) (Cd.cons (Cd.fl .f32) (Cd.cons (Cd.fl .f32) (Cd.cons (Cd.it .i64) (Cd.cons (Cd.fl .f32) (Cd.cons (Cd.fl .f32) (Cd.cons (Cd.it .i64) Cd.nil))))))) (Cd.cons (Cd.rw 28 4 (Cd.fs .f32)) Cd.nil)) (fun a => ((a.1.1, a.1.2.1, a.1.2.2.1, a.1.2.2.2.1, a.2.1), (a.1.2.2.2.2.1, a.1.2.2.2.2.2.1, a.1.2.2.2.2.2.2.1))) (fun a => ((a.1.1, (a.1.2.1, (a.1.2.2.1, (a.1.2.2.2.1, (a.2.1, (a.2.2.1, (a.2.2.2, ()))))))), (a.1.2.2.2.2, ()))) (fun _ => rfl)
def spec_l04Steady.l6.out (p : Nat × Nat × Nat × Int × List Nat) : Nat → X × List V × Hp := (fun r => (.ex 0, [.fl .f32 r], [some ⟨true, 28, 4, .fs .f32 p.2.2.2.2⟩]))
def spec_l04Steady.l6.ex (p : Nat × Nat × Nat × Int × List Nat) : Nat → T (X × List V × Hp) := leafT (fun r => (.ex 0, [.fl .f32 r], [some ⟨true, 28, 4, .fs .f32 p.2.2.2.2⟩]))
noncomputable def spec_l04Steady.l6.c : List V → Hp → T (X × List V × Hp) := cdL spec_l04Steady.l6.cd fun x => optT (spec_l04Steady.l6.r x.1 x.2) (spec_l04Steady.l6.ex x.1)
noncomputable def spec_l04Steady.C : Ctx := { ty := tys, fn := [(80, .q spec_l04Sum.c)], lp := [(6, ⟨[0, 1, 2, 3, 10, 11, 12], [10], spec_l04Steady.l6.c⟩)], n := 37, k := 1 }
theorem spec_l04Steady.hC : CtxOK Try.prog spec_l04Steady.C := CtxOK.of mo tys_ok (FnsOK.cons spec_l04Sum.cok FnsOK.nil)
noncomputable def spec_l04Steady.b6 : Code := (nthC (loopsOf spec_l04Steady.b) 0)
theorem spec_l04Steady.lp6 : LpOK Try.prog spec_l04Steady.C spec_l04Steady.b6 := (LpOK.nil (by kernel_rfl))
theorem spec_l04Steady.l6.round (p : Nat × Nat × Nat × Int × List Nat) (s : Nat × Nat × Int) : roundL spec_l04Steady.C [0, 1, 2, 3, 10, 11, 12] [10] spec_l04Steady.b6 (spec_l04Steady.l6.cd.enc (p, s)).1 (spec_l04Steady.l6.cd.enc (p, s)).2 = (spec_l04Steady.l6.st p s).map (encSum (fun s => spec_l04Steady.l6.cd.enc (p, s)) (spec_l04Steady.l6.out p)) := by kernel_rfl
theorem spec_l04Steady.l6.lok : LoopOK Try.prog spec_l04Steady.C ⟨[0, 1, 2, 3, 10, 11, 12], [10], spec_l04Steady.l6.c⟩ spec_l04Steady.b6 := loop_cd spec_l04Steady.l6.cd spec_l04Steady.hC spec_l04Steady.lp6 spec_l04Steady.l6.round fun p => Gets.leaf
theorem spec_l04Steady.lp : LpOK Try.prog spec_l04Steady.C spec_l04Steady.b := lp_of (by kernel_rfl) (LpsOK.cons (k := 6) (by kernel_rfl) (by kernel_rfl) spec_l04Steady.l6.lok LpsOK.nil)
noncomputable def spec_l04Steady.t (x0 : Nat) (x1 : Nat) (x2 : Nat) (x3 : Int) (x4 : List Nat) : T (Nat × Bool) :=
  .br (spec_l04Sum.ok x0 0 x2 x4)
  (.br (fgt .f32 (spec_l04Sum x0 0 x2 x4) x1)
   (.leaf (0, false))
   (.br (Option.isSome (spec_l04Steady.l6.r (x0, x1, x2, x3, x4) (0, 1149239296, (0 : Int))))
    (.leaf ((Option.getD (spec_l04Steady.l6.r (x0, x1, x2, x3, x4) (0, 1149239296, (0 : Int))) default), true))
    .bad))
  .bad
noncomputable def spec_l04Steady (x0 : Nat) (x1 : Nat) (x2 : Nat) (x3 : Int) (x4 : List Nat) : Nat × Bool := (spec_l04Steady.t x0 x1 x2 x3 x4).val
noncomputable def spec_l04Steady.ok (x0 : Nat) (x1 : Nat) (x2 : Nat) (x3 : Int) (x4 : List Nat) : Bool := (spec_l04Steady.t x0 x1 x2 x3 x4).ok
def spec_l04Steady.cd : Cd (Nat × Nat × Nat × Int × List Nat) (List V × Hp) := Cd.iso (Cd.pair (Cd.cons (Cd.own 0) (Cd.cons (Cd.fl .f32) (Cd.cons (Cd.fl .f32) (Cd.cons (Cd.it .i64) Cd.nil)))) (Cd.cons (Cd.rw 28 4 (Cd.fs .f32)) Cd.nil)) (fun a => (a.1.1, a.1.2.1, a.1.2.2.1, a.1.2.2.2.1, a.2.1)) (fun a => ((a.1, (a.2.1, (a.2.2.1, (a.2.2.2.1, ())))), (a.2.2.2.2, ()))) (fun _ => rfl)
noncomputable def spec_l04Steady.tr (a : Nat × Nat × Nat × Int × List Nat) : T (Nat × Bool) := spec_l04Steady.t a.1 a.2.1 a.2.2.1 a.2.2.2.1 a.2.2.2.2
def spec_l04Steady.enc : (Nat × Nat × Nat × Int × List Nat) → (Nat × Bool) → V := fun a r => .tup [.fl .f32 r.1, .bo r.2]
noncomputable def spec_l04Steady.c : List V → Hp → T V := cdQ spec_l04Steady.cd (fun a => .br (spec_l04Steady.ok a.1 a.2.1 a.2.2.1 a.2.2.2.1 a.2.2.2.2) (.leaf (spec_l04Steady.enc a (spec_l04Steady a.1 a.2.1 a.2.2.1 a.2.2.2.1 a.2.2.2.2))) .bad)
theorem spec_l04Steady.run (a : Nat × Nat × Nat × Int × List Nat) : runF spec_l04Steady.C Try.f55.results.toList spec_l04Steady.b (spec_l04Steady.cd.enc a).1 (spec_l04Steady.cd.enc a).2 = (spec_l04Steady.tr a).map fun r => (spec_l04Steady.enc a r, (spec_l04Steady.cd.enc a).2) := by kernel_rfl
theorem spec_l04Steady.cok : OKq Try.prog 55 spec_l04Steady.c := con_q' spec_l04Steady.cd spec_l04Steady.hC Try.func55 (by kernel_rfl) (by kernel_rfl) (by kernel_rfl) spec_l04Steady.lp (fun a => by kernel_rfl) spec_l04Steady.run (Tells.ok (tree := spec_l04Steady.tr))
/-! ### spec_l04Flour -/
noncomputable def spec_l04Flour.b : Code := bodyOf Try.f74
noncomputable def spec_l04Flour.C : Ctx := { ty := tys, fn := [], lp := [], n := 13, k := 0 }
theorem spec_l04Flour.hC : CtxOK Try.prog spec_l04Flour.C := CtxOK.of mo tys_ok FnsOK.nil
theorem spec_l04Flour.lp : LpOK Try.prog spec_l04Flour.C spec_l04Flour.b := (LpOK.nil (by kernel_rfl))
noncomputable def spec_l04Flour.t (x0 : Nat) (x1 : Nat) (x2 : Nat) (x3 : Nat) (x4 : Nat) (x5 : Nat) : T Nat :=
  .leaf (fmul .f32 (fmul .f32 x4 x5) x3)
noncomputable def spec_l04Flour (x0 : Nat) (x1 : Nat) (x2 : Nat) (x3 : Nat) (x4 : Nat) (x5 : Nat) : Nat := (spec_l04Flour.t x0 x1 x2 x3 x4 x5).val
def spec_l04Flour.cd : Cd (Nat × Nat × Nat × Nat × Nat × Nat) (List V × Hp) := Cd.iso (Cd.pair (Cd.cons (Cd.agg (Cd.cons (Cd.fl .f32) (Cd.cons (Cd.fl .f32) (Cd.cons (Cd.fl .f32) (Cd.cons (Cd.fl .f32) Cd.nil))))) (Cd.cons (Cd.fl .f32) (Cd.cons (Cd.fl .f32) Cd.nil))) Cd.nil) (fun a => (a.1.1.1, a.1.1.2.1, a.1.1.2.2.1, a.1.1.2.2.2.1, a.1.2.1, a.1.2.2.1)) (fun a => (((a.1, (a.2.1, (a.2.2.1, (a.2.2.2.1, ())))), (a.2.2.2.2.1, (a.2.2.2.2.2, ()))), ())) (fun _ => rfl)
noncomputable def spec_l04Flour.tr (a : Nat × Nat × Nat × Nat × Nat × Nat) : T Nat := spec_l04Flour.t a.1 a.2.1 a.2.2.1 a.2.2.2.1 a.2.2.2.2.1 a.2.2.2.2.2
def spec_l04Flour.enc : (Nat × Nat × Nat × Nat × Nat × Nat) → Nat → V := fun a r => .fl .f32 r
noncomputable def spec_l04Flour.c : List V → Hp → T V := cdQ spec_l04Flour.cd (fun a => .leaf (spec_l04Flour.enc a (spec_l04Flour a.1 a.2.1 a.2.2.1 a.2.2.2.1 a.2.2.2.2.1 a.2.2.2.2.2)))
theorem spec_l04Flour.run (a : Nat × Nat × Nat × Nat × Nat × Nat) : runF spec_l04Flour.C Try.f74.results.toList spec_l04Flour.b (spec_l04Flour.cd.enc a).1 (spec_l04Flour.cd.enc a).2 = (spec_l04Flour.tr a).map fun r => (spec_l04Flour.enc a r, (spec_l04Flour.cd.enc a).2) := by kernel_rfl
theorem spec_l04Flour.cok : OKq Try.prog 74 spec_l04Flour.c := con_q' spec_l04Flour.cd spec_l04Flour.hC Try.func74 (by kernel_rfl) (by kernel_rfl) (by kernel_rfl) spec_l04Flour.lp (fun a => by kernel_rfl) spec_l04Flour.run (Tells.val (tree := spec_l04Flour.tr) fun a => by kernel_rfl)
/-! ### spec_l03Least -/
noncomputable def spec_l03Least.b : Code := bodyOf Try.f94
noncomputable def spec_l03Least.C : Ctx := { ty := tys, fn := [], lp := [], n := 6, k := 0 }
theorem spec_l03Least.hC : CtxOK Try.prog spec_l03Least.C := CtxOK.of mo tys_ok FnsOK.nil
theorem spec_l03Least.lp : LpOK Try.prog spec_l03Least.C spec_l03Least.b := (LpOK.nil (by kernel_rfl))
noncomputable def spec_l03Least.t (x0 : Nat) : T Nat :=
  .br (fgt .f32 x0 0)
  (.leaf x0)
  (.leaf 0)
noncomputable def spec_l03Least (x0 : Nat) : Nat := (spec_l03Least.t x0).val
def spec_l03Least.cd : Cd Nat (List V × Hp) := Cd.iso (Cd.pair (Cd.cons (Cd.fl .f32) Cd.nil) Cd.nil) (fun a => a.1.1) (fun a => ((a, ()), ())) (fun _ => rfl)
noncomputable def spec_l03Least.tr (a : Nat) : T Nat := spec_l03Least.t a
def spec_l03Least.enc : Nat → Nat → V := fun a r => .fl .f32 r
noncomputable def spec_l03Least.c : List V → Hp → T V := cdQ spec_l03Least.cd (fun a => .leaf (spec_l03Least.enc a (spec_l03Least a)))
theorem spec_l03Least.run (a : Nat) : runF spec_l03Least.C Try.f94.results.toList spec_l03Least.b (spec_l03Least.cd.enc a).1 (spec_l03Least.cd.enc a).2 = (spec_l03Least.tr a).map fun r => (spec_l03Least.enc a r, (spec_l03Least.cd.enc a).2) := by kernel_rfl
theorem spec_l03Least.cok : OKq Try.prog 94 spec_l03Least.c := con_q' spec_l03Least.cd spec_l03Least.hC Try.func94 (by kernel_rfl) (by kernel_rfl) (by kernel_rfl) spec_l03Least.lp (fun a => by kernel_rfl) spec_l03Least.run (Tells.val (tree := spec_l03Least.tr) fun a => by kernel_rfl)
/-! ### spec_l04Dulled -/
noncomputable def spec_l04Dulled.b : Code := bodyOf Try.f75
noncomputable def spec_l04Dulled.C : Ctx := { ty := tys, fn := [(94, .q spec_l03Least.c)], lp := [], n := 16, k := 0 }
theorem spec_l04Dulled.hC : CtxOK Try.prog spec_l04Dulled.C := CtxOK.of mo tys_ok (FnsOK.cons spec_l03Least.cok FnsOK.nil)
theorem spec_l04Dulled.lp : LpOK Try.prog spec_l04Dulled.C spec_l04Dulled.b := (LpOK.nil (by kernel_rfl))
noncomputable def spec_l04Dulled.t (x0 : Nat) (x1 : Nat) (x2 : Nat) (x3 : Nat) (x4 : Nat) : T (Nat × Nat × Nat × Nat) :=
  .leaf (x0, x1, x2, (spec_l03Least (fsub .f32 x3 (fmul .f32 x3 (fdiv .f32 x4 1166016512)))))
noncomputable def spec_l04Dulled (x0 : Nat) (x1 : Nat) (x2 : Nat) (x3 : Nat) (x4 : Nat) : Nat × Nat × Nat × Nat := (spec_l04Dulled.t x0 x1 x2 x3 x4).val
def spec_l04Dulled.cd : Cd (Nat × Nat × Nat × Nat × Nat) (List V × Hp) := Cd.iso (Cd.pair (Cd.cons (Cd.agg (Cd.cons (Cd.fl .f32) (Cd.cons (Cd.fl .f32) (Cd.cons (Cd.fl .f32) (Cd.cons (Cd.fl .f32) Cd.nil))))) (Cd.cons (Cd.fl .f32) Cd.nil)) Cd.nil) (fun a => (a.1.1.1, a.1.1.2.1, a.1.1.2.2.1, a.1.1.2.2.2.1, a.1.2.1)) (fun a => (((a.1, (a.2.1, (a.2.2.1, (a.2.2.2.1, ())))), (a.2.2.2.2, ())), ())) (fun _ => rfl)
noncomputable def spec_l04Dulled.tr (a : Nat × Nat × Nat × Nat × Nat) : T (Nat × Nat × Nat × Nat) := spec_l04Dulled.t a.1 a.2.1 a.2.2.1 a.2.2.2.1 a.2.2.2.2
def spec_l04Dulled.enc : (Nat × Nat × Nat × Nat × Nat) → (Nat × Nat × Nat × Nat) → V := fun a r => .agg [.fl .f32 r.1, .fl .f32 r.2.1, .fl .f32 r.2.2.1, .fl .f32 r.2.2.2]
noncomputable def spec_l04Dulled.c : List V → Hp → T V := cdQ spec_l04Dulled.cd (fun a => .leaf (spec_l04Dulled.enc a (spec_l04Dulled a.1 a.2.1 a.2.2.1 a.2.2.2.1 a.2.2.2.2)))
theorem spec_l04Dulled.run (a : Nat × Nat × Nat × Nat × Nat) : runF spec_l04Dulled.C Try.f75.results.toList spec_l04Dulled.b (spec_l04Dulled.cd.enc a).1 (spec_l04Dulled.cd.enc a).2 = (spec_l04Dulled.tr a).map fun r => (spec_l04Dulled.enc a r, (spec_l04Dulled.cd.enc a).2) := by kernel_rfl
theorem spec_l04Dulled.cok : OKq Try.prog 75 spec_l04Dulled.c := con_q' spec_l04Dulled.cd spec_l04Dulled.hC Try.func75 (by kernel_rfl) (by kernel_rfl) (by kernel_rfl) spec_l04Dulled.lp (fun a => by kernel_rfl) spec_l04Dulled.run (Tells.val (tree := spec_l04Dulled.tr) fun a => by kernel_rfl)
/-! ### spec_l04Hour -/
noncomputable def spec_l04Hour.b : Code := bodyOf Try.f48
noncomputable def spec_l04Hour.C : Ctx := { ty := tys, fn := [(55, .q spec_l04Steady.c), (74, .q spec_l04Flour.c), (75, .q spec_l04Dulled.c)], lp := [], n := 32, k := 0 }
theorem spec_l04Hour.hC : CtxOK Try.prog spec_l04Hour.C := CtxOK.of mo tys_ok (FnsOK.cons spec_l04Steady.cok (FnsOK.cons spec_l04Flour.cok (FnsOK.cons spec_l04Dulled.cok FnsOK.nil)))
theorem spec_l04Hour.lp : LpOK Try.prog spec_l04Hour.C spec_l04Hour.b := (LpOK.nil (by kernel_rfl))
noncomputable def spec_l04Hour.t (x0 : Nat) (x1 : Nat) (x2 : Nat) (x3 : Nat) (x4 : Nat) (x5 : Nat) : T (Nat × Nat × Nat × Nat × Nat) :=
  .br (spec_l04Steady.ok 1 x4 x5 (40 : Int) [x0, x1, x2, x3])
  (.br (!(spec_l04Steady 1 x4 x5 (40 : Int) [x0, x1, x2, x3]).2)
   (.leaf (x0, x1, x2, x3, 0))
   (.br (fgt .f32 (spec_l04Flour x0 x1 x2 x3 ((spec_l04Steady 1 x4 x5 (40 : Int) [x0, x1, x2, x3]).1) x5) 1233125376)
    (.leaf ((spec_l04Dulled x0 x1 x2 x3 1233125376).1, (spec_l04Dulled x0 x1 x2 x3 1233125376).2.1, (spec_l04Dulled x0 x1 x2 x3 1233125376).2.2.1, (spec_l04Dulled x0 x1 x2 x3 1233125376).2.2.2, 1233125376))
    (.leaf ((spec_l04Dulled x0 x1 x2 x3 (spec_l04Flour x0 x1 x2 x3 ((spec_l04Steady 1 x4 x5 (40 : Int) [x0, x1, x2, x3]).1) x5)).1, (spec_l04Dulled x0 x1 x2 x3 (spec_l04Flour x0 x1 x2 x3 ((spec_l04Steady 1 x4 x5 (40 : Int) [x0, x1, x2, x3]).1) x5)).2.1, (spec_l04Dulled x0 x1 x2 x3 (spec_l04Flour x0 x1 x2 x3 ((spec_l04Steady 1 x4 x5 (40 : Int) [x0, x1, x2, x3]).1) x5)).2.2.1, (spec_l04Dulled x0 x1 x2 x3 (spec_l04Flour x0 x1 x2 x3 ((spec_l04Steady 1 x4 x5 (40 : Int) [x0, x1, x2, x3]).1) x5)).2.2.2, (spec_l04Flour x0 x1 x2 x3 ((spec_l04Steady 1 x4 x5 (40 : Int) [x0, x1, x2, x3]).1) x5)))))
  .bad
noncomputable def spec_l04Hour (x0 : Nat) (x1 : Nat) (x2 : Nat) (x3 : Nat) (x4 : Nat) (x5 : Nat) : Nat × Nat × Nat × Nat × Nat := (spec_l04Hour.t x0 x1 x2 x3 x4 x5).val
noncomputable def spec_l04Hour.ok (x0 : Nat) (x1 : Nat) (x2 : Nat) (x3 : Nat) (x4 : Nat) (x5 : Nat) : Bool := (spec_l04Hour.t x0 x1 x2 x3 x4 x5).ok
def spec_l04Hour.cd : Cd (Nat × Nat × Nat × Nat × Nat × Nat) (List V × Hp) := Cd.iso (Cd.pair (Cd.cons (Cd.agg (Cd.cons (Cd.fl .f32) (Cd.cons (Cd.fl .f32) (Cd.cons (Cd.fl .f32) (Cd.cons (Cd.fl .f32) Cd.nil))))) (Cd.cons (Cd.fl .f32) (Cd.cons (Cd.fl .f32) Cd.nil))) Cd.nil) (fun a => (a.1.1.1, a.1.1.2.1, a.1.1.2.2.1, a.1.1.2.2.2.1, a.1.2.1, a.1.2.2.1)) (fun a => (((a.1, (a.2.1, (a.2.2.1, (a.2.2.2.1, ())))), (a.2.2.2.2.1, (a.2.2.2.2.2, ()))), ())) (fun _ => rfl)
noncomputable def spec_l04Hour.tr (a : Nat × Nat × Nat × Nat × Nat × Nat) : T (Nat × Nat × Nat × Nat × Nat) := spec_l04Hour.t a.1 a.2.1 a.2.2.1 a.2.2.2.1 a.2.2.2.2.1 a.2.2.2.2.2
def spec_l04Hour.enc : (Nat × Nat × Nat × Nat × Nat × Nat) → (Nat × Nat × Nat × Nat × Nat) → V := fun a r => .tup [.agg [.fl .f32 r.1, .fl .f32 r.2.1, .fl .f32 r.2.2.1, .fl .f32 r.2.2.2.1], .fl .f32 r.2.2.2.2]
noncomputable def spec_l04Hour.c : List V → Hp → T V := cdQ spec_l04Hour.cd (fun a => .br (spec_l04Hour.ok a.1 a.2.1 a.2.2.1 a.2.2.2.1 a.2.2.2.2.1 a.2.2.2.2.2) (.leaf (spec_l04Hour.enc a (spec_l04Hour a.1 a.2.1 a.2.2.1 a.2.2.2.1 a.2.2.2.2.1 a.2.2.2.2.2))) .bad)
theorem spec_l04Hour.run (a : Nat × Nat × Nat × Nat × Nat × Nat) : runF spec_l04Hour.C Try.f48.results.toList spec_l04Hour.b (spec_l04Hour.cd.enc a).1 (spec_l04Hour.cd.enc a).2 = (spec_l04Hour.tr a).map fun r => (spec_l04Hour.enc a r, (spec_l04Hour.cd.enc a).2) := by kernel_rfl
theorem spec_l04Hour.cok : OKq Try.prog 48 spec_l04Hour.c := con_q' spec_l04Hour.cd spec_l04Hour.hC Try.func48 (by kernel_rfl) (by kernel_rfl) (by kernel_rfl) spec_l04Hour.lp (fun a => by kernel_rfl) spec_l04Hour.run (Tells.ok (tree := spec_l04Hour.tr))
/-! ### spec_GrindDay -/
noncomputable def spec_GrindDay.b : Code := bodyOf Try.f23
noncomputable def spec_GrindDay.l6.s (x0 : Nat) (x1 : Nat) (x2 : Nat) (x3 : Int) (x4 : List Nat) (x5 : Nat) (x6 : Nat) (x7 : Nat) (x8 : Nat) (x9 : Nat) (x10 : Nat) (x11 : Nat) (x12 : Nat) (x13 : List Nat) : T ((Nat × Int × Nat × Nat × Nat × Nat × List Nat) ⊕ (Nat × Nat × Nat × Nat × Nat × List Nat)) :=
  .br (decide (x3 < ((x0 : Nat) : Int)))
  (.br (bounds x3 x0)
   (.br (Nat.ble ((Int.toNat x3 * 1) + 1) (List.length x4))
    (.br (spec_l04Hour.ok x5 x6 x7 x8 (List.getD x4 (Int.toNat x3 * 1) 0) x1)
     (.br ((Nat.ble 1 (List.length [(spec_l04Hour x5 x6 x7 x8 (List.getD x4 (Int.toNat x3 * 1) 0) x1).2.2.2.2])) && (Nat.beq (List.length x13) (x2 * 1) && Nat.ble ((x2 + 1) * 4) 35184372088832 && Nat.ble (x2 + 1) 35184372088832))
      (.leaf (.inl ((x2 + 1), (IntKind.wrap .i64 (x3 + (1 : Int))), (spec_l04Hour x5 x6 x7 x8 (List.getD x4 (Int.toNat x3 * 1) 0) x1).1, (spec_l04Hour x5 x6 x7 x8 (List.getD x4 (Int.toNat x3 * 1) 0) x1).2.1, (spec_l04Hour x5 x6 x7 x8 (List.getD x4 (Int.toNat x3 * 1) 0) x1).2.2.1, (spec_l04Hour x5 x6 x7 x8 (List.getD x4 (Int.toNat x3 * 1) 0) x1).2.2.2.1, (x13 ++ (List.take 1 (List.drop 0 [(spec_l04Hour x5 x6 x7 x8 (List.getD x4 (Int.toNat x3 * 1) 0) x1).2.2.2.2]))))))
      .bad)
     .bad)
    .bad)
   .bad)
  (.leaf (.inr (x2, x5, x6, x7, x8, x13)))
noncomputable def spec_GrindDay.l6.st (p : Nat × Nat × List Nat × Nat × Nat × Nat × Nat) (x : Nat × Int × Nat × Nat × Nat × Nat × List Nat) : T ((Nat × Int × Nat × Nat × Nat × Nat × List Nat) ⊕ (Nat × Nat × Nat × Nat × Nat × List Nat)) := spec_GrindDay.l6.s p.1 p.2.1 x.1 x.2.1 p.2.2.1 x.2.2.1 x.2.2.2.1 x.2.2.2.2.1 x.2.2.2.2.2.1 p.2.2.2.1 p.2.2.2.2.1 p.2.2.2.2.2.1 p.2.2.2.2.2.2 x.2.2.2.2.2.2
noncomputable def spec_GrindDay.l6.r (p : Nat × Nat × List Nat × Nat × Nat × Nat × Nat) (x : Nat × Int × Nat × Nat × Nat × Nat × List Nat) : Option (Nat × Nat × Nat × Nat × Nat × List Nat) := iterT (spec_GrindDay.l6.st p) manyRounds x
def spec_GrindDay.l6.cd : Cd ((Nat × Nat × List Nat × Nat × Nat × Nat × Nat) × (Nat × Int × Nat × Nat × Nat × Nat × List Nat)) (List V × Hp) := Cd.iso (Cd.pair (Cd.cons (Cd.own 0) (Cd.cons (Cd.fl .f32) (Cd.cons (Cd.pt 1 (Cd.natc 0)) (Cd.cons (Cd.pt 2 (Cd.natc 0)) (Cd.cons (Cd.own 3) (Cd.cons (Cd.it .i64) Cd.nil)))))) (Cd.cons (Cd.rw 22 1 (Cd.fs .f32)) (Cd.cons (Cd.rw 28 4 (Cd.vs (Cd.cons (Cd.fl .f32) (Cd.cons (Cd.fl .f32) (Cd.cons (Cd.fl .f32) (Cd.cons (Cd.fl .f32) Cd.nil)))))) (Cd.cons (Cd.rw 28 4 (Cd.vs (Cd.cons (Cd.fl .f32) (Cd.cons (Cd.fl .f32) (Cd.cons (Cd.fl .f32) (Cd.cons (Cd.fl .f32) Cd.nil)))))) (Cd.cons (Cd.rw 22 1 (Cd.fs .f32)) Cd.nil))))) (fun a => ((a.1.1, a.1.2.1, a.2.1, a.2.2.2.1.1, a.2.2.2.1.2.1, a.2.2.2.1.2.2.1, a.2.2.2.1.2.2.2.1), (a.1.2.2.2.2.1, a.1.2.2.2.2.2.1, a.2.2.1.1, a.2.2.1.2.1, a.2.2.1.2.2.1, a.2.2.1.2.2.2.1, a.2.2.2.2.1))) (fun a => ((a.1.1, (a.1.2.1, ((), ((), (a.2.1, (a.2.2.1, ())))))), (a.1.2.2.1, ((a.2.2.2.1, (a.2.2.2.2.1, (a.2.2.2.2.2.1, (a.2.2.2.2.2.2.1, ())))), ((a.1.2.2.2.1, (a.1.2.2.2.2.1, (a.1.2.2.2.2.2.1, (a.1.2.2.2.2.2.2, ())))), (a.2.2.2.2.2.2.2, ())))))) (fun _ => rfl)
def spec_GrindDay.l6.out (p : Nat × Nat × List Nat × Nat × Nat × Nat × Nat) : (Nat × Nat × Nat × Nat × Nat × List Nat) → X × List V × Hp := (fun r => (.ex 0, [.pt 1 0, .pt 2 0, .own 3 r.1], [some ⟨true, 22, 1, .fs .f32 p.2.2.1⟩, some ⟨true, 28, 4, .vs [.fl .f32 r.2.1, .fl .f32 r.2.2.1, .fl .f32 r.2.2.2.1, .fl .f32 r.2.2.2.2.1]⟩, some ⟨true, 28, 4, .vs [.fl .f32 p.2.2.2.1, .fl .f32 p.2.2.2.2.1, .fl .f32 p.2.2.2.2.2.1, .fl .f32 p.2.2.2.2.2.2]⟩, some ⟨true, 22, 1, .fs .f32 r.2.2.2.2.2⟩]))
def spec_GrindDay.l6.ex (p : Nat × Nat × List Nat × Nat × Nat × Nat × Nat) : (Nat × Nat × Nat × Nat × Nat × List Nat) → T (X × List V × Hp) := leafT (fun r => (.ex 0, [.pt 1 0, .pt 2 0, .own 3 r.1], [some ⟨true, 22, 1, .fs .f32 p.2.2.1⟩, some ⟨true, 28, 4, .vs [.fl .f32 r.2.1, .fl .f32 r.2.2.1, .fl .f32 r.2.2.2.1, .fl .f32 r.2.2.2.2.1]⟩, some ⟨true, 28, 4, .vs [.fl .f32 p.2.2.2.1, .fl .f32 p.2.2.2.2.1, .fl .f32 p.2.2.2.2.2.1, .fl .f32 p.2.2.2.2.2.2]⟩, some ⟨true, 22, 1, .fs .f32 r.2.2.2.2.2⟩]))
noncomputable def spec_GrindDay.l6.c : List V → Hp → T (X × List V × Hp) := cdL spec_GrindDay.l6.cd fun x => optT (spec_GrindDay.l6.r x.1 x.2) (spec_GrindDay.l6.ex x.1)
noncomputable def spec_GrindDay.C : Ctx := { ty := tys, fn := [(62, .q spec_l04Day.c), (48, .q spec_l04Hour.c)], lp := [(6, ⟨[1, 2, 3, 6, 9, 11], [3, 6, 9], spec_GrindDay.l6.c⟩)], n := 47, k := 1 }
theorem spec_GrindDay.hC : CtxOK Try.prog spec_GrindDay.C := CtxOK.of mo tys_ok (FnsOK.cons spec_l04Day.cok (FnsOK.cons spec_l04Hour.cok FnsOK.nil))
noncomputable def spec_GrindDay.b6 : Code := (nthC (loopsOf spec_GrindDay.b) 0)
theorem spec_GrindDay.lp6 : LpOK Try.prog spec_GrindDay.C spec_GrindDay.b6 := (LpOK.nil (by kernel_rfl))
theorem spec_GrindDay.l6.round (p : Nat × Nat × List Nat × Nat × Nat × Nat × Nat) (s : Nat × Int × Nat × Nat × Nat × Nat × List Nat) : roundL spec_GrindDay.C [1, 2, 3, 6, 9, 11] [3, 6, 9] spec_GrindDay.b6 (spec_GrindDay.l6.cd.enc (p, s)).1 (spec_GrindDay.l6.cd.enc (p, s)).2 = (spec_GrindDay.l6.st p s).map (encSum (fun s => spec_GrindDay.l6.cd.enc (p, s)) (spec_GrindDay.l6.out p)) := by kernel_rfl
theorem spec_GrindDay.l6.lok : LoopOK Try.prog spec_GrindDay.C ⟨[1, 2, 3, 6, 9, 11], [3, 6, 9], spec_GrindDay.l6.c⟩ spec_GrindDay.b6 := loop_cd spec_GrindDay.l6.cd spec_GrindDay.hC spec_GrindDay.lp6 spec_GrindDay.l6.round fun p => Gets.leaf
theorem spec_GrindDay.lp : LpOK Try.prog spec_GrindDay.C spec_GrindDay.b := lp_of (by kernel_rfl) (LpsOK.cons (k := 6) (by kernel_rfl) (by kernel_rfl) spec_GrindDay.l6.lok LpsOK.nil)
noncomputable def spec_GrindDay.t (x0 : Nat) (x1 : Nat) (x2 : Nat) (x3 : Nat) (x4 : Nat) (x5 : Nat) (x6 : List Nat) : T (Nat × Nat × Nat × Nat × Nat × Int × List Nat) :=
  .br (spec_l04Day.ok x0 x1 x2 x3 x4 x5 true x6)
  (.br ((spec_l04Day x0 x1 x2 x3 x4 x5 true x6) != (0 : Int))
   (.leaf (0, 0, 0, 0, 0, (spec_l04Day x0 x1 x2 x3 x4 x5 true x6), []))
   (.br (Option.isSome (spec_GrindDay.l6.r (x4, x5, x6, 0, 0, 0, 0) (0, (0 : Int), x0, x1, x2, x3, [])))
    (.leaf ((Option.getD (spec_GrindDay.l6.r (x4, x5, x6, 0, 0, 0, 0) (0, (0 : Int), x0, x1, x2, x3, [])) default).2.1, (Option.getD (spec_GrindDay.l6.r (x4, x5, x6, 0, 0, 0, 0) (0, (0 : Int), x0, x1, x2, x3, [])) default).2.2.1, (Option.getD (spec_GrindDay.l6.r (x4, x5, x6, 0, 0, 0, 0) (0, (0 : Int), x0, x1, x2, x3, [])) default).2.2.2.1, (Option.getD (spec_GrindDay.l6.r (x4, x5, x6, 0, 0, 0, 0) (0, (0 : Int), x0, x1, x2, x3, [])) default).2.2.2.2.1, (Option.getD (spec_GrindDay.l6.r (x4, x5, x6, 0, 0, 0, 0) (0, (0 : Int), x0, x1, x2, x3, [])) default).1, (0 : Int), (Option.getD (spec_GrindDay.l6.r (x4, x5, x6, 0, 0, 0, 0) (0, (0 : Int), x0, x1, x2, x3, [])) default).2.2.2.2.2))
    .bad))
  .bad
noncomputable def spec_GrindDay (x0 : Nat) (x1 : Nat) (x2 : Nat) (x3 : Nat) (x4 : Nat) (x5 : Nat) (x6 : List Nat) : Nat × Nat × Nat × Nat × Nat × Int × List Nat := (spec_GrindDay.t x0 x1 x2 x3 x4 x5 x6).val
noncomputable def spec_GrindDay.ok (x0 : Nat) (x1 : Nat) (x2 : Nat) (x3 : Nat) (x4 : Nat) (x5 : Nat) (x6 : List Nat) : Bool := (spec_GrindDay.t x0 x1 x2 x3 x4 x5 x6).ok
def spec_GrindDay.cd : Cd (Nat × Nat × Nat × Nat × Nat × Nat × List Nat) (List V × Hp) := Cd.iso (Cd.pair (Cd.cons (Cd.agg (Cd.cons (Cd.fl .f32) (Cd.cons (Cd.fl .f32) (Cd.cons (Cd.fl .f32) (Cd.cons (Cd.fl .f32) Cd.nil))))) (Cd.cons (Cd.own 0) (Cd.cons (Cd.fl .f32) Cd.nil))) (Cd.cons (Cd.rw 22 1 (Cd.fs .f32)) Cd.nil)) (fun a => (a.1.1.1, a.1.1.2.1, a.1.1.2.2.1, a.1.1.2.2.2.1, a.1.2.1, a.1.2.2.1, a.2.1)) (fun a => (((a.1, (a.2.1, (a.2.2.1, (a.2.2.2.1, ())))), (a.2.2.2.2.1, (a.2.2.2.2.2.1, ()))), (a.2.2.2.2.2.2, ()))) (fun _ => rfl)
noncomputable def spec_GrindDay.tr (a : Nat × Nat × Nat × Nat × Nat × Nat × List Nat) : T (Nat × Nat × Nat × Nat × Nat × Int × List Nat) := spec_GrindDay.t a.1 a.2.1 a.2.2.1 a.2.2.2.1 a.2.2.2.2.1 a.2.2.2.2.2.1 a.2.2.2.2.2.2
def spec_GrindDay.enc : (Nat × Nat × Nat × Nat × Nat × Nat × List Nat) → (Nat × Nat × Nat × Nat × Nat × Int × List Nat) → V × Hp := fun a r => (.tup [.agg [.fl .f32 r.1, .fl .f32 r.2.1, .fl .f32 r.2.2.1, .fl .f32 r.2.2.2.1], .own 1 r.2.2.2.2.1, .it .i64 r.2.2.2.2.2.1], [some ⟨true, 22, 1, .fs .f32 a.2.2.2.2.2.2⟩, some ⟨true, 22, 1, .fs .f32 r.2.2.2.2.2.2⟩])
noncomputable def spec_GrindDay.c : List V → Hp → T (V × Hp) := cdE spec_GrindDay.cd (fun a => .br (spec_GrindDay.ok a.1 a.2.1 a.2.2.1 a.2.2.2.1 a.2.2.2.2.1 a.2.2.2.2.2.1 a.2.2.2.2.2.2) (.leaf (spec_GrindDay.enc a (spec_GrindDay a.1 a.2.1 a.2.2.1 a.2.2.2.1 a.2.2.2.2.1 a.2.2.2.2.2.1 a.2.2.2.2.2.2))) .bad)
theorem spec_GrindDay.run (a : Nat × Nat × Nat × Nat × Nat × Nat × List Nat) : runF spec_GrindDay.C Try.f23.results.toList spec_GrindDay.b (spec_GrindDay.cd.enc a).1 (spec_GrindDay.cd.enc a).2 = (spec_GrindDay.tr a).map (spec_GrindDay.enc a) := by kernel_rfl
theorem spec_GrindDay.cok : OKe Try.prog 23 spec_GrindDay.c := con_e' spec_GrindDay.cd spec_GrindDay.hC Try.func23 (by kernel_rfl) (by kernel_rfl) (by kernel_rfl) spec_GrindDay.lp (fun a => by kernel_rfl) spec_GrindDay.run (Tells.ok (tree := spec_GrindDay.tr))
/-! ### spec_l01Same -/
noncomputable def spec_l01Same.b : Code := bodyOf Try.f71
noncomputable def spec_l01Same.C : Ctx := { ty := tys, fn := [(92, .q f32bitsC)], lp := [], n := 26, k := 0 }
theorem spec_l01Same.hC : CtxOK Try.prog spec_l01Same.C := CtxOK.of mo tys_ok (FnsOK.cons (f32bits_ok Try.func92 (by kernel_rfl) (by kernel_rfl) (by kernel_rfl) (by kernel_rfl)) FnsOK.nil)
theorem spec_l01Same.lp : LpOK Try.prog spec_l01Same.C spec_l01Same.b := (LpOK.nil (by kernel_rfl))
noncomputable def spec_l01Same.t (x0 : Nat) (x1 : Nat) : T Bool :=
  .br (fne .f32 x0 x0)
  (.br (fne .f32 x0 x0)
   (.leaf (fne .f32 x1 x1))
   (.leaf false))
  (.br (fne .f32 x1 x1)
   (.br (fne .f32 x0 x0)
    (.leaf (fne .f32 x1 x1))
    (.leaf false))
   (.br (isNaN .f32 x0)
    (.br (isNaN .f32 x1)
     .bad
     (.br (isNaN .f32 (Int.toNat ((x1 : Nat) : Int)))
      .bad
      (.leaf false)))
    (.br (isNaN .f32 x1)
     (.br (isNaN .f32 (Int.toNat ((x0 : Nat) : Int)))
      .bad
      (.leaf false))
     (.leaf (((x0 : Nat) : Int) == ((x1 : Nat) : Int))))))
noncomputable def spec_l01Same (x0 : Nat) (x1 : Nat) : Bool := (spec_l01Same.t x0 x1).val
noncomputable def spec_l01Same.ok (x0 : Nat) (x1 : Nat) : Bool := (spec_l01Same.t x0 x1).ok
def spec_l01Same.cd : Cd (Nat × Nat) (List V × Hp) := Cd.iso (Cd.pair (Cd.cons (Cd.fl .f32) (Cd.cons (Cd.fl .f32) Cd.nil)) Cd.nil) (fun a => (a.1.1, a.1.2.1)) (fun a => ((a.1, (a.2, ())), ())) (fun _ => rfl)
noncomputable def spec_l01Same.tr (a : Nat × Nat) : T Bool := spec_l01Same.t a.1 a.2
def spec_l01Same.enc : (Nat × Nat) → Bool → V := fun a r => .bo r
noncomputable def spec_l01Same.c : List V → Hp → T V := cdQ spec_l01Same.cd (fun a => .br (spec_l01Same.ok a.1 a.2) (.leaf (spec_l01Same.enc a (spec_l01Same a.1 a.2))) .bad)
theorem spec_l01Same.run (a : Nat × Nat) : runF spec_l01Same.C Try.f71.results.toList spec_l01Same.b (spec_l01Same.cd.enc a).1 (spec_l01Same.cd.enc a).2 = (spec_l01Same.tr a).map fun r => (spec_l01Same.enc a r, (spec_l01Same.cd.enc a).2) := by kernel_rfl
theorem spec_l01Same.cok : OKq Try.prog 71 spec_l01Same.c := con_q' spec_l01Same.cd spec_l01Same.hC Try.func71 (by kernel_rfl) (by kernel_rfl) (by kernel_rfl) spec_l01Same.lp (fun a => by kernel_rfl) spec_l01Same.run (Tells.ok (tree := spec_l01Same.tr))
/-! ### spec_SameStone -/
noncomputable def spec_SameStone.b : Code := bodyOf Try.f34
noncomputable def spec_SameStone.C : Ctx := { ty := tys, fn := [(71, .q spec_l01Same.c)], lp := [], n := 31, k := 0 }
theorem spec_SameStone.hC : CtxOK Try.prog spec_SameStone.C := CtxOK.of mo tys_ok (FnsOK.cons spec_l01Same.cok FnsOK.nil)
theorem spec_SameStone.lp : LpOK Try.prog spec_SameStone.C spec_SameStone.b := (LpOK.nil (by kernel_rfl))
noncomputable def spec_SameStone.t (x0 : Nat) (x1 : Nat) (x2 : Nat) (x3 : Nat) (x4 : Nat) (x5 : Nat) (x6 : Nat) (x7 : Nat) : T Bool :=
  .br (spec_l01Same.ok x0 x4)
  (.br (spec_l01Same x0 x4)
   (.br (spec_l01Same.ok x1 x5)
    (.br (spec_l01Same x1 x5)
     (.br (spec_l01Same.ok x2 x6)
      (.br (spec_l01Same x2 x6)
       (.br (spec_l01Same.ok x3 x7)
        (.leaf (spec_l01Same x3 x7))
        .bad)
       (.leaf false))
      .bad)
     (.leaf false))
    .bad)
   (.leaf false))
  .bad
noncomputable def spec_SameStone (x0 : Nat) (x1 : Nat) (x2 : Nat) (x3 : Nat) (x4 : Nat) (x5 : Nat) (x6 : Nat) (x7 : Nat) : Bool := (spec_SameStone.t x0 x1 x2 x3 x4 x5 x6 x7).val
noncomputable def spec_SameStone.ok (x0 : Nat) (x1 : Nat) (x2 : Nat) (x3 : Nat) (x4 : Nat) (x5 : Nat) (x6 : Nat) (x7 : Nat) : Bool := (spec_SameStone.t x0 x1 x2 x3 x4 x5 x6 x7).ok
def spec_SameStone.cd : Cd (Nat × Nat × Nat × Nat × Nat × Nat × Nat × Nat) (List V × Hp) := Cd.iso (Cd.pair (Cd.cons (Cd.agg (Cd.cons (Cd.fl .f32) (Cd.cons (Cd.fl .f32) (Cd.cons (Cd.fl .f32) (Cd.cons (Cd.fl .f32) Cd.nil))))) (Cd.cons (Cd.agg (Cd.cons (Cd.fl .f32) (Cd.cons (Cd.fl .f32) (Cd.cons (Cd.fl .f32) (Cd.cons (Cd.fl .f32) Cd.nil))))) Cd.nil)) Cd.nil) (fun a => (a.1.1.1, a.1.1.2.1, a.1.1.2.2.1, a.1.1.2.2.2.1, a.1.2.1.1, a.1.2.1.2.1, a.1.2.1.2.2.1, a.1.2.1.2.2.2.1)) (fun a => (((a.1, (a.2.1, (a.2.2.1, (a.2.2.2.1, ())))), ((a.2.2.2.2.1, (a.2.2.2.2.2.1, (a.2.2.2.2.2.2.1, (a.2.2.2.2.2.2.2, ())))), ())), ())) (fun _ => rfl)
noncomputable def spec_SameStone.tr (a : Nat × Nat × Nat × Nat × Nat × Nat × Nat × Nat) : T Bool := spec_SameStone.t a.1 a.2.1 a.2.2.1 a.2.2.2.1 a.2.2.2.2.1 a.2.2.2.2.2.1 a.2.2.2.2.2.2.1 a.2.2.2.2.2.2.2
def spec_SameStone.enc : (Nat × Nat × Nat × Nat × Nat × Nat × Nat × Nat) → Bool → V := fun a r => .bo r
noncomputable def spec_SameStone.c : List V → Hp → T V := cdQ spec_SameStone.cd (fun a => .br (spec_SameStone.ok a.1 a.2.1 a.2.2.1 a.2.2.2.1 a.2.2.2.2.1 a.2.2.2.2.2.1 a.2.2.2.2.2.2.1 a.2.2.2.2.2.2.2) (.leaf (spec_SameStone.enc a (spec_SameStone a.1 a.2.1 a.2.2.1 a.2.2.2.1 a.2.2.2.2.1 a.2.2.2.2.2.1 a.2.2.2.2.2.2.1 a.2.2.2.2.2.2.2))) .bad)
theorem spec_SameStone.run (a : Nat × Nat × Nat × Nat × Nat × Nat × Nat × Nat) : runF spec_SameStone.C Try.f34.results.toList spec_SameStone.b (spec_SameStone.cd.enc a).1 (spec_SameStone.cd.enc a).2 = (spec_SameStone.tr a).map fun r => (spec_SameStone.enc a r, (spec_SameStone.cd.enc a).2) := by kernel_rfl
theorem spec_SameStone.cok : OKq Try.prog 34 spec_SameStone.c := con_q' spec_SameStone.cd spec_SameStone.hC Try.func34 (by kernel_rfl) (by kernel_rfl) (by kernel_rfl) spec_SameStone.lp (fun a => by kernel_rfl) spec_SameStone.run (Tells.ok (tree := spec_SameStone.tr))
/-! ### spec_SameNumbers -/
noncomputable def spec_SameNumbers.b : Code := bodyOf Try.f35
noncomputable def spec_SameNumbers.l4.s (x0 : Nat) (x1 : Int) (x2 : List Nat) : T (Unit ⊕ Unit) :=
  .br (decide (x1 < ((0 : Nat) : Int)))
  .bad
  (.leaf (.inr ()))
noncomputable def spec_SameNumbers.l4.st (p : Nat × Int × List Nat) (x : Unit) : T (Unit ⊕ Unit) := spec_SameNumbers.l4.s p.1 p.2.1 p.2.2
noncomputable def spec_SameNumbers.l4.r (p : Nat × Int × List Nat) (x : Unit) : Option Unit := iterT (spec_SameNumbers.l4.st p) manyRounds x
def spec_SameNumbers.l4.cd : Cd ((Nat × Int × List Nat) × Unit) (List V × Hp) := Cd.iso (Cd.pair (Cd.cons Cd.sn (Cd.cons (Cd.own 0) (Cd.cons (Cd.it .i64) Cd.nil))) (Cd.cons (Cd.rw 22 1 (Cd.fs .f32)) Cd.nil)) (fun a => ((a.1.2.1, a.1.2.2.1, a.2.1), ())) (fun a => (((), (a.1.1, (a.1.2.1, ()))), (a.1.2.2, ()))) (fun _ => rfl)
def spec_SameNumbers.l4.out (p : Nat × Int × List Nat) : Unit → X × List V × Hp := (fun r => (.ex 0, [.unk], [some ⟨true, 22, 1, .fs .f32 p.2.2⟩]))
def spec_SameNumbers.l4.ex (p : Nat × Int × List Nat) : Unit → T (X × List V × Hp) := leafT (fun r => (.ex 0, [.unk], [some ⟨true, 22, 1, .fs .f32 p.2.2⟩]))
noncomputable def spec_SameNumbers.l4.c : List V → Hp → T (X × List V × Hp) := cdL spec_SameNumbers.l4.cd fun x => optT (spec_SameNumbers.l4.r x.1 x.2) (spec_SameNumbers.l4.ex x.1)
noncomputable def spec_SameNumbers.C : Ctx := { ty := tys, fn := [], lp := [(4, ⟨[0, 1, 5], [4], spec_SameNumbers.l4.c⟩)], n := 27, k := 1 }
theorem spec_SameNumbers.hC : CtxOK Try.prog spec_SameNumbers.C := CtxOK.of mo tys_ok FnsOK.nil
noncomputable def spec_SameNumbers.b4 : Code := (nthC (loopsOf spec_SameNumbers.b) 0)
theorem spec_SameNumbers.lp4 : LpOK Try.prog spec_SameNumbers.C spec_SameNumbers.b4 := (LpOK.nil (by kernel_rfl))
theorem spec_SameNumbers.l4.round (p : Nat × Int × List Nat) (s : Unit) : roundL spec_SameNumbers.C [0, 1, 5] [4] spec_SameNumbers.b4 (spec_SameNumbers.l4.cd.enc (p, s)).1 (spec_SameNumbers.l4.cd.enc (p, s)).2 = (spec_SameNumbers.l4.st p s).map (encSum (fun s => spec_SameNumbers.l4.cd.enc (p, s)) (spec_SameNumbers.l4.out p)) := by kernel_rfl
theorem spec_SameNumbers.l4.lok : LoopOK Try.prog spec_SameNumbers.C ⟨[0, 1, 5], [4], spec_SameNumbers.l4.c⟩ spec_SameNumbers.b4 := loop_cd spec_SameNumbers.l4.cd spec_SameNumbers.hC spec_SameNumbers.lp4 spec_SameNumbers.l4.round fun p => Gets.leaf
theorem spec_SameNumbers.lp : LpOK Try.prog spec_SameNumbers.C spec_SameNumbers.b := lp_of (by kernel_rfl) (LpsOK.cons (k := 4) (by kernel_rfl) (by kernel_rfl) spec_SameNumbers.l4.lok LpsOK.nil)
noncomputable def spec_SameNumbers.t (x0 : Nat) (x1 : List Nat) : T Bool :=
  .br (((0 : Nat) : Int) != ((x0 : Nat) : Int))
  (.leaf false)
  (.br (Option.isSome (spec_SameNumbers.l4.r (x0, (0 : Int), x1) ()))
   (.leaf true)
   .bad)
noncomputable def spec_SameNumbers (x0 : Nat) (x1 : List Nat) : Bool := (spec_SameNumbers.t x0 x1).val
noncomputable def spec_SameNumbers.ok (x0 : Nat) (x1 : List Nat) : Bool := (spec_SameNumbers.t x0 x1).ok
def spec_SameNumbers.cd : Cd (Nat × List Nat) (List V × Hp) := Cd.iso (Cd.pair (Cd.cons Cd.sn (Cd.cons (Cd.own 0) Cd.nil)) (Cd.cons (Cd.rw 22 1 (Cd.fs .f32)) Cd.nil)) (fun a => (a.1.2.1, a.2.1)) (fun a => (((), (a.1, ())), (a.2, ()))) (fun _ => rfl)
noncomputable def spec_SameNumbers.tr (a : Nat × List Nat) : T Bool := spec_SameNumbers.t a.1 a.2
def spec_SameNumbers.enc : (Nat × List Nat) → Bool → V := fun a r => .bo r
noncomputable def spec_SameNumbers.c : List V → Hp → T V := cdQ spec_SameNumbers.cd (fun a => .br (spec_SameNumbers.ok a.1 a.2) (.leaf (spec_SameNumbers.enc a (spec_SameNumbers a.1 a.2))) .bad)
theorem spec_SameNumbers.run (a : Nat × List Nat) : runF spec_SameNumbers.C Try.f35.results.toList spec_SameNumbers.b (spec_SameNumbers.cd.enc a).1 (spec_SameNumbers.cd.enc a).2 = (spec_SameNumbers.tr a).map fun r => (spec_SameNumbers.enc a r, (spec_SameNumbers.cd.enc a).2) := by kernel_rfl
theorem spec_SameNumbers.cok : OKq Try.prog 35 spec_SameNumbers.c := con_q' spec_SameNumbers.cd spec_SameNumbers.hC Try.func35 (by kernel_rfl) (by kernel_rfl) (by kernel_rfl) spec_SameNumbers.lp (fun a => by kernel_rfl) spec_SameNumbers.run (Tells.ok (tree := spec_SameNumbers.tr))
/-! ### impl_GrindHour -/
noncomputable def impl_GrindHour.b : Code := bodyOf Try.f37
noncomputable def impl_GrindHour.C : Ctx := { ty := tys, fn := [(50, .q impl_isAmount.c), (53, .q impl_IsRate.c), (49, .q impl_stoneCode.c), (54, .e impl_Stone_hour.c)], lp := [], n := 28, k := 0 }
theorem impl_GrindHour.hC : CtxOK Try.prog impl_GrindHour.C := CtxOK.of mo tys_ok (FnsOK.cons impl_isAmount.cok (FnsOK.cons impl_IsRate.cok (FnsOK.cons impl_stoneCode.cok (FnsOK.cons impl_Stone_hour.cok FnsOK.nil))))
theorem impl_GrindHour.lp : LpOK Try.prog impl_GrindHour.C impl_GrindHour.b := (LpOK.nil (by kernel_rfl))
noncomputable def impl_GrindHour.t (x0 : Nat) (x1 : Nat) (x2 : Nat) (x3 : Nat) (x4 : Nat) (x5 : Nat) : T (Nat × Nat × Nat × Nat × Nat × Int) :=
  .br (impl_isAmount x4)
  (.br ((impl_stoneCode x0 x1 x2 x3 (impl_IsRate x5)) != (0 : Int))
   (.leaf (0, 0, 0, 0, 0, (impl_stoneCode x0 x1 x2 x3 (impl_IsRate x5))))
   (.br (impl_Stone_hour.ok x4 x5 x0 x1 x2 x3)
    (.leaf ((impl_Stone_hour x4 x5 x0 x1 x2 x3).2.1, (impl_Stone_hour x4 x5 x0 x1 x2 x3).2.2.1, (impl_Stone_hour x4 x5 x0 x1 x2 x3).2.2.2.1, (impl_Stone_hour x4 x5 x0 x1 x2 x3).2.2.2.2, (impl_Stone_hour x4 x5 x0 x1 x2 x3).1, (0 : Int)))
    .bad))
  (.br ((impl_stoneCode x0 x1 x2 x3 false) != (0 : Int))
   (.leaf (0, 0, 0, 0, 0, (impl_stoneCode x0 x1 x2 x3 false)))
   (.br (impl_Stone_hour.ok x4 x5 x0 x1 x2 x3)
    (.leaf ((impl_Stone_hour x4 x5 x0 x1 x2 x3).2.1, (impl_Stone_hour x4 x5 x0 x1 x2 x3).2.2.1, (impl_Stone_hour x4 x5 x0 x1 x2 x3).2.2.2.1, (impl_Stone_hour x4 x5 x0 x1 x2 x3).2.2.2.2, (impl_Stone_hour x4 x5 x0 x1 x2 x3).1, (0 : Int)))
    .bad))
noncomputable def impl_GrindHour (x0 : Nat) (x1 : Nat) (x2 : Nat) (x3 : Nat) (x4 : Nat) (x5 : Nat) : Nat × Nat × Nat × Nat × Nat × Int := (impl_GrindHour.t x0 x1 x2 x3 x4 x5).val
noncomputable def impl_GrindHour.ok (x0 : Nat) (x1 : Nat) (x2 : Nat) (x3 : Nat) (x4 : Nat) (x5 : Nat) : Bool := (impl_GrindHour.t x0 x1 x2 x3 x4 x5).ok
def impl_GrindHour.cd : Cd (Nat × Nat × Nat × Nat × Nat × Nat) (List V × Hp) := Cd.iso (Cd.pair (Cd.cons (Cd.agg (Cd.cons (Cd.fl .f32) (Cd.cons (Cd.fl .f32) (Cd.cons (Cd.fl .f32) (Cd.cons (Cd.fl .f32) Cd.nil))))) (Cd.cons (Cd.fl .f32) (Cd.cons (Cd.fl .f32) Cd.nil))) Cd.nil) (fun a => (a.1.1.1, a.1.1.2.1, a.1.1.2.2.1, a.1.1.2.2.2.1, a.1.2.1, a.1.2.2.1)) (fun a => (((a.1, (a.2.1, (a.2.2.1, (a.2.2.2.1, ())))), (a.2.2.2.2.1, (a.2.2.2.2.2, ()))), ())) (fun _ => rfl)
noncomputable def impl_GrindHour.tr (a : Nat × Nat × Nat × Nat × Nat × Nat) : T (Nat × Nat × Nat × Nat × Nat × Int) := impl_GrindHour.t a.1 a.2.1 a.2.2.1 a.2.2.2.1 a.2.2.2.2.1 a.2.2.2.2.2
def impl_GrindHour.enc : (Nat × Nat × Nat × Nat × Nat × Nat) → (Nat × Nat × Nat × Nat × Nat × Int) → V := fun a r => .tup [.agg [.fl .f32 r.1, .fl .f32 r.2.1, .fl .f32 r.2.2.1, .fl .f32 r.2.2.2.1], .fl .f32 r.2.2.2.2.1, .it .i64 r.2.2.2.2.2]
noncomputable def impl_GrindHour.c : List V → Hp → T V := cdQ impl_GrindHour.cd (fun a => .br (impl_GrindHour.ok a.1 a.2.1 a.2.2.1 a.2.2.2.1 a.2.2.2.2.1 a.2.2.2.2.2) (.leaf (impl_GrindHour.enc a (impl_GrindHour a.1 a.2.1 a.2.2.1 a.2.2.2.1 a.2.2.2.2.1 a.2.2.2.2.2))) .bad)
theorem impl_GrindHour.run (a : Nat × Nat × Nat × Nat × Nat × Nat) : runF impl_GrindHour.C Try.f37.results.toList impl_GrindHour.b (impl_GrindHour.cd.enc a).1 (impl_GrindHour.cd.enc a).2 = (impl_GrindHour.tr a).map fun r => (impl_GrindHour.enc a r, (impl_GrindHour.cd.enc a).2) := by kernel_rfl
theorem impl_GrindHour.cok : OKq Try.prog 37 impl_GrindHour.c := con_q' impl_GrindHour.cd impl_GrindHour.hC Try.func37 (by kernel_rfl) (by kernel_rfl) (by kernel_rfl) impl_GrindHour.lp (fun a => by kernel_rfl) impl_GrindHour.run (Tells.ok (tree := impl_GrindHour.tr))
/-! ### spec_l04Turned -/
noncomputable def spec_l04Turned.b : Code := bodyOf Try.f72
noncomputable def spec_l04Turned.C : Ctx := { ty := tys, fn := [(85, .q spec_l04Asked.c), (46, .q spec_l03Amount.c)], lp := [], n := 19, k := 0 }
theorem spec_l04Turned.hC : CtxOK Try.prog spec_l04Turned.C := CtxOK.of mo tys_ok (FnsOK.cons spec_l04Asked.cok (FnsOK.cons spec_l03Amount.cok FnsOK.nil))
theorem spec_l04Turned.lp : LpOK Try.prog spec_l04Turned.C spec_l04Turned.b := (LpOK.nil (by kernel_rfl))
noncomputable def spec_l04Turned.t (x0 : Nat) (x1 : Nat) (x2 : Nat) (x3 : Nat) (x4 : Nat) (x5 : Nat) : T Int :=
  .br ((spec_l04Asked x0 x1 x2 x3 x5 0) == (0 : Int))
  (.br (!(spec_l03Amount x4))
   (.leaf (2 : Int))
   (.leaf (spec_l04Asked x0 x1 x2 x3 x5 0)))
  (.leaf (spec_l04Asked x0 x1 x2 x3 x5 0))
noncomputable def spec_l04Turned (x0 : Nat) (x1 : Nat) (x2 : Nat) (x3 : Nat) (x4 : Nat) (x5 : Nat) : Int := (spec_l04Turned.t x0 x1 x2 x3 x4 x5).val
def spec_l04Turned.cd : Cd (Nat × Nat × Nat × Nat × Nat × Nat) (List V × Hp) := Cd.iso (Cd.pair (Cd.cons (Cd.agg (Cd.cons (Cd.fl .f32) (Cd.cons (Cd.fl .f32) (Cd.cons (Cd.fl .f32) (Cd.cons (Cd.fl .f32) Cd.nil))))) (Cd.cons (Cd.fl .f32) (Cd.cons (Cd.fl .f32) Cd.nil))) Cd.nil) (fun a => (a.1.1.1, a.1.1.2.1, a.1.1.2.2.1, a.1.1.2.2.2.1, a.1.2.1, a.1.2.2.1)) (fun a => (((a.1, (a.2.1, (a.2.2.1, (a.2.2.2.1, ())))), (a.2.2.2.2.1, (a.2.2.2.2.2, ()))), ())) (fun _ => rfl)
noncomputable def spec_l04Turned.tr (a : Nat × Nat × Nat × Nat × Nat × Nat) : T Int := spec_l04Turned.t a.1 a.2.1 a.2.2.1 a.2.2.2.1 a.2.2.2.2.1 a.2.2.2.2.2
def spec_l04Turned.enc : (Nat × Nat × Nat × Nat × Nat × Nat) → Int → V := fun a r => .it .i64 r
noncomputable def spec_l04Turned.c : List V → Hp → T V := cdQ spec_l04Turned.cd (fun a => .leaf (spec_l04Turned.enc a (spec_l04Turned a.1 a.2.1 a.2.2.1 a.2.2.2.1 a.2.2.2.2.1 a.2.2.2.2.2)))
theorem spec_l04Turned.run (a : Nat × Nat × Nat × Nat × Nat × Nat) : runF spec_l04Turned.C Try.f72.results.toList spec_l04Turned.b (spec_l04Turned.cd.enc a).1 (spec_l04Turned.cd.enc a).2 = (spec_l04Turned.tr a).map fun r => (spec_l04Turned.enc a r, (spec_l04Turned.cd.enc a).2) := by kernel_rfl
theorem spec_l04Turned.cok : OKq Try.prog 72 spec_l04Turned.c := con_q' spec_l04Turned.cd spec_l04Turned.hC Try.func72 (by kernel_rfl) (by kernel_rfl) (by kernel_rfl) spec_l04Turned.lp (fun a => by kernel_rfl) spec_l04Turned.run (Tells.val (tree := spec_l04Turned.tr) fun a => by kernel_rfl)
/-! ### spec_GrindHour -/
noncomputable def spec_GrindHour.b : Code := bodyOf Try.f38
noncomputable def spec_GrindHour.C : Ctx := { ty := tys, fn := [(72, .q spec_l04Turned.c), (48, .q spec_l04Hour.c)], lp := [], n := 29, k := 0 }
theorem spec_GrindHour.hC : CtxOK Try.prog spec_GrindHour.C := CtxOK.of mo tys_ok (FnsOK.cons spec_l04Turned.cok (FnsOK.cons spec_l04Hour.cok FnsOK.nil))
theorem spec_GrindHour.lp : LpOK Try.prog spec_GrindHour.C spec_GrindHour.b := (LpOK.nil (by kernel_rfl))
noncomputable def spec_GrindHour.t (x0 : Nat) (x1 : Nat) (x2 : Nat) (x3 : Nat) (x4 : Nat) (x5 : Nat) : T (Nat × Nat × Nat × Nat × Nat × Int) :=
  .br ((spec_l04Turned x0 x1 x2 x3 x4 x5) != (0 : Int))
  (.leaf (0, 0, 0, 0, 0, (spec_l04Turned x0 x1 x2 x3 x4 x5)))
  (.br (spec_l04Hour.ok x0 x1 x2 x3 x4 x5)
   (.leaf ((spec_l04Hour x0 x1 x2 x3 x4 x5).1, (spec_l04Hour x0 x1 x2 x3 x4 x5).2.1, (spec_l04Hour x0 x1 x2 x3 x4 x5).2.2.1, (spec_l04Hour x0 x1 x2 x3 x4 x5).2.2.2.1, (spec_l04Hour x0 x1 x2 x3 x4 x5).2.2.2.2, (0 : Int)))
   .bad)
noncomputable def spec_GrindHour (x0 : Nat) (x1 : Nat) (x2 : Nat) (x3 : Nat) (x4 : Nat) (x5 : Nat) : Nat × Nat × Nat × Nat × Nat × Int := (spec_GrindHour.t x0 x1 x2 x3 x4 x5).val
noncomputable def spec_GrindHour.ok (x0 : Nat) (x1 : Nat) (x2 : Nat) (x3 : Nat) (x4 : Nat) (x5 : Nat) : Bool := (spec_GrindHour.t x0 x1 x2 x3 x4 x5).ok
def spec_GrindHour.cd : Cd (Nat × Nat × Nat × Nat × Nat × Nat) (List V × Hp) := Cd.iso (Cd.pair (Cd.cons (Cd.agg (Cd.cons (Cd.fl .f32) (Cd.cons (Cd.fl .f32) (Cd.cons (Cd.fl .f32) (Cd.cons (Cd.fl .f32) Cd.nil))))) (Cd.cons (Cd.fl .f32) (Cd.cons (Cd.fl .f32) Cd.nil))) Cd.nil) (fun a => (a.1.1.1, a.1.1.2.1, a.1.1.2.2.1, a.1.1.2.2.2.1, a.1.2.1, a.1.2.2.1)) (fun a => (((a.1, (a.2.1, (a.2.2.1, (a.2.2.2.1, ())))), (a.2.2.2.2.1, (a.2.2.2.2.2, ()))), ())) (fun _ => rfl)
noncomputable def spec_GrindHour.tr (a : Nat × Nat × Nat × Nat × Nat × Nat) : T (Nat × Nat × Nat × Nat × Nat × Int) := spec_GrindHour.t a.1 a.2.1 a.2.2.1 a.2.2.2.1 a.2.2.2.2.1 a.2.2.2.2.2
def spec_GrindHour.enc : (Nat × Nat × Nat × Nat × Nat × Nat) → (Nat × Nat × Nat × Nat × Nat × Int) → V := fun a r => .tup [.agg [.fl .f32 r.1, .fl .f32 r.2.1, .fl .f32 r.2.2.1, .fl .f32 r.2.2.2.1], .fl .f32 r.2.2.2.2.1, .it .i64 r.2.2.2.2.2]
noncomputable def spec_GrindHour.c : List V → Hp → T V := cdQ spec_GrindHour.cd (fun a => .br (spec_GrindHour.ok a.1 a.2.1 a.2.2.1 a.2.2.2.1 a.2.2.2.2.1 a.2.2.2.2.2) (.leaf (spec_GrindHour.enc a (spec_GrindHour a.1 a.2.1 a.2.2.1 a.2.2.2.1 a.2.2.2.2.1 a.2.2.2.2.2))) .bad)
theorem spec_GrindHour.run (a : Nat × Nat × Nat × Nat × Nat × Nat) : runF spec_GrindHour.C Try.f38.results.toList spec_GrindHour.b (spec_GrindHour.cd.enc a).1 (spec_GrindHour.cd.enc a).2 = (spec_GrindHour.tr a).map fun r => (spec_GrindHour.enc a r, (spec_GrindHour.cd.enc a).2) := by kernel_rfl
theorem spec_GrindHour.cok : OKq Try.prog 38 spec_GrindHour.c := con_q' spec_GrindHour.cd spec_GrindHour.hC Try.func38 (by kernel_rfl) (by kernel_rfl) (by kernel_rfl) spec_GrindHour.lp (fun a => by kernel_rfl) spec_GrindHour.run (Tells.ok (tree := spec_GrindHour.tr))
/-! ### impl_Dulled -/
noncomputable def impl_Dulled.b : Code := bodyOf Try.f39
noncomputable def impl_Dulled.C : Ctx := { ty := tys, fn := [(50, .q impl_isAmount.c), (49, .q impl_stoneCode.c), (73, .e impl_Stone_dull.c)], lp := [], n := 18, k := 0 }
theorem impl_Dulled.hC : CtxOK Try.prog impl_Dulled.C := CtxOK.of mo tys_ok (FnsOK.cons impl_isAmount.cok (FnsOK.cons impl_stoneCode.cok (FnsOK.cons impl_Stone_dull.cok FnsOK.nil)))
theorem impl_Dulled.lp : LpOK Try.prog impl_Dulled.C impl_Dulled.b := (LpOK.nil (by kernel_rfl))
noncomputable def impl_Dulled.t (x0 : Nat) (x1 : Nat) (x2 : Nat) (x3 : Nat) (x4 : Nat) : T (Nat × Nat × Nat × Nat × Int) :=
  .br ((impl_stoneCode x0 x1 x2 x3 (impl_isAmount x4)) != (0 : Int))
  (.leaf (0, 0, 0, 0, (impl_stoneCode x0 x1 x2 x3 (impl_isAmount x4))))
  (.leaf ((impl_Stone_dull x4 x0 x1 x2 x3).1, (impl_Stone_dull x4 x0 x1 x2 x3).2.1, (impl_Stone_dull x4 x0 x1 x2 x3).2.2.1, (impl_Stone_dull x4 x0 x1 x2 x3).2.2.2, (0 : Int)))
noncomputable def impl_Dulled (x0 : Nat) (x1 : Nat) (x2 : Nat) (x3 : Nat) (x4 : Nat) : Nat × Nat × Nat × Nat × Int := (impl_Dulled.t x0 x1 x2 x3 x4).val
def impl_Dulled.cd : Cd (Nat × Nat × Nat × Nat × Nat) (List V × Hp) := Cd.iso (Cd.pair (Cd.cons (Cd.agg (Cd.cons (Cd.fl .f32) (Cd.cons (Cd.fl .f32) (Cd.cons (Cd.fl .f32) (Cd.cons (Cd.fl .f32) Cd.nil))))) (Cd.cons (Cd.fl .f32) Cd.nil)) Cd.nil) (fun a => (a.1.1.1, a.1.1.2.1, a.1.1.2.2.1, a.1.1.2.2.2.1, a.1.2.1)) (fun a => (((a.1, (a.2.1, (a.2.2.1, (a.2.2.2.1, ())))), (a.2.2.2.2, ())), ())) (fun _ => rfl)
noncomputable def impl_Dulled.tr (a : Nat × Nat × Nat × Nat × Nat) : T (Nat × Nat × Nat × Nat × Int) := impl_Dulled.t a.1 a.2.1 a.2.2.1 a.2.2.2.1 a.2.2.2.2
def impl_Dulled.enc : (Nat × Nat × Nat × Nat × Nat) → (Nat × Nat × Nat × Nat × Int) → V := fun a r => .tup [.agg [.fl .f32 r.1, .fl .f32 r.2.1, .fl .f32 r.2.2.1, .fl .f32 r.2.2.2.1], .it .i64 r.2.2.2.2]
noncomputable def impl_Dulled.c : List V → Hp → T V := cdQ impl_Dulled.cd (fun a => .leaf (impl_Dulled.enc a (impl_Dulled a.1 a.2.1 a.2.2.1 a.2.2.2.1 a.2.2.2.2)))
theorem impl_Dulled.run (a : Nat × Nat × Nat × Nat × Nat) : runF impl_Dulled.C Try.f39.results.toList impl_Dulled.b (impl_Dulled.cd.enc a).1 (impl_Dulled.cd.enc a).2 = (impl_Dulled.tr a).map fun r => (impl_Dulled.enc a r, (impl_Dulled.cd.enc a).2) := by kernel_rfl
theorem impl_Dulled.cok : OKq Try.prog 39 impl_Dulled.c := con_q' impl_Dulled.cd impl_Dulled.hC Try.func39 (by kernel_rfl) (by kernel_rfl) (by kernel_rfl) impl_Dulled.lp (fun a => by kernel_rfl) impl_Dulled.run (Tells.val (tree := impl_Dulled.tr) fun a => by kernel_rfl)
/-! ### spec_SameNumber -/
noncomputable def spec_SameNumber.b : Code := bodyOf Try.f40
noncomputable def spec_SameNumber.C : Ctx := { ty := tys, fn := [(71, .q spec_l01Same.c)], lp := [], n := 8, k := 0 }
theorem spec_SameNumber.hC : CtxOK Try.prog spec_SameNumber.C := CtxOK.of mo tys_ok (FnsOK.cons spec_l01Same.cok FnsOK.nil)
theorem spec_SameNumber.lp : LpOK Try.prog spec_SameNumber.C spec_SameNumber.b := (LpOK.nil (by kernel_rfl))
noncomputable def spec_SameNumber.t (x0 : Nat) (x1 : Nat) : T Bool :=
  .br (spec_l01Same.ok x0 x1)
  (.leaf (spec_l01Same x0 x1))
  .bad
noncomputable def spec_SameNumber (x0 : Nat) (x1 : Nat) : Bool := (spec_SameNumber.t x0 x1).val
noncomputable def spec_SameNumber.ok (x0 : Nat) (x1 : Nat) : Bool := (spec_SameNumber.t x0 x1).ok
def spec_SameNumber.cd : Cd (Nat × Nat) (List V × Hp) := Cd.iso (Cd.pair (Cd.cons (Cd.fl .f32) (Cd.cons (Cd.fl .f32) Cd.nil)) Cd.nil) (fun a => (a.1.1, a.1.2.1)) (fun a => ((a.1, (a.2, ())), ())) (fun _ => rfl)
noncomputable def spec_SameNumber.tr (a : Nat × Nat) : T Bool := spec_SameNumber.t a.1 a.2
def spec_SameNumber.enc : (Nat × Nat) → Bool → V := fun a r => .bo r
noncomputable def spec_SameNumber.c : List V → Hp → T V := cdQ spec_SameNumber.cd (fun a => .br (spec_SameNumber.ok a.1 a.2) (.leaf (spec_SameNumber.enc a (spec_SameNumber a.1 a.2))) .bad)
theorem spec_SameNumber.run (a : Nat × Nat) : runF spec_SameNumber.C Try.f40.results.toList spec_SameNumber.b (spec_SameNumber.cd.enc a).1 (spec_SameNumber.cd.enc a).2 = (spec_SameNumber.tr a).map fun r => (spec_SameNumber.enc a r, (spec_SameNumber.cd.enc a).2) := by kernel_rfl
theorem spec_SameNumber.cok : OKq Try.prog 40 spec_SameNumber.c := con_q' spec_SameNumber.cd spec_SameNumber.hC Try.func40 (by kernel_rfl) (by kernel_rfl) (by kernel_rfl) spec_SameNumber.lp (fun a => by kernel_rfl) spec_SameNumber.run (Tells.ok (tree := spec_SameNumber.tr))
/-! ### spec_DressedDay -/
noncomputable def spec_DressedDay.b : Code := bodyOf Try.f26
noncomputable def spec_DressedDay.l7.s (x0 : Nat) (x1 : Nat) (x2 : Nat) (x3 : Nat) (x4 : Int) (x5 : Int) (x6 : List Nat) (x7 : Nat) (x8 : Nat) (x9 : Nat) (x10 : Nat) (x11 : Nat) (x12 : Nat) (x13 : Nat) (x14 : Nat) (x15 : List Nat) : T ((Nat × Int × Int × Nat × Nat × Nat × Nat × List Nat) ⊕ (Nat × Int × Nat × Nat × Nat × Nat × List Nat)) :=
  .br (decide (x5 < ((x0 : Nat) : Int)))
  (.br (flt .f32 x10 x2)
   (.br ((Nat.ble 1 (List.length [0])) && (Nat.beq (List.length x15) (x3 * 1) && Nat.ble ((x3 + 1) * 4) 35184372088832 && Nat.ble (x3 + 1) 35184372088832))
    (.leaf (.inl ((x3 + 1), (IntKind.wrap .i64 (x4 + (1 : Int))), (IntKind.wrap .i64 (x5 + (1 : Int))), x7, x8, x9, 1065353216, (x15 ++ (List.take 1 (List.drop 0 [0]))))))
    .bad)
   (.br (bounds x5 x0)
    (.br (Nat.ble ((Int.toNat x5 * 1) + 1) (List.length x6))
     (.br (spec_l04Hour.ok x7 x8 x9 x10 (List.getD x6 (Int.toNat x5 * 1) 0) x1)
      (.br ((Nat.ble 1 (List.length [(spec_l04Hour x7 x8 x9 x10 (List.getD x6 (Int.toNat x5 * 1) 0) x1).2.2.2.2])) && (Nat.beq (List.length x15) (x3 * 1) && Nat.ble ((x3 + 1) * 4) 35184372088832 && Nat.ble (x3 + 1) 35184372088832))
       (.leaf (.inl ((x3 + 1), x4, (IntKind.wrap .i64 (x5 + (1 : Int))), (spec_l04Hour x7 x8 x9 x10 (List.getD x6 (Int.toNat x5 * 1) 0) x1).1, (spec_l04Hour x7 x8 x9 x10 (List.getD x6 (Int.toNat x5 * 1) 0) x1).2.1, (spec_l04Hour x7 x8 x9 x10 (List.getD x6 (Int.toNat x5 * 1) 0) x1).2.2.1, (spec_l04Hour x7 x8 x9 x10 (List.getD x6 (Int.toNat x5 * 1) 0) x1).2.2.2.1, (x15 ++ (List.take 1 (List.drop 0 [(spec_l04Hour x7 x8 x9 x10 (List.getD x6 (Int.toNat x5 * 1) 0) x1).2.2.2.2]))))))
       .bad)
      .bad)
     .bad)
    .bad))
  (.leaf (.inr (x3, x4, x7, x8, x9, x10, x15)))
noncomputable def spec_DressedDay.l7.st (p : Nat × Nat × Nat × List Nat × Nat × Nat × Nat × Nat) (x : Nat × Int × Int × Nat × Nat × Nat × Nat × List Nat) : T ((Nat × Int × Int × Nat × Nat × Nat × Nat × List Nat) ⊕ (Nat × Int × Nat × Nat × Nat × Nat × List Nat)) := spec_DressedDay.l7.s p.1 p.2.1 p.2.2.1 x.1 x.2.1 x.2.2.1 p.2.2.2.1 x.2.2.2.1 x.2.2.2.2.1 x.2.2.2.2.2.1 x.2.2.2.2.2.2.1 p.2.2.2.2.1 p.2.2.2.2.2.1 p.2.2.2.2.2.2.1 p.2.2.2.2.2.2.2 x.2.2.2.2.2.2.2
noncomputable def spec_DressedDay.l7.r (p : Nat × Nat × Nat × List Nat × Nat × Nat × Nat × Nat) (x : Nat × Int × Int × Nat × Nat × Nat × Nat × List Nat) : Option (Nat × Int × Nat × Nat × Nat × Nat × List Nat) := iterT (spec_DressedDay.l7.st p) manyRounds x
def spec_DressedDay.l7.cd : Cd ((Nat × Nat × Nat × List Nat × Nat × Nat × Nat × Nat) × (Nat × Int × Int × Nat × Nat × Nat × Nat × List Nat)) (List V × Hp) := Cd.iso (Cd.pair (Cd.cons (Cd.own 0) (Cd.cons (Cd.fl .f32) (Cd.cons (Cd.fl .f32) (Cd.cons (Cd.pt 1 (Cd.natc 0)) (Cd.cons (Cd.pt 2 (Cd.natc 0)) (Cd.cons (Cd.own 3) (Cd.cons (Cd.it .i64) (Cd.cons (Cd.it .i64) Cd.nil)))))))) (Cd.cons (Cd.rw 22 1 (Cd.fs .f32)) (Cd.cons (Cd.rw 28 4 (Cd.vs (Cd.cons (Cd.fl .f32) (Cd.cons (Cd.fl .f32) (Cd.cons (Cd.fl .f32) (Cd.cons (Cd.fl .f32) Cd.nil)))))) (Cd.cons (Cd.rw 28 4 (Cd.vs (Cd.cons (Cd.fl .f32) (Cd.cons (Cd.fl .f32) (Cd.cons (Cd.fl .f32) (Cd.cons (Cd.fl .f32) Cd.nil)))))) (Cd.cons (Cd.rw 22 1 (Cd.fs .f32)) Cd.nil))))) (fun a => ((a.1.1, a.1.2.1, a.1.2.2.1, a.2.1, a.2.2.2.1.1, a.2.2.2.1.2.1, a.2.2.2.1.2.2.1, a.2.2.2.1.2.2.2.1), (a.1.2.2.2.2.2.1, a.1.2.2.2.2.2.2.1, a.1.2.2.2.2.2.2.2.1, a.2.2.1.1, a.2.2.1.2.1, a.2.2.1.2.2.1, a.2.2.1.2.2.2.1, a.2.2.2.2.1))) (fun a => ((a.1.1, (a.1.2.1, (a.1.2.2.1, ((), ((), (a.2.1, (a.2.2.1, (a.2.2.2.1, ())))))))), (a.1.2.2.2.1, ((a.2.2.2.2.1, (a.2.2.2.2.2.1, (a.2.2.2.2.2.2.1, (a.2.2.2.2.2.2.2.1, ())))), ((a.1.2.2.2.2.1, (a.1.2.2.2.2.2.1, (a.1.2.2.2.2.2.2.1, (a.1.2.2.2.2.2.2.2, ())))), (a.2.2.2.2.2.2.2.2, ())))))) (fun _ => rfl)
def spec_DressedDay.l7.out (p : Nat × Nat × Nat × List Nat × Nat × Nat × Nat × Nat) : (Nat × Int × Nat × Nat × Nat × Nat × List Nat) → X × List V × Hp := (fun r => (.ex 0, [.pt 1 0, .pt 2 0, .own 3 r.1, .it .i64 r.2.1], [some ⟨true, 22, 1, .fs .f32 p.2.2.2.1⟩, some ⟨true, 28, 4, .vs [.fl .f32 r.2.2.1, .fl .f32 r.2.2.2.1, .fl .f32 r.2.2.2.2.1, .fl .f32 r.2.2.2.2.2.1]⟩, some ⟨true, 28, 4, .vs [.fl .f32 p.2.2.2.2.1, .fl .f32 p.2.2.2.2.2.1, .fl .f32 p.2.2.2.2.2.2.1, .fl .f32 p.2.2.2.2.2.2.2]⟩, some ⟨true, 22, 1, .fs .f32 r.2.2.2.2.2.2⟩]))
def spec_DressedDay.l7.ex (p : Nat × Nat × Nat × List Nat × Nat × Nat × Nat × Nat) : (Nat × Int × Nat × Nat × Nat × Nat × List Nat) → T (X × List V × Hp) := leafT (fun r => (.ex 0, [.pt 1 0, .pt 2 0, .own 3 r.1, .it .i64 r.2.1], [some ⟨true, 22, 1, .fs .f32 p.2.2.2.1⟩, some ⟨true, 28, 4, .vs [.fl .f32 r.2.2.1, .fl .f32 r.2.2.2.1, .fl .f32 r.2.2.2.2.1, .fl .f32 r.2.2.2.2.2.1]⟩, some ⟨true, 28, 4, .vs [.fl .f32 p.2.2.2.2.1, .fl .f32 p.2.2.2.2.2.1, .fl .f32 p.2.2.2.2.2.2.1, .fl .f32 p.2.2.2.2.2.2.2]⟩, some ⟨true, 22, 1, .fs .f32 r.2.2.2.2.2.2⟩]))
noncomputable def spec_DressedDay.l7.c : List V → Hp → T (X × List V × Hp) := cdL spec_DressedDay.l7.cd fun x => optT (spec_DressedDay.l7.r x.1 x.2) (spec_DressedDay.l7.ex x.1)
noncomputable def spec_DressedDay.C : Ctx := { ty := tys, fn := [(63, .q spec_l01Part.c), (62, .q spec_l04Day.c), (48, .q spec_l04Hour.c)], lp := [(7, ⟨[1, 2, 3, 4, 8, 12, 14, 15], [4, 8, 12, 14], spec_DressedDay.l7.c⟩)], n := 64, k := 1 }
theorem spec_DressedDay.hC : CtxOK Try.prog spec_DressedDay.C := CtxOK.of mo tys_ok (FnsOK.cons spec_l01Part.cok (FnsOK.cons spec_l04Day.cok (FnsOK.cons spec_l04Hour.cok FnsOK.nil)))
noncomputable def spec_DressedDay.b7 : Code := (nthC (loopsOf spec_DressedDay.b) 0)
theorem spec_DressedDay.lp7 : LpOK Try.prog spec_DressedDay.C spec_DressedDay.b7 := (LpOK.nil (by kernel_rfl))
theorem spec_DressedDay.l7.round (p : Nat × Nat × Nat × List Nat × Nat × Nat × Nat × Nat) (s : Nat × Int × Int × Nat × Nat × Nat × Nat × List Nat) : roundL spec_DressedDay.C [1, 2, 3, 4, 8, 12, 14, 15] [4, 8, 12, 14] spec_DressedDay.b7 (spec_DressedDay.l7.cd.enc (p, s)).1 (spec_DressedDay.l7.cd.enc (p, s)).2 = (spec_DressedDay.l7.st p s).map (encSum (fun s => spec_DressedDay.l7.cd.enc (p, s)) (spec_DressedDay.l7.out p)) := by kernel_rfl
theorem spec_DressedDay.l7.lok : LoopOK Try.prog spec_DressedDay.C ⟨[1, 2, 3, 4, 8, 12, 14, 15], [4, 8, 12, 14], spec_DressedDay.l7.c⟩ spec_DressedDay.b7 := loop_cd spec_DressedDay.l7.cd spec_DressedDay.hC spec_DressedDay.lp7 spec_DressedDay.l7.round fun p => Gets.leaf
theorem spec_DressedDay.lp : LpOK Try.prog spec_DressedDay.C spec_DressedDay.b := lp_of (by kernel_rfl) (LpsOK.cons (k := 7) (by kernel_rfl) (by kernel_rfl) spec_DressedDay.l7.lok LpsOK.nil)
noncomputable def spec_DressedDay.t (x0 : Nat) (x1 : Nat) (x2 : Nat) (x3 : Nat) (x4 : Nat) (x5 : Nat) (x6 : Nat) (x7 : List Nat) : T (Nat × Nat × Nat × Nat × Nat × Int × Int × List Nat) :=
  .br (spec_l04Day.ok x0 x1 x2 x3 x4 x5 (spec_l01Part x6) x7)
  (.br ((spec_l04Day x0 x1 x2 x3 x4 x5 (spec_l01Part x6) x7) != (0 : Int))
   (.leaf (0, 0, 0, 0, 0, (0 : Int), (spec_l04Day x0 x1 x2 x3 x4 x5 (spec_l01Part x6) x7), []))
   (.br (Option.isSome (spec_DressedDay.l7.r (x4, x5, x6, x7, 0, 0, 0, 0) (0, (0 : Int), (0 : Int), x0, x1, x2, x3, [])))
    (.leaf ((Option.getD (spec_DressedDay.l7.r (x4, x5, x6, x7, 0, 0, 0, 0) (0, (0 : Int), (0 : Int), x0, x1, x2, x3, [])) default).2.2.1, (Option.getD (spec_DressedDay.l7.r (x4, x5, x6, x7, 0, 0, 0, 0) (0, (0 : Int), (0 : Int), x0, x1, x2, x3, [])) default).2.2.2.1, (Option.getD (spec_DressedDay.l7.r (x4, x5, x6, x7, 0, 0, 0, 0) (0, (0 : Int), (0 : Int), x0, x1, x2, x3, [])) default).2.2.2.2.1, (Option.getD (spec_DressedDay.l7.r (x4, x5, x6, x7, 0, 0, 0, 0) (0, (0 : Int), (0 : Int), x0, x1, x2, x3, [])) default).2.2.2.2.2.1, (Option.getD (spec_DressedDay.l7.r (x4, x5, x6, x7, 0, 0, 0, 0) (0, (0 : Int), (0 : Int), x0, x1, x2, x3, [])) default).1, (Option.getD (spec_DressedDay.l7.r (x4, x5, x6, x7, 0, 0, 0, 0) (0, (0 : Int), (0 : Int), x0, x1, x2, x3, [])) default).2.1, (0 : Int), (Option.getD (spec_DressedDay.l7.r (x4, x5, x6, x7, 0, 0, 0, 0) (0, (0 : Int), (0 : Int), x0, x1, x2, x3, [])) default).2.2.2.2.2.2))
    .bad))
  .bad
noncomputable def spec_DressedDay (x0 : Nat) (x1 : Nat) (x2 : Nat) (x3 : Nat) (x4 : Nat) (x5 : Nat) (x6 : Nat) (x7 : List Nat) : Nat × Nat × Nat × Nat × Nat × Int × Int × List Nat := (spec_DressedDay.t x0 x1 x2 x3 x4 x5 x6 x7).val
noncomputable def spec_DressedDay.ok (x0 : Nat) (x1 : Nat) (x2 : Nat) (x3 : Nat) (x4 : Nat) (x5 : Nat) (x6 : Nat) (x7 : List Nat) : Bool := (spec_DressedDay.t x0 x1 x2 x3 x4 x5 x6 x7).ok
def spec_DressedDay.cd : Cd (Nat × Nat × Nat × Nat × Nat × Nat × Nat × List Nat) (List V × Hp) := Cd.iso (Cd.pair (Cd.cons (Cd.agg (Cd.cons (Cd.fl .f32) (Cd.cons (Cd.fl .f32) (Cd.cons (Cd.fl .f32) (Cd.cons (Cd.fl .f32) Cd.nil))))) (Cd.cons (Cd.own 0) (Cd.cons (Cd.fl .f32) (Cd.cons (Cd.fl .f32) Cd.nil)))) (Cd.cons (Cd.rw 22 1 (Cd.fs .f32)) Cd.nil)) (fun a => (a.1.1.1, a.1.1.2.1, a.1.1.2.2.1, a.1.1.2.2.2.1, a.1.2.1, a.1.2.2.1, a.1.2.2.2.1, a.2.1)) (fun a => (((a.1, (a.2.1, (a.2.2.1, (a.2.2.2.1, ())))), (a.2.2.2.2.1, (a.2.2.2.2.2.1, (a.2.2.2.2.2.2.1, ())))), (a.2.2.2.2.2.2.2, ()))) (fun _ => rfl)
noncomputable def spec_DressedDay.tr (a : Nat × Nat × Nat × Nat × Nat × Nat × Nat × List Nat) : T (Nat × Nat × Nat × Nat × Nat × Int × Int × List Nat) := spec_DressedDay.t a.1 a.2.1 a.2.2.1 a.2.2.2.1 a.2.2.2.2.1 a.2.2.2.2.2.1 a.2.2.2.2.2.2.1 a.2.2.2.2.2.2.2
def spec_DressedDay.enc : (Nat × Nat × Nat × Nat × Nat × Nat × Nat × List Nat) → (Nat × Nat × Nat × Nat × Nat × Int × Int × List Nat) → V × Hp := fun a r => (.tup [.agg [.fl .f32 r.1, .fl .f32 r.2.1, .fl .f32 r.2.2.1, .fl .f32 r.2.2.2.1], .own 1 r.2.2.2.2.1, .it .i64 r.2.2.2.2.2.1, .it .i64 r.2.2.2.2.2.2.1], [some ⟨true, 22, 1, .fs .f32 a.2.2.2.2.2.2.2⟩, some ⟨true, 22, 1, .fs .f32 r.2.2.2.2.2.2.2⟩])
noncomputable def spec_DressedDay.c : List V → Hp → T (V × Hp) := cdE spec_DressedDay.cd (fun a => .br (spec_DressedDay.ok a.1 a.2.1 a.2.2.1 a.2.2.2.1 a.2.2.2.2.1 a.2.2.2.2.2.1 a.2.2.2.2.2.2.1 a.2.2.2.2.2.2.2) (.leaf (spec_DressedDay.enc a (spec_DressedDay a.1 a.2.1 a.2.2.1 a.2.2.2.1 a.2.2.2.2.1 a.2.2.2.2.2.1 a.2.2.2.2.2.2.1 a.2.2.2.2.2.2.2))) .bad)
theorem spec_DressedDay.run (a : Nat × Nat × Nat × Nat × Nat × Nat × Nat × List Nat) : runF spec_DressedDay.C Try.f26.results.toList spec_DressedDay.b (spec_DressedDay.cd.enc a).1 (spec_DressedDay.cd.enc a).2 = (spec_DressedDay.tr a).map (spec_DressedDay.enc a) := by kernel_rfl
theorem spec_DressedDay.cok : OKe Try.prog 26 spec_DressedDay.c := con_e' spec_DressedDay.cd spec_DressedDay.hC Try.func26 (by kernel_rfl) (by kernel_rfl) (by kernel_rfl) spec_DressedDay.lp (fun a => by kernel_rfl) spec_DressedDay.run (Tells.ok (tree := spec_DressedDay.tr))
/-! ### impl_Dressed -/
noncomputable def impl_Dressed.b : Code := bodyOf Try.f41
noncomputable def impl_Dressed.C : Ctx := { ty := tys, fn := [(36, .q impl_ValidStone.c)], lp := [], n := 10, k := 0 }
theorem impl_Dressed.hC : CtxOK Try.prog impl_Dressed.C := CtxOK.of mo tys_ok (FnsOK.cons impl_ValidStone.cok FnsOK.nil)
theorem impl_Dressed.lp : LpOK Try.prog impl_Dressed.C impl_Dressed.b := (LpOK.nil (by kernel_rfl))
noncomputable def impl_Dressed.t (x0 : Nat) (x1 : Nat) (x2 : Nat) (x3 : Nat) : T (Nat × Nat × Nat × Nat × Int) :=
  .br (!(impl_ValidStone x0 x1 x2 x3))
  (.leaf (0, 0, 0, 0, (1 : Int)))
  (.leaf (x0, x1, x2, 1065353216, (0 : Int)))
noncomputable def impl_Dressed (x0 : Nat) (x1 : Nat) (x2 : Nat) (x3 : Nat) : Nat × Nat × Nat × Nat × Int := (impl_Dressed.t x0 x1 x2 x3).val
def impl_Dressed.cd : Cd (Nat × Nat × Nat × Nat) (List V × Hp) := Cd.iso (Cd.pair (Cd.cons (Cd.agg (Cd.cons (Cd.fl .f32) (Cd.cons (Cd.fl .f32) (Cd.cons (Cd.fl .f32) (Cd.cons (Cd.fl .f32) Cd.nil))))) Cd.nil) Cd.nil) (fun a => (a.1.1.1, a.1.1.2.1, a.1.1.2.2.1, a.1.1.2.2.2.1)) (fun a => (((a.1, (a.2.1, (a.2.2.1, (a.2.2.2, ())))), ()), ())) (fun _ => rfl)
noncomputable def impl_Dressed.tr (a : Nat × Nat × Nat × Nat) : T (Nat × Nat × Nat × Nat × Int) := impl_Dressed.t a.1 a.2.1 a.2.2.1 a.2.2.2
def impl_Dressed.enc : (Nat × Nat × Nat × Nat) → (Nat × Nat × Nat × Nat × Int) → V := fun a r => .tup [.agg [.fl .f32 r.1, .fl .f32 r.2.1, .fl .f32 r.2.2.1, .fl .f32 r.2.2.2.1], .it .i64 r.2.2.2.2]
noncomputable def impl_Dressed.c : List V → Hp → T V := cdQ impl_Dressed.cd (fun a => .leaf (impl_Dressed.enc a (impl_Dressed a.1 a.2.1 a.2.2.1 a.2.2.2)))
theorem impl_Dressed.run (a : Nat × Nat × Nat × Nat) : runF impl_Dressed.C Try.f41.results.toList impl_Dressed.b (impl_Dressed.cd.enc a).1 (impl_Dressed.cd.enc a).2 = (impl_Dressed.tr a).map fun r => (impl_Dressed.enc a r, (impl_Dressed.cd.enc a).2) := by kernel_rfl
theorem impl_Dressed.cok : OKq Try.prog 41 impl_Dressed.c := con_q' impl_Dressed.cd impl_Dressed.hC Try.func41 (by kernel_rfl) (by kernel_rfl) (by kernel_rfl) impl_Dressed.lp (fun a => by kernel_rfl) impl_Dressed.run (Tells.val (tree := impl_Dressed.tr) fun a => by kernel_rfl)
/-! ### impl_HoursFor -/
noncomputable def impl_HoursFor.b : Code := bodyOf Try.f42
noncomputable def impl_HoursFor.l6.s (x0 : Nat) (x1 : Nat) (x2 : Nat) (x3 : Nat) (x4 : Int) (x5 : Nat) (x6 : Nat) (x7 : Nat) (x8 : Nat) : T ((Nat × Int × Nat × Nat × Nat × Nat) ⊕ ((Int × Int) ⊕ Unit)) :=
  .br (decide (x4 < (61 : Int)))
  (.br (fge .f32 x3 x2)
   (.leaf (.inr (.inl (x4, (0 : Int)))))
   (.br (impl_Stone_hour.ok x0 x1 x5 x6 x7 x8)
    (.leaf (.inl ((fadd .f32 x3 (impl_Stone_hour x0 x1 x5 x6 x7 x8).1), (IntKind.wrap .i64 (x4 + (1 : Int))), (impl_Stone_hour x0 x1 x5 x6 x7 x8).2.1, (impl_Stone_hour x0 x1 x5 x6 x7 x8).2.2.1, (impl_Stone_hour x0 x1 x5 x6 x7 x8).2.2.2.1, (impl_Stone_hour x0 x1 x5 x6 x7 x8).2.2.2.2)))
    .bad))
  (.leaf (.inr (.inr ())))
noncomputable def impl_HoursFor.l6.st (p : Nat × Nat × Nat) (x : Nat × Int × Nat × Nat × Nat × Nat) : T ((Nat × Int × Nat × Nat × Nat × Nat) ⊕ ((Int × Int) ⊕ Unit)) := impl_HoursFor.l6.s p.1 p.2.1 p.2.2 x.1 x.2.1 x.2.2.1 x.2.2.2.1 x.2.2.2.2.1 x.2.2.2.2.2
noncomputable def impl_HoursFor.l6.r (p : Nat × Nat × Nat) (x : Nat × Int × Nat × Nat × Nat × Nat) : Option ((Int × Int) ⊕ Unit) := iterT (impl_HoursFor.l6.st p) manyRounds x
def impl_HoursFor.l6.cd : Cd ((Nat × Nat × Nat) × (Nat × Int × Nat × Nat × Nat × Nat)) (List V × Hp) := Cd.iso (Cd.pair (Cd.cons (Cd.fl .f32) (Cd.cons (Cd.fl .f32) (Cd.cons (Cd.fl .f32) (Cd.cons (Cd.pt 0 (Cd.natc 0)) (Cd.cons (Cd.fl .f32) (Cd.cons (Cd.it .i64) Cd.nil)))))) (Cd.cons (Cd.rw 28 4 (Cd.vs (Cd.cons (Cd.fl .f32) (Cd.cons (Cd.fl .f32) (Cd.cons (Cd.fl .f32) (Cd.cons (Cd.fl .f32) Cd.nil)))))) Cd.nil)) (fun a => ((a.1.1, a.1.2.1, a.1.2.2.1), (a.1.2.2.2.2.1, a.1.2.2.2.2.2.1, a.2.1.1, a.2.1.2.1, a.2.1.2.2.1, a.2.1.2.2.2.1))) (fun a => ((a.1.1, (a.1.2.1, (a.1.2.2, ((), (a.2.1, (a.2.2.1, ())))))), ((a.2.2.2.1, (a.2.2.2.2.1, (a.2.2.2.2.2.1, (a.2.2.2.2.2.2, ())))), ()))) (fun _ => rfl)
def impl_HoursFor.l6.out (p : Nat × Nat × Nat) : ((Int × Int) ⊕ Unit) → X × List V × Hp := sumO (fun r => (.ret, [.it .i64 r.1, .it .i64 r.2], [])) (fun r => (.ex 0, [.unk, .unk], []))
def impl_HoursFor.l6.ex (p : Nat × Nat × Nat) : ((Int × Int) ⊕ Unit) → T (X × List V × Hp) := sumT (leafT (fun r => (.ret, [.it .i64 r.1, .it .i64 r.2], []))) (leafT (fun r => (.ex 0, [.unk, .unk], [])))
noncomputable def impl_HoursFor.l6.c : List V → Hp → T (X × List V × Hp) := cdL impl_HoursFor.l6.cd fun x => optT (impl_HoursFor.l6.r x.1 x.2) (impl_HoursFor.l6.ex x.1)
noncomputable def impl_HoursFor.C : Ctx := { ty := tys, fn := [(50, .q impl_isAmount.c), (53, .q impl_IsRate.c), (49, .q impl_stoneCode.c), (54, .e impl_Stone_hour.c)], lp := [(6, ⟨[1, 2, 3, 4, 11, 28], [8, 9], impl_HoursFor.l6.c⟩)], n := 41, k := 0 }
theorem impl_HoursFor.hC : CtxOK Try.prog impl_HoursFor.C := CtxOK.of mo tys_ok (FnsOK.cons impl_isAmount.cok (FnsOK.cons impl_IsRate.cok (FnsOK.cons impl_stoneCode.cok (FnsOK.cons impl_Stone_hour.cok FnsOK.nil))))
noncomputable def impl_HoursFor.b6 : Code := (nthC (loopsOf impl_HoursFor.b) 0)
theorem impl_HoursFor.lp6 : LpOK Try.prog impl_HoursFor.C impl_HoursFor.b6 := (LpOK.nil (by kernel_rfl))
theorem impl_HoursFor.l6.round (p : Nat × Nat × Nat) (s : Nat × Int × Nat × Nat × Nat × Nat) : roundL impl_HoursFor.C [1, 2, 3, 4, 11, 28] [8, 9] impl_HoursFor.b6 (impl_HoursFor.l6.cd.enc (p, s)).1 (impl_HoursFor.l6.cd.enc (p, s)).2 = (impl_HoursFor.l6.st p s).map (encSum (fun s => impl_HoursFor.l6.cd.enc (p, s)) (impl_HoursFor.l6.out p)) := by kernel_rfl
theorem impl_HoursFor.l6.lok : LoopOK Try.prog impl_HoursFor.C ⟨[1, 2, 3, 4, 11, 28], [8, 9], impl_HoursFor.l6.c⟩ impl_HoursFor.b6 := loop_cd impl_HoursFor.l6.cd impl_HoursFor.hC impl_HoursFor.lp6 impl_HoursFor.l6.round fun p => (Gets.sum Gets.leaf Gets.leaf)
theorem impl_HoursFor.lp : LpOK Try.prog impl_HoursFor.C impl_HoursFor.b := lp_of (by kernel_rfl) (LpsOK.cons (k := 6) (by kernel_rfl) (by kernel_rfl) impl_HoursFor.l6.lok LpsOK.nil)
noncomputable def impl_HoursFor.t (x0 : Nat) (x1 : Nat) (x2 : Nat) (x3 : Nat) (x4 : Nat) (x5 : Nat) (x6 : Nat) : T (Int × Int) :=
  .br (impl_isAmount x4)
  (.br (impl_IsRate x5)
   (.br ((impl_stoneCode x0 x1 x2 x3 (impl_isAmount x6)) != (0 : Int))
    (.leaf ((0 : Int), (impl_stoneCode x0 x1 x2 x3 (impl_isAmount x6))))
    (.br (Option.isSome (impl_HoursFor.l6.r (x4, x5, x6) (0, (0 : Int), x0, x1, x2, x3)))
     (.br (Sum.isLeft (Option.getD (impl_HoursFor.l6.r (x4, x5, x6) (0, (0 : Int), x0, x1, x2, x3)) default))
      (.leaf ((getLeftD (Option.getD (impl_HoursFor.l6.r (x4, x5, x6) (0, (0 : Int), x0, x1, x2, x3)) default)).1, (getLeftD (Option.getD (impl_HoursFor.l6.r (x4, x5, x6) (0, (0 : Int), x0, x1, x2, x3)) default)).2))
      (.leaf ((0 : Int), (6 : Int))))
     .bad))
   (.br ((impl_stoneCode x0 x1 x2 x3 false) != (0 : Int))
    (.leaf ((0 : Int), (impl_stoneCode x0 x1 x2 x3 false)))
    (.br (Option.isSome (impl_HoursFor.l6.r (x4, x5, x6) (0, (0 : Int), x0, x1, x2, x3)))
     (.br (Sum.isLeft (Option.getD (impl_HoursFor.l6.r (x4, x5, x6) (0, (0 : Int), x0, x1, x2, x3)) default))
      (.leaf ((getLeftD (Option.getD (impl_HoursFor.l6.r (x4, x5, x6) (0, (0 : Int), x0, x1, x2, x3)) default)).1, (getLeftD (Option.getD (impl_HoursFor.l6.r (x4, x5, x6) (0, (0 : Int), x0, x1, x2, x3)) default)).2))
      (.leaf ((0 : Int), (6 : Int))))
     .bad)))
  (.br ((impl_stoneCode x0 x1 x2 x3 false) != (0 : Int))
   (.leaf ((0 : Int), (impl_stoneCode x0 x1 x2 x3 false)))
   (.br (Option.isSome (impl_HoursFor.l6.r (x4, x5, x6) (0, (0 : Int), x0, x1, x2, x3)))
    (.br (Sum.isLeft (Option.getD (impl_HoursFor.l6.r (x4, x5, x6) (0, (0 : Int), x0, x1, x2, x3)) default))
     (.leaf ((getLeftD (Option.getD (impl_HoursFor.l6.r (x4, x5, x6) (0, (0 : Int), x0, x1, x2, x3)) default)).1, (getLeftD (Option.getD (impl_HoursFor.l6.r (x4, x5, x6) (0, (0 : Int), x0, x1, x2, x3)) default)).2))
     (.leaf ((0 : Int), (6 : Int))))
    .bad))
noncomputable def impl_HoursFor (x0 : Nat) (x1 : Nat) (x2 : Nat) (x3 : Nat) (x4 : Nat) (x5 : Nat) (x6 : Nat) : Int × Int := (impl_HoursFor.t x0 x1 x2 x3 x4 x5 x6).val
noncomputable def impl_HoursFor.ok (x0 : Nat) (x1 : Nat) (x2 : Nat) (x3 : Nat) (x4 : Nat) (x5 : Nat) (x6 : Nat) : Bool := (impl_HoursFor.t x0 x1 x2 x3 x4 x5 x6).ok
def impl_HoursFor.cd : Cd (Nat × Nat × Nat × Nat × Nat × Nat × Nat) (List V × Hp) := Cd.iso (Cd.pair (Cd.cons (Cd.agg (Cd.cons (Cd.fl .f32) (Cd.cons (Cd.fl .f32) (Cd.cons (Cd.fl .f32) (Cd.cons (Cd.fl .f32) Cd.nil))))) (Cd.cons (Cd.fl .f32) (Cd.cons (Cd.fl .f32) (Cd.cons (Cd.fl .f32) Cd.nil)))) Cd.nil) (fun a => (a.1.1.1, a.1.1.2.1, a.1.1.2.2.1, a.1.1.2.2.2.1, a.1.2.1, a.1.2.2.1, a.1.2.2.2.1)) (fun a => (((a.1, (a.2.1, (a.2.2.1, (a.2.2.2.1, ())))), (a.2.2.2.2.1, (a.2.2.2.2.2.1, (a.2.2.2.2.2.2, ())))), ())) (fun _ => rfl)
noncomputable def impl_HoursFor.tr (a : Nat × Nat × Nat × Nat × Nat × Nat × Nat) : T (Int × Int) := impl_HoursFor.t a.1 a.2.1 a.2.2.1 a.2.2.2.1 a.2.2.2.2.1 a.2.2.2.2.2.1 a.2.2.2.2.2.2
def impl_HoursFor.enc : (Nat × Nat × Nat × Nat × Nat × Nat × Nat) → (Int × Int) → V := fun a r => .tup [.it .i64 r.1, .it .i64 r.2]
noncomputable def impl_HoursFor.c : List V → Hp → T V := cdQ impl_HoursFor.cd (fun a => .br (impl_HoursFor.ok a.1 a.2.1 a.2.2.1 a.2.2.2.1 a.2.2.2.2.1 a.2.2.2.2.2.1 a.2.2.2.2.2.2) (.leaf (impl_HoursFor.enc a (impl_HoursFor a.1 a.2.1 a.2.2.1 a.2.2.2.1 a.2.2.2.2.1 a.2.2.2.2.2.1 a.2.2.2.2.2.2))) .bad)
theorem impl_HoursFor.run (a : Nat × Nat × Nat × Nat × Nat × Nat × Nat) : runF impl_HoursFor.C Try.f42.results.toList impl_HoursFor.b (impl_HoursFor.cd.enc a).1 (impl_HoursFor.cd.enc a).2 = (impl_HoursFor.tr a).map fun r => (impl_HoursFor.enc a r, (impl_HoursFor.cd.enc a).2) := by kernel_rfl
theorem impl_HoursFor.cok : OKq Try.prog 42 impl_HoursFor.c := con_q' impl_HoursFor.cd impl_HoursFor.hC Try.func42 (by kernel_rfl) (by kernel_rfl) (by kernel_rfl) impl_HoursFor.lp (fun a => by kernel_rfl) impl_HoursFor.run (Tells.ok (tree := impl_HoursFor.tr))
/-! ### spec_HoursFor -/
noncomputable def spec_HoursFor.b : Code := bodyOf Try.f43
noncomputable def spec_HoursFor.l8.s (x0 : Nat) (x1 : Nat) (x2 : Nat) (x3 : Nat) (x4 : Int) (x5 : Nat) (x6 : Nat) (x7 : Nat) (x8 : Nat) : T ((Nat × Int × Nat × Nat × Nat × Nat) ⊕ ((Int × Int) ⊕ Unit)) :=
  .br (decide (x4 ≤ (60 : Int)))
  (.br (fge .f32 x3 x2)
   (.leaf (.inr (.inl (x4, (0 : Int)))))
   (.br (spec_l04Hour.ok x5 x6 x7 x8 x0 x1)
    (.leaf (.inl ((fadd .f32 x3 (spec_l04Hour x5 x6 x7 x8 x0 x1).2.2.2.2), (IntKind.wrap .i64 (x4 + (1 : Int))), (spec_l04Hour x5 x6 x7 x8 x0 x1).1, (spec_l04Hour x5 x6 x7 x8 x0 x1).2.1, (spec_l04Hour x5 x6 x7 x8 x0 x1).2.2.1, (spec_l04Hour x5 x6 x7 x8 x0 x1).2.2.2.1)))
    .bad))
  (.leaf (.inr (.inr ())))
noncomputable def spec_HoursFor.l8.st (p : Nat × Nat × Nat) (x : Nat × Int × Nat × Nat × Nat × Nat) : T ((Nat × Int × Nat × Nat × Nat × Nat) ⊕ ((Int × Int) ⊕ Unit)) := spec_HoursFor.l8.s p.1 p.2.1 p.2.2 x.1 x.2.1 x.2.2.1 x.2.2.2.1 x.2.2.2.2.1 x.2.2.2.2.2
noncomputable def spec_HoursFor.l8.r (p : Nat × Nat × Nat) (x : Nat × Int × Nat × Nat × Nat × Nat) : Option ((Int × Int) ⊕ Unit) := iterT (spec_HoursFor.l8.st p) manyRounds x
def spec_HoursFor.l8.cd : Cd ((Nat × Nat × Nat) × (Nat × Int × Nat × Nat × Nat × Nat)) (List V × Hp) := Cd.iso (Cd.pair (Cd.cons (Cd.fl .f32) (Cd.cons (Cd.fl .f32) (Cd.cons (Cd.fl .f32) (Cd.cons (Cd.pt 0 (Cd.natc 0)) (Cd.cons (Cd.fl .f32) (Cd.cons (Cd.it .i64) Cd.nil)))))) (Cd.cons (Cd.rw 28 4 (Cd.vs (Cd.cons (Cd.fl .f32) (Cd.cons (Cd.fl .f32) (Cd.cons (Cd.fl .f32) (Cd.cons (Cd.fl .f32) Cd.nil)))))) Cd.nil)) (fun a => ((a.1.1, a.1.2.1, a.1.2.2.1), (a.1.2.2.2.2.1, a.1.2.2.2.2.2.1, a.2.1.1, a.2.1.2.1, a.2.1.2.2.1, a.2.1.2.2.2.1))) (fun a => ((a.1.1, (a.1.2.1, (a.1.2.2, ((), (a.2.1, (a.2.2.1, ())))))), ((a.2.2.2.1, (a.2.2.2.2.1, (a.2.2.2.2.2.1, (a.2.2.2.2.2.2, ())))), ()))) (fun _ => rfl)
def spec_HoursFor.l8.out (p : Nat × Nat × Nat) : ((Int × Int) ⊕ Unit) → X × List V × Hp := sumO (fun r => (.ret, [.it .i64 r.1, .it .i64 r.2], [])) (fun r => (.ex 0, [.unk, .unk], []))
def spec_HoursFor.l8.ex (p : Nat × Nat × Nat) : ((Int × Int) ⊕ Unit) → T (X × List V × Hp) := sumT (leafT (fun r => (.ret, [.it .i64 r.1, .it .i64 r.2], []))) (leafT (fun r => (.ex 0, [.unk, .unk], [])))
noncomputable def spec_HoursFor.l8.c : List V → Hp → T (X × List V × Hp) := cdL spec_HoursFor.l8.cd fun x => optT (spec_HoursFor.l8.r x.1 x.2) (spec_HoursFor.l8.ex x.1)
noncomputable def spec_HoursFor.C : Ctx := { ty := tys, fn := [(72, .q spec_l04Turned.c), (46, .q spec_l03Amount.c), (48, .q spec_l04Hour.c)], lp := [(8, ⟨[1, 2, 3, 4, 11, 12], [8, 9], spec_HoursFor.l8.c⟩)], n := 48, k := 0 }
theorem spec_HoursFor.hC : CtxOK Try.prog spec_HoursFor.C := CtxOK.of mo tys_ok (FnsOK.cons spec_l04Turned.cok (FnsOK.cons spec_l03Amount.cok (FnsOK.cons spec_l04Hour.cok FnsOK.nil)))
noncomputable def spec_HoursFor.b8 : Code := (nthC (loopsOf spec_HoursFor.b) 0)
theorem spec_HoursFor.lp8 : LpOK Try.prog spec_HoursFor.C spec_HoursFor.b8 := (LpOK.nil (by kernel_rfl))
theorem spec_HoursFor.l8.round (p : Nat × Nat × Nat) (s : Nat × Int × Nat × Nat × Nat × Nat) : roundL spec_HoursFor.C [1, 2, 3, 4, 11, 12] [8, 9] spec_HoursFor.b8 (spec_HoursFor.l8.cd.enc (p, s)).1 (spec_HoursFor.l8.cd.enc (p, s)).2 = (spec_HoursFor.l8.st p s).map (encSum (fun s => spec_HoursFor.l8.cd.enc (p, s)) (spec_HoursFor.l8.out p)) := by kernel_rfl
theorem spec_HoursFor.l8.lok : LoopOK Try.prog spec_HoursFor.C ⟨[1, 2, 3, 4, 11, 12], [8, 9], spec_HoursFor.l8.c⟩ spec_HoursFor.b8 := loop_cd spec_HoursFor.l8.cd spec_HoursFor.hC spec_HoursFor.lp8 spec_HoursFor.l8.round fun p => (Gets.sum Gets.leaf Gets.leaf)
theorem spec_HoursFor.lp : LpOK Try.prog spec_HoursFor.C spec_HoursFor.b := lp_of (by kernel_rfl) (LpsOK.cons (k := 8) (by kernel_rfl) (by kernel_rfl) spec_HoursFor.l8.lok LpsOK.nil)
noncomputable def spec_HoursFor.t (x0 : Nat) (x1 : Nat) (x2 : Nat) (x3 : Nat) (x4 : Nat) (x5 : Nat) (x6 : Nat) : T (Int × Int) :=
  .br ((spec_l04Turned x0 x1 x2 x3 x4 x5) == (0 : Int))
  (.br (!(spec_l03Amount x6))
   (.br ((2 : Int) != (0 : Int))
    (.leaf ((0 : Int), (2 : Int)))
    (.br (Option.isSome (spec_HoursFor.l8.r (x4, x5, x6) (0, (0 : Int), x0, x1, x2, x3)))
     (.br (Sum.isLeft (Option.getD (spec_HoursFor.l8.r (x4, x5, x6) (0, (0 : Int), x0, x1, x2, x3)) default))
      (.leaf ((getLeftD (Option.getD (spec_HoursFor.l8.r (x4, x5, x6) (0, (0 : Int), x0, x1, x2, x3)) default)).1, (getLeftD (Option.getD (spec_HoursFor.l8.r (x4, x5, x6) (0, (0 : Int), x0, x1, x2, x3)) default)).2))
      (.leaf ((0 : Int), (6 : Int))))
     .bad))
   (.br ((spec_l04Turned x0 x1 x2 x3 x4 x5) != (0 : Int))
    (.leaf ((0 : Int), (spec_l04Turned x0 x1 x2 x3 x4 x5)))
    (.br (Option.isSome (spec_HoursFor.l8.r (x4, x5, x6) (0, (0 : Int), x0, x1, x2, x3)))
     (.br (Sum.isLeft (Option.getD (spec_HoursFor.l8.r (x4, x5, x6) (0, (0 : Int), x0, x1, x2, x3)) default))
      (.leaf ((getLeftD (Option.getD (spec_HoursFor.l8.r (x4, x5, x6) (0, (0 : Int), x0, x1, x2, x3)) default)).1, (getLeftD (Option.getD (spec_HoursFor.l8.r (x4, x5, x6) (0, (0 : Int), x0, x1, x2, x3)) default)).2))
      (.leaf ((0 : Int), (6 : Int))))
     .bad)))
  (.br ((spec_l04Turned x0 x1 x2 x3 x4 x5) != (0 : Int))
   (.leaf ((0 : Int), (spec_l04Turned x0 x1 x2 x3 x4 x5)))
   (.br (Option.isSome (spec_HoursFor.l8.r (x4, x5, x6) (0, (0 : Int), x0, x1, x2, x3)))
    (.br (Sum.isLeft (Option.getD (spec_HoursFor.l8.r (x4, x5, x6) (0, (0 : Int), x0, x1, x2, x3)) default))
     (.leaf ((getLeftD (Option.getD (spec_HoursFor.l8.r (x4, x5, x6) (0, (0 : Int), x0, x1, x2, x3)) default)).1, (getLeftD (Option.getD (spec_HoursFor.l8.r (x4, x5, x6) (0, (0 : Int), x0, x1, x2, x3)) default)).2))
     (.leaf ((0 : Int), (6 : Int))))
    .bad))
noncomputable def spec_HoursFor (x0 : Nat) (x1 : Nat) (x2 : Nat) (x3 : Nat) (x4 : Nat) (x5 : Nat) (x6 : Nat) : Int × Int := (spec_HoursFor.t x0 x1 x2 x3 x4 x5 x6).val
noncomputable def spec_HoursFor.ok (x0 : Nat) (x1 : Nat) (x2 : Nat) (x3 : Nat) (x4 : Nat) (x5 : Nat) (x6 : Nat) : Bool := (spec_HoursFor.t x0 x1 x2 x3 x4 x5 x6).ok
def spec_HoursFor.cd : Cd (Nat × Nat × Nat × Nat × Nat × Nat × Nat) (List V × Hp) := Cd.iso (Cd.pair (Cd.cons (Cd.agg (Cd.cons (Cd.fl .f32) (Cd.cons (Cd.fl .f32) (Cd.cons (Cd.fl .f32) (Cd.cons (Cd.fl .f32) Cd.nil))))) (Cd.cons (Cd.fl .f32) (Cd.cons (Cd.fl .f32) (Cd.cons (Cd.fl .f32) Cd.nil)))) Cd.nil) (fun a => (a.1.1.1, a.1.1.2.1, a.1.1.2.2.1, a.1.1.2.2.2.1, a.1.2.1, a.1.2.2.1, a.1.2.2.2.1)) (fun a => (((a.1, (a.2.1, (a.2.2.1, (a.2.2.2.1, ())))), (a.2.2.2.2.1, (a.2.2.2.2.2.1, (a.2.2.2.2.2.2, ())))), ())) (fun _ => rfl)
noncomputable def spec_HoursFor.tr (a : Nat × Nat × Nat × Nat × Nat × Nat × Nat) : T (Int × Int) := spec_HoursFor.t a.1 a.2.1 a.2.2.1 a.2.2.2.1 a.2.2.2.2.1 a.2.2.2.2.2.1 a.2.2.2.2.2.2
def spec_HoursFor.enc : (Nat × Nat × Nat × Nat × Nat × Nat × Nat) → (Int × Int) → V := fun a r => .tup [.it .i64 r.1, .it .i64 r.2]
noncomputable def spec_HoursFor.c : List V → Hp → T V := cdQ spec_HoursFor.cd (fun a => .br (spec_HoursFor.ok a.1 a.2.1 a.2.2.1 a.2.2.2.1 a.2.2.2.2.1 a.2.2.2.2.2.1 a.2.2.2.2.2.2) (.leaf (spec_HoursFor.enc a (spec_HoursFor a.1 a.2.1 a.2.2.1 a.2.2.2.1 a.2.2.2.2.1 a.2.2.2.2.2.1 a.2.2.2.2.2.2))) .bad)
theorem spec_HoursFor.run (a : Nat × Nat × Nat × Nat × Nat × Nat × Nat) : runF spec_HoursFor.C Try.f43.results.toList spec_HoursFor.b (spec_HoursFor.cd.enc a).1 (spec_HoursFor.cd.enc a).2 = (spec_HoursFor.tr a).map fun r => (spec_HoursFor.enc a r, (spec_HoursFor.cd.enc a).2) := by kernel_rfl
theorem spec_HoursFor.cok : OKq Try.prog 43 spec_HoursFor.c := con_q' spec_HoursFor.cd spec_HoursFor.hC Try.func43 (by kernel_rfl) (by kernel_rfl) (by kernel_rfl) spec_HoursFor.lp (fun a => by kernel_rfl) spec_HoursFor.run (Tells.ok (tree := spec_HoursFor.tr))
/-! ### impl_SumOf -/
noncomputable def impl_SumOf.b : Code := bodyOf Try.f44
noncomputable def impl_SumOf.l5.s (x0 : Nat) (x1 : Int) (x2 : Int) : T (Unit ⊕ Unit) :=
  .br (decide (x2 < x1))
  .bad
  (.leaf (.inr ()))
noncomputable def impl_SumOf.l5.st (p : Nat × Int × Int) (x : Unit) : T (Unit ⊕ Unit) := impl_SumOf.l5.s p.1 p.2.1 p.2.2
noncomputable def impl_SumOf.l5.r (p : Nat × Int × Int) (x : Unit) : Option Unit := iterT (impl_SumOf.l5.st p) manyRounds x
def impl_SumOf.l5.cd : Cd ((Nat × Int × Int) × Unit) (List V × Hp) := Cd.iso (Cd.pair (Cd.cons (Cd.fl .f32) (Cd.cons Cd.sn (Cd.cons (Cd.it .i64) (Cd.cons (Cd.it .i64) Cd.nil)))) Cd.nil) (fun a => ((a.1.1, a.1.2.2.1, a.1.2.2.2.1), ())) (fun a => ((a.1.1, ((), (a.1.2.1, (a.1.2.2, ())))), ())) (fun _ => rfl)
def impl_SumOf.l5.out (p : Nat × Int × Int) : Unit → X × List V × Hp := (fun r => (.ex 0, [.fl .f32 p.1], []))
def impl_SumOf.l5.ex (p : Nat × Int × Int) : Unit → T (X × List V × Hp) := leafT (fun r => (.ex 0, [.fl .f32 p.1], []))
noncomputable def impl_SumOf.l5.c : List V → Hp → T (X × List V × Hp) := cdL impl_SumOf.l5.cd fun x => optT (impl_SumOf.l5.r x.1 x.2) (impl_SumOf.l5.ex x.1)
noncomputable def impl_SumOf.C : Ctx := { ty := tys, fn := [], lp := [(5, ⟨[4, 10, 11, 12], [4], impl_SumOf.l5.c⟩)], n := 21, k := 0 }
theorem impl_SumOf.hC : CtxOK Try.prog impl_SumOf.C := CtxOK.of mo tys_ok FnsOK.nil
noncomputable def impl_SumOf.b5 : Code := (nthC (loopsOf impl_SumOf.b) 0)
theorem impl_SumOf.lp5 : LpOK Try.prog impl_SumOf.C impl_SumOf.b5 := (LpOK.nil (by kernel_rfl))
theorem impl_SumOf.l5.round (p : Nat × Int × Int) (s : Unit) : roundL impl_SumOf.C [4, 10, 11, 12] [4] impl_SumOf.b5 (impl_SumOf.l5.cd.enc (p, s)).1 (impl_SumOf.l5.cd.enc (p, s)).2 = (impl_SumOf.l5.st p s).map (encSum (fun s => impl_SumOf.l5.cd.enc (p, s)) (impl_SumOf.l5.out p)) := by kernel_rfl
theorem impl_SumOf.l5.lok : LoopOK Try.prog impl_SumOf.C ⟨[4, 10, 11, 12], [4], impl_SumOf.l5.c⟩ impl_SumOf.b5 := loop_cd impl_SumOf.l5.cd impl_SumOf.hC impl_SumOf.lp5 impl_SumOf.l5.round fun p => Gets.leaf
theorem impl_SumOf.lp : LpOK Try.prog impl_SumOf.C impl_SumOf.b := lp_of (by kernel_rfl) (LpsOK.cons (k := 5) (by kernel_rfl) (by kernel_rfl) impl_SumOf.l5.lok LpsOK.nil)
noncomputable def impl_SumOf.t : T (Nat × Int) :=
  .br (decide (((0 : Nat) : Int) > (60 : Int)))
  (.leaf (0, (3 : Int)))
  (.br (Option.isSome (impl_SumOf.l5.r (0, ((0 : Nat) : Int), (0 : Int)) ()))
   (.leaf (0, (0 : Int)))
   .bad)
noncomputable def impl_SumOf : Nat × Int := (impl_SumOf.t).val
noncomputable def impl_SumOf.ok : Bool := (impl_SumOf.t).ok
def impl_SumOf.cd : Cd Unit (List V × Hp) := Cd.iso (Cd.pair (Cd.cons Cd.sn Cd.nil) Cd.nil) (fun a => ()) (fun a => (((), ()), ())) (fun _ => rfl)
noncomputable def impl_SumOf.tr (a : Unit) : T (Nat × Int) := impl_SumOf.t
def impl_SumOf.enc : Unit → (Nat × Int) → V := fun a r => .tup [.fl .f32 r.1, .it .i64 r.2]
noncomputable def impl_SumOf.c : List V → Hp → T V := cdQ impl_SumOf.cd (fun a => .br (impl_SumOf.ok) (.leaf (impl_SumOf.enc a (impl_SumOf))) .bad)
theorem impl_SumOf.run (a : Unit) : runF impl_SumOf.C Try.f44.results.toList impl_SumOf.b (impl_SumOf.cd.enc a).1 (impl_SumOf.cd.enc a).2 = (impl_SumOf.tr a).map fun r => (impl_SumOf.enc a r, (impl_SumOf.cd.enc a).2) := by kernel_rfl
theorem impl_SumOf.cok : OKq Try.prog 44 impl_SumOf.c := con_q' impl_SumOf.cd impl_SumOf.hC Try.func44 (by kernel_rfl) (by kernel_rfl) (by kernel_rfl) impl_SumOf.lp (fun a => by kernel_rfl) impl_SumOf.run (Tells.ok (tree := impl_SumOf.tr))
/-! ### slices_IndexFunc_float32_float32_w1 -/
noncomputable def slices_IndexFunc_float32_float32_w1.b : Code := bodyOf Try.f77
noncomputable def slices_IndexFunc_float32_float32_w1.l2.s (x0 : Nat) (x1 : Int) (x2 : Int) (x3 : List Nat) : T (Int ⊕ (Int ⊕ Unit)) :=
  .br (decide (x2 < x1))
  (.br (bounds x2 x0)
   (.br (Nat.ble ((1 + (Int.toNat x2 * 1)) + 1) (List.length x3))
    (.br (impl_areAmounts_1 (List.getD x3 (1 + (Int.toNat x2 * 1)) 0))
     (.leaf (.inr (.inl x2)))
     (.leaf (.inl (IntKind.wrap .i64 (x2 + (1 : Int))))))
    .bad)
   .bad)
  (.leaf (.inr (.inr ())))
noncomputable def slices_IndexFunc_float32_float32_w1.l2.st (p : Nat × Int × List Nat) (x : Int) : T (Int ⊕ (Int ⊕ Unit)) := slices_IndexFunc_float32_float32_w1.l2.s p.1 p.2.1 x p.2.2
noncomputable def slices_IndexFunc_float32_float32_w1.l2.r (p : Nat × Int × List Nat) (x : Int) : Option (Int ⊕ Unit) := iterT (slices_IndexFunc_float32_float32_w1.l2.st p) manyRounds x
def slices_IndexFunc_float32_float32_w1.l2.cd : Cd ((Nat × Int × List Nat) × Int) (List V × Hp) := Cd.iso (Cd.pair (Cd.cons (Cd.sl 0 (Cd.natc 1)) (Cd.cons (Cd.fu 86 Cd.nil) (Cd.cons (Cd.it .i64) (Cd.cons (Cd.it .i64) Cd.nil)))) (Cd.cons (Cd.rw 22 1 (Cd.fs .f32)) Cd.nil)) (fun a => ((a.1.1.2, a.1.2.2.1, a.2.1), a.1.2.2.2.1)) (fun a => ((((), a.1.1), ((), (a.1.2.1, (a.2, ())))), (a.1.2.2, ()))) (fun _ => rfl)
def slices_IndexFunc_float32_float32_w1.l2.out (p : Nat × Int × List Nat) : (Int ⊕ Unit) → X × List V × Hp := sumO (fun r => (.ret, [.it .i64 r], [some ⟨true, 22, 1, .fs .f32 p.2.2⟩])) (fun r => (.ex 0, [.unk], [some ⟨true, 22, 1, .fs .f32 p.2.2⟩]))
def slices_IndexFunc_float32_float32_w1.l2.ex (p : Nat × Int × List Nat) : (Int ⊕ Unit) → T (X × List V × Hp) := sumT (leafT (fun r => (.ret, [.it .i64 r], [some ⟨true, 22, 1, .fs .f32 p.2.2⟩]))) (leafT (fun r => (.ex 0, [.unk], [some ⟨true, 22, 1, .fs .f32 p.2.2⟩])))
noncomputable def slices_IndexFunc_float32_float32_w1.l2.c : List V → Hp → T (X × List V × Hp) := cdL slices_IndexFunc_float32_float32_w1.l2.cd fun x => optT (slices_IndexFunc_float32_float32_w1.l2.r x.1 x.2) (slices_IndexFunc_float32_float32_w1.l2.ex x.1)
noncomputable def slices_IndexFunc_float32_float32_w1.C : Ctx := { ty := tys, fn := [(86, .q impl_areAmounts_1.c)], lp := [(2, ⟨[0, 1, 7, 8], [4], slices_IndexFunc_float32_float32_w1.l2.c⟩)], n := 19, k := 1 }
theorem slices_IndexFunc_float32_float32_w1.hC : CtxOK Try.prog slices_IndexFunc_float32_float32_w1.C := CtxOK.of mo tys_ok (FnsOK.cons impl_areAmounts_1.cok FnsOK.nil)
noncomputable def slices_IndexFunc_float32_float32_w1.b2 : Code := (nthC (loopsOf slices_IndexFunc_float32_float32_w1.b) 0)
theorem slices_IndexFunc_float32_float32_w1.lp2 : LpOK Try.prog slices_IndexFunc_float32_float32_w1.C slices_IndexFunc_float32_float32_w1.b2 := (LpOK.nil (by kernel_rfl))
theorem slices_IndexFunc_float32_float32_w1.l2.round (p : Nat × Int × List Nat) (s : Int) : roundL slices_IndexFunc_float32_float32_w1.C [0, 1, 7, 8] [4] slices_IndexFunc_float32_float32_w1.b2 (slices_IndexFunc_float32_float32_w1.l2.cd.enc (p, s)).1 (slices_IndexFunc_float32_float32_w1.l2.cd.enc (p, s)).2 = (slices_IndexFunc_float32_float32_w1.l2.st p s).map (encSum (fun s => slices_IndexFunc_float32_float32_w1.l2.cd.enc (p, s)) (slices_IndexFunc_float32_float32_w1.l2.out p)) := by kernel_rfl
theorem slices_IndexFunc_float32_float32_w1.l2.lok : LoopOK Try.prog slices_IndexFunc_float32_float32_w1.C ⟨[0, 1, 7, 8], [4], slices_IndexFunc_float32_float32_w1.l2.c⟩ slices_IndexFunc_float32_float32_w1.b2 := loop_cd slices_IndexFunc_float32_float32_w1.l2.cd slices_IndexFunc_float32_float32_w1.hC slices_IndexFunc_float32_float32_w1.lp2 slices_IndexFunc_float32_float32_w1.l2.round fun p => (Gets.sum Gets.leaf Gets.leaf)
theorem slices_IndexFunc_float32_float32_w1.lp : LpOK Try.prog slices_IndexFunc_float32_float32_w1.C slices_IndexFunc_float32_float32_w1.b := lp_of (by kernel_rfl) (LpsOK.cons (k := 2) (by kernel_rfl) (by kernel_rfl) slices_IndexFunc_float32_float32_w1.l2.lok LpsOK.nil)
noncomputable def slices_IndexFunc_float32_float32_w1.t (x0 : Nat) (x1 : List Nat) : T Int :=
  .br (Option.isSome (slices_IndexFunc_float32_float32_w1.l2.r (x0, ((x0 : Nat) : Int), x1) (0 : Int)))
  (.br (Sum.isLeft (Option.getD (slices_IndexFunc_float32_float32_w1.l2.r (x0, ((x0 : Nat) : Int), x1) (0 : Int)) default))
   (.leaf (getLeftD (Option.getD (slices_IndexFunc_float32_float32_w1.l2.r (x0, ((x0 : Nat) : Int), x1) (0 : Int)) default)))
   (.leaf (-1 : Int)))
  .bad
noncomputable def slices_IndexFunc_float32_float32_w1 (x0 : Nat) (x1 : List Nat) : Int := (slices_IndexFunc_float32_float32_w1.t x0 x1).val
noncomputable def slices_IndexFunc_float32_float32_w1.ok (x0 : Nat) (x1 : List Nat) : Bool := (slices_IndexFunc_float32_float32_w1.t x0 x1).ok
def slices_IndexFunc_float32_float32_w1.cd : Cd (Nat × List Nat) (List V × Hp) := Cd.iso (Cd.pair (Cd.cons (Cd.sl 0 (Cd.natc 1)) (Cd.cons (Cd.fu 86 Cd.nil) Cd.nil)) (Cd.cons (Cd.rw 22 1 (Cd.fs .f32)) Cd.nil)) (fun a => (a.1.1.2, a.2.1)) (fun a => ((((), a.1), ((), ())), (a.2, ()))) (fun _ => rfl)
noncomputable def slices_IndexFunc_float32_float32_w1.tr (a : Nat × List Nat) : T Int := slices_IndexFunc_float32_float32_w1.t a.1 a.2
def slices_IndexFunc_float32_float32_w1.enc : (Nat × List Nat) → Int → V := fun a r => .it .i64 r
noncomputable def slices_IndexFunc_float32_float32_w1.c : List V → Hp → T V := cdQ slices_IndexFunc_float32_float32_w1.cd (fun a => .br (slices_IndexFunc_float32_float32_w1.ok a.1 a.2) (.leaf (slices_IndexFunc_float32_float32_w1.enc a (slices_IndexFunc_float32_float32_w1 a.1 a.2))) .bad)
theorem slices_IndexFunc_float32_float32_w1.run (a : Nat × List Nat) : runF slices_IndexFunc_float32_float32_w1.C Try.f77.results.toList slices_IndexFunc_float32_float32_w1.b (slices_IndexFunc_float32_float32_w1.cd.enc a).1 (slices_IndexFunc_float32_float32_w1.cd.enc a).2 = (slices_IndexFunc_float32_float32_w1.tr a).map fun r => (slices_IndexFunc_float32_float32_w1.enc a r, (slices_IndexFunc_float32_float32_w1.cd.enc a).2) := by kernel_rfl
theorem slices_IndexFunc_float32_float32_w1.cok : OKq Try.prog 77 slices_IndexFunc_float32_float32_w1.c := con_q' slices_IndexFunc_float32_float32_w1.cd slices_IndexFunc_float32_float32_w1.hC Try.func77 (by kernel_rfl) (by kernel_rfl) (by kernel_rfl) slices_IndexFunc_float32_float32_w1.lp (fun a => by kernel_rfl) slices_IndexFunc_float32_float32_w1.run (Tells.ok (tree := slices_IndexFunc_float32_float32_w1.tr))
/-! ### slices_ContainsFunc_float32_float32_w1 -/
noncomputable def slices_ContainsFunc_float32_float32_w1.b : Code := bodyOf Try.f51
noncomputable def slices_ContainsFunc_float32_float32_w1.C : Ctx := { ty := tys, fn := [(77, .q slices_IndexFunc_float32_float32_w1.c)], lp := [], n := 9, k := 1 }
theorem slices_ContainsFunc_float32_float32_w1.hC : CtxOK Try.prog slices_ContainsFunc_float32_float32_w1.C := CtxOK.of mo tys_ok (FnsOK.cons slices_IndexFunc_float32_float32_w1.cok FnsOK.nil)
theorem slices_ContainsFunc_float32_float32_w1.lp : LpOK Try.prog slices_ContainsFunc_float32_float32_w1.C slices_ContainsFunc_float32_float32_w1.b := (LpOK.nil (by kernel_rfl))
noncomputable def slices_ContainsFunc_float32_float32_w1.t (x0 : Nat) (x1 : List Nat) : T Bool :=
  .br (slices_IndexFunc_float32_float32_w1.ok x0 x1)
  (.leaf (decide ((slices_IndexFunc_float32_float32_w1 x0 x1) ≥ (0 : Int))))
  .bad
noncomputable def slices_ContainsFunc_float32_float32_w1 (x0 : Nat) (x1 : List Nat) : Bool := (slices_ContainsFunc_float32_float32_w1.t x0 x1).val
noncomputable def slices_ContainsFunc_float32_float32_w1.ok (x0 : Nat) (x1 : List Nat) : Bool := (slices_ContainsFunc_float32_float32_w1.t x0 x1).ok
def slices_ContainsFunc_float32_float32_w1.cd : Cd (Nat × List Nat) (List V × Hp) := Cd.iso (Cd.pair (Cd.cons (Cd.sl 0 (Cd.natc 1)) (Cd.cons (Cd.fu 86 Cd.nil) Cd.nil)) (Cd.cons (Cd.rw 22 1 (Cd.fs .f32)) Cd.nil)) (fun a => (a.1.1.2, a.2.1)) (fun a => ((((), a.1), ((), ())), (a.2, ()))) (fun _ => rfl)
noncomputable def slices_ContainsFunc_float32_float32_w1.tr (a : Nat × List Nat) : T Bool := slices_ContainsFunc_float32_float32_w1.t a.1 a.2
def slices_ContainsFunc_float32_float32_w1.enc : (Nat × List Nat) → Bool → V := fun a r => .bo r
noncomputable def slices_ContainsFunc_float32_float32_w1.c : List V → Hp → T V := cdQ slices_ContainsFunc_float32_float32_w1.cd (fun a => .br (slices_ContainsFunc_float32_float32_w1.ok a.1 a.2) (.leaf (slices_ContainsFunc_float32_float32_w1.enc a (slices_ContainsFunc_float32_float32_w1 a.1 a.2))) .bad)
theorem slices_ContainsFunc_float32_float32_w1.run (a : Nat × List Nat) : runF slices_ContainsFunc_float32_float32_w1.C Try.f51.results.toList slices_ContainsFunc_float32_float32_w1.b (slices_ContainsFunc_float32_float32_w1.cd.enc a).1 (slices_ContainsFunc_float32_float32_w1.cd.enc a).2 = (slices_ContainsFunc_float32_float32_w1.tr a).map fun r => (slices_ContainsFunc_float32_float32_w1.enc a r, (slices_ContainsFunc_float32_float32_w1.cd.enc a).2) := by kernel_rfl
theorem slices_ContainsFunc_float32_float32_w1.cok : OKq Try.prog 51 slices_ContainsFunc_float32_float32_w1.c := con_q' slices_ContainsFunc_float32_float32_w1.cd slices_ContainsFunc_float32_float32_w1.hC Try.func51 (by kernel_rfl) (by kernel_rfl) (by kernel_rfl) slices_ContainsFunc_float32_float32_w1.lp (fun a => by kernel_rfl) slices_ContainsFunc_float32_float32_w1.run (Tells.ok (tree := slices_ContainsFunc_float32_float32_w1.tr))
/-! ### impl_areAmounts_w1 -/
noncomputable def impl_areAmounts_w1.b : Code := bodyOf Try.f64
noncomputable def impl_areAmounts_w1.C : Ctx := { ty := tys, fn := [(51, .q slices_ContainsFunc_float32_float32_w1.c)], lp := [], n := 6, k := 1 }
theorem impl_areAmounts_w1.hC : CtxOK Try.prog impl_areAmounts_w1.C := CtxOK.of mo tys_ok (FnsOK.cons slices_ContainsFunc_float32_float32_w1.cok FnsOK.nil)
theorem impl_areAmounts_w1.lp : LpOK Try.prog impl_areAmounts_w1.C impl_areAmounts_w1.b := (LpOK.nil (by kernel_rfl))
noncomputable def impl_areAmounts_w1.t (x0 : Nat) (x1 : List Nat) : T Bool :=
  .br (slices_ContainsFunc_float32_float32_w1.ok x0 x1)
  (.leaf (!(slices_ContainsFunc_float32_float32_w1 x0 x1)))
  .bad
noncomputable def impl_areAmounts_w1 (x0 : Nat) (x1 : List Nat) : Bool := (impl_areAmounts_w1.t x0 x1).val
noncomputable def impl_areAmounts_w1.ok (x0 : Nat) (x1 : List Nat) : Bool := (impl_areAmounts_w1.t x0 x1).ok
def impl_areAmounts_w1.cd : Cd (Nat × List Nat) (List V × Hp) := Cd.iso (Cd.pair (Cd.cons (Cd.sl 0 (Cd.natc 1)) Cd.nil) (Cd.cons (Cd.rw 22 1 (Cd.fs .f32)) Cd.nil)) (fun a => (a.1.1.2, a.2.1)) (fun a => ((((), a.1), ()), (a.2, ()))) (fun _ => rfl)
noncomputable def impl_areAmounts_w1.tr (a : Nat × List Nat) : T Bool := impl_areAmounts_w1.t a.1 a.2
def impl_areAmounts_w1.enc : (Nat × List Nat) → Bool → V := fun a r => .bo r
noncomputable def impl_areAmounts_w1.c : List V → Hp → T V := cdQ impl_areAmounts_w1.cd (fun a => .br (impl_areAmounts_w1.ok a.1 a.2) (.leaf (impl_areAmounts_w1.enc a (impl_areAmounts_w1 a.1 a.2))) .bad)
theorem impl_areAmounts_w1.run (a : Nat × List Nat) : runF impl_areAmounts_w1.C Try.f64.results.toList impl_areAmounts_w1.b (impl_areAmounts_w1.cd.enc a).1 (impl_areAmounts_w1.cd.enc a).2 = (impl_areAmounts_w1.tr a).map fun r => (impl_areAmounts_w1.enc a r, (impl_areAmounts_w1.cd.enc a).2) := by kernel_rfl
theorem impl_areAmounts_w1.cok : OKq Try.prog 64 impl_areAmounts_w1.c := con_q' impl_areAmounts_w1.cd impl_areAmounts_w1.hC Try.func64 (by kernel_rfl) (by kernel_rfl) (by kernel_rfl) impl_areAmounts_w1.lp (fun a => by kernel_rfl) impl_areAmounts_w1.run (Tells.ok (tree := impl_areAmounts_w1.tr))
end Go.Proofs.Ytffpnngoafpidaa
