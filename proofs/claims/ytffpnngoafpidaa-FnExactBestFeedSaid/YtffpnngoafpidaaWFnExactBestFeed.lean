/- The walk of FnExactBestFeed: what each function that it comes to computes, as a tree of tests. -/
import Derived.Test.YtffpnngoafpidaaSxP
import Derived.Test.YtffpnngoafpidaaChecked
namespace Go.Proofs.Ytffpnngoafpidaa
open Go Go.RowKit Sx
set_option linter.unusedVariables false
set_option maxRecDepth 100000
set_option maxHeartbeats 0
noncomputable def ti1 : TI := ⟨Try.t1.desc, 1, 8, [.nf]⟩
theorem ti1_ok : TyOK Try.prog 1 ti1 := TyOK.of (inf := Try.t1) Try.underlying1 (by kernel_rfl) (by kernel_rfl) (by kernel_rfl) (by kernel_rfl)
noncomputable def ti2 : TI := ⟨Try.t2.desc, 1, 8, [.it .i64 (0 : Int)]⟩
theorem ti2_ok : TyOK Try.prog 2 ti2 := TyOK.of (inf := Try.t2) Try.underlying2 (by kernel_rfl) (by kernel_rfl) (by kernel_rfl) (by kernel_rfl)
noncomputable def ti3 : TI := ⟨Try.t3.desc, 1, 8, [.it .i64 (0 : Int)]⟩
theorem ti3_ok : TyOK Try.prog 3 ti3 := TyOK.of (inf := Try.t3) Try.underlying3 (by kernel_rfl) (by kernel_rfl) (by kernel_rfl) (by kernel_rfl)
noncomputable def ti4 : TI := ⟨Try.t4.desc, 1, 1, [.kb false]⟩
theorem ti4_ok : TyOK Try.prog 4 ti4 := TyOK.of (inf := Try.t4) Try.underlying4 (by kernel_rfl) (by kernel_rfl) (by kernel_rfl) (by kernel_rfl)
noncomputable def ti5 : TI := ⟨Try.t5.desc, 1, 1, [.it .u8 (0 : Int)]⟩
theorem ti5_ok : TyOK Try.prog 5 ti5 := TyOK.of (inf := Try.t5) Try.underlying5 (by kernel_rfl) (by kernel_rfl) (by kernel_rfl) (by kernel_rfl)
noncomputable def ti6 : TI := ⟨Try.t5.desc, 1, 1, [.it .u8 (0 : Int)]⟩
theorem ti6_ok : TyOK Try.prog 6 ti6 := TyOK.of (inf := Try.t6) Try.underlying6 (by kernel_rfl) (by kernel_rfl) (by kernel_rfl) (by kernel_rfl)
noncomputable def ti7 : TI := ⟨Try.t7.desc, 4, 24, [.it .i64 (0 : Int), .it .i64 (0 : Int), .kb false, .it .u8 (0 : Int)]⟩
theorem ti7_ok : TyOK Try.prog 7 ti7 := TyOK.of (inf := Try.t7) Try.underlying7 (by kernel_rfl) (by kernel_rfl) (by kernel_rfl) (by kernel_rfl)
noncomputable def ti8 : TI := ⟨Try.t7.desc, 4, 24, [.it .i64 (0 : Int), .it .i64 (0 : Int), .kb false, .it .u8 (0 : Int)]⟩
theorem ti8_ok : TyOK Try.prog 8 ti8 := TyOK.of (inf := Try.t8) Try.underlying8 (by kernel_rfl) (by kernel_rfl) (by kernel_rfl) (by kernel_rfl)
noncomputable def ti9 : TI := ⟨Try.t9.desc, 1, 16, [.st (ByteArray.mk #[])]⟩
theorem ti9_ok : TyOK Try.prog 9 ti9 := TyOK.of (inf := Try.t9) Try.underlying9 (by kernel_rfl) (by kernel_rfl) (by kernel_rfl) (by kernel_rfl)
noncomputable def ti10 : TI := ⟨Try.t9.desc, 1, 16, [.st (ByteArray.mk #[])]⟩
theorem ti10_ok : TyOK Try.prog 10 ti10 := TyOK.of (inf := Try.t10) Try.underlying10 (by kernel_rfl) (by kernel_rfl) (by kernel_rfl) (by kernel_rfl)
noncomputable def ti11 : TI := ⟨Try.t9.desc, 1, 16, [.st (ByteArray.mk #[])]⟩
theorem ti11_ok : TyOK Try.prog 11 ti11 := TyOK.of (inf := Try.t11) Try.underlying11 (by kernel_rfl) (by kernel_rfl) (by kernel_rfl) (by kernel_rfl)
noncomputable def ti12 : TI := ⟨Try.t12.desc, 1, 8, [.it .u64 (0 : Int)]⟩
theorem ti12_ok : TyOK Try.prog 12 ti12 := TyOK.of (inf := Try.t12) Try.underlying12 (by kernel_rfl) (by kernel_rfl) (by kernel_rfl) (by kernel_rfl)
noncomputable def ti13 : TI := ⟨Try.t13.desc, 2, 24, [.st (ByteArray.mk #[]), .it .u64 (0 : Int)]⟩
theorem ti13_ok : TyOK Try.prog 13 ti13 := TyOK.of (inf := Try.t13) Try.underlying13 (by kernel_rfl) (by kernel_rfl) (by kernel_rfl) (by kernel_rfl)
noncomputable def ti14 : TI := ⟨Try.t13.desc, 2, 24, [.st (ByteArray.mk #[]), .it .u64 (0 : Int)]⟩
theorem ti14_ok : TyOK Try.prog 14 ti14 := TyOK.of (inf := Try.t14) Try.underlying14 (by kernel_rfl) (by kernel_rfl) (by kernel_rfl) (by kernel_rfl)
noncomputable def ti15 : TI := ⟨Try.t15.desc, 1, 8, [.pn]⟩
theorem ti15_ok : TyOK Try.prog 15 ti15 := TyOK.of (inf := Try.t15) Try.underlying15 (by kernel_rfl) (by kernel_rfl) (by kernel_rfl) (by kernel_rfl)
noncomputable def ti16 : TI := ⟨Try.t16.desc, 1, 8, [.pn]⟩
theorem ti16_ok : TyOK Try.prog 16 ti16 := TyOK.of (inf := Try.t16) Try.underlying16 (by kernel_rfl) (by kernel_rfl) (by kernel_rfl) (by kernel_rfl)
noncomputable def ti17 : TI := ⟨Try.t17.desc, 1, 8, [.pn]⟩
theorem ti17_ok : TyOK Try.prog 17 ti17 := TyOK.of (inf := Try.t17) Try.underlying17 (by kernel_rfl) (by kernel_rfl) (by kernel_rfl) (by kernel_rfl)
noncomputable def ti18 : TI := ⟨Try.t18.desc, 1, 8, [.pn]⟩
theorem ti18_ok : TyOK Try.prog 18 ti18 := TyOK.of (inf := Try.t18) Try.underlying18 (by kernel_rfl) (by kernel_rfl) (by kernel_rfl) (by kernel_rfl)
noncomputable def ti19 : TI := ⟨Try.t18.desc, 1, 8, [.pn]⟩
theorem ti19_ok : TyOK Try.prog 19 ti19 := TyOK.of (inf := Try.t19) Try.underlying19 (by kernel_rfl) (by kernel_rfl) (by kernel_rfl) (by kernel_rfl)
noncomputable def ti21 : TI := ⟨Try.t21.desc, 1, 4, [.it .i32 (0 : Int)]⟩
theorem ti21_ok : TyOK Try.prog 21 ti21 := TyOK.of (inf := Try.t21) Try.underlying21 (by kernel_rfl) (by kernel_rfl) (by kernel_rfl) (by kernel_rfl)
noncomputable def ti22 : TI := ⟨Try.t22.desc, 1, 4, [.fl .f32 0]⟩
theorem ti22_ok : TyOK Try.prog 22 ti22 := TyOK.of (inf := Try.t22) Try.underlying22 (by kernel_rfl) (by kernel_rfl) (by kernel_rfl) (by kernel_rfl)
noncomputable def ti23 : TI := ⟨Try.t23.desc, 4, 16, [.fl .f32 0, .fl .f32 0, .fl .f32 0, .fl .f32 0]⟩
theorem ti23_ok : TyOK Try.prog 23 ti23 := TyOK.of (inf := Try.t23) Try.underlying23 (by kernel_rfl) (by kernel_rfl) (by kernel_rfl) (by kernel_rfl)
noncomputable def ti24 : TI := ⟨Try.t23.desc, 4, 16, [.fl .f32 0, .fl .f32 0, .fl .f32 0, .fl .f32 0]⟩
theorem ti24_ok : TyOK Try.prog 24 ti24 := TyOK.of (inf := Try.t24) Try.underlying24 (by kernel_rfl) (by kernel_rfl) (by kernel_rfl) (by kernel_rfl)
noncomputable def ti25 : TI := ⟨Try.t25.desc, 1, 24, [.sn]⟩
theorem ti25_ok : TyOK Try.prog 25 ti25 := TyOK.of (inf := Try.t25) Try.underlying25 (by kernel_rfl) (by kernel_rfl) (by kernel_rfl) (by kernel_rfl)
noncomputable def ti27 : TI := ⟨Try.t27.desc, 1, 8, [.nf]⟩
theorem ti27_ok : TyOK Try.prog 27 ti27 := TyOK.of (inf := Try.t27) Try.underlying27 (by kernel_rfl) (by kernel_rfl) (by kernel_rfl) (by kernel_rfl)
noncomputable def ti28 : TI := ⟨Try.t23.desc, 4, 16, [.fl .f32 0, .fl .f32 0, .fl .f32 0, .fl .f32 0]⟩
theorem ti28_ok : TyOK Try.prog 28 ti28 := TyOK.of (inf := Try.t28) Try.underlying28 (by kernel_rfl) (by kernel_rfl) (by kernel_rfl) (by kernel_rfl)
noncomputable def ti29 : TI := ⟨Try.t29.desc, 1, 8, [.nf]⟩
theorem ti29_ok : TyOK Try.prog 29 ti29 := TyOK.of (inf := Try.t29) Try.underlying29 (by kernel_rfl) (by kernel_rfl) (by kernel_rfl) (by kernel_rfl)
noncomputable def ti30 : TI := ⟨Try.t30.desc, 1, 8, [.nf]⟩
theorem ti30_ok : TyOK Try.prog 30 ti30 := TyOK.of (inf := Try.t30) Try.underlying30 (by kernel_rfl) (by kernel_rfl) (by kernel_rfl) (by kernel_rfl)
noncomputable def ti31 : TI := ⟨Try.t31.desc, 1, 8, [.nf]⟩
theorem ti31_ok : TyOK Try.prog 31 ti31 := TyOK.of (inf := Try.t31) Try.underlying31 (by kernel_rfl) (by kernel_rfl) (by kernel_rfl) (by kernel_rfl)
noncomputable def ti32 : TI := ⟨Try.t32.desc, 1, 8, [.fl .f64 0]⟩
theorem ti32_ok : TyOK Try.prog 32 ti32 := TyOK.of (inf := Try.t32) Try.underlying32 (by kernel_rfl) (by kernel_rfl) (by kernel_rfl) (by kernel_rfl)
noncomputable def ti33 : TI := ⟨Try.t33.desc, 1, 8, [.nf]⟩
theorem ti33_ok : TyOK Try.prog 33 ti33 := TyOK.of (inf := Try.t33) Try.underlying33 (by kernel_rfl) (by kernel_rfl) (by kernel_rfl) (by kernel_rfl)
noncomputable def ti34 : TI := ⟨Try.t34.desc, 1, 8, [.nf]⟩
theorem ti34_ok : TyOK Try.prog 34 ti34 := TyOK.of (inf := Try.t34) Try.underlying34 (by kernel_rfl) (by kernel_rfl) (by kernel_rfl) (by kernel_rfl)
noncomputable def ti35 : TI := ⟨Try.t35.desc, 1, 24, [.sn]⟩
theorem ti35_ok : TyOK Try.prog 35 ti35 := TyOK.of (inf := Try.t35) Try.underlying35 (by kernel_rfl) (by kernel_rfl) (by kernel_rfl) (by kernel_rfl)
noncomputable def ti36 : TI := ⟨Try.t36.desc, 1, 8, [.nf]⟩
theorem ti36_ok : TyOK Try.prog 36 ti36 := TyOK.of (inf := Try.t36) Try.underlying36 (by kernel_rfl) (by kernel_rfl) (by kernel_rfl) (by kernel_rfl)
noncomputable def ti38 : TI := ⟨Try.t38.desc, 1, 8, [.nf]⟩
theorem ti38_ok : TyOK Try.prog 38 ti38 := TyOK.of (inf := Try.t38) Try.underlying38 (by kernel_rfl) (by kernel_rfl) (by kernel_rfl) (by kernel_rfl)
noncomputable def ti39 : TI := ⟨Try.t39.desc, 1, 24, [.sn]⟩
theorem ti39_ok : TyOK Try.prog 39 ti39 := TyOK.of (inf := Try.t39) Try.underlying39 (by kernel_rfl) (by kernel_rfl) (by kernel_rfl) (by kernel_rfl)
noncomputable def ti40 : TI := ⟨Try.t40.desc, 1, 8, [.nf]⟩
theorem ti40_ok : TyOK Try.prog 40 ti40 := TyOK.of (inf := Try.t40) Try.underlying40 (by kernel_rfl) (by kernel_rfl) (by kernel_rfl) (by kernel_rfl)
noncomputable def ti41 : TI := ⟨Try.t41.desc, 1, 8, [.nf]⟩
theorem ti41_ok : TyOK Try.prog 41 ti41 := TyOK.of (inf := Try.t41) Try.underlying41 (by kernel_rfl) (by kernel_rfl) (by kernel_rfl) (by kernel_rfl)
noncomputable def ti42 : TI := ⟨Try.t42.desc, 1, 8, [.nf]⟩
theorem ti42_ok : TyOK Try.prog 42 ti42 := TyOK.of (inf := Try.t42) Try.underlying42 (by kernel_rfl) (by kernel_rfl) (by kernel_rfl) (by kernel_rfl)
noncomputable def ti43 : TI := ⟨Try.t43.desc, 1, 8, [.nf]⟩
theorem ti43_ok : TyOK Try.prog 43 ti43 := TyOK.of (inf := Try.t43) Try.underlying43 (by kernel_rfl) (by kernel_rfl) (by kernel_rfl) (by kernel_rfl)
noncomputable def ti44 : TI := ⟨Try.t44.desc, 1, 8, [.nf]⟩
theorem ti44_ok : TyOK Try.prog 44 ti44 := TyOK.of (inf := Try.t44) Try.underlying44 (by kernel_rfl) (by kernel_rfl) (by kernel_rfl) (by kernel_rfl)
noncomputable def ti46 : TI := ⟨Try.t46.desc, 1, 8, [.nf]⟩
theorem ti46_ok : TyOK Try.prog 46 ti46 := TyOK.of (inf := Try.t46) Try.underlying46 (by kernel_rfl) (by kernel_rfl) (by kernel_rfl) (by kernel_rfl)
noncomputable def ti47 : TI := ⟨Try.t47.desc, 1, 8, [.nf]⟩
theorem ti47_ok : TyOK Try.prog 47 ti47 := TyOK.of (inf := Try.t47) Try.underlying47 (by kernel_rfl) (by kernel_rfl) (by kernel_rfl) (by kernel_rfl)
noncomputable def ti48 : TI := ⟨Try.t48.desc, 1, 8, [.nf]⟩
theorem ti48_ok : TyOK Try.prog 48 ti48 := TyOK.of (inf := Try.t48) Try.underlying48 (by kernel_rfl) (by kernel_rfl) (by kernel_rfl) (by kernel_rfl)
noncomputable def ti50 : TI := ⟨Try.t50.desc, 1, 8, [.nf]⟩
theorem ti50_ok : TyOK Try.prog 50 ti50 := TyOK.of (inf := Try.t50) Try.underlying50 (by kernel_rfl) (by kernel_rfl) (by kernel_rfl) (by kernel_rfl)
noncomputable def ti51 : TI := ⟨Try.t51.desc, 1, 8, [.nf]⟩
theorem ti51_ok : TyOK Try.prog 51 ti51 := TyOK.of (inf := Try.t51) Try.underlying51 (by kernel_rfl) (by kernel_rfl) (by kernel_rfl) (by kernel_rfl)
noncomputable def ti52 : TI := ⟨Try.t52.desc, 1, 8, [.nf]⟩
theorem ti52_ok : TyOK Try.prog 52 ti52 := TyOK.of (inf := Try.t52) Try.underlying52 (by kernel_rfl) (by kernel_rfl) (by kernel_rfl) (by kernel_rfl)
noncomputable def ti53 : TI := ⟨Try.t53.desc, 1, 8, [.nf]⟩
theorem ti53_ok : TyOK Try.prog 53 ti53 := TyOK.of (inf := Try.t53) Try.underlying53 (by kernel_rfl) (by kernel_rfl) (by kernel_rfl) (by kernel_rfl)
noncomputable def ti54 : TI := ⟨Try.t54.desc, 1, 24, [.sn]⟩
theorem ti54_ok : TyOK Try.prog 54 ti54 := TyOK.of (inf := Try.t54) Try.underlying54 (by kernel_rfl) (by kernel_rfl) (by kernel_rfl) (by kernel_rfl)
noncomputable def ti55 : TI := ⟨Try.t55.desc, 1, 8, [.nf]⟩
theorem ti55_ok : TyOK Try.prog 55 ti55 := TyOK.of (inf := Try.t55) Try.underlying55 (by kernel_rfl) (by kernel_rfl) (by kernel_rfl) (by kernel_rfl)
noncomputable def ti56 : TI := ⟨Try.t56.desc, 1, 8, [.nf]⟩
theorem ti56_ok : TyOK Try.prog 56 ti56 := TyOK.of (inf := Try.t56) Try.underlying56 (by kernel_rfl) (by kernel_rfl) (by kernel_rfl) (by kernel_rfl)
noncomputable def ti57 : TI := ⟨Try.t57.desc, 1, 8, [.nf]⟩
theorem ti57_ok : TyOK Try.prog 57 ti57 := TyOK.of (inf := Try.t57) Try.underlying57 (by kernel_rfl) (by kernel_rfl) (by kernel_rfl) (by kernel_rfl)
noncomputable def ti58 : TI := ⟨Try.t58.desc, 1, 8, [.nf]⟩
theorem ti58_ok : TyOK Try.prog 58 ti58 := TyOK.of (inf := Try.t58) Try.underlying58 (by kernel_rfl) (by kernel_rfl) (by kernel_rfl) (by kernel_rfl)
noncomputable def ti59 : TI := ⟨Try.t59.desc, 1, 8, [.nf]⟩
theorem ti59_ok : TyOK Try.prog 59 ti59 := TyOK.of (inf := Try.t59) Try.underlying59 (by kernel_rfl) (by kernel_rfl) (by kernel_rfl) (by kernel_rfl)
noncomputable def ti61 : TI := ⟨Try.t61.desc, 1, 8, [.nf]⟩
theorem ti61_ok : TyOK Try.prog 61 ti61 := TyOK.of (inf := Try.t61) Try.underlying61 (by kernel_rfl) (by kernel_rfl) (by kernel_rfl) (by kernel_rfl)
noncomputable def ti63 : TI := ⟨Try.t63.desc, 1, 8, [.nf]⟩
theorem ti63_ok : TyOK Try.prog 63 ti63 := TyOK.of (inf := Try.t63) Try.underlying63 (by kernel_rfl) (by kernel_rfl) (by kernel_rfl) (by kernel_rfl)
noncomputable def ti64 : TI := ⟨Try.t64.desc, 1, 8, [.nf]⟩
theorem ti64_ok : TyOK Try.prog 64 ti64 := TyOK.of (inf := Try.t64) Try.underlying64 (by kernel_rfl) (by kernel_rfl) (by kernel_rfl) (by kernel_rfl)
noncomputable def ti65 : TI := ⟨Try.t65.desc, 1, 8, [.nf]⟩
theorem ti65_ok : TyOK Try.prog 65 ti65 := TyOK.of (inf := Try.t65) Try.underlying65 (by kernel_rfl) (by kernel_rfl) (by kernel_rfl) (by kernel_rfl)
noncomputable def ti67 : TI := ⟨Try.t67.desc, 1, 8, [.nf]⟩
theorem ti67_ok : TyOK Try.prog 67 ti67 := TyOK.of (inf := Try.t67) Try.underlying67 (by kernel_rfl) (by kernel_rfl) (by kernel_rfl) (by kernel_rfl)
noncomputable def ti69 : TI := ⟨Try.t69.desc, 1, 8, [.nf]⟩
theorem ti69_ok : TyOK Try.prog 69 ti69 := TyOK.of (inf := Try.t69) Try.underlying69 (by kernel_rfl) (by kernel_rfl) (by kernel_rfl) (by kernel_rfl)
noncomputable def ti70 : TI := ⟨Try.t70.desc, 1, 8, [.nf]⟩
theorem ti70_ok : TyOK Try.prog 70 ti70 := TyOK.of (inf := Try.t70) Try.underlying70 (by kernel_rfl) (by kernel_rfl) (by kernel_rfl) (by kernel_rfl)
noncomputable def ti71 : TI := ⟨Try.t71.desc, 1, 8, [.nf]⟩
theorem ti71_ok : TyOK Try.prog 71 ti71 := TyOK.of (inf := Try.t71) Try.underlying71 (by kernel_rfl) (by kernel_rfl) (by kernel_rfl) (by kernel_rfl)
noncomputable def ti73 : TI := ⟨Try.t73.desc, 1, 8, [.nf]⟩
theorem ti73_ok : TyOK Try.prog 73 ti73 := TyOK.of (inf := Try.t73) Try.underlying73 (by kernel_rfl) (by kernel_rfl) (by kernel_rfl) (by kernel_rfl)
noncomputable def ti74 : TI := ⟨Try.t74.desc, 1, 8, [.nf]⟩
theorem ti74_ok : TyOK Try.prog 74 ti74 := TyOK.of (inf := Try.t74) Try.underlying74 (by kernel_rfl) (by kernel_rfl) (by kernel_rfl) (by kernel_rfl)
noncomputable def ti75 : TI := ⟨Try.t75.desc, 1, 8, [.nf]⟩
theorem ti75_ok : TyOK Try.prog 75 ti75 := TyOK.of (inf := Try.t75) Try.underlying75 (by kernel_rfl) (by kernel_rfl) (by kernel_rfl) (by kernel_rfl)
noncomputable def ti76 : TI := ⟨Try.t76.desc, 1, 8, [.nf]⟩
theorem ti76_ok : TyOK Try.prog 76 ti76 := TyOK.of (inf := Try.t76) Try.underlying76 (by kernel_rfl) (by kernel_rfl) (by kernel_rfl) (by kernel_rfl)
noncomputable def ti78 : TI := ⟨Try.t78.desc, 1, 8, [.nf]⟩
theorem ti78_ok : TyOK Try.prog 78 ti78 := TyOK.of (inf := Try.t78) Try.underlying78 (by kernel_rfl) (by kernel_rfl) (by kernel_rfl) (by kernel_rfl)
noncomputable def ti79 : TI := ⟨Try.t79.desc, 1, 8, [.nf]⟩
theorem ti79_ok : TyOK Try.prog 79 ti79 := TyOK.of (inf := Try.t79) Try.underlying79 (by kernel_rfl) (by kernel_rfl) (by kernel_rfl) (by kernel_rfl)
noncomputable def ti80 : TI := ⟨Try.t80.desc, 1, 8, [.nf]⟩
theorem ti80_ok : TyOK Try.prog 80 ti80 := TyOK.of (inf := Try.t80) Try.underlying80 (by kernel_rfl) (by kernel_rfl) (by kernel_rfl) (by kernel_rfl)
noncomputable def ti81 : TI := ⟨Try.t81.desc, 1, 8, [.nf]⟩
theorem ti81_ok : TyOK Try.prog 81 ti81 := TyOK.of (inf := Try.t81) Try.underlying81 (by kernel_rfl) (by kernel_rfl) (by kernel_rfl) (by kernel_rfl)
noncomputable def ti82 : TI := ⟨Try.t82.desc, 1, 8, [.nf]⟩
theorem ti82_ok : TyOK Try.prog 82 ti82 := TyOK.of (inf := Try.t82) Try.underlying82 (by kernel_rfl) (by kernel_rfl) (by kernel_rfl) (by kernel_rfl)
noncomputable def ti83 : TI := ⟨Try.t83.desc, 1, 8, [.nf]⟩
theorem ti83_ok : TyOK Try.prog 83 ti83 := TyOK.of (inf := Try.t83) Try.underlying83 (by kernel_rfl) (by kernel_rfl) (by kernel_rfl) (by kernel_rfl)
noncomputable def ti84 : TI := ⟨Try.t84.desc, 1, 8, [.nf]⟩
theorem ti84_ok : TyOK Try.prog 84 ti84 := TyOK.of (inf := Try.t84) Try.underlying84 (by kernel_rfl) (by kernel_rfl) (by kernel_rfl) (by kernel_rfl)
noncomputable def ti85 : TI := ⟨Try.t85.desc, 1, 8, [.nf]⟩
theorem ti85_ok : TyOK Try.prog 85 ti85 := TyOK.of (inf := Try.t85) Try.underlying85 (by kernel_rfl) (by kernel_rfl) (by kernel_rfl) (by kernel_rfl)
noncomputable def ti86 : TI := ⟨Try.t86.desc, 1, 8, [.nf]⟩
theorem ti86_ok : TyOK Try.prog 86 ti86 := TyOK.of (inf := Try.t86) Try.underlying86 (by kernel_rfl) (by kernel_rfl) (by kernel_rfl) (by kernel_rfl)
noncomputable def ti87 : TI := ⟨Try.t87.desc, 1, 8, [.pn]⟩
theorem ti87_ok : TyOK Try.prog 87 ti87 := TyOK.of (inf := Try.t87) Try.underlying87 (by kernel_rfl) (by kernel_rfl) (by kernel_rfl) (by kernel_rfl)
noncomputable def ti88 : TI := ⟨Try.t88.desc, 1, 8, [.nf]⟩
theorem ti88_ok : TyOK Try.prog 88 ti88 := TyOK.of (inf := Try.t88) Try.underlying88 (by kernel_rfl) (by kernel_rfl) (by kernel_rfl) (by kernel_rfl)
noncomputable def ti89 : TI := ⟨Try.t89.desc, 1, 8, [.nf]⟩
theorem ti89_ok : TyOK Try.prog 89 ti89 := TyOK.of (inf := Try.t89) Try.underlying89 (by kernel_rfl) (by kernel_rfl) (by kernel_rfl) (by kernel_rfl)
noncomputable def ti90 : TI := ⟨Try.t90.desc, 1, 8, [.nf]⟩
theorem ti90_ok : TyOK Try.prog 90 ti90 := TyOK.of (inf := Try.t90) Try.underlying90 (by kernel_rfl) (by kernel_rfl) (by kernel_rfl) (by kernel_rfl)
noncomputable def ti91 : TI := ⟨Try.t91.desc, 1, 8, [.nf]⟩
theorem ti91_ok : TyOK Try.prog 91 ti91 := TyOK.of (inf := Try.t91) Try.underlying91 (by kernel_rfl) (by kernel_rfl) (by kernel_rfl) (by kernel_rfl)
noncomputable def ti92 : TI := ⟨Try.t92.desc, 1, 8, [.nf]⟩
theorem ti92_ok : TyOK Try.prog 92 ti92 := TyOK.of (inf := Try.t92) Try.underlying92 (by kernel_rfl) (by kernel_rfl) (by kernel_rfl) (by kernel_rfl)
noncomputable def ti93 : TI := ⟨Try.t93.desc, 1, 8, [.nf]⟩
theorem ti93_ok : TyOK Try.prog 93 ti93 := TyOK.of (inf := Try.t93) Try.underlying93 (by kernel_rfl) (by kernel_rfl) (by kernel_rfl) (by kernel_rfl)
noncomputable def ti94 : TI := ⟨Try.t94.desc, 1, 8, [.nf]⟩
theorem ti94_ok : TyOK Try.prog 94 ti94 := TyOK.of (inf := Try.t94) Try.underlying94 (by kernel_rfl) (by kernel_rfl) (by kernel_rfl) (by kernel_rfl)
noncomputable def ti95 : TI := ⟨Try.t95.desc, 1, 8, [.pn]⟩
theorem ti95_ok : TyOK Try.prog 95 ti95 := TyOK.of (inf := Try.t95) Try.underlying95 (by kernel_rfl) (by kernel_rfl) (by kernel_rfl) (by kernel_rfl)
noncomputable def ti96 : TI := ⟨Try.t96.desc, 1, 8, [.nf]⟩
theorem ti96_ok : TyOK Try.prog 96 ti96 := TyOK.of (inf := Try.t96) Try.underlying96 (by kernel_rfl) (by kernel_rfl) (by kernel_rfl) (by kernel_rfl)
noncomputable def ti97 : TI := ⟨Try.t97.desc, 1, 8, [.nf]⟩
theorem ti97_ok : TyOK Try.prog 97 ti97 := TyOK.of (inf := Try.t97) Try.underlying97 (by kernel_rfl) (by kernel_rfl) (by kernel_rfl) (by kernel_rfl)
noncomputable def ti98 : TI := ⟨Try.t98.desc, 1, 8, [.nf]⟩
theorem ti98_ok : TyOK Try.prog 98 ti98 := TyOK.of (inf := Try.t98) Try.underlying98 (by kernel_rfl) (by kernel_rfl) (by kernel_rfl) (by kernel_rfl)
noncomputable def ti99 : TI := ⟨Try.t99.desc, 1, 8, [.nf]⟩
theorem ti99_ok : TyOK Try.prog 99 ti99 := TyOK.of (inf := Try.t99) Try.underlying99 (by kernel_rfl) (by kernel_rfl) (by kernel_rfl) (by kernel_rfl)
noncomputable def ti100 : TI := ⟨Try.t100.desc, 1, 8, [.nf]⟩
theorem ti100_ok : TyOK Try.prog 100 ti100 := TyOK.of (inf := Try.t100) Try.underlying100 (by kernel_rfl) (by kernel_rfl) (by kernel_rfl) (by kernel_rfl)
noncomputable def ti101 : TI := ⟨Try.t101.desc, 1, 24, [.sn]⟩
theorem ti101_ok : TyOK Try.prog 101 ti101 := TyOK.of (inf := Try.t101) Try.underlying101 (by kernel_rfl) (by kernel_rfl) (by kernel_rfl) (by kernel_rfl)
noncomputable def ti102 : TI := ⟨Try.t102.desc, 1, 8, [.nf]⟩
theorem ti102_ok : TyOK Try.prog 102 ti102 := TyOK.of (inf := Try.t102) Try.underlying102 (by kernel_rfl) (by kernel_rfl) (by kernel_rfl) (by kernel_rfl)
noncomputable def ti103 : TI := ⟨Try.t103.desc, 1, 8, [.nf]⟩
theorem ti103_ok : TyOK Try.prog 103 ti103 := TyOK.of (inf := Try.t103) Try.underlying103 (by kernel_rfl) (by kernel_rfl) (by kernel_rfl) (by kernel_rfl)
noncomputable def ti104 : TI := ⟨Try.t104.desc, 1, 8, [.it .u64 (0 : Int)]⟩
theorem ti104_ok : TyOK Try.prog 104 ti104 := TyOK.of (inf := Try.t104) Try.underlying104 (by kernel_rfl) (by kernel_rfl) (by kernel_rfl) (by kernel_rfl)
noncomputable def ti105 : TI := ⟨Try.t105.desc, 3, 40, [.sn, .it .i64 (0 : Int), .it .u64 (0 : Int)]⟩
theorem ti105_ok : TyOK Try.prog 105 ti105 := TyOK.of (inf := Try.t105) Try.underlying105 (by kernel_rfl) (by kernel_rfl) (by kernel_rfl) (by kernel_rfl)
noncomputable def ti106 : TI := ⟨Try.t105.desc, 3, 40, [.sn, .it .i64 (0 : Int), .it .u64 (0 : Int)]⟩
theorem ti106_ok : TyOK Try.prog 106 ti106 := TyOK.of (inf := Try.t106) Try.underlying106 (by kernel_rfl) (by kernel_rfl) (by kernel_rfl) (by kernel_rfl)
noncomputable def ti107 : TI := ⟨Try.t107.desc, 1, 8, [.nf]⟩
theorem ti107_ok : TyOK Try.prog 107 ti107 := TyOK.of (inf := Try.t107) Try.underlying107 (by kernel_rfl) (by kernel_rfl) (by kernel_rfl) (by kernel_rfl)
noncomputable def ti108 : TI := ⟨Try.t108.desc, 1, 4, [.it .u32 (0 : Int)]⟩
theorem ti108_ok : TyOK Try.prog 108 ti108 := TyOK.of (inf := Try.t108) Try.underlying108 (by kernel_rfl) (by kernel_rfl) (by kernel_rfl) (by kernel_rfl)
noncomputable def ti109 : TI := ⟨Try.t109.desc, 1, 8, [.nf]⟩
theorem ti109_ok : TyOK Try.prog 109 ti109 := TyOK.of (inf := Try.t109) Try.underlying109 (by kernel_rfl) (by kernel_rfl) (by kernel_rfl) (by kernel_rfl)
noncomputable def ti110 : TI := ⟨Try.t110.desc, 1, 8, [.pn]⟩
theorem ti110_ok : TyOK Try.prog 110 ti110 := TyOK.of (inf := Try.t110) Try.underlying110 (by kernel_rfl) (by kernel_rfl) (by kernel_rfl) (by kernel_rfl)
noncomputable def ti111 : TI := ⟨Try.t111.desc, 2, 32, [.pn, .sn]⟩
theorem ti111_ok : TyOK Try.prog 111 ti111 := TyOK.of (inf := Try.t111) Try.underlying111 (by kernel_rfl) (by kernel_rfl) (by kernel_rfl) (by kernel_rfl)
noncomputable def ti112 : TI := ⟨Try.t111.desc, 2, 32, [.pn, .sn]⟩
theorem ti112_ok : TyOK Try.prog 112 ti112 := TyOK.of (inf := Try.t112) Try.underlying112 (by kernel_rfl) (by kernel_rfl) (by kernel_rfl) (by kernel_rfl)
noncomputable def ti113 : TI := ⟨Try.t113.desc, 1, 8, [.nf]⟩
theorem ti113_ok : TyOK Try.prog 113 ti113 := TyOK.of (inf := Try.t113) Try.underlying113 (by kernel_rfl) (by kernel_rfl) (by kernel_rfl) (by kernel_rfl)
noncomputable def ti117 : TI := ⟨Try.t117.desc, 1, 8, [.nf]⟩
theorem ti117_ok : TyOK Try.prog 117 ti117 := TyOK.of (inf := Try.t117) Try.underlying117 (by kernel_rfl) (by kernel_rfl) (by kernel_rfl) (by kernel_rfl)
noncomputable def ti118 : TI := ⟨Try.t118.desc, 1, 8, [.nf]⟩
theorem ti118_ok : TyOK Try.prog 118 ti118 := TyOK.of (inf := Try.t118) Try.underlying118 (by kernel_rfl) (by kernel_rfl) (by kernel_rfl) (by kernel_rfl)
noncomputable def ti119 : TI := ⟨Try.t119.desc, 1, 8, [.it .u64 (0 : Int)]⟩
theorem ti119_ok : TyOK Try.prog 119 ti119 := TyOK.of (inf := Try.t119) Try.underlying119 (by kernel_rfl) (by kernel_rfl) (by kernel_rfl) (by kernel_rfl)
noncomputable def ti120 : TI := ⟨Try.t120.desc, 1, 8, [.pn]⟩
theorem ti120_ok : TyOK Try.prog 120 ti120 := TyOK.of (inf := Try.t120) Try.underlying120 (by kernel_rfl) (by kernel_rfl) (by kernel_rfl) (by kernel_rfl)
noncomputable def ti121 : TI := ⟨Try.t121.desc, 1, 8, [.pn]⟩
theorem ti121_ok : TyOK Try.prog 121 ti121 := TyOK.of (inf := Try.t121) Try.underlying121 (by kernel_rfl) (by kernel_rfl) (by kernel_rfl) (by kernel_rfl)
noncomputable def ti122 : TI := ⟨Try.t122.desc, 1, 8, [.nf]⟩
theorem ti122_ok : TyOK Try.prog 122 ti122 := TyOK.of (inf := Try.t122) Try.underlying122 (by kernel_rfl) (by kernel_rfl) (by kernel_rfl) (by kernel_rfl)
noncomputable def ti123 : TI := ⟨Try.t123.desc, 1, 8, [.nf]⟩
theorem ti123_ok : TyOK Try.prog 123 ti123 := TyOK.of (inf := Try.t123) Try.underlying123 (by kernel_rfl) (by kernel_rfl) (by kernel_rfl) (by kernel_rfl)
noncomputable def ti124 : TI := ⟨Try.t124.desc, 4, 40, [.pn, .pn, .pn, .st (ByteArray.mk #[])]⟩
theorem ti124_ok : TyOK Try.prog 124 ti124 := TyOK.of (inf := Try.t124) Try.underlying124 (by kernel_rfl) (by kernel_rfl) (by kernel_rfl) (by kernel_rfl)
noncomputable def ti125 : TI := ⟨Try.t124.desc, 4, 40, [.pn, .pn, .pn, .st (ByteArray.mk #[])]⟩
theorem ti125_ok : TyOK Try.prog 125 ti125 := TyOK.of (inf := Try.t125) Try.underlying125 (by kernel_rfl) (by kernel_rfl) (by kernel_rfl) (by kernel_rfl)
noncomputable def ti126 : TI := ⟨Try.t126.desc, 0, 0, []⟩
theorem ti126_ok : TyOK Try.prog 126 ti126 := TyOK.of (inf := Try.t126) Try.underlying126 (by kernel_rfl) (by kernel_rfl) (by kernel_rfl) (by kernel_rfl)
noncomputable def ti127 : TI := ⟨Try.t127.desc, 0, 0, []⟩
theorem ti127_ok : TyOK Try.prog 127 ti127 := TyOK.of (inf := Try.t127) Try.underlying127 (by kernel_rfl) (by kernel_rfl) (by kernel_rfl) (by kernel_rfl)
noncomputable def ti128 : TI := ⟨Try.t127.desc, 0, 0, []⟩
theorem ti128_ok : TyOK Try.prog 128 ti128 := TyOK.of (inf := Try.t128) Try.underlying128 (by kernel_rfl) (by kernel_rfl) (by kernel_rfl) (by kernel_rfl)
noncomputable def ti129 : TI := ⟨Try.t129.desc, 1, 8, [.nf]⟩
theorem ti129_ok : TyOK Try.prog 129 ti129 := TyOK.of (inf := Try.t129) Try.underlying129 (by kernel_rfl) (by kernel_rfl) (by kernel_rfl) (by kernel_rfl)
noncomputable def ti130 : TI := ⟨Try.t5.desc, 1, 1, [.it .u8 (0 : Int)]⟩
theorem ti130_ok : TyOK Try.prog 130 ti130 := TyOK.of (inf := Try.t130) Try.underlying130 (by kernel_rfl) (by kernel_rfl) (by kernel_rfl) (by kernel_rfl)
noncomputable def ti131 : TI := ⟨Try.t5.desc, 1, 1, [.it .u8 (0 : Int)]⟩
theorem ti131_ok : TyOK Try.prog 131 ti131 := TyOK.of (inf := Try.t131) Try.underlying131 (by kernel_rfl) (by kernel_rfl) (by kernel_rfl) (by kernel_rfl)
noncomputable def ti132 : TI := ⟨Try.t132.desc, 1, 8, [.nf]⟩
theorem ti132_ok : TyOK Try.prog 132 ti132 := TyOK.of (inf := Try.t132) Try.underlying132 (by kernel_rfl) (by kernel_rfl) (by kernel_rfl) (by kernel_rfl)
noncomputable def ti133 : TI := ⟨Try.t21.desc, 1, 4, [.it .i32 (0 : Int)]⟩
theorem ti133_ok : TyOK Try.prog 133 ti133 := TyOK.of (inf := Try.t133) Try.underlying133 (by kernel_rfl) (by kernel_rfl) (by kernel_rfl) (by kernel_rfl)
noncomputable def ti134 : TI := ⟨Try.t21.desc, 1, 4, [.it .i32 (0 : Int)]⟩
theorem ti134_ok : TyOK Try.prog 134 ti134 := TyOK.of (inf := Try.t134) Try.underlying134 (by kernel_rfl) (by kernel_rfl) (by kernel_rfl) (by kernel_rfl)
noncomputable def ti135 : TI := ⟨Try.t135.desc, 11, 48, [.it .u64 (0 : Int), .it .u64 (0 : Int), .it .u32 (0 : Int), .it .u8 (0 : Int), .it .u8 (0 : Int), .it .u8 (0 : Int), .it .u8 (0 : Int), .nf, .pn, .it .i32 (0 : Int), .it .i32 (0 : Int)]⟩
theorem ti135_ok : TyOK Try.prog 135 ti135 := TyOK.of (inf := Try.t135) Try.underlying135 (by kernel_rfl) (by kernel_rfl) (by kernel_rfl) (by kernel_rfl)
noncomputable def ti136 : TI := ⟨Try.t135.desc, 11, 48, [.it .u64 (0 : Int), .it .u64 (0 : Int), .it .u32 (0 : Int), .it .u8 (0 : Int), .it .u8 (0 : Int), .it .u8 (0 : Int), .it .u8 (0 : Int), .nf, .pn, .it .i32 (0 : Int), .it .i32 (0 : Int)]⟩
theorem ti136_ok : TyOK Try.prog 136 ti136 := TyOK.of (inf := Try.t136) Try.underlying136 (by kernel_rfl) (by kernel_rfl) (by kernel_rfl) (by kernel_rfl)
noncomputable def tys : List (Nat × TI) := [(1, ti1), (2, ti2), (3, ti3), (4, ti4), (5, ti5), (6, ti6), (7, ti7), (8, ti8), (9, ti9), (10, ti10), (11, ti11), (12, ti12), (13, ti13), (14, ti14), (15, ti15), (16, ti16), (17, ti17), (18, ti18), (19, ti19), (21, ti21), (22, ti22), (23, ti23), (24, ti24), (25, ti25), (27, ti27), (28, ti28), (29, ti29), (30, ti30), (31, ti31), (32, ti32), (33, ti33), (34, ti34), (35, ti35), (36, ti36), (38, ti38), (39, ti39), (40, ti40), (41, ti41), (42, ti42), (43, ti43), (44, ti44), (46, ti46), (47, ti47), (48, ti48), (50, ti50), (51, ti51), (52, ti52), (53, ti53), (54, ti54), (55, ti55), (56, ti56), (57, ti57), (58, ti58), (59, ti59), (61, ti61), (63, ti63), (64, ti64), (65, ti65), (67, ti67), (69, ti69), (70, ti70), (71, ti71), (73, ti73), (74, ti74), (75, ti75), (76, ti76), (78, ti78), (79, ti79), (80, ti80), (81, ti81), (82, ti82), (83, ti83), (84, ti84), (85, ti85), (86, ti86), (87, ti87), (88, ti88), (89, ti89), (90, ti90), (91, ti91), (92, ti92), (93, ti93), (94, ti94), (95, ti95), (96, ti96), (97, ti97), (98, ti98), (99, ti99), (100, ti100), (101, ti101), (102, ti102), (103, ti103), (104, ti104), (105, ti105), (106, ti106), (107, ti107), (108, ti108), (109, ti109), (110, ti110), (111, ti111), (112, ti112), (113, ti113), (117, ti117), (118, ti118), (119, ti119), (120, ti120), (121, ti121), (122, ti122), (123, ti123), (124, ti124), (125, ti125), (126, ti126), (127, ti127), (128, ti128), (129, ti129), (130, ti130), (131, ti131), (132, ti132), (133, ti133), (134, ti134), (135, ti135), (136, ti136)]
theorem mo : Try.prog.follows .mixedOrders = true := by kernel_rfl
theorem tys_ok : TysOK Try.prog tys := (TysOK.cons ti1_ok (TysOK.cons ti2_ok (TysOK.cons ti3_ok (TysOK.cons ti4_ok (TysOK.cons ti5_ok (TysOK.cons ti6_ok (TysOK.cons ti7_ok (TysOK.cons ti8_ok (TysOK.cons ti9_ok (TysOK.cons ti10_ok (TysOK.cons ti11_ok (TysOK.cons ti12_ok (TysOK.cons ti13_ok (TysOK.cons ti14_ok (TysOK.cons ti15_ok (TysOK.cons ti16_ok (TysOK.cons ti17_ok (TysOK.cons ti18_ok (TysOK.cons ti19_ok (TysOK.cons ti21_ok (TysOK.cons ti22_ok (TysOK.cons ti23_ok (TysOK.cons ti24_ok (TysOK.cons ti25_ok (TysOK.cons ti27_ok (TysOK.cons ti28_ok (TysOK.cons ti29_ok (TysOK.cons ti30_ok (TysOK.cons ti31_ok (TysOK.cons ti32_ok (TysOK.cons ti33_ok (TysOK.cons ti34_ok (TysOK.cons ti35_ok (TysOK.cons ti36_ok (TysOK.cons ti38_ok (TysOK.cons ti39_ok (TysOK.cons ti40_ok (TysOK.cons ti41_ok (TysOK.cons ti42_ok (TysOK.cons ti43_ok (TysOK.cons ti44_ok (TysOK.cons ti46_ok (TysOK.cons ti47_ok (TysOK.cons ti48_ok (TysOK.cons ti50_ok (TysOK.cons ti51_ok (TysOK.cons ti52_ok (TysOK.cons ti53_ok (TysOK.cons ti54_ok (TysOK.cons ti55_ok (TysOK.cons ti56_ok (TysOK.cons ti57_ok (TysOK.cons ti58_ok (TysOK.cons ti59_ok (TysOK.cons ti61_ok (TysOK.cons ti63_ok (TysOK.cons ti64_ok (TysOK.cons ti65_ok (TysOK.cons ti67_ok (TysOK.cons ti69_ok (TysOK.cons ti70_ok (TysOK.cons ti71_ok (TysOK.cons ti73_ok (TysOK.cons ti74_ok (TysOK.cons ti75_ok (TysOK.cons ti76_ok (TysOK.cons ti78_ok (TysOK.cons ti79_ok (TysOK.cons ti80_ok (TysOK.cons ti81_ok (TysOK.cons ti82_ok (TysOK.cons ti83_ok (TysOK.cons ti84_ok (TysOK.cons ti85_ok (TysOK.cons ti86_ok (TysOK.cons ti87_ok (TysOK.cons ti88_ok (TysOK.cons ti89_ok (TysOK.cons ti90_ok (TysOK.cons ti91_ok (TysOK.cons ti92_ok (TysOK.cons ti93_ok (TysOK.cons ti94_ok (TysOK.cons ti95_ok (TysOK.cons ti96_ok (TysOK.cons ti97_ok (TysOK.cons ti98_ok (TysOK.cons ti99_ok (TysOK.cons ti100_ok (TysOK.cons ti101_ok (TysOK.cons ti102_ok (TysOK.cons ti103_ok (TysOK.cons ti104_ok (TysOK.cons ti105_ok (TysOK.cons ti106_ok (TysOK.cons ti107_ok (TysOK.cons ti108_ok (TysOK.cons ti109_ok (TysOK.cons ti110_ok (TysOK.cons ti111_ok (TysOK.cons ti112_ok (TysOK.cons ti113_ok (TysOK.cons ti117_ok (TysOK.cons ti118_ok (TysOK.cons ti119_ok (TysOK.cons ti120_ok (TysOK.cons ti121_ok (TysOK.cons ti122_ok (TysOK.cons ti123_ok (TysOK.cons ti124_ok (TysOK.cons ti125_ok (TysOK.cons ti126_ok (TysOK.cons ti127_ok (TysOK.cons ti128_ok (TysOK.cons ti129_ok (TysOK.cons ti130_ok (TysOK.cons ti131_ok (TysOK.cons ti132_ok (TysOK.cons ti133_ok (TysOK.cons ti134_ok (TysOK.cons ti135_ok (TysOK.cons ti136_ok TysOK.nil))))))))))))))))))))))))))))))))))))))))))))))))))))))))))))))))))))))))))))))))))))))))))))))))))))))))))))))))))))))))))
/-! ### laws_toStone -/
noncomputable def laws_toStone.b : Code := bodyOf Try.f10
noncomputable def laws_toStone.C : Ctx := { ty := tys, fn := [], lp := [], n := 17, k := 0 }
theorem laws_toStone.hC : CtxOK Try.prog laws_toStone.C := CtxOK.of mo tys_ok FnsOK.nil
theorem laws_toStone.lp : LpOK Try.prog laws_toStone.C laws_toStone.b := (LpOK.nil (by kernel_rfl))
noncomputable def laws_toStone.t (x0 : Nat) (x1 : Nat) (x2 : Nat) (x3 : Nat) : T (Nat × Nat × Nat × Nat) :=
  .leaf (x0, x1, x2, x3)
noncomputable def laws_toStone (x0 : Nat) (x1 : Nat) (x2 : Nat) (x3 : Nat) : Nat × Nat × Nat × Nat := (laws_toStone.t x0 x1 x2 x3).val
def laws_toStone.cd : Cd (Nat × Nat × Nat × Nat) (List V × Hp) := Cd.iso (Cd.pair (Cd.cons (Cd.agg (Cd.cons (Cd.fl .f32) (Cd.cons (Cd.fl .f32) (Cd.cons (Cd.fl .f32) (Cd.cons (Cd.fl .f32) Cd.nil))))) Cd.nil) Cd.nil) (fun a => (a.1.1.1, a.1.1.2.1, a.1.1.2.2.1, a.1.1.2.2.2.1)) (fun a => (((a.1, (a.2.1, (a.2.2.1, (a.2.2.2, ())))), ()), ())) (fun _ => rfl)
noncomputable def laws_toStone.tr (a : Nat × Nat × Nat × Nat) : T (Nat × Nat × Nat × Nat) := laws_toStone.t a.1 a.2.1 a.2.2.1 a.2.2.2
def laws_toStone.enc : (Nat × Nat × Nat × Nat) → (Nat × Nat × Nat × Nat) → V := fun a r => .agg [.fl .f32 r.1, .fl .f32 r.2.1, .fl .f32 r.2.2.1, .fl .f32 r.2.2.2]
noncomputable def laws_toStone.c : List V → Hp → T V := cdQ laws_toStone.cd (fun a => .leaf (laws_toStone.enc a (laws_toStone a.1 a.2.1 a.2.2.1 a.2.2.2)))
theorem laws_toStone.run (a : Nat × Nat × Nat × Nat) : runF laws_toStone.C Try.f10.results.toList laws_toStone.b (laws_toStone.cd.enc a).1 (laws_toStone.cd.enc a).2 = (laws_toStone.tr a).map fun r => (laws_toStone.enc a r, (laws_toStone.cd.enc a).2) := by kernel_rfl
theorem laws_toStone.cok : OKq Try.prog 10 laws_toStone.c := con_q' laws_toStone.cd laws_toStone.hC Try.func10 (by kernel_rfl) (by kernel_rfl) (by kernel_rfl) laws_toStone.lp (fun a => by kernel_rfl) laws_toStone.run (Tells.val (tree := laws_toStone.tr) fun a => by kernel_rfl)
/-! ### laws_toFloat32S -/
noncomputable def laws_toFloat32S.b : Code := bodyOf Try.f11
noncomputable def laws_toFloat32S.l3.s (x0 : Nat) (x1 : Nat) (x2 : Int) (x3 : List Nat) (x4 : List Nat) : T ((Int × List Nat) ⊕ (List Nat)) :=
  .br (decide (x2 < ((x0 : Nat) : Int)))
  (.br (bounds x2 x0)
   (.br (Nat.ble ((0 + (Int.toNat x2 * 1)) + 1) (List.length x3))
    (.br (bounds x2 x1)
     (.br (Nat.ble ((Int.toNat x2 * 1) + 1) (List.length x4))
      (.leaf (.inl ((IntKind.wrap .i64 (x2 + (1 : Int))), (List.set x4 (Int.toNat x2 * 1) (List.getD x3 (0 + (Int.toNat x2 * 1)) 0)))))
      .bad)
     .bad)
    .bad)
   .bad)
  (.leaf (.inr x4))
noncomputable def laws_toFloat32S.l3.st (p : Nat × Nat × List Nat) (x : Int × List Nat) : T ((Int × List Nat) ⊕ (List Nat)) := laws_toFloat32S.l3.s p.1 p.2.1 x.1 p.2.2 x.2
noncomputable def laws_toFloat32S.l3.r (p : Nat × Nat × List Nat) (x : Int × List Nat) : Option (List Nat) := iterT (laws_toFloat32S.l3.st p) manyRounds x
def laws_toFloat32S.l3.cd : Cd ((Nat × Nat × List Nat) × (Int × List Nat)) (List V × Hp) := Cd.iso (Cd.pair (Cd.cons (Cd.sl 0 (Cd.natc 0)) (Cd.cons (Cd.own 1) (Cd.cons (Cd.it .i64) Cd.nil))) (Cd.cons (Cd.ro 0 0 (Cd.fs .f32)) (Cd.cons (Cd.rw 22 1 (Cd.fs .f32)) Cd.nil))) (fun a => ((a.1.1.2, a.1.2.1, a.2.1), (a.1.2.2.1, a.2.2.1))) (fun a => ((((), a.1.1), (a.1.2.1, (a.2.1, ()))), (a.1.2.2, (a.2.2, ())))) (fun _ => rfl)
def laws_toFloat32S.l3.out (p : Nat × Nat × List Nat) : (List Nat) → X × List V × Hp := (fun r => (.ex 0, [.own 1 p.2.1], [some ⟨false, 0, 0, .fs .f32 p.2.2⟩, some ⟨true, 22, 1, .fs .f32 r⟩]))
def laws_toFloat32S.l3.ex (p : Nat × Nat × List Nat) : (List Nat) → T (X × List V × Hp) := leafT (fun r => (.ex 0, [.own 1 p.2.1], [some ⟨false, 0, 0, .fs .f32 p.2.2⟩, some ⟨true, 22, 1, .fs .f32 r⟩]))
noncomputable def laws_toFloat32S.l3.c : List V → Hp → T (X × List V × Hp) := cdL laws_toFloat32S.l3.cd fun x => optT (laws_toFloat32S.l3.r x.1 x.2) (laws_toFloat32S.l3.ex x.1)
noncomputable def laws_toFloat32S.C : Ctx := { ty := tys, fn := [], lp := [(3, ⟨[0, 3, 4], [3], laws_toFloat32S.l3.c⟩)], n := 22, k := 1 }
theorem laws_toFloat32S.hC : CtxOK Try.prog laws_toFloat32S.C := CtxOK.of mo tys_ok FnsOK.nil
noncomputable def laws_toFloat32S.b3 : Code := (nthC (loopsOf laws_toFloat32S.b) 0)
theorem laws_toFloat32S.lp3 : LpOK Try.prog laws_toFloat32S.C laws_toFloat32S.b3 := (LpOK.nil (by kernel_rfl))
theorem laws_toFloat32S.l3.round (p : Nat × Nat × List Nat) (s : Int × List Nat) : roundL laws_toFloat32S.C [0, 3, 4] [3] laws_toFloat32S.b3 (laws_toFloat32S.l3.cd.enc (p, s)).1 (laws_toFloat32S.l3.cd.enc (p, s)).2 = (laws_toFloat32S.l3.st p s).map (encSum (fun s => laws_toFloat32S.l3.cd.enc (p, s)) (laws_toFloat32S.l3.out p)) := by kernel_rfl
theorem laws_toFloat32S.l3.lok : LoopOK Try.prog laws_toFloat32S.C ⟨[0, 3, 4], [3], laws_toFloat32S.l3.c⟩ laws_toFloat32S.b3 := loop_cd laws_toFloat32S.l3.cd laws_toFloat32S.hC laws_toFloat32S.lp3 laws_toFloat32S.l3.round fun p => Gets.leaf
theorem laws_toFloat32S.lp : LpOK Try.prog laws_toFloat32S.C laws_toFloat32S.b := lp_of (by kernel_rfl) (LpsOK.cons (k := 3) (by kernel_rfl) (by kernel_rfl) laws_toFloat32S.l3.lok LpsOK.nil)
noncomputable def laws_toFloat32S.t (x0 : Nat) (x1 : List Nat) : T (Nat × List Nat) :=
  .br (decide (0 ≤ ((x0 : Nat) : Int)) && decide (((x0 : Nat) : Int) ≤ ((x0 : Nat) : Int)) && decide (((x0 : Nat) : Int) ≤ 35184372088832) && decide (((4 : Nat) : Int) * ((x0 : Nat) : Int) ≤ 35184372088832))
  (.br (Option.isSome (laws_toFloat32S.l3.r (x0, (Int.toNat ((x0 : Nat) : Int)), x1) ((0 : Int), (List.replicate ((Int.toNat ((x0 : Nat) : Int)) * 1) 0))))
   (.leaf ((Int.toNat ((x0 : Nat) : Int)), (Option.getD (laws_toFloat32S.l3.r (x0, (Int.toNat ((x0 : Nat) : Int)), x1) ((0 : Int), (List.replicate ((Int.toNat ((x0 : Nat) : Int)) * 1) 0))) default)))
   .bad)
  .bad
noncomputable def laws_toFloat32S (x0 : Nat) (x1 : List Nat) : Nat × List Nat := (laws_toFloat32S.t x0 x1).val
noncomputable def laws_toFloat32S.ok (x0 : Nat) (x1 : List Nat) : Bool := (laws_toFloat32S.t x0 x1).ok
def laws_toFloat32S.cd : Cd (Nat × List Nat) (List V × Hp) := Cd.iso (Cd.pair (Cd.cons (Cd.sl 0 (Cd.natc 0)) Cd.nil) (Cd.cons (Cd.ro 0 0 (Cd.fs .f32)) Cd.nil)) (fun a => (a.1.1.2, a.2.1)) (fun a => ((((), a.1), ()), (a.2, ()))) (fun _ => rfl)
noncomputable def laws_toFloat32S.tr (a : Nat × List Nat) : T (Nat × List Nat) := laws_toFloat32S.t a.1 a.2
def laws_toFloat32S.enc : (Nat × List Nat) → (Nat × List Nat) → V × Hp := fun a r => (.own 1 r.1, [some ⟨false, 0, 0, .fs .f32 a.2⟩, some ⟨true, 22, 1, .fs .f32 r.2⟩])
noncomputable def laws_toFloat32S.c : List V → Hp → T (V × Hp) := cdE laws_toFloat32S.cd (fun a => .br (laws_toFloat32S.ok a.1 a.2) (.leaf (laws_toFloat32S.enc a (laws_toFloat32S a.1 a.2))) .bad)
theorem laws_toFloat32S.run (a : Nat × List Nat) : runF laws_toFloat32S.C Try.f11.results.toList laws_toFloat32S.b (laws_toFloat32S.cd.enc a).1 (laws_toFloat32S.cd.enc a).2 = (laws_toFloat32S.tr a).map (laws_toFloat32S.enc a) := by kernel_rfl
theorem laws_toFloat32S.cok : OKe Try.prog 11 laws_toFloat32S.c := con_e' laws_toFloat32S.cd laws_toFloat32S.hC Try.func11 (by kernel_rfl) (by kernel_rfl) (by kernel_rfl) laws_toFloat32S.lp (fun a => by kernel_rfl) laws_toFloat32S.run (Tells.ok (tree := laws_toFloat32S.tr))
/-! ### spec_l04Rate -/
noncomputable def spec_l04Rate.b : Code := bodyOf Try.f47
noncomputable def spec_l04Rate.C : Ctx := { ty := tys, fn := [], lp := [], n := 9, k := 0 }
theorem spec_l04Rate.hC : CtxOK Try.prog spec_l04Rate.C := CtxOK.of mo tys_ok FnsOK.nil
theorem spec_l04Rate.lp : LpOK Try.prog spec_l04Rate.C spec_l04Rate.b := (LpOK.nil (by kernel_rfl))
noncomputable def spec_l04Rate.t (x0 : Nat) : T Bool :=
  .br (fge .f32 x0 0)
  (.leaf (fle .f32 x0 1149239296))
  (.leaf false)
noncomputable def spec_l04Rate (x0 : Nat) : Bool := (spec_l04Rate.t x0).val
def spec_l04Rate.cd : Cd Nat (List V × Hp) := Cd.iso (Cd.pair (Cd.cons (Cd.fl .f32) Cd.nil) Cd.nil) (fun a => a.1.1) (fun a => ((a, ()), ())) (fun _ => rfl)
noncomputable def spec_l04Rate.tr (a : Nat) : T Bool := spec_l04Rate.t a
def spec_l04Rate.enc : Nat → Bool → V := fun a r => .bo r
noncomputable def spec_l04Rate.c : List V → Hp → T V := cdQ spec_l04Rate.cd (fun a => .leaf (spec_l04Rate.enc a (spec_l04Rate a)))
theorem spec_l04Rate.run (a : Nat) : runF spec_l04Rate.C Try.f47.results.toList spec_l04Rate.b (spec_l04Rate.cd.enc a).1 (spec_l04Rate.cd.enc a).2 = (spec_l04Rate.tr a).map fun r => (spec_l04Rate.enc a r, (spec_l04Rate.cd.enc a).2) := by kernel_rfl
theorem spec_l04Rate.cok : OKq Try.prog 47 spec_l04Rate.c := con_q' spec_l04Rate.cd spec_l04Rate.hC Try.func47 (by kernel_rfl) (by kernel_rfl) (by kernel_rfl) spec_l04Rate.lp (fun a => by kernel_rfl) spec_l04Rate.run (Tells.val (tree := spec_l04Rate.tr) fun a => by kernel_rfl)
/-! ### spec_l01Part -/
noncomputable def spec_l01Part.b : Code := bodyOf Try.f63
noncomputable def spec_l01Part.C : Ctx := { ty := tys, fn := [], lp := [], n := 9, k := 0 }
theorem spec_l01Part.hC : CtxOK Try.prog spec_l01Part.C := CtxOK.of mo tys_ok FnsOK.nil
theorem spec_l01Part.lp : LpOK Try.prog spec_l01Part.C spec_l01Part.b := (LpOK.nil (by kernel_rfl))
noncomputable def spec_l01Part.t (x0 : Nat) : T Bool :=
  .br (fge .f32 x0 0)
  (.leaf (fle .f32 x0 1065353216))
  (.leaf false)
noncomputable def spec_l01Part (x0 : Nat) : Bool := (spec_l01Part.t x0).val
def spec_l01Part.cd : Cd Nat (List V × Hp) := Cd.iso (Cd.pair (Cd.cons (Cd.fl .f32) Cd.nil) Cd.nil) (fun a => a.1.1) (fun a => ((a, ()), ())) (fun _ => rfl)
noncomputable def spec_l01Part.tr (a : Nat) : T Bool := spec_l01Part.t a
def spec_l01Part.enc : Nat → Bool → V := fun a r => .bo r
noncomputable def spec_l01Part.c : List V → Hp → T V := cdQ spec_l01Part.cd (fun a => .leaf (spec_l01Part.enc a (spec_l01Part a)))
theorem spec_l01Part.run (a : Nat) : runF spec_l01Part.C Try.f63.results.toList spec_l01Part.b (spec_l01Part.cd.enc a).1 (spec_l01Part.cd.enc a).2 = (spec_l01Part.tr a).map fun r => (spec_l01Part.enc a r, (spec_l01Part.cd.enc a).2) := by kernel_rfl
theorem spec_l01Part.cok : OKq Try.prog 63 spec_l01Part.c := con_q' spec_l01Part.cd spec_l01Part.hC Try.func63 (by kernel_rfl) (by kernel_rfl) (by kernel_rfl) spec_l01Part.lp (fun a => by kernel_rfl) spec_l01Part.run (Tells.val (tree := spec_l01Part.tr) fun a => by kernel_rfl)
/-! ### spec_l04Ok -/
noncomputable def spec_l04Ok.b : Code := bodyOf Try.f45
noncomputable def spec_l04Ok.C : Ctx := { ty := tys, fn := [(47, .q spec_l04Rate.c), (63, .q spec_l01Part.c)], lp := [], n := 21, k := 0 }
theorem spec_l04Ok.hC : CtxOK Try.prog spec_l04Ok.C := CtxOK.of mo tys_ok (FnsOK.cons spec_l04Rate.cok (FnsOK.cons spec_l01Part.cok FnsOK.nil))
theorem spec_l04Ok.lp : LpOK Try.prog spec_l04Ok.C spec_l04Ok.b := (LpOK.nil (by kernel_rfl))
noncomputable def spec_l04Ok.t (x0 : Nat) (x1 : Nat) (x2 : Nat) (x3 : Nat) : T Bool :=
  .br (spec_l04Rate x0)
  (.br (spec_l04Rate x1)
   (.br (spec_l04Rate x2)
    (.leaf (spec_l01Part x3))
    (.leaf false))
   (.leaf false))
  (.leaf false)
noncomputable def spec_l04Ok (x0 : Nat) (x1 : Nat) (x2 : Nat) (x3 : Nat) : Bool := (spec_l04Ok.t x0 x1 x2 x3).val
def spec_l04Ok.cd : Cd (Nat × Nat × Nat × Nat) (List V × Hp) := Cd.iso (Cd.pair (Cd.cons (Cd.agg (Cd.cons (Cd.fl .f32) (Cd.cons (Cd.fl .f32) (Cd.cons (Cd.fl .f32) (Cd.cons (Cd.fl .f32) Cd.nil))))) Cd.nil) Cd.nil) (fun a => (a.1.1.1, a.1.1.2.1, a.1.1.2.2.1, a.1.1.2.2.2.1)) (fun a => (((a.1, (a.2.1, (a.2.2.1, (a.2.2.2, ())))), ()), ())) (fun _ => rfl)
noncomputable def spec_l04Ok.tr (a : Nat × Nat × Nat × Nat) : T Bool := spec_l04Ok.t a.1 a.2.1 a.2.2.1 a.2.2.2
def spec_l04Ok.enc : (Nat × Nat × Nat × Nat) → Bool → V := fun a r => .bo r
noncomputable def spec_l04Ok.c : List V → Hp → T V := cdQ spec_l04Ok.cd (fun a => .leaf (spec_l04Ok.enc a (spec_l04Ok a.1 a.2.1 a.2.2.1 a.2.2.2)))
theorem spec_l04Ok.run (a : Nat × Nat × Nat × Nat) : runF spec_l04Ok.C Try.f45.results.toList spec_l04Ok.b (spec_l04Ok.cd.enc a).1 (spec_l04Ok.cd.enc a).2 = (spec_l04Ok.tr a).map fun r => (spec_l04Ok.enc a r, (spec_l04Ok.cd.enc a).2) := by kernel_rfl
theorem spec_l04Ok.cok : OKq Try.prog 45 spec_l04Ok.c := con_q' spec_l04Ok.cd spec_l04Ok.hC Try.func45 (by kernel_rfl) (by kernel_rfl) (by kernel_rfl) spec_l04Ok.lp (fun a => by kernel_rfl) spec_l04Ok.run (Tells.val (tree := spec_l04Ok.tr) fun a => by kernel_rfl)
/-! ### spec_l03Amount -/
noncomputable def spec_l03Amount.b : Code := bodyOf Try.f46
noncomputable def spec_l03Amount.C : Ctx := { ty := tys, fn := [], lp := [], n := 9, k := 0 }
theorem spec_l03Amount.hC : CtxOK Try.prog spec_l03Amount.C := CtxOK.of mo tys_ok FnsOK.nil
theorem spec_l03Amount.lp : LpOK Try.prog spec_l03Amount.C spec_l03Amount.b := (LpOK.nil (by kernel_rfl))
noncomputable def spec_l03Amount.t (x0 : Nat) : T Bool :=
  .br (fge .f32 x0 0)
  (.leaf (fle .f32 x0 1233125376))
  (.leaf false)
noncomputable def spec_l03Amount (x0 : Nat) : Bool := (spec_l03Amount.t x0).val
def spec_l03Amount.cd : Cd Nat (List V × Hp) := Cd.iso (Cd.pair (Cd.cons (Cd.fl .f32) Cd.nil) Cd.nil) (fun a => a.1.1) (fun a => ((a, ()), ())) (fun _ => rfl)
noncomputable def spec_l03Amount.tr (a : Nat) : T Bool := spec_l03Amount.t a
def spec_l03Amount.enc : Nat → Bool → V := fun a r => .bo r
noncomputable def spec_l03Amount.c : List V → Hp → T V := cdQ spec_l03Amount.cd (fun a => .leaf (spec_l03Amount.enc a (spec_l03Amount a)))
theorem spec_l03Amount.run (a : Nat) : runF spec_l03Amount.C Try.f46.results.toList spec_l03Amount.b (spec_l03Amount.cd.enc a).1 (spec_l03Amount.cd.enc a).2 = (spec_l03Amount.tr a).map fun r => (spec_l03Amount.enc a r, (spec_l03Amount.cd.enc a).2) := by kernel_rfl
theorem spec_l03Amount.cok : OKq Try.prog 46 spec_l03Amount.c := con_q' spec_l03Amount.cd spec_l03Amount.hC Try.func46 (by kernel_rfl) (by kernel_rfl) (by kernel_rfl) spec_l03Amount.lp (fun a => by kernel_rfl) spec_l03Amount.run (Tells.val (tree := spec_l03Amount.tr) fun a => by kernel_rfl)
/-! ### spec_l04Idle -/
noncomputable def spec_l04Idle.b : Code := bodyOf Try.f81
noncomputable def spec_l04Idle.C : Ctx := { ty := tys, fn := [], lp := [], n := 12, k := 0 }
theorem spec_l04Idle.hC : CtxOK Try.prog spec_l04Idle.C := CtxOK.of mo tys_ok FnsOK.nil
theorem spec_l04Idle.lp : LpOK Try.prog spec_l04Idle.C spec_l04Idle.b := (LpOK.nil (by kernel_rfl))
noncomputable def spec_l04Idle.t (x0 : Nat) (x1 : Nat) (x2 : Nat) (x3 : Nat) (x4 : Nat) : T Nat :=
  .leaf (fadd .f32 x0 (fmul .f32 x1 x4))
noncomputable def spec_l04Idle (x0 : Nat) (x1 : Nat) (x2 : Nat) (x3 : Nat) (x4 : Nat) : Nat := (spec_l04Idle.t x0 x1 x2 x3 x4).val
def spec_l04Idle.cd : Cd (Nat × Nat × Nat × Nat × Nat) (List V × Hp) := Cd.iso (Cd.pair (Cd.cons (Cd.agg (Cd.cons (Cd.fl .f32) (Cd.cons (Cd.fl .f32) (Cd.cons (Cd.fl .f32) (Cd.cons (Cd.fl .f32) Cd.nil))))) (Cd.cons (Cd.fl .f32) Cd.nil)) Cd.nil) (fun a => (a.1.1.1, a.1.1.2.1, a.1.1.2.2.1, a.1.1.2.2.2.1, a.1.2.1)) (fun a => (((a.1, (a.2.1, (a.2.2.1, (a.2.2.2.1, ())))), (a.2.2.2.2, ())), ())) (fun _ => rfl)
noncomputable def spec_l04Idle.tr (a : Nat × Nat × Nat × Nat × Nat) : T Nat := spec_l04Idle.t a.1 a.2.1 a.2.2.1 a.2.2.2.1 a.2.2.2.2
def spec_l04Idle.enc : (Nat × Nat × Nat × Nat × Nat) → Nat → V := fun a r => .fl .f32 r
noncomputable def spec_l04Idle.c : List V → Hp → T V := cdQ spec_l04Idle.cd (fun a => .leaf (spec_l04Idle.enc a (spec_l04Idle a.1 a.2.1 a.2.2.1 a.2.2.2.1 a.2.2.2.2)))
theorem spec_l04Idle.run (a : Nat × Nat × Nat × Nat × Nat) : runF spec_l04Idle.C Try.f81.results.toList spec_l04Idle.b (spec_l04Idle.cd.enc a).1 (spec_l04Idle.cd.enc a).2 = (spec_l04Idle.tr a).map fun r => (spec_l04Idle.enc a r, (spec_l04Idle.cd.enc a).2) := by kernel_rfl
theorem spec_l04Idle.cok : OKq Try.prog 81 spec_l04Idle.c := con_q' spec_l04Idle.cd spec_l04Idle.hC Try.func81 (by kernel_rfl) (by kernel_rfl) (by kernel_rfl) spec_l04Idle.lp (fun a => by kernel_rfl) spec_l04Idle.run (Tells.val (tree := spec_l04Idle.tr) fun a => by kernel_rfl)
/-! ### spec_l04Load -/
noncomputable def spec_l04Load.b : Code := bodyOf Try.f56
noncomputable def spec_l04Load.C : Ctx := { ty := tys, fn := [(81, .q spec_l04Idle.c)], lp := [], n := 15, k := 0 }
theorem spec_l04Load.hC : CtxOK Try.prog spec_l04Load.C := CtxOK.of mo tys_ok (FnsOK.cons spec_l04Idle.cok FnsOK.nil)
theorem spec_l04Load.lp : LpOK Try.prog spec_l04Load.C spec_l04Load.b := (LpOK.nil (by kernel_rfl))
noncomputable def spec_l04Load.t (x0 : Nat) (x1 : Nat) (x2 : Nat) (x3 : Nat) (x4 : Nat) (x5 : Nat) : T Nat :=
  .leaf (fadd .f32 (spec_l04Idle x0 x1 x2 x3 x4) (fmul .f32 x2 x5))
noncomputable def spec_l04Load (x0 : Nat) (x1 : Nat) (x2 : Nat) (x3 : Nat) (x4 : Nat) (x5 : Nat) : Nat := (spec_l04Load.t x0 x1 x2 x3 x4 x5).val
def spec_l04Load.cd : Cd (Nat × Nat × Nat × Nat × Nat × Nat) (List V × Hp) := Cd.iso (Cd.pair (Cd.cons (Cd.agg (Cd.cons (Cd.fl .f32) (Cd.cons (Cd.fl .f32) (Cd.cons (Cd.fl .f32) (Cd.cons (Cd.fl .f32) Cd.nil))))) (Cd.cons (Cd.fl .f32) (Cd.cons (Cd.fl .f32) Cd.nil))) Cd.nil) (fun a => (a.1.1.1, a.1.1.2.1, a.1.1.2.2.1, a.1.1.2.2.2.1, a.1.2.1, a.1.2.2.1)) (fun a => (((a.1, (a.2.1, (a.2.2.1, (a.2.2.2.1, ())))), (a.2.2.2.2.1, (a.2.2.2.2.2, ()))), ())) (fun _ => rfl)
noncomputable def spec_l04Load.tr (a : Nat × Nat × Nat × Nat × Nat × Nat) : T Nat := spec_l04Load.t a.1 a.2.1 a.2.2.1 a.2.2.2.1 a.2.2.2.2.1 a.2.2.2.2.2
def spec_l04Load.enc : (Nat × Nat × Nat × Nat × Nat × Nat) → Nat → V := fun a r => .fl .f32 r
noncomputable def spec_l04Load.c : List V → Hp → T V := cdQ spec_l04Load.cd (fun a => .leaf (spec_l04Load.enc a (spec_l04Load a.1 a.2.1 a.2.2.1 a.2.2.2.1 a.2.2.2.2.1 a.2.2.2.2.2)))
theorem spec_l04Load.run (a : Nat × Nat × Nat × Nat × Nat × Nat) : runF spec_l04Load.C Try.f56.results.toList spec_l04Load.b (spec_l04Load.cd.enc a).1 (spec_l04Load.cd.enc a).2 = (spec_l04Load.tr a).map fun r => (spec_l04Load.enc a r, (spec_l04Load.cd.enc a).2) := by kernel_rfl
theorem spec_l04Load.cok : OKq Try.prog 56 spec_l04Load.c := con_q' spec_l04Load.cd spec_l04Load.hC Try.func56 (by kernel_rfl) (by kernel_rfl) (by kernel_rfl) spec_l04Load.lp (fun a => by kernel_rfl) spec_l04Load.run (Tells.val (tree := spec_l04Load.tr) fun a => by kernel_rfl)
/-! ### spec_l04Sum -/
noncomputable def spec_l04Sum.b : Code := bodyOf Try.f80
noncomputable def spec_l04Sum.l3.s (x0 : Nat) (x1 : Nat) (x2 : Nat) (x3 : Nat) (x4 : Int) (x5 : List Nat) : T ((Nat × Int) ⊕ Nat) :=
  .br (decide (x4 < ((x0 : Nat) : Int)))
  (.br (bounds x4 x0)
   (.br (Nat.ble ((Int.toNat x4 * 4) + 4) (List.length x5))
    (.leaf (.inl ((fadd .f32 x3 (spec_l04Load (List.getD x5 (Int.toNat x4 * 4) 0) (List.getD x5 ((Int.toNat x4 * 4) + 1) 0) (List.getD x5 (((Int.toNat x4 * 4) + 1) + 1) 0) (List.getD x5 ((((Int.toNat x4 * 4) + 1) + 1) + 1) 0) x1 x2)), (IntKind.wrap .i64 (x4 + (1 : Int))))))
    .bad)
   .bad)
  (.leaf (.inr x3))
noncomputable def spec_l04Sum.l3.st (p : Nat × Nat × Nat × List Nat) (x : Nat × Int) : T ((Nat × Int) ⊕ Nat) := spec_l04Sum.l3.s p.1 p.2.1 p.2.2.1 x.1 x.2 p.2.2.2
noncomputable def spec_l04Sum.l3.r (p : Nat × Nat × Nat × List Nat) (x : Nat × Int) : Option Nat := iterT (spec_l04Sum.l3.st p) manyRounds x
def spec_l04Sum.l3.cd : Cd ((Nat × Nat × Nat × List Nat) × (Nat × Int)) (List V × Hp) := Cd.iso (Cd.pair (Cd.cons (Cd.own 0) (Cd.cons (Cd.fl .f32) (Cd.cons (Cd.fl .f32) (Cd.cons (Cd.fl .f32) (Cd.cons (Cd.it .i64) Cd.nil))))) (Cd.cons (Cd.rw 28 4 (Cd.fs .f32)) Cd.nil)) (fun a => ((a.1.1, a.1.2.1, a.1.2.2.1, a.2.1), (a.1.2.2.2.1, a.1.2.2.2.2.1))) (fun a => ((a.1.1, (a.1.2.1, (a.1.2.2.1, (a.2.1, (a.2.2, ()))))), (a.1.2.2.2, ()))) (fun _ => rfl)
def spec_l04Sum.l3.out (p : Nat × Nat × Nat × List Nat) : Nat → X × List V × Hp := (fun r => (.ex 0, [.fl .f32 r], [some ⟨true, 28, 4, .fs .f32 p.2.2.2⟩]))
def spec_l04Sum.l3.ex (p : Nat × Nat × Nat × List Nat) : Nat → T (X × List V × Hp) := leafT (fun r => (.ex 0, [.fl .f32 r], [some ⟨true, 28, 4, .fs .f32 p.2.2.2⟩]))
noncomputable def spec_l04Sum.l3.c : List V → Hp → T (X × List V × Hp) := cdL spec_l04Sum.l3.cd fun x => optT (spec_l04Sum.l3.r x.1 x.2) (spec_l04Sum.l3.ex x.1)
noncomputable def spec_l04Sum.C : Ctx := { ty := tys, fn := [(56, .q spec_l04Load.c)], lp := [(3, ⟨[0, 1, 2, 7, 8], [7], spec_l04Sum.l3.c⟩)], n := 25, k := 1 }
theorem spec_l04Sum.hC : CtxOK Try.prog spec_l04Sum.C := CtxOK.of mo tys_ok (FnsOK.cons spec_l04Load.cok FnsOK.nil)
noncomputable def spec_l04Sum.b3 : Code := (nthC (loopsOf spec_l04Sum.b) 0)
theorem spec_l04Sum.lp3 : LpOK Try.prog spec_l04Sum.C spec_l04Sum.b3 := (LpOK.nil (by kernel_rfl))
theorem spec_l04Sum.l3.round (p : Nat × Nat × Nat × List Nat) (s : Nat × Int) : roundL spec_l04Sum.C [0, 1, 2, 7, 8] [7] spec_l04Sum.b3 (spec_l04Sum.l3.cd.enc (p, s)).1 (spec_l04Sum.l3.cd.enc (p, s)).2 = (spec_l04Sum.l3.st p s).map (encSum (fun s => spec_l04Sum.l3.cd.enc (p, s)) (spec_l04Sum.l3.out p)) := by kernel_rfl
theorem spec_l04Sum.l3.lok : LoopOK Try.prog spec_l04Sum.C ⟨[0, 1, 2, 7, 8], [7], spec_l04Sum.l3.c⟩ spec_l04Sum.b3 := loop_cd spec_l04Sum.l3.cd spec_l04Sum.hC spec_l04Sum.lp3 spec_l04Sum.l3.round fun p => Gets.leaf
theorem spec_l04Sum.lp : LpOK Try.prog spec_l04Sum.C spec_l04Sum.b := lp_of (by kernel_rfl) (LpsOK.cons (k := 3) (by kernel_rfl) (by kernel_rfl) spec_l04Sum.l3.lok LpsOK.nil)
noncomputable def spec_l04Sum.t (x0 : Nat) (x1 : Nat) (x2 : Nat) (x3 : List Nat) : T Nat :=
  .br (Option.isSome (spec_l04Sum.l3.r (x0, x1, x2, x3) (0, (0 : Int))))
  (.leaf (Option.getD (spec_l04Sum.l3.r (x0, x1, x2, x3) (0, (0 : Int))) default))
  .bad
noncomputable def spec_l04Sum (x0 : Nat) (x1 : Nat) (x2 : Nat) (x3 : List Nat) : Nat := (spec_l04Sum.t x0 x1 x2 x3).val
noncomputable def spec_l04Sum.ok (x0 : Nat) (x1 : Nat) (x2 : Nat) (x3 : List Nat) : Bool := (spec_l04Sum.t x0 x1 x2 x3).ok
def spec_l04Sum.cd : Cd (Nat × Nat × Nat × List Nat) (List V × Hp) := Cd.iso (Cd.pair (Cd.cons (Cd.own 0) (Cd.cons (Cd.fl .f32) (Cd.cons (Cd.fl .f32) Cd.nil))) (Cd.cons (Cd.rw 28 4 (Cd.fs .f32)) Cd.nil)) (fun a => (a.1.1, a.1.2.1, a.1.2.2.1, a.2.1)) (fun a => ((a.1, (a.2.1, (a.2.2.1, ()))), (a.2.2.2, ()))) (fun _ => rfl)
noncomputable def spec_l04Sum.tr (a : Nat × Nat × Nat × List Nat) : T Nat := spec_l04Sum.t a.1 a.2.1 a.2.2.1 a.2.2.2
def spec_l04Sum.enc : (Nat × Nat × Nat × List Nat) → Nat → V := fun a r => .fl .f32 r
noncomputable def spec_l04Sum.c : List V → Hp → T V := cdQ spec_l04Sum.cd (fun a => .br (spec_l04Sum.ok a.1 a.2.1 a.2.2.1 a.2.2.2) (.leaf (spec_l04Sum.enc a (spec_l04Sum a.1 a.2.1 a.2.2.1 a.2.2.2))) .bad)
theorem spec_l04Sum.run (a : Nat × Nat × Nat × List Nat) : runF spec_l04Sum.C Try.f80.results.toList spec_l04Sum.b (spec_l04Sum.cd.enc a).1 (spec_l04Sum.cd.enc a).2 = (spec_l04Sum.tr a).map fun r => (spec_l04Sum.enc a r, (spec_l04Sum.cd.enc a).2) := by kernel_rfl
theorem spec_l04Sum.cok : OKq Try.prog 80 spec_l04Sum.c := con_q' spec_l04Sum.cd spec_l04Sum.hC Try.func80 (by kernel_rfl) (by kernel_rfl) (by kernel_rfl) spec_l04Sum.lp (fun a => by kernel_rfl) spec_l04Sum.run (Tells.ok (tree := spec_l04Sum.tr))
/-! ### spec_l04Steady -/
noncomputable def spec_l04Steady.b : Code := bodyOf Try.f55
noncomputable def spec_l04Steady.l6.s (x0 : Nat) (x1 : Nat) (x2 : Nat) (x3 : Int) (x4 : Nat) (x5 : Nat) (x6 : Int) (x7 : List Nat) : T ((Nat × Nat × Int) ⊕ Nat) :=
  .br (decide (x6 < x3))
  (.br (spec_l04Sum.ok x0 (fdiv .f32 (fadd .f32 x4 x5) 1073741824) x2 x7)
   (.br (fgt .f32 (spec_l04Sum x0 (fdiv .f32 (fadd .f32 x4 x5) 1073741824) x2 x7) x1)
    (.leaf (.inl (x4, (fdiv .f32 (fadd .f32 x4 x5) 1073741824), (IntKind.wrap .i64 (x6 + (1 : Int))))))
    (.leaf (.inl ((fdiv .f32 (fadd .f32 x4 x5) 1073741824), x5, (IntKind.wrap .i64 (x6 + (1 : Int)))))))
   .bad)
  (.leaf (.inr x4))
noncomputable def spec_l04Steady.l6.st (p : Nat × Nat × Nat × Int × List Nat) (x : Nat × Nat × Int) : T ((Nat × Nat × Int) ⊕ Nat) := spec_l04Steady.l6.s p.1 p.2.1 p.2.2.1 p.2.2.2.1 x.1 x.2.1 x.2.2 p.2.2.2.2
noncomputable def spec_l04Steady.l6.r (p : Nat × Nat × Nat × Int × List Nat) (x : Nat × Nat × Int) : Option Nat := iterT (spec_l04Steady.l6.st p) manyRounds x
def spec_l04Steady.l6.cd : Cd ((Nat × Nat × Nat × Int × List Nat) × (Nat × Nat × Int)) (List V × Hp) := Cd.iso (Cd.pair (Cd.cons (Cd.own 0) (Cd.cons (Cd.fl .f32) (Cd.cons (Cd.fl .f32) (Cd.cons (Cd.it .i64) (Cd.cons (Cd.fl .f32) (Cd.cons (Cd.fl .f32) (Cd.cons (Cd.it .i64) Cd.nil))))))) (Cd.cons (Cd.rw 28 4 (Cd.fs .f32)) Cd.nil)) (fun a => ((a.1.1, a.1.2.1, a.1.2.2.1, a.1.2.2.2.1, a.2.1), (a.1.2.2.2.2.1, a.1.2.2.2.2.2.1, a.1.2.2.2.2.2.2.1))) (fun a => ((a.1.1, (a.1.2.1, (a.1.2.2.1, (a.1.2.2.2.1, (a.2.1, (a.2.2.1, (a.2.2.2, ()))))))), (a.1.2.2.2.2, ()))) (fun _ => rfl)
def spec_l04Steady.l6.out (p : Nat × Nat × Nat × Int × List Nat) : Nat → X × List V × Hp := (fun r => (.ex 0, [.fl .f32 r], [some ⟨true, 28, 4, .fs .f32 p.2.2.2.2⟩]))
def spec_l04Steady.l6.ex (p : Nat × Nat × Nat × Int × List Nat) : Nat → T (X × List V × Hp) := leafT (fun r => (.ex 0, [.fl .f32 r], [some ⟨true, 28, 4, .fs .f32 p.2.2.2.2⟩]))
noncomputable def spec_l04Steady.l6.c : List V → Hp → T (X × List V × Hp) := cdL spec_l04Steady.l6.cd fun x => optT (spec_l04Steady.l6.r x.1 x.2) (spec_l04Steady.l6.ex x.1)
noncomputable def spec_l04Steady.C : Ctx := { ty := tys, fn := [(80, .q spec_l04Sum.c)], lp := [(6, ⟨[0, 1, 2, 3, 10, 11, 12], [10], spec_l04Steady.l6.c⟩)], n := 37, k := 1 }
theorem spec_l04Steady.hC : CtxOK Try.prog spec_l04Steady.C := CtxOK.of mo tys_ok (FnsOK.cons spec_l04Sum.cok FnsOK.nil)
noncomputable def spec_l04Steady.b6 : Code := (nthC (loopsOf spec_l04Steady.b) 0)
theorem spec_l04Steady.lp6 : LpOK Try.prog spec_l04Steady.C spec_l04Steady.b6 := (LpOK.nil (by kernel_rfl))
theorem spec_l04Steady.l6.round (p : Nat × Nat × Nat × Int × List Nat) (s : Nat × Nat × Int) : roundL spec_l04Steady.C [0, 1, 2, 3, 10, 11, 12] [10] spec_l04Steady.b6 (spec_l04Steady.l6.cd.enc (p, s)).1 (spec_l04Steady.l6.cd.enc (p, s)).2 = (spec_l04Steady.l6.st p s).map (encSum (fun s => spec_l04Steady.l6.cd.enc (p, s)) (spec_l04Steady.l6.out p)) := by kernel_rfl
theorem spec_l04Steady.l6.lok : LoopOK Try.prog spec_l04Steady.C ⟨[0, 1, 2, 3, 10, 11, 12], [10], spec_l04Steady.l6.c⟩ spec_l04Steady.b6 := loop_cd spec_l04Steady.l6.cd spec_l04Steady.hC spec_l04Steady.lp6 spec_l04Steady.l6.round fun p => Gets.leaf
theorem spec_l04Steady.lp : LpOK Try.prog spec_l04Steady.C spec_l04Steady.b := lp_of (by kernel_rfl) (LpsOK.cons (k := 6) (by kernel_rfl) (by kernel_rfl) spec_l04Steady.l6.lok LpsOK.nil)
noncomputable def spec_l04Steady.t (x0 : Nat) (x1 : Nat) (x2 : Nat) (x3 : Int) (x4 : List Nat) : T (Nat × Bool) :=
  .br (spec_l04Sum.ok x0 0 x2 x4)
  (.br (fgt .f32 (spec_l04Sum x0 0 x2 x4) x1)
   (.leaf (0, false))
   (.br (Option.isSome (spec_l04Steady.l6.r (x0, x1, x2, x3, x4) (0, 1149239296, (0 : Int))))
    (.leaf ((Option.getD (spec_l04Steady.l6.r (x0, x1, x2, x3, x4) (0, 1149239296, (0 : Int))) default), true))
    .bad))
  .bad
noncomputable def spec_l04Steady (x0 : Nat) (x1 : Nat) (x2 : Nat) (x3 : Int) (x4 : List Nat) : Nat × Bool := (spec_l04Steady.t x0 x1 x2 x3 x4).val
noncomputable def spec_l04Steady.ok (x0 : Nat) (x1 : Nat) (x2 : Nat) (x3 : Int) (x4 : List Nat) : Bool := (spec_l04Steady.t x0 x1 x2 x3 x4).ok
def spec_l04Steady.cd : Cd (Nat × Nat × Nat × Int × List Nat) (List V × Hp) := Cd.iso (Cd.pair (Cd.cons (Cd.own 0) (Cd.cons (Cd.fl .f32) (Cd.cons (Cd.fl .f32) (Cd.cons (Cd.it .i64) Cd.nil)))) (Cd.cons (Cd.rw 28 4 (Cd.fs .f32)) Cd.nil)) (fun a => (a.1.1, a.1.2.1, a.1.2.2.1, a.1.2.2.2.1, a.2.1)) (fun a => ((a.1, (a.2.1, (a.2.2.1, (a.2.2.2.1, ())))), (a.2.2.2.2, ()))) (fun _ => rfl)
noncomputable def spec_l04Steady.tr (a : Nat × Nat × Nat × Int × List Nat) : T (Nat × Bool) := spec_l04Steady.t a.1 a.2.1 a.2.2.1 a.2.2.2.1 a.2.2.2.2
def spec_l04Steady.enc : (Nat × Nat × Nat × Int × List Nat) → (Nat × Bool) → V := fun a r => .tup [.fl .f32 r.1, .bo r.2]
noncomputable def spec_l04Steady.c : List V → Hp → T V := cdQ spec_l04Steady.cd (fun a => .br (spec_l04Steady.ok a.1 a.2.1 a.2.2.1 a.2.2.2.1 a.2.2.2.2) (.leaf (spec_l04Steady.enc a (spec_l04Steady a.1 a.2.1 a.2.2.1 a.2.2.2.1 a.2.2.2.2))) .bad)
theorem spec_l04Steady.run (a : Nat × Nat × Nat × Int × List Nat) : runF spec_l04Steady.C Try.f55.results.toList spec_l04Steady.b (spec_l04Steady.cd.enc a).1 (spec_l04Steady.cd.enc a).2 = (spec_l04Steady.tr a).map fun r => (spec_l04Steady.enc a r, (spec_l04Steady.cd.enc a).2) := by kernel_rfl
theorem spec_l04Steady.cok : OKq Try.prog 55 spec_l04Steady.c := con_q' spec_l04Steady.cd spec_l04Steady.hC Try.func55 (by kernel_rfl) (by kernel_rfl) (by kernel_rfl) spec_l04Steady.lp (fun a => by kernel_rfl) spec_l04Steady.run (Tells.ok (tree := spec_l04Steady.tr))
/-! ### spec_l04Flour -/
noncomputable def spec_l04Flour.b : Code := bodyOf Try.f74
noncomputable def spec_l04Flour.C : Ctx := { ty := tys, fn := [], lp := [], n := 13, k := 0 }
theorem spec_l04Flour.hC : CtxOK Try.prog spec_l04Flour.C := CtxOK.of mo tys_ok FnsOK.nil
theorem spec_l04Flour.lp : LpOK Try.prog spec_l04Flour.C spec_l04Flour.b := (LpOK.nil (by kernel_rfl))
noncomputable def spec_l04Flour.t (x0 : Nat) (x1 : Nat) (x2 : Nat) (x3 : Nat) (x4 : Nat) (x5 : Nat) : T Nat :=
  .leaf (fmul .f32 (fmul .f32 x4 x5) x3)
noncomputable def spec_l04Flour (x0 : Nat) (x1 : Nat) (x2 : Nat) (x3 : Nat) (x4 : Nat) (x5 : Nat) : Nat := (spec_l04Flour.t x0 x1 x2 x3 x4 x5).val
def spec_l04Flour.cd : Cd (Nat × Nat × Nat × Nat × Nat × Nat) (List V × Hp) := Cd.iso (Cd.pair (Cd.cons (Cd.agg (Cd.cons (Cd.fl .f32) (Cd.cons (Cd.fl .f32) (Cd.cons (Cd.fl .f32) (Cd.cons (Cd.fl .f32) Cd.nil))))) (Cd.cons (Cd.fl .f32) (Cd.cons (Cd.fl .f32) Cd.nil))) Cd.nil) (fun a => (a.1.1.1, a.1.1.2.1, a.1.1.2.2.1, a.1.1.2.2.2.1, a.1.2.1, a.1.2.2.1)) (fun a => (((a.1, (a.2.1, (a.2.2.1, (a.2.2.2.1, ())))), (a.2.2.2.2.1, (a.2.2.2.2.2, ()))), ())) (fun _ => rfl)
noncomputable def spec_l04Flour.tr (a : Nat × Nat × Nat × Nat × Nat × Nat) : T Nat := spec_l04Flour.t a.1 a.2.1 a.2.2.1 a.2.2.2.1 a.2.2.2.2.1 a.2.2.2.2.2
def spec_l04Flour.enc : (Nat × Nat × Nat × Nat × Nat × Nat) → Nat → V := fun a r => .fl .f32 r
noncomputable def spec_l04Flour.c : List V → Hp → T V := cdQ spec_l04Flour.cd (fun a => .leaf (spec_l04Flour.enc a (spec_l04Flour a.1 a.2.1 a.2.2.1 a.2.2.2.1 a.2.2.2.2.1 a.2.2.2.2.2)))
theorem spec_l04Flour.run (a : Nat × Nat × Nat × Nat × Nat × Nat) : runF spec_l04Flour.C Try.f74.results.toList spec_l04Flour.b (spec_l04Flour.cd.enc a).1 (spec_l04Flour.cd.enc a).2 = (spec_l04Flour.tr a).map fun r => (spec_l04Flour.enc a r, (spec_l04Flour.cd.enc a).2) := by kernel_rfl
theorem spec_l04Flour.cok : OKq Try.prog 74 spec_l04Flour.c := con_q' spec_l04Flour.cd spec_l04Flour.hC Try.func74 (by kernel_rfl) (by kernel_rfl) (by kernel_rfl) spec_l04Flour.lp (fun a => by kernel_rfl) spec_l04Flour.run (Tells.val (tree := spec_l04Flour.tr) fun a => by kernel_rfl)
/-! ### spec_l03Least -/
noncomputable def spec_l03Least.b : Code := bodyOf Try.f94
noncomputable def spec_l03Least.C : Ctx := { ty := tys, fn := [], lp := [], n := 6, k := 0 }
theorem spec_l03Least.hC : CtxOK Try.prog spec_l03Least.C := CtxOK.of mo tys_ok FnsOK.nil
theorem spec_l03Least.lp : LpOK Try.prog spec_l03Least.C spec_l03Least.b := (LpOK.nil (by kernel_rfl))
noncomputable def spec_l03Least.t (x0 : Nat) : T Nat :=
  .br (fgt .f32 x0 0)
  (.leaf x0)
  (.leaf 0)
noncomputable def spec_l03Least (x0 : Nat) : Nat := (spec_l03Least.t x0).val
def spec_l03Least.cd : Cd Nat (List V × Hp) := Cd.iso (Cd.pair (Cd.cons (Cd.fl .f32) Cd.nil) Cd.nil) (fun a => a.1.1) (fun a => ((a, ()), ())) (fun _ => rfl)
noncomputable def spec_l03Least.tr (a : Nat) : T Nat := spec_l03Least.t a
def spec_l03Least.enc : Nat → Nat → V := fun a r => .fl .f32 r
noncomputable def spec_l03Least.c : List V → Hp → T V := cdQ spec_l03Least.cd (fun a => .leaf (spec_l03Least.enc a (spec_l03Least a)))
theorem spec_l03Least.run (a : Nat) : runF spec_l03Least.C Try.f94.results.toList spec_l03Least.b (spec_l03Least.cd.enc a).1 (spec_l03Least.cd.enc a).2 = (spec_l03Least.tr a).map fun r => (spec_l03Least.enc a r, (spec_l03Least.cd.enc a).2) := by kernel_rfl
theorem spec_l03Least.cok : OKq Try.prog 94 spec_l03Least.c := con_q' spec_l03Least.cd spec_l03Least.hC Try.func94 (by kernel_rfl) (by kernel_rfl) (by kernel_rfl) spec_l03Least.lp (fun a => by kernel_rfl) spec_l03Least.run (Tells.val (tree := spec_l03Least.tr) fun a => by kernel_rfl)
/-! ### spec_l04Dulled -/
noncomputable def spec_l04Dulled.b : Code := bodyOf Try.f75
noncomputable def spec_l04Dulled.C : Ctx := { ty := tys, fn := [(94, .q spec_l03Least.c)], lp := [], n := 16, k := 0 }
theorem spec_l04Dulled.hC : CtxOK Try.prog spec_l04Dulled.C := CtxOK.of mo tys_ok (FnsOK.cons spec_l03Least.cok FnsOK.nil)
theorem spec_l04Dulled.lp : LpOK Try.prog spec_l04Dulled.C spec_l04Dulled.b := (LpOK.nil (by kernel_rfl))
noncomputable def spec_l04Dulled.t (x0 : Nat) (x1 : Nat) (x2 : Nat) (x3 : Nat) (x4 : Nat) : T (Nat × Nat × Nat × Nat) :=
  .leaf (x0, x1, x2, (spec_l03Least (fsub .f32 x3 (fmul .f32 x3 (fdiv .f32 x4 1166016512)))))
noncomputable def spec_l04Dulled (x0 : Nat) (x1 : Nat) (x2 : Nat) (x3 : Nat) (x4 : Nat) : Nat × Nat × Nat × Nat := (spec_l04Dulled.t x0 x1 x2 x3 x4).val
def spec_l04Dulled.cd : Cd (Nat × Nat × Nat × Nat × Nat) (List V × Hp) := Cd.iso (Cd.pair (Cd.cons (Cd.agg (Cd.cons (Cd.fl .f32) (Cd.cons (Cd.fl .f32) (Cd.cons (Cd.fl .f32) (Cd.cons (Cd.fl .f32) Cd.nil))))) (Cd.cons (Cd.fl .f32) Cd.nil)) Cd.nil) (fun a => (a.1.1.1, a.1.1.2.1, a.1.1.2.2.1, a.1.1.2.2.2.1, a.1.2.1)) (fun a => (((a.1, (a.2.1, (a.2.2.1, (a.2.2.2.1, ())))), (a.2.2.2.2, ())), ())) (fun _ => rfl)
noncomputable def spec_l04Dulled.tr (a : Nat × Nat × Nat × Nat × Nat) : T (Nat × Nat × Nat × Nat) := spec_l04Dulled.t a.1 a.2.1 a.2.2.1 a.2.2.2.1 a.2.2.2.2
def spec_l04Dulled.enc : (Nat × Nat × Nat × Nat × Nat) → (Nat × Nat × Nat × Nat) → V := fun a r => .agg [.fl .f32 r.1, .fl .f32 r.2.1, .fl .f32 r.2.2.1, .fl .f32 r.2.2.2]
noncomputable def spec_l04Dulled.c : List V → Hp → T V := cdQ spec_l04Dulled.cd (fun a => .leaf (spec_l04Dulled.enc a (spec_l04Dulled a.1 a.2.1 a.2.2.1 a.2.2.2.1 a.2.2.2.2)))
theorem spec_l04Dulled.run (a : Nat × Nat × Nat × Nat × Nat) : runF spec_l04Dulled.C Try.f75.results.toList spec_l04Dulled.b (spec_l04Dulled.cd.enc a).1 (spec_l04Dulled.cd.enc a).2 = (spec_l04Dulled.tr a).map fun r => (spec_l04Dulled.enc a r, (spec_l04Dulled.cd.enc a).2) := by kernel_rfl
theorem spec_l04Dulled.cok : OKq Try.prog 75 spec_l04Dulled.c := con_q' spec_l04Dulled.cd spec_l04Dulled.hC Try.func75 (by kernel_rfl) (by kernel_rfl) (by kernel_rfl) spec_l04Dulled.lp (fun a => by kernel_rfl) spec_l04Dulled.run (Tells.val (tree := spec_l04Dulled.tr) fun a => by kernel_rfl)
/-! ### spec_l04Hour -/
noncomputable def spec_l04Hour.b : Code := bodyOf Try.f48
noncomputable def spec_l04Hour.C : Ctx := { ty := tys, fn := [(55, .q spec_l04Steady.c), (74, .q spec_l04Flour.c), (75, .q spec_l04Dulled.c)], lp := [], n := 32, k := 0 }
theorem spec_l04Hour.hC : CtxOK Try.prog spec_l04Hour.C := CtxOK.of mo tys_ok (FnsOK.cons spec_l04Steady.cok (FnsOK.cons spec_l04Flour.cok (FnsOK.cons spec_l04Dulled.cok FnsOK.nil)))
theorem spec_l04Hour.lp : LpOK Try.prog spec_l04Hour.C spec_l04Hour.b := (LpOK.nil (by kernel_rfl))
noncomputable def spec_l04Hour.t (x0 : Nat) (x1 : Nat) (x2 : Nat) (x3 : Nat) (x4 : Nat) (x5 : Nat) : T (Nat × Nat × Nat × Nat × Nat) :=
  .br (spec_l04Steady.ok 1 x4 x5 (40 : Int) [x0, x1, x2, x3])
  (.br (!(spec_l04Steady 1 x4 x5 (40 : Int) [x0, x1, x2, x3]).2)
   (.leaf (x0, x1, x2, x3, 0))
   (.br (fgt .f32 (spec_l04Flour x0 x1 x2 x3 ((spec_l04Steady 1 x4 x5 (40 : Int) [x0, x1, x2, x3]).1) x5) 1233125376)
    (.leaf ((spec_l04Dulled x0 x1 x2 x3 1233125376).1, (spec_l04Dulled x0 x1 x2 x3 1233125376).2.1, (spec_l04Dulled x0 x1 x2 x3 1233125376).2.2.1, (spec_l04Dulled x0 x1 x2 x3 1233125376).2.2.2, 1233125376))
    (.leaf ((spec_l04Dulled x0 x1 x2 x3 (spec_l04Flour x0 x1 x2 x3 ((spec_l04Steady 1 x4 x5 (40 : Int) [x0, x1, x2, x3]).1) x5)).1, (spec_l04Dulled x0 x1 x2 x3 (spec_l04Flour x0 x1 x2 x3 ((spec_l04Steady 1 x4 x5 (40 : Int) [x0, x1, x2, x3]).1) x5)).2.1, (spec_l04Dulled x0 x1 x2 x3 (spec_l04Flour x0 x1 x2 x3 ((spec_l04Steady 1 x4 x5 (40 : Int) [x0, x1, x2, x3]).1) x5)).2.2.1, (spec_l04Dulled x0 x1 x2 x3 (spec_l04Flour x0 x1 x2 x3 ((spec_l04Steady 1 x4 x5 (40 : Int) [x0, x1, x2, x3]).1) x5)).2.2.2, (spec_l04Flour x0 x1 x2 x3 ((spec_l04Steady 1 x4 x5 (40 : Int) [x0, x1, x2, x3]).1) x5)))))
  .bad
noncomputable def spec_l04Hour (x0 : Nat) (x1 : Nat) (x2 : Nat) (x3 : Nat) (x4 : Nat) (x5 : Nat) : Nat × Nat × Nat × Nat × Nat := (spec_l04Hour.t x0 x1 x2 x3 x4 x5).val
noncomputable def spec_l04Hour.ok (x0 : Nat) (x1 : Nat) (x2 : Nat) (x3 : Nat) (x4 : Nat) (x5 : Nat) : Bool := (spec_l04Hour.t x0 x1 x2 x3 x4 x5).ok
def spec_l04Hour.cd : Cd (Nat × Nat × Nat × Nat × Nat × Nat) (List V × Hp) := Cd.iso (Cd.pair (Cd.cons (Cd.agg (Cd.cons (Cd.fl .f32) (Cd.cons (Cd.fl .f32) (Cd.cons (Cd.fl .f32) (Cd.cons (Cd.fl .f32) Cd.nil))))) (Cd.cons (Cd.fl .f32) (Cd.cons (Cd.fl .f32) Cd.nil))) Cd.nil) (fun a => (a.1.1.1, a.1.1.2.1, a.1.1.2.2.1, a.1.1.2.2.2.1, a.1.2.1, a.1.2.2.1)) (fun a => (((a.1, (a.2.1, (a.2.2.1, (a.2.2.2.1, ())))), (a.2.2.2.2.1, (a.2.2.2.2.2, ()))), ())) (fun _ => rfl)
noncomputable def spec_l04Hour.tr (a : Nat × Nat × Nat × Nat × Nat × Nat) : T (Nat × Nat × Nat × Nat × Nat) := spec_l04Hour.t a.1 a.2.1 a.2.2.1 a.2.2.2.1 a.2.2.2.2.1 a.2.2.2.2.2
def spec_l04Hour.enc : (Nat × Nat × Nat × Nat × Nat × Nat) → (Nat × Nat × Nat × Nat × Nat) → V := fun a r => .tup [.agg [.fl .f32 r.1, .fl .f32 r.2.1, .fl .f32 r.2.2.1, .fl .f32 r.2.2.2.1], .fl .f32 r.2.2.2.2]
noncomputable def spec_l04Hour.c : List V → Hp → T V := cdQ spec_l04Hour.cd (fun a => .br (spec_l04Hour.ok a.1 a.2.1 a.2.2.1 a.2.2.2.1 a.2.2.2.2.1 a.2.2.2.2.2) (.leaf (spec_l04Hour.enc a (spec_l04Hour a.1 a.2.1 a.2.2.1 a.2.2.2.1 a.2.2.2.2.1 a.2.2.2.2.2))) .bad)
theorem spec_l04Hour.run (a : Nat × Nat × Nat × Nat × Nat × Nat) : runF spec_l04Hour.C Try.f48.results.toList spec_l04Hour.b (spec_l04Hour.cd.enc a).1 (spec_l04Hour.cd.enc a).2 = (spec_l04Hour.tr a).map fun r => (spec_l04Hour.enc a r, (spec_l04Hour.cd.enc a).2) := by kernel_rfl
theorem spec_l04Hour.cok : OKq Try.prog 48 spec_l04Hour.c := con_q' spec_l04Hour.cd spec_l04Hour.hC Try.func48 (by kernel_rfl) (by kernel_rfl) (by kernel_rfl) spec_l04Hour.lp (fun a => by kernel_rfl) spec_l04Hour.run (Tells.ok (tree := spec_l04Hour.tr))
/-! ### spec_BestFeed -/
noncomputable def spec_BestFeed.b : Code := bodyOf Try.f9
noncomputable def spec_BestFeed.l5.s (x0 : Nat) (x1 : Nat) (x2 : Bool) (x3 : Int) (x4 : List Nat) (x5 : Nat) (x6 : Nat) (x7 : Nat) (x8 : Nat) : T ((Bool × Int) ⊕ Bool) :=
  .br (decide (x3 < ((x1 : Nat) : Int)))
  (.br x2
   (.br (bounds x3 x1)
    (.br (Nat.ble ((Int.toNat x3 * 1) + 1) (List.length x4))
     (.leaf (.inl ((spec_l04Rate (List.getD x4 (Int.toNat x3 * 1) 0)), (IntKind.wrap .i64 (x3 + (1 : Int))))))
     .bad)
    .bad)
   (.leaf (.inl (false, (IntKind.wrap .i64 (x3 + (1 : Int)))))))
  (.leaf (.inr x2))
noncomputable def spec_BestFeed.l5.st (p : Nat × Nat × List Nat × Nat × Nat × Nat × Nat) (x : Bool × Int) : T ((Bool × Int) ⊕ Bool) := spec_BestFeed.l5.s p.1 p.2.1 x.1 x.2 p.2.2.1 p.2.2.2.1 p.2.2.2.2.1 p.2.2.2.2.2.1 p.2.2.2.2.2.2
noncomputable def spec_BestFeed.l5.r (p : Nat × Nat × List Nat × Nat × Nat × Nat × Nat) (x : Bool × Int) : Option Bool := iterT (spec_BestFeed.l5.st p) manyRounds x
def spec_BestFeed.l5.cd : Cd ((Nat × Nat × List Nat × Nat × Nat × Nat × Nat) × (Bool × Int)) (List V × Hp) := Cd.iso (Cd.pair (Cd.cons (Cd.fl .f32) (Cd.cons (Cd.own 0) (Cd.cons (Cd.pt 1 (Cd.natc 0)) (Cd.cons Cd.bo (Cd.cons (Cd.it .i64) Cd.nil))))) (Cd.cons (Cd.rw 22 1 (Cd.fs .f32)) (Cd.cons (Cd.rw 28 4 (Cd.vs (Cd.cons (Cd.fl .f32) (Cd.cons (Cd.fl .f32) (Cd.cons (Cd.fl .f32) (Cd.cons (Cd.fl .f32) Cd.nil)))))) Cd.nil))) (fun a => ((a.1.1, a.1.2.1, a.2.1, a.2.2.1.1, a.2.2.1.2.1, a.2.2.1.2.2.1, a.2.2.1.2.2.2.1), (a.1.2.2.2.1, a.1.2.2.2.2.1))) (fun a => ((a.1.1, (a.1.2.1, ((), (a.2.1, (a.2.2, ()))))), (a.1.2.2.1, ((a.1.2.2.2.1, (a.1.2.2.2.2.1, (a.1.2.2.2.2.2.1, (a.1.2.2.2.2.2.2, ())))), ())))) (fun _ => rfl)
def spec_BestFeed.l5.out (p : Nat × Nat × List Nat × Nat × Nat × Nat × Nat) : Bool → X × List V × Hp := (fun r => (.ex 0, [.fl .f32 p.1, .own 0 p.2.1, .pt 1 0, .bo r], [some ⟨true, 22, 1, .fs .f32 p.2.2.1⟩, some ⟨true, 28, 4, .vs [.fl .f32 p.2.2.2.1, .fl .f32 p.2.2.2.2.1, .fl .f32 p.2.2.2.2.2.1, .fl .f32 p.2.2.2.2.2.2]⟩]))
def spec_BestFeed.l5.ex (p : Nat × Nat × List Nat × Nat × Nat × Nat × Nat) : Bool → T (X × List V × Hp) := leafT (fun r => (.ex 0, [.fl .f32 p.1, .own 0 p.2.1, .pt 1 0, .bo r], [some ⟨true, 22, 1, .fs .f32 p.2.2.1⟩, some ⟨true, 28, 4, .vs [.fl .f32 p.2.2.2.1, .fl .f32 p.2.2.2.2.1, .fl .f32 p.2.2.2.2.2.1, .fl .f32 p.2.2.2.2.2.2]⟩]))
noncomputable def spec_BestFeed.l5.c : List V → Hp → T (X × List V × Hp) := cdL spec_BestFeed.l5.cd fun x => optT (spec_BestFeed.l5.r x.1 x.2) (spec_BestFeed.l5.ex x.1)
noncomputable def spec_BestFeed.l17.s (x0 : Nat) (x1 : Nat) (x2 : Int) (x3 : Nat) (x4 : Int) (x5 : List Nat) (x6 : Nat) (x7 : Nat) (x8 : Nat) (x9 : Nat) : T ((Int × Nat × Int) ⊕ (Int × Nat)) :=
  .br (decide (x4 < ((x1 : Nat) : Int)))
  (.br (bounds x4 x1)
   (.br (Nat.ble ((Int.toNat x4 * 1) + 1) (List.length x5))
    (.br (spec_l04Hour.ok x6 x7 x8 x9 x0 (List.getD x5 (Int.toNat x4 * 1) 0))
     (.br (fgt .f32 (spec_l04Hour x6 x7 x8 x9 x0 (List.getD x5 (Int.toNat x4 * 1) 0)).2.2.2.2 x3)
      (.leaf (.inl (x4, (spec_l04Hour x6 x7 x8 x9 x0 (List.getD x5 (Int.toNat x4 * 1) 0)).2.2.2.2, (IntKind.wrap .i64 (x4 + (1 : Int))))))
      (.leaf (.inl (x2, x3, (IntKind.wrap .i64 (x4 + (1 : Int)))))))
     .bad)
    .bad)
   .bad)
  (.leaf (.inr (x2, x3)))
noncomputable def spec_BestFeed.l17.st (p : Nat × Nat × List Nat × Nat × Nat × Nat × Nat) (x : Int × Nat × Int) : T ((Int × Nat × Int) ⊕ (Int × Nat)) := spec_BestFeed.l17.s p.1 p.2.1 x.1 x.2.1 x.2.2 p.2.2.1 p.2.2.2.1 p.2.2.2.2.1 p.2.2.2.2.2.1 p.2.2.2.2.2.2
noncomputable def spec_BestFeed.l17.r (p : Nat × Nat × List Nat × Nat × Nat × Nat × Nat) (x : Int × Nat × Int) : Option (Int × Nat) := iterT (spec_BestFeed.l17.st p) manyRounds x
def spec_BestFeed.l17.cd : Cd ((Nat × Nat × List Nat × Nat × Nat × Nat × Nat) × (Int × Nat × Int)) (List V × Hp) := Cd.iso (Cd.pair (Cd.cons (Cd.fl .f32) (Cd.cons (Cd.own 0) (Cd.cons (Cd.pt 1 (Cd.natc 0)) (Cd.cons (Cd.it .i64) (Cd.cons (Cd.fl .f32) (Cd.cons (Cd.it .i64) Cd.nil)))))) (Cd.cons (Cd.rw 22 1 (Cd.fs .f32)) (Cd.cons (Cd.rw 28 4 (Cd.vs (Cd.cons (Cd.fl .f32) (Cd.cons (Cd.fl .f32) (Cd.cons (Cd.fl .f32) (Cd.cons (Cd.fl .f32) Cd.nil)))))) Cd.nil))) (fun a => ((a.1.1, a.1.2.1, a.2.1, a.2.2.1.1, a.2.2.1.2.1, a.2.2.1.2.2.1, a.2.2.1.2.2.2.1), (a.1.2.2.2.1, a.1.2.2.2.2.1, a.1.2.2.2.2.2.1))) (fun a => ((a.1.1, (a.1.2.1, ((), (a.2.1, (a.2.2.1, (a.2.2.2, ())))))), (a.1.2.2.1, ((a.1.2.2.2.1, (a.1.2.2.2.2.1, (a.1.2.2.2.2.2.1, (a.1.2.2.2.2.2.2, ())))), ())))) (fun _ => rfl)
def spec_BestFeed.l17.out (p : Nat × Nat × List Nat × Nat × Nat × Nat × Nat) : (Int × Nat) → X × List V × Hp := (fun r => (.ex 2, [.it .i64 r.1, .fl .f32 r.2], [some ⟨true, 22, 1, .fs .f32 p.2.2.1⟩]))
def spec_BestFeed.l17.ex (p : Nat × Nat × List Nat × Nat × Nat × Nat × Nat) : (Int × Nat) → T (X × List V × Hp) := leafT (fun r => (.ex 2, [.it .i64 r.1, .fl .f32 r.2], [some ⟨true, 22, 1, .fs .f32 p.2.2.1⟩]))
noncomputable def spec_BestFeed.l17.c : List V → Hp → T (X × List V × Hp) := cdL spec_BestFeed.l17.cd fun x => optT (spec_BestFeed.l17.r x.1 x.2) (spec_BestFeed.l17.ex x.1)
noncomputable def spec_BestFeed.C : Ctx := { ty := tys, fn := [(45, .q spec_l04Ok.c), (46, .q spec_l03Amount.c), (47, .q spec_l04Rate.c), (48, .q spec_l04Hour.c)], lp := [(5, ⟨[1, 2, 3, 9, 10], [1, 2, 3, 9], spec_BestFeed.l5.c⟩), (17, ⟨[1, 2, 3, 11, 13, 14], [11, 13], spec_BestFeed.l17.c⟩)], n := 76, k := 1 }
theorem spec_BestFeed.hC : CtxOK Try.prog spec_BestFeed.C := CtxOK.of mo tys_ok (FnsOK.cons spec_l04Ok.cok (FnsOK.cons spec_l03Amount.cok (FnsOK.cons spec_l04Rate.cok (FnsOK.cons spec_l04Hour.cok FnsOK.nil))))
noncomputable def spec_BestFeed.b5 : Code := (nthC (loopsOf spec_BestFeed.b) 0)
theorem spec_BestFeed.lp5 : LpOK Try.prog spec_BestFeed.C spec_BestFeed.b5 := (LpOK.nil (by kernel_rfl))
theorem spec_BestFeed.l5.round (p : Nat × Nat × List Nat × Nat × Nat × Nat × Nat) (s : Bool × Int) : roundL spec_BestFeed.C [1, 2, 3, 9, 10] [1, 2, 3, 9] spec_BestFeed.b5 (spec_BestFeed.l5.cd.enc (p, s)).1 (spec_BestFeed.l5.cd.enc (p, s)).2 = (spec_BestFeed.l5.st p s).map (encSum (fun s => spec_BestFeed.l5.cd.enc (p, s)) (spec_BestFeed.l5.out p)) := by kernel_rfl
theorem spec_BestFeed.l5.lok : LoopOK Try.prog spec_BestFeed.C ⟨[1, 2, 3, 9, 10], [1, 2, 3, 9], spec_BestFeed.l5.c⟩ spec_BestFeed.b5 := loop_cd spec_BestFeed.l5.cd spec_BestFeed.hC spec_BestFeed.lp5 spec_BestFeed.l5.round fun p => Gets.leaf
noncomputable def spec_BestFeed.b17 : Code := (nthC (loopsOf spec_BestFeed.b) 1)
theorem spec_BestFeed.lp17 : LpOK Try.prog spec_BestFeed.C spec_BestFeed.b17 := (LpOK.nil (by kernel_rfl))
theorem spec_BestFeed.l17.round (p : Nat × Nat × List Nat × Nat × Nat × Nat × Nat) (s : Int × Nat × Int) : roundL spec_BestFeed.C [1, 2, 3, 11, 13, 14] [11, 13] spec_BestFeed.b17 (spec_BestFeed.l17.cd.enc (p, s)).1 (spec_BestFeed.l17.cd.enc (p, s)).2 = (spec_BestFeed.l17.st p s).map (encSum (fun s => spec_BestFeed.l17.cd.enc (p, s)) (spec_BestFeed.l17.out p)) := by kernel_rfl
theorem spec_BestFeed.l17.lok : LoopOK Try.prog spec_BestFeed.C ⟨[1, 2, 3, 11, 13, 14], [11, 13], spec_BestFeed.l17.c⟩ spec_BestFeed.b17 := loop_cd spec_BestFeed.l17.cd spec_BestFeed.hC spec_BestFeed.lp17 spec_BestFeed.l17.round fun p => Gets.leaf
theorem spec_BestFeed.lp : LpOK Try.prog spec_BestFeed.C spec_BestFeed.b := lp_of (by kernel_rfl) (LpsOK.cons (k := 5) (by kernel_rfl) (by kernel_rfl) spec_BestFeed.l5.lok (LpsOK.cons (k := 17) (by kernel_rfl) (by kernel_rfl) spec_BestFeed.l17.lok LpsOK.nil))
noncomputable def spec_BestFeed.t (x0 : Nat) (x1 : Nat) (x2 : Nat) (x3 : Nat) (x4 : Nat) (x5 : Nat) (x6 : List Nat) : T (Int × Nat × Int) :=
  .br (!(spec_l04Ok x0 x1 x2 x3))
  (.leaf ((0 : Int), 0, (1 : Int)))
  (.br (Option.isSome (spec_BestFeed.l5.r (x4, x5, x6, x0, x1, x2, x3) ((spec_l03Amount x4), (0 : Int))))
   (.br (!(Option.getD (spec_BestFeed.l5.r (x4, x5, x6, x0, x1, x2, x3) ((spec_l03Amount x4), (0 : Int))) default))
    (.leaf ((0 : Int), 0, (2 : Int)))
    (.br (decide (((x5 : Nat) : Int) > (60 : Int)))
     (.leaf ((0 : Int), 0, (3 : Int)))
     (.br (((x5 : Nat) : Int) == (0 : Int))
      (.leaf ((0 : Int), 0, (6 : Int)))
      (.br (bounds (0 : Int) x5)
       (.br (Nat.ble 1 (List.length x6))
        (.br (spec_l04Hour.ok x0 x1 x2 x3 x4 (List.getD x6 0 0))
         (.br (Option.isSome (spec_BestFeed.l17.r (x4, x5, x6, x0, x1, x2, x3) ((0 : Int), (spec_l04Hour x0 x1 x2 x3 x4 (List.getD x6 0 0)).2.2.2.2, (1 : Int))))
          (.leaf ((Option.getD (spec_BestFeed.l17.r (x4, x5, x6, x0, x1, x2, x3) ((0 : Int), (spec_l04Hour x0 x1 x2 x3 x4 (List.getD x6 0 0)).2.2.2.2, (1 : Int))) default).1, (Option.getD (spec_BestFeed.l17.r (x4, x5, x6, x0, x1, x2, x3) ((0 : Int), (spec_l04Hour x0 x1 x2 x3 x4 (List.getD x6 0 0)).2.2.2.2, (1 : Int))) default).2, (0 : Int)))
          .bad)
         .bad)
        .bad)
       .bad))))
   .bad)
noncomputable def spec_BestFeed (x0 : Nat) (x1 : Nat) (x2 : Nat) (x3 : Nat) (x4 : Nat) (x5 : Nat) (x6 : List Nat) : Int × Nat × Int := (spec_BestFeed.t x0 x1 x2 x3 x4 x5 x6).val
noncomputable def spec_BestFeed.ok (x0 : Nat) (x1 : Nat) (x2 : Nat) (x3 : Nat) (x4 : Nat) (x5 : Nat) (x6 : List Nat) : Bool := (spec_BestFeed.t x0 x1 x2 x3 x4 x5 x6).ok
def spec_BestFeed.cd : Cd (Nat × Nat × Nat × Nat × Nat × Nat × List Nat) (List V × Hp) := Cd.iso (Cd.pair (Cd.cons (Cd.agg (Cd.cons (Cd.fl .f32) (Cd.cons (Cd.fl .f32) (Cd.cons (Cd.fl .f32) (Cd.cons (Cd.fl .f32) Cd.nil))))) (Cd.cons (Cd.fl .f32) (Cd.cons (Cd.own 0) Cd.nil))) (Cd.cons (Cd.rw 22 1 (Cd.fs .f32)) Cd.nil)) (fun a => (a.1.1.1, a.1.1.2.1, a.1.1.2.2.1, a.1.1.2.2.2.1, a.1.2.1, a.1.2.2.1, a.2.1)) (fun a => (((a.1, (a.2.1, (a.2.2.1, (a.2.2.2.1, ())))), (a.2.2.2.2.1, (a.2.2.2.2.2.1, ()))), (a.2.2.2.2.2.2, ()))) (fun _ => rfl)
noncomputable def spec_BestFeed.tr (a : Nat × Nat × Nat × Nat × Nat × Nat × List Nat) : T (Int × Nat × Int) := spec_BestFeed.t a.1 a.2.1 a.2.2.1 a.2.2.2.1 a.2.2.2.2.1 a.2.2.2.2.2.1 a.2.2.2.2.2.2
def spec_BestFeed.enc : (Nat × Nat × Nat × Nat × Nat × Nat × List Nat) → (Int × Nat × Int) → V := fun a r => .tup [.it .i64 r.1, .fl .f32 r.2.1, .it .i64 r.2.2]
noncomputable def spec_BestFeed.c : List V → Hp → T V := cdQ spec_BestFeed.cd (fun a => .br (spec_BestFeed.ok a.1 a.2.1 a.2.2.1 a.2.2.2.1 a.2.2.2.2.1 a.2.2.2.2.2.1 a.2.2.2.2.2.2) (.leaf (spec_BestFeed.enc a (spec_BestFeed a.1 a.2.1 a.2.2.1 a.2.2.2.1 a.2.2.2.2.1 a.2.2.2.2.2.1 a.2.2.2.2.2.2))) .bad)
theorem spec_BestFeed.run (a : Nat × Nat × Nat × Nat × Nat × Nat × List Nat) : runF spec_BestFeed.C Try.f9.results.toList spec_BestFeed.b (spec_BestFeed.cd.enc a).1 (spec_BestFeed.cd.enc a).2 = (spec_BestFeed.tr a).map fun r => (spec_BestFeed.enc a r, (spec_BestFeed.cd.enc a).2) := by kernel_rfl
theorem spec_BestFeed.cok : OKq Try.prog 9 spec_BestFeed.c := con_q' spec_BestFeed.cd spec_BestFeed.hC Try.func9 (by kernel_rfl) (by kernel_rfl) (by kernel_rfl) spec_BestFeed.lp (fun a => by kernel_rfl) spec_BestFeed.run (Tells.ok (tree := spec_BestFeed.tr))
/-! ### impl_between -/
noncomputable def impl_between.b : Code := bodyOf Try.f76
noncomputable def impl_between.C : Ctx := { ty := tys, fn := [], lp := [], n := 15, k := 0 }
theorem impl_between.hC : CtxOK Try.prog impl_between.C := CtxOK.of mo tys_ok FnsOK.nil
theorem impl_between.lp : LpOK Try.prog impl_between.C impl_between.b := (LpOK.nil (by kernel_rfl))
noncomputable def impl_between.t (x0 : Nat) (x1 : Nat) (x2 : Nat) : T Bool :=
  .br (fle .f32 x1 x0)
  (.leaf (fle .f32 x0 x2))
  (.leaf false)
noncomputable def impl_between (x0 : Nat) (x1 : Nat) (x2 : Nat) : Bool := (impl_between.t x0 x1 x2).val
def impl_between.cd : Cd (Nat × Nat × Nat) (List V × Hp) := Cd.iso (Cd.pair (Cd.cons (Cd.fl .f32) (Cd.cons (Cd.fl .f32) (Cd.cons (Cd.fl .f32) Cd.nil))) Cd.nil) (fun a => (a.1.1, a.1.2.1, a.1.2.2.1)) (fun a => ((a.1, (a.2.1, (a.2.2, ()))), ())) (fun _ => rfl)
noncomputable def impl_between.tr (a : Nat × Nat × Nat) : T Bool := impl_between.t a.1 a.2.1 a.2.2
def impl_between.enc : (Nat × Nat × Nat) → Bool → V := fun a r => .bo r
noncomputable def impl_between.c : List V → Hp → T V := cdQ impl_between.cd (fun a => .leaf (impl_between.enc a (impl_between a.1 a.2.1 a.2.2)))
theorem impl_between.run (a : Nat × Nat × Nat) : runF impl_between.C Try.f76.results.toList impl_between.b (impl_between.cd.enc a).1 (impl_between.cd.enc a).2 = (impl_between.tr a).map fun r => (impl_between.enc a r, (impl_between.cd.enc a).2) := by kernel_rfl
theorem impl_between.cok : OKq Try.prog 76 impl_between.c := con_q' impl_between.cd impl_between.hC Try.func76 (by kernel_rfl) (by kernel_rfl) (by kernel_rfl) impl_between.lp (fun a => by kernel_rfl) impl_between.run (Tells.val (tree := impl_between.tr) fun a => by kernel_rfl)
/-! ### impl_isAmount -/
noncomputable def impl_isAmount.b : Code := bodyOf Try.f50
noncomputable def impl_isAmount.C : Ctx := { ty := tys, fn := [(76, .q impl_between.c)], lp := [], n := 5, k := 0 }
theorem impl_isAmount.hC : CtxOK Try.prog impl_isAmount.C := CtxOK.of mo tys_ok (FnsOK.cons impl_between.cok FnsOK.nil)
theorem impl_isAmount.lp : LpOK Try.prog impl_isAmount.C impl_isAmount.b := (LpOK.nil (by kernel_rfl))
noncomputable def impl_isAmount.t (x0 : Nat) : T Bool :=
  .leaf (impl_between x0 0 1233125376)
noncomputable def impl_isAmount (x0 : Nat) : Bool := (impl_isAmount.t x0).val
def impl_isAmount.cd : Cd Nat (List V × Hp) := Cd.iso (Cd.pair (Cd.cons (Cd.fl .f32) Cd.nil) Cd.nil) (fun a => a.1.1) (fun a => ((a, ()), ())) (fun _ => rfl)
noncomputable def impl_isAmount.tr (a : Nat) : T Bool := impl_isAmount.t a
def impl_isAmount.enc : Nat → Bool → V := fun a r => .bo r
noncomputable def impl_isAmount.c : List V → Hp → T V := cdQ impl_isAmount.cd (fun a => .leaf (impl_isAmount.enc a (impl_isAmount a)))
theorem impl_isAmount.run (a : Nat) : runF impl_isAmount.C Try.f50.results.toList impl_isAmount.b (impl_isAmount.cd.enc a).1 (impl_isAmount.cd.enc a).2 = (impl_isAmount.tr a).map fun r => (impl_isAmount.enc a r, (impl_isAmount.cd.enc a).2) := by kernel_rfl
theorem impl_isAmount.cok : OKq Try.prog 50 impl_isAmount.c := con_q' impl_isAmount.cd impl_isAmount.hC Try.func50 (by kernel_rfl) (by kernel_rfl) (by kernel_rfl) impl_isAmount.lp (fun a => by kernel_rfl) impl_isAmount.run (Tells.val (tree := impl_isAmount.tr) fun a => by kernel_rfl)
/-! ### impl_IsRate -/
noncomputable def impl_IsRate.b : Code := bodyOf Try.f53
noncomputable def impl_IsRate.C : Ctx := { ty := tys, fn := [(76, .q impl_between.c)], lp := [], n := 5, k := 0 }
theorem impl_IsRate.hC : CtxOK Try.prog impl_IsRate.C := CtxOK.of mo tys_ok (FnsOK.cons impl_between.cok FnsOK.nil)
theorem impl_IsRate.lp : LpOK Try.prog impl_IsRate.C impl_IsRate.b := (LpOK.nil (by kernel_rfl))
noncomputable def impl_IsRate.t (x0 : Nat) : T Bool :=
  .leaf (impl_between x0 0 1149239296)
noncomputable def impl_IsRate (x0 : Nat) : Bool := (impl_IsRate.t x0).val
def impl_IsRate.cd : Cd Nat (List V × Hp) := Cd.iso (Cd.pair (Cd.cons (Cd.fl .f32) Cd.nil) Cd.nil) (fun a => a.1.1) (fun a => ((a, ()), ())) (fun _ => rfl)
noncomputable def impl_IsRate.tr (a : Nat) : T Bool := impl_IsRate.t a
def impl_IsRate.enc : Nat → Bool → V := fun a r => .bo r
noncomputable def impl_IsRate.c : List V → Hp → T V := cdQ impl_IsRate.cd (fun a => .leaf (impl_IsRate.enc a (impl_IsRate a)))
theorem impl_IsRate.run (a : Nat) : runF impl_IsRate.C Try.f53.results.toList impl_IsRate.b (impl_IsRate.cd.enc a).1 (impl_IsRate.cd.enc a).2 = (impl_IsRate.tr a).map fun r => (impl_IsRate.enc a r, (impl_IsRate.cd.enc a).2) := by kernel_rfl
theorem impl_IsRate.cok : OKq Try.prog 53 impl_IsRate.c := con_q' impl_IsRate.cd impl_IsRate.hC Try.func53 (by kernel_rfl) (by kernel_rfl) (by kernel_rfl) impl_IsRate.lp (fun a => by kernel_rfl) impl_IsRate.run (Tells.val (tree := impl_IsRate.tr) fun a => by kernel_rfl)
/-! ### impl_BestFeed_1 -/
noncomputable def impl_BestFeed_1.b : Code := bodyOf Try.f52
noncomputable def impl_BestFeed_1.C : Ctx := { ty := tys, fn := [(53, .q impl_IsRate.c)], lp := [], n := 6, k := 0 }
theorem impl_BestFeed_1.hC : CtxOK Try.prog impl_BestFeed_1.C := CtxOK.of mo tys_ok (FnsOK.cons impl_IsRate.cok FnsOK.nil)
theorem impl_BestFeed_1.lp : LpOK Try.prog impl_BestFeed_1.C impl_BestFeed_1.b := (LpOK.nil (by kernel_rfl))
noncomputable def impl_BestFeed_1.t (x0 : Nat) : T Bool :=
  .leaf (!(impl_IsRate x0))
noncomputable def impl_BestFeed_1 (x0 : Nat) : Bool := (impl_BestFeed_1.t x0).val
def impl_BestFeed_1.cd : Cd Nat (List V × Hp) := Cd.iso (Cd.pair (Cd.cons (Cd.fl .f32) Cd.nil) Cd.nil) (fun a => a.1.1) (fun a => ((a, ()), ())) (fun _ => rfl)
noncomputable def impl_BestFeed_1.tr (a : Nat) : T Bool := impl_BestFeed_1.t a
def impl_BestFeed_1.enc : Nat → Bool → V := fun a r => .bo r
noncomputable def impl_BestFeed_1.c : List V → Hp → T V := cdQ impl_BestFeed_1.cd (fun a => .leaf (impl_BestFeed_1.enc a (impl_BestFeed_1 a)))
theorem impl_BestFeed_1.run (a : Nat) : runF impl_BestFeed_1.C Try.f52.results.toList impl_BestFeed_1.b (impl_BestFeed_1.cd.enc a).1 (impl_BestFeed_1.cd.enc a).2 = (impl_BestFeed_1.tr a).map fun r => (impl_BestFeed_1.enc a r, (impl_BestFeed_1.cd.enc a).2) := by kernel_rfl
theorem impl_BestFeed_1.cok : OKq Try.prog 52 impl_BestFeed_1.c := con_q' impl_BestFeed_1.cd impl_BestFeed_1.hC Try.func52 (by kernel_rfl) (by kernel_rfl) (by kernel_rfl) impl_BestFeed_1.lp (fun a => by kernel_rfl) impl_BestFeed_1.run (Tells.val (tree := impl_BestFeed_1.tr) fun a => by kernel_rfl)
/-! ### slices_IndexFunc_float32_float32 -/
noncomputable def slices_IndexFunc_float32_float32.b : Code := bodyOf Try.f77
noncomputable def slices_IndexFunc_float32_float32.l2.s (x0 : Nat) (x1 : Int) (x2 : Int) (x3 : List Nat) : T (Int ⊕ (Int ⊕ Unit)) :=
  .br (decide (x2 < x1))
  (.br (bounds x2 x0)
   (.br (Nat.ble ((Int.toNat x2 * 1) + 1) (List.length x3))
    (.br (impl_BestFeed_1 (List.getD x3 (Int.toNat x2 * 1) 0))
     (.leaf (.inr (.inl x2)))
     (.leaf (.inl (IntKind.wrap .i64 (x2 + (1 : Int))))))
    .bad)
   .bad)
  (.leaf (.inr (.inr ())))
noncomputable def slices_IndexFunc_float32_float32.l2.st (p : Nat × Int × List Nat) (x : Int) : T (Int ⊕ (Int ⊕ Unit)) := slices_IndexFunc_float32_float32.l2.s p.1 p.2.1 x p.2.2
noncomputable def slices_IndexFunc_float32_float32.l2.r (p : Nat × Int × List Nat) (x : Int) : Option (Int ⊕ Unit) := iterT (slices_IndexFunc_float32_float32.l2.st p) manyRounds x
def slices_IndexFunc_float32_float32.l2.cd : Cd ((Nat × Int × List Nat) × Int) (List V × Hp) := Cd.iso (Cd.pair (Cd.cons (Cd.own 0) (Cd.cons (Cd.fu 52 Cd.nil) (Cd.cons (Cd.it .i64) (Cd.cons (Cd.it .i64) Cd.nil)))) (Cd.cons (Cd.rw 22 1 (Cd.fs .f32)) Cd.nil)) (fun a => ((a.1.1, a.1.2.2.1, a.2.1), a.1.2.2.2.1)) (fun a => ((a.1.1, ((), (a.1.2.1, (a.2, ())))), (a.1.2.2, ()))) (fun _ => rfl)
def slices_IndexFunc_float32_float32.l2.out (p : Nat × Int × List Nat) : (Int ⊕ Unit) → X × List V × Hp := sumO (fun r => (.ret, [.it .i64 r], [some ⟨true, 22, 1, .fs .f32 p.2.2⟩])) (fun r => (.ex 0, [.unk], [some ⟨true, 22, 1, .fs .f32 p.2.2⟩]))
def slices_IndexFunc_float32_float32.l2.ex (p : Nat × Int × List Nat) : (Int ⊕ Unit) → T (X × List V × Hp) := sumT (leafT (fun r => (.ret, [.it .i64 r], [some ⟨true, 22, 1, .fs .f32 p.2.2⟩]))) (leafT (fun r => (.ex 0, [.unk], [some ⟨true, 22, 1, .fs .f32 p.2.2⟩])))
noncomputable def slices_IndexFunc_float32_float32.l2.c : List V → Hp → T (X × List V × Hp) := cdL slices_IndexFunc_float32_float32.l2.cd fun x => optT (slices_IndexFunc_float32_float32.l2.r x.1 x.2) (slices_IndexFunc_float32_float32.l2.ex x.1)
noncomputable def slices_IndexFunc_float32_float32.C : Ctx := { ty := tys, fn := [(52, .q impl_BestFeed_1.c)], lp := [(2, ⟨[0, 1, 7, 8], [4], slices_IndexFunc_float32_float32.l2.c⟩)], n := 19, k := 1 }
theorem slices_IndexFunc_float32_float32.hC : CtxOK Try.prog slices_IndexFunc_float32_float32.C := CtxOK.of mo tys_ok (FnsOK.cons impl_BestFeed_1.cok FnsOK.nil)
noncomputable def slices_IndexFunc_float32_float32.b2 : Code := (nthC (loopsOf slices_IndexFunc_float32_float32.b) 0)
theorem slices_IndexFunc_float32_float32.lp2 : LpOK Try.prog slices_IndexFunc_float32_float32.C slices_IndexFunc_float32_float32.b2 := (LpOK.nil (by kernel_rfl))
theorem slices_IndexFunc_float32_float32.l2.round (p : Nat × Int × List Nat) (s : Int) : roundL slices_IndexFunc_float32_float32.C [0, 1, 7, 8] [4] slices_IndexFunc_float32_float32.b2 (slices_IndexFunc_float32_float32.l2.cd.enc (p, s)).1 (slices_IndexFunc_float32_float32.l2.cd.enc (p, s)).2 = (slices_IndexFunc_float32_float32.l2.st p s).map (encSum (fun s => slices_IndexFunc_float32_float32.l2.cd.enc (p, s)) (slices_IndexFunc_float32_float32.l2.out p)) := by kernel_rfl
theorem slices_IndexFunc_float32_float32.l2.lok : LoopOK Try.prog slices_IndexFunc_float32_float32.C ⟨[0, 1, 7, 8], [4], slices_IndexFunc_float32_float32.l2.c⟩ slices_IndexFunc_float32_float32.b2 := loop_cd slices_IndexFunc_float32_float32.l2.cd slices_IndexFunc_float32_float32.hC slices_IndexFunc_float32_float32.lp2 slices_IndexFunc_float32_float32.l2.round fun p => (Gets.sum Gets.leaf Gets.leaf)
theorem slices_IndexFunc_float32_float32.lp : LpOK Try.prog slices_IndexFunc_float32_float32.C slices_IndexFunc_float32_float32.b := lp_of (by kernel_rfl) (LpsOK.cons (k := 2) (by kernel_rfl) (by kernel_rfl) slices_IndexFunc_float32_float32.l2.lok LpsOK.nil)
noncomputable def slices_IndexFunc_float32_float32.t (x0 : Nat) (x1 : List Nat) : T Int :=
  .br (Option.isSome (slices_IndexFunc_float32_float32.l2.r (x0, ((x0 : Nat) : Int), x1) (0 : Int)))
  (.br (Sum.isLeft (Option.getD (slices_IndexFunc_float32_float32.l2.r (x0, ((x0 : Nat) : Int), x1) (0 : Int)) default))
   (.leaf (getLeftD (Option.getD (slices_IndexFunc_float32_float32.l2.r (x0, ((x0 : Nat) : Int), x1) (0 : Int)) default)))
   (.leaf (-1 : Int)))
  .bad
noncomputable def slices_IndexFunc_float32_float32 (x0 : Nat) (x1 : List Nat) : Int := (slices_IndexFunc_float32_float32.t x0 x1).val
noncomputable def slices_IndexFunc_float32_float32.ok (x0 : Nat) (x1 : List Nat) : Bool := (slices_IndexFunc_float32_float32.t x0 x1).ok
def slices_IndexFunc_float32_float32.cd : Cd (Nat × List Nat) (List V × Hp) := Cd.iso (Cd.pair (Cd.cons (Cd.own 0) (Cd.cons (Cd.fu 52 Cd.nil) Cd.nil)) (Cd.cons (Cd.rw 22 1 (Cd.fs .f32)) Cd.nil)) (fun a => (a.1.1, a.2.1)) (fun a => ((a.1, ((), ())), (a.2, ()))) (fun _ => rfl)
noncomputable def slices_IndexFunc_float32_float32.tr (a : Nat × List Nat) : T Int := slices_IndexFunc_float32_float32.t a.1 a.2
def slices_IndexFunc_float32_float32.enc : (Nat × List Nat) → Int → V := fun a r => .it .i64 r
noncomputable def slices_IndexFunc_float32_float32.c : List V → Hp → T V := cdQ slices_IndexFunc_float32_float32.cd (fun a => .br (slices_IndexFunc_float32_float32.ok a.1 a.2) (.leaf (slices_IndexFunc_float32_float32.enc a (slices_IndexFunc_float32_float32 a.1 a.2))) .bad)
theorem slices_IndexFunc_float32_float32.run (a : Nat × List Nat) : runF slices_IndexFunc_float32_float32.C Try.f77.results.toList slices_IndexFunc_float32_float32.b (slices_IndexFunc_float32_float32.cd.enc a).1 (slices_IndexFunc_float32_float32.cd.enc a).2 = (slices_IndexFunc_float32_float32.tr a).map fun r => (slices_IndexFunc_float32_float32.enc a r, (slices_IndexFunc_float32_float32.cd.enc a).2) := by kernel_rfl
theorem slices_IndexFunc_float32_float32.cok : OKq Try.prog 77 slices_IndexFunc_float32_float32.c := con_q' slices_IndexFunc_float32_float32.cd slices_IndexFunc_float32_float32.hC Try.func77 (by kernel_rfl) (by kernel_rfl) (by kernel_rfl) slices_IndexFunc_float32_float32.lp (fun a => by kernel_rfl) slices_IndexFunc_float32_float32.run (Tells.ok (tree := slices_IndexFunc_float32_float32.tr))
/-! ### slices_ContainsFunc_float32_float32 -/
noncomputable def slices_ContainsFunc_float32_float32.b : Code := bodyOf Try.f51
noncomputable def slices_ContainsFunc_float32_float32.C : Ctx := { ty := tys, fn := [(77, .q slices_IndexFunc_float32_float32.c)], lp := [], n := 9, k := 1 }
theorem slices_ContainsFunc_float32_float32.hC : CtxOK Try.prog slices_ContainsFunc_float32_float32.C := CtxOK.of mo tys_ok (FnsOK.cons slices_IndexFunc_float32_float32.cok FnsOK.nil)
theorem slices_ContainsFunc_float32_float32.lp : LpOK Try.prog slices_ContainsFunc_float32_float32.C slices_ContainsFunc_float32_float32.b := (LpOK.nil (by kernel_rfl))
noncomputable def slices_ContainsFunc_float32_float32.t (x0 : Nat) (x1 : List Nat) : T Bool :=
  .br (slices_IndexFunc_float32_float32.ok x0 x1)
  (.leaf (decide ((slices_IndexFunc_float32_float32 x0 x1) ≥ (0 : Int))))
  .bad
noncomputable def slices_ContainsFunc_float32_float32 (x0 : Nat) (x1 : List Nat) : Bool := (slices_ContainsFunc_float32_float32.t x0 x1).val
noncomputable def slices_ContainsFunc_float32_float32.ok (x0 : Nat) (x1 : List Nat) : Bool := (slices_ContainsFunc_float32_float32.t x0 x1).ok
def slices_ContainsFunc_float32_float32.cd : Cd (Nat × List Nat) (List V × Hp) := Cd.iso (Cd.pair (Cd.cons (Cd.own 0) (Cd.cons (Cd.fu 52 Cd.nil) Cd.nil)) (Cd.cons (Cd.rw 22 1 (Cd.fs .f32)) Cd.nil)) (fun a => (a.1.1, a.2.1)) (fun a => ((a.1, ((), ())), (a.2, ()))) (fun _ => rfl)
noncomputable def slices_ContainsFunc_float32_float32.tr (a : Nat × List Nat) : T Bool := slices_ContainsFunc_float32_float32.t a.1 a.2
def slices_ContainsFunc_float32_float32.enc : (Nat × List Nat) → Bool → V := fun a r => .bo r
noncomputable def slices_ContainsFunc_float32_float32.c : List V → Hp → T V := cdQ slices_ContainsFunc_float32_float32.cd (fun a => .br (slices_ContainsFunc_float32_float32.ok a.1 a.2) (.leaf (slices_ContainsFunc_float32_float32.enc a (slices_ContainsFunc_float32_float32 a.1 a.2))) .bad)
theorem slices_ContainsFunc_float32_float32.run (a : Nat × List Nat) : runF slices_ContainsFunc_float32_float32.C Try.f51.results.toList slices_ContainsFunc_float32_float32.b (slices_ContainsFunc_float32_float32.cd.enc a).1 (slices_ContainsFunc_float32_float32.cd.enc a).2 = (slices_ContainsFunc_float32_float32.tr a).map fun r => (slices_ContainsFunc_float32_float32.enc a r, (slices_ContainsFunc_float32_float32.cd.enc a).2) := by kernel_rfl
theorem slices_ContainsFunc_float32_float32.cok : OKq Try.prog 51 slices_ContainsFunc_float32_float32.c := con_q' slices_ContainsFunc_float32_float32.cd slices_ContainsFunc_float32_float32.hC Try.func51 (by kernel_rfl) (by kernel_rfl) (by kernel_rfl) slices_ContainsFunc_float32_float32.lp (fun a => by kernel_rfl) slices_ContainsFunc_float32_float32.run (Tells.ok (tree := slices_ContainsFunc_float32_float32.tr))
/-! ### impl_IsPart -/
noncomputable def impl_IsPart.b : Code := bodyOf Try.f65
noncomputable def impl_IsPart.C : Ctx := { ty := tys, fn := [(76, .q impl_between.c)], lp := [], n := 5, k := 0 }
theorem impl_IsPart.hC : CtxOK Try.prog impl_IsPart.C := CtxOK.of mo tys_ok (FnsOK.cons impl_between.cok FnsOK.nil)
theorem impl_IsPart.lp : LpOK Try.prog impl_IsPart.C impl_IsPart.b := (LpOK.nil (by kernel_rfl))
noncomputable def impl_IsPart.t (x0 : Nat) : T Bool :=
  .leaf (impl_between x0 0 1065353216)
noncomputable def impl_IsPart (x0 : Nat) : Bool := (impl_IsPart.t x0).val
def impl_IsPart.cd : Cd Nat (List V × Hp) := Cd.iso (Cd.pair (Cd.cons (Cd.fl .f32) Cd.nil) Cd.nil) (fun a => a.1.1) (fun a => ((a, ()), ())) (fun _ => rfl)
noncomputable def impl_IsPart.tr (a : Nat) : T Bool := impl_IsPart.t a
def impl_IsPart.enc : Nat → Bool → V := fun a r => .bo r
noncomputable def impl_IsPart.c : List V → Hp → T V := cdQ impl_IsPart.cd (fun a => .leaf (impl_IsPart.enc a (impl_IsPart a)))
theorem impl_IsPart.run (a : Nat) : runF impl_IsPart.C Try.f65.results.toList impl_IsPart.b (impl_IsPart.cd.enc a).1 (impl_IsPart.cd.enc a).2 = (impl_IsPart.tr a).map fun r => (impl_IsPart.enc a r, (impl_IsPart.cd.enc a).2) := by kernel_rfl
theorem impl_IsPart.cok : OKq Try.prog 65 impl_IsPart.c := con_q' impl_IsPart.cd impl_IsPart.hC Try.func65 (by kernel_rfl) (by kernel_rfl) (by kernel_rfl) impl_IsPart.lp (fun a => by kernel_rfl) impl_IsPart.run (Tells.val (tree := impl_IsPart.tr) fun a => by kernel_rfl)
/-! ### impl_ValidStone -/
noncomputable def impl_ValidStone.b : Code := bodyOf Try.f36
noncomputable def impl_ValidStone.C : Ctx := { ty := tys, fn := [(53, .q impl_IsRate.c), (65, .q impl_IsPart.c)], lp := [], n := 21, k := 0 }
theorem impl_ValidStone.hC : CtxOK Try.prog impl_ValidStone.C := CtxOK.of mo tys_ok (FnsOK.cons impl_IsRate.cok (FnsOK.cons impl_IsPart.cok FnsOK.nil))
theorem impl_ValidStone.lp : LpOK Try.prog impl_ValidStone.C impl_ValidStone.b := (LpOK.nil (by kernel_rfl))
noncomputable def impl_ValidStone.t (x0 : Nat) (x1 : Nat) (x2 : Nat) (x3 : Nat) : T Bool :=
  .br (impl_IsRate x0)
  (.br (impl_IsRate x1)
   (.br (impl_IsRate x2)
    (.leaf (impl_IsPart x3))
    (.leaf false))
   (.leaf false))
  (.leaf false)
noncomputable def impl_ValidStone (x0 : Nat) (x1 : Nat) (x2 : Nat) (x3 : Nat) : Bool := (impl_ValidStone.t x0 x1 x2 x3).val
def impl_ValidStone.cd : Cd (Nat × Nat × Nat × Nat) (List V × Hp) := Cd.iso (Cd.pair (Cd.cons (Cd.agg (Cd.cons (Cd.fl .f32) (Cd.cons (Cd.fl .f32) (Cd.cons (Cd.fl .f32) (Cd.cons (Cd.fl .f32) Cd.nil))))) Cd.nil) Cd.nil) (fun a => (a.1.1.1, a.1.1.2.1, a.1.1.2.2.1, a.1.1.2.2.2.1)) (fun a => (((a.1, (a.2.1, (a.2.2.1, (a.2.2.2, ())))), ()), ())) (fun _ => rfl)
noncomputable def impl_ValidStone.tr (a : Nat × Nat × Nat × Nat) : T Bool := impl_ValidStone.t a.1 a.2.1 a.2.2.1 a.2.2.2
def impl_ValidStone.enc : (Nat × Nat × Nat × Nat) → Bool → V := fun a r => .bo r
noncomputable def impl_ValidStone.c : List V → Hp → T V := cdQ impl_ValidStone.cd (fun a => .leaf (impl_ValidStone.enc a (impl_ValidStone a.1 a.2.1 a.2.2.1 a.2.2.2)))
theorem impl_ValidStone.run (a : Nat × Nat × Nat × Nat) : runF impl_ValidStone.C Try.f36.results.toList impl_ValidStone.b (impl_ValidStone.cd.enc a).1 (impl_ValidStone.cd.enc a).2 = (impl_ValidStone.tr a).map fun r => (impl_ValidStone.enc a r, (impl_ValidStone.cd.enc a).2) := by kernel_rfl
theorem impl_ValidStone.cok : OKq Try.prog 36 impl_ValidStone.c := con_q' impl_ValidStone.cd impl_ValidStone.hC Try.func36 (by kernel_rfl) (by kernel_rfl) (by kernel_rfl) impl_ValidStone.lp (fun a => by kernel_rfl) impl_ValidStone.run (Tells.val (tree := impl_ValidStone.tr) fun a => by kernel_rfl)
/-! ### impl_stoneCode -/
noncomputable def impl_stoneCode.b : Code := bodyOf Try.f49
noncomputable def impl_stoneCode.C : Ctx := { ty := tys, fn := [(36, .q impl_ValidStone.c)], lp := [], n := 12, k := 0 }
theorem impl_stoneCode.hC : CtxOK Try.prog impl_stoneCode.C := CtxOK.of mo tys_ok (FnsOK.cons impl_ValidStone.cok FnsOK.nil)
theorem impl_stoneCode.lp : LpOK Try.prog impl_stoneCode.C impl_stoneCode.b := (LpOK.nil (by kernel_rfl))
noncomputable def impl_stoneCode.t (x0 : Nat) (x1 : Nat) (x2 : Nat) (x3 : Nat) (x4 : Bool) : T Int :=
  .br (!(impl_ValidStone x0 x1 x2 x3))
  (.leaf (1 : Int))
  (.br (!x4)
   (.leaf (2 : Int))
   (.leaf (0 : Int)))
noncomputable def impl_stoneCode (x0 : Nat) (x1 : Nat) (x2 : Nat) (x3 : Nat) (x4 : Bool) : Int := (impl_stoneCode.t x0 x1 x2 x3 x4).val
def impl_stoneCode.cd : Cd (Nat × Nat × Nat × Nat × Bool) (List V × Hp) := Cd.iso (Cd.pair (Cd.cons (Cd.agg (Cd.cons (Cd.fl .f32) (Cd.cons (Cd.fl .f32) (Cd.cons (Cd.fl .f32) (Cd.cons (Cd.fl .f32) Cd.nil))))) (Cd.cons Cd.bo Cd.nil)) Cd.nil) (fun a => (a.1.1.1, a.1.1.2.1, a.1.1.2.2.1, a.1.1.2.2.2.1, a.1.2.1)) (fun a => (((a.1, (a.2.1, (a.2.2.1, (a.2.2.2.1, ())))), (a.2.2.2.2, ())), ())) (fun _ => rfl)
noncomputable def impl_stoneCode.tr (a : Nat × Nat × Nat × Nat × Bool) : T Int := impl_stoneCode.t a.1 a.2.1 a.2.2.1 a.2.2.2.1 a.2.2.2.2
def impl_stoneCode.enc : (Nat × Nat × Nat × Nat × Bool) → Int → V := fun a r => .it .i64 r
noncomputable def impl_stoneCode.c : List V → Hp → T V := cdQ impl_stoneCode.cd (fun a => .leaf (impl_stoneCode.enc a (impl_stoneCode a.1 a.2.1 a.2.2.1 a.2.2.2.1 a.2.2.2.2)))
theorem impl_stoneCode.run (a : Nat × Nat × Nat × Nat × Bool) : runF impl_stoneCode.C Try.f49.results.toList impl_stoneCode.b (impl_stoneCode.cd.enc a).1 (impl_stoneCode.cd.enc a).2 = (impl_stoneCode.tr a).map fun r => (impl_stoneCode.enc a r, (impl_stoneCode.cd.enc a).2) := by kernel_rfl
theorem impl_stoneCode.cok : OKq Try.prog 49 impl_stoneCode.c := con_q' impl_stoneCode.cd impl_stoneCode.hC Try.func49 (by kernel_rfl) (by kernel_rfl) (by kernel_rfl) impl_stoneCode.lp (fun a => by kernel_rfl) impl_stoneCode.run (Tells.val (tree := impl_stoneCode.tr) fun a => by kernel_rfl)
/-! ### impl_Stone_rubbed -/
noncomputable def impl_Stone_rubbed.b : Code := bodyOf Try.f82
noncomputable def impl_Stone_rubbed.C : Ctx := { ty := tys, fn := [], lp := [], n := 16, k := 1 }
theorem impl_Stone_rubbed.hC : CtxOK Try.prog impl_Stone_rubbed.C := CtxOK.of mo tys_ok FnsOK.nil
theorem impl_Stone_rubbed.lp : LpOK Try.prog impl_Stone_rubbed.C impl_Stone_rubbed.b := (LpOK.nil (by kernel_rfl))
noncomputable def impl_Stone_rubbed.t (x0 : Nat) (x1 : Nat) (x2 : Nat) (x3 : Nat) (x4 : Nat) : T Nat :=
  .leaf (fadd .f32 x1 (fmul .f32 x2 x0))
noncomputable def impl_Stone_rubbed (x0 : Nat) (x1 : Nat) (x2 : Nat) (x3 : Nat) (x4 : Nat) : Nat := (impl_Stone_rubbed.t x0 x1 x2 x3 x4).val
def impl_Stone_rubbed.cd : Cd (Nat × Nat × Nat × Nat × Nat) (List V × Hp) := Cd.iso (Cd.pair (Cd.cons (Cd.pt 0 (Cd.natc 0)) (Cd.cons (Cd.fl .f32) Cd.nil)) (Cd.cons (Cd.rw 28 4 (Cd.vs (Cd.cons (Cd.fl .f32) (Cd.cons (Cd.fl .f32) (Cd.cons (Cd.fl .f32) (Cd.cons (Cd.fl .f32) Cd.nil)))))) Cd.nil)) (fun a => (a.1.2.1, a.2.1.1, a.2.1.2.1, a.2.1.2.2.1, a.2.1.2.2.2.1)) (fun a => (((), (a.1, ())), ((a.2.1, (a.2.2.1, (a.2.2.2.1, (a.2.2.2.2, ())))), ()))) (fun _ => rfl)
noncomputable def impl_Stone_rubbed.tr (a : Nat × Nat × Nat × Nat × Nat) : T Nat := impl_Stone_rubbed.t a.1 a.2.1 a.2.2.1 a.2.2.2.1 a.2.2.2.2
def impl_Stone_rubbed.enc : (Nat × Nat × Nat × Nat × Nat) → Nat → V := fun a r => .fl .f32 r
noncomputable def impl_Stone_rubbed.c : List V → Hp → T V := cdQ impl_Stone_rubbed.cd (fun a => .leaf (impl_Stone_rubbed.enc a (impl_Stone_rubbed a.1 a.2.1 a.2.2.1 a.2.2.2.1 a.2.2.2.2)))
theorem impl_Stone_rubbed.run (a : Nat × Nat × Nat × Nat × Nat) : runF impl_Stone_rubbed.C Try.f82.results.toList impl_Stone_rubbed.b (impl_Stone_rubbed.cd.enc a).1 (impl_Stone_rubbed.cd.enc a).2 = (impl_Stone_rubbed.tr a).map fun r => (impl_Stone_rubbed.enc a r, (impl_Stone_rubbed.cd.enc a).2) := by kernel_rfl
theorem impl_Stone_rubbed.cok : OKq Try.prog 82 impl_Stone_rubbed.c := con_q' impl_Stone_rubbed.cd impl_Stone_rubbed.hC Try.func82 (by kernel_rfl) (by kernel_rfl) (by kernel_rfl) impl_Stone_rubbed.lp (fun a => by kernel_rfl) impl_Stone_rubbed.run (Tells.val (tree := impl_Stone_rubbed.tr) fun a => by kernel_rfl)
/-! ### impl_Stone_load -/
noncomputable def impl_Stone_load.b : Code := bodyOf Try.f58
noncomputable def impl_Stone_load.C : Ctx := { ty := tys, fn := [(82, .q impl_Stone_rubbed.c)], lp := [], n := 17, k := 1 }
theorem impl_Stone_load.hC : CtxOK Try.prog impl_Stone_load.C := CtxOK.of mo tys_ok (FnsOK.cons impl_Stone_rubbed.cok FnsOK.nil)
theorem impl_Stone_load.lp : LpOK Try.prog impl_Stone_load.C impl_Stone_load.b := (LpOK.nil (by kernel_rfl))
noncomputable def impl_Stone_load.t (x0 : Nat) (x1 : Nat) (x2 : Nat) (x3 : Nat) (x4 : Nat) (x5 : Nat) : T Nat :=
  .leaf (fadd .f32 (impl_Stone_rubbed x0 x2 x3 x4 x5) (fmul .f32 x4 x1))
noncomputable def impl_Stone_load (x0 : Nat) (x1 : Nat) (x2 : Nat) (x3 : Nat) (x4 : Nat) (x5 : Nat) : Nat := (impl_Stone_load.t x0 x1 x2 x3 x4 x5).val
def impl_Stone_load.cd : Cd (Nat × Nat × Nat × Nat × Nat × Nat) (List V × Hp) := Cd.iso (Cd.pair (Cd.cons (Cd.pt 0 (Cd.natc 0)) (Cd.cons (Cd.fl .f32) (Cd.cons (Cd.fl .f32) Cd.nil))) (Cd.cons (Cd.rw 28 4 (Cd.vs (Cd.cons (Cd.fl .f32) (Cd.cons (Cd.fl .f32) (Cd.cons (Cd.fl .f32) (Cd.cons (Cd.fl .f32) Cd.nil)))))) Cd.nil)) (fun a => (a.1.2.1, a.1.2.2.1, a.2.1.1, a.2.1.2.1, a.2.1.2.2.1, a.2.1.2.2.2.1)) (fun a => (((), (a.1, (a.2.1, ()))), ((a.2.2.1, (a.2.2.2.1, (a.2.2.2.2.1, (a.2.2.2.2.2, ())))), ()))) (fun _ => rfl)
noncomputable def impl_Stone_load.tr (a : Nat × Nat × Nat × Nat × Nat × Nat) : T Nat := impl_Stone_load.t a.1 a.2.1 a.2.2.1 a.2.2.2.1 a.2.2.2.2.1 a.2.2.2.2.2
def impl_Stone_load.enc : (Nat × Nat × Nat × Nat × Nat × Nat) → Nat → V := fun a r => .fl .f32 r
noncomputable def impl_Stone_load.c : List V → Hp → T V := cdQ impl_Stone_load.cd (fun a => .leaf (impl_Stone_load.enc a (impl_Stone_load a.1 a.2.1 a.2.2.1 a.2.2.2.1 a.2.2.2.2.1 a.2.2.2.2.2)))
theorem impl_Stone_load.run (a : Nat × Nat × Nat × Nat × Nat × Nat) : runF impl_Stone_load.C Try.f58.results.toList impl_Stone_load.b (impl_Stone_load.cd.enc a).1 (impl_Stone_load.cd.enc a).2 = (impl_Stone_load.tr a).map fun r => (impl_Stone_load.enc a r, (impl_Stone_load.cd.enc a).2) := by kernel_rfl
theorem impl_Stone_load.cok : OKq Try.prog 58 impl_Stone_load.c := con_q' impl_Stone_load.cd impl_Stone_load.hC Try.func58 (by kernel_rfl) (by kernel_rfl) (by kernel_rfl) impl_Stone_load.lp (fun a => by kernel_rfl) impl_Stone_load.run (Tells.val (tree := impl_Stone_load.tr) fun a => by kernel_rfl)
/-! ### impl_Stone_steadySpeed_1 -/
noncomputable def impl_Stone_steadySpeed_1.b : Code := bodyOf Try.f95
noncomputable def impl_Stone_steadySpeed_1.C : Ctx := { ty := tys, fn := [(58, .q impl_Stone_load.c)], lp := [], n := 9, k := 3 }
theorem impl_Stone_steadySpeed_1.hC : CtxOK Try.prog impl_Stone_steadySpeed_1.C := CtxOK.of mo tys_ok (FnsOK.cons impl_Stone_load.cok FnsOK.nil)
theorem impl_Stone_steadySpeed_1.lp : LpOK Try.prog impl_Stone_steadySpeed_1.C impl_Stone_steadySpeed_1.b := (LpOK.nil (by kernel_rfl))
noncomputable def impl_Stone_steadySpeed_1.t (x0 : Nat) (x1 : Nat) (x2 : Nat) (x3 : Nat) (x4 : Nat) (x5 : Nat) : T Nat :=
  .leaf (impl_Stone_load x0 x1 x2 x3 x4 x5)
noncomputable def impl_Stone_steadySpeed_1 (x0 : Nat) (x1 : Nat) (x2 : Nat) (x3 : Nat) (x4 : Nat) (x5 : Nat) : Nat := (impl_Stone_steadySpeed_1.t x0 x1 x2 x3 x4 x5).val
def impl_Stone_steadySpeed_1.cd : Cd (Nat × Nat × Nat × Nat × Nat × Nat) (List V × Hp) := Cd.iso (Cd.pair (Cd.cons (Cd.fl .f32) (Cd.cons (Cd.pt 0 (Cd.natc 0)) (Cd.cons (Cd.pt 1 (Cd.natc 0)) Cd.nil))) (Cd.cons (Cd.rw 95 1 (Cd.vs (Cd.cons (Cd.pt 2 (Cd.natc 0)) Cd.nil))) (Cd.cons (Cd.rw 22 1 (Cd.vs (Cd.cons (Cd.fl .f32) Cd.nil))) (Cd.cons (Cd.rw 28 4 (Cd.vs (Cd.cons (Cd.fl .f32) (Cd.cons (Cd.fl .f32) (Cd.cons (Cd.fl .f32) (Cd.cons (Cd.fl .f32) Cd.nil)))))) Cd.nil)))) (fun a => (a.1.1, a.2.2.1.1, a.2.2.2.1.1, a.2.2.2.1.2.1, a.2.2.2.1.2.2.1, a.2.2.2.1.2.2.2.1)) (fun a => ((a.1, ((), ((), ()))), (((), ()), ((a.2.1, ()), ((a.2.2.1, (a.2.2.2.1, (a.2.2.2.2.1, (a.2.2.2.2.2, ())))), ()))))) (fun _ => rfl)
noncomputable def impl_Stone_steadySpeed_1.tr (a : Nat × Nat × Nat × Nat × Nat × Nat) : T Nat := impl_Stone_steadySpeed_1.t a.1 a.2.1 a.2.2.1 a.2.2.2.1 a.2.2.2.2.1 a.2.2.2.2.2
def impl_Stone_steadySpeed_1.enc : (Nat × Nat × Nat × Nat × Nat × Nat) → Nat → V := fun a r => .fl .f32 r
noncomputable def impl_Stone_steadySpeed_1.c : List V → Hp → T V := cdQ impl_Stone_steadySpeed_1.cd (fun a => .leaf (impl_Stone_steadySpeed_1.enc a (impl_Stone_steadySpeed_1 a.1 a.2.1 a.2.2.1 a.2.2.2.1 a.2.2.2.2.1 a.2.2.2.2.2)))
theorem impl_Stone_steadySpeed_1.run (a : Nat × Nat × Nat × Nat × Nat × Nat) : runF impl_Stone_steadySpeed_1.C Try.f95.results.toList impl_Stone_steadySpeed_1.b (impl_Stone_steadySpeed_1.cd.enc a).1 (impl_Stone_steadySpeed_1.cd.enc a).2 = (impl_Stone_steadySpeed_1.tr a).map fun r => (impl_Stone_steadySpeed_1.enc a r, (impl_Stone_steadySpeed_1.cd.enc a).2) := by kernel_rfl
theorem impl_Stone_steadySpeed_1.cok : OKq Try.prog 95 impl_Stone_steadySpeed_1.c := con_q' impl_Stone_steadySpeed_1.cd impl_Stone_steadySpeed_1.hC Try.func95 (by kernel_rfl) (by kernel_rfl) (by kernel_rfl) impl_Stone_steadySpeed_1.lp (fun a => by kernel_rfl) impl_Stone_steadySpeed_1.run (Tells.val (tree := impl_Stone_steadySpeed_1.tr) fun a => by kernel_rfl)
/-! ### impl_halved -/
noncomputable def impl_halved.b : Code := bodyOf Try.f84
noncomputable def impl_halved.C : Ctx := { ty := tys, fn := [], lp := [], n := 9, k := 0 }
theorem impl_halved.hC : CtxOK Try.prog impl_halved.C := CtxOK.of mo tys_ok FnsOK.nil
theorem impl_halved.lp : LpOK Try.prog impl_halved.C impl_halved.b := (LpOK.nil (by kernel_rfl))
noncomputable def impl_halved.t (x0 : Nat) (x1 : Nat) : T Nat :=
  .leaf (fdiv .f32 (fadd .f32 x0 x1) 1073741824)
noncomputable def impl_halved (x0 : Nat) (x1 : Nat) : Nat := (impl_halved.t x0 x1).val
def impl_halved.cd : Cd (Nat × Nat) (List V × Hp) := Cd.iso (Cd.pair (Cd.cons (Cd.fl .f32) (Cd.cons (Cd.fl .f32) Cd.nil)) Cd.nil) (fun a => (a.1.1, a.1.2.1)) (fun a => ((a.1, (a.2, ())), ())) (fun _ => rfl)
noncomputable def impl_halved.tr (a : Nat × Nat) : T Nat := impl_halved.t a.1 a.2
def impl_halved.enc : (Nat × Nat) → Nat → V := fun a r => .fl .f32 r
noncomputable def impl_halved.c : List V → Hp → T V := cdQ impl_halved.cd (fun a => .leaf (impl_halved.enc a (impl_halved a.1 a.2)))
theorem impl_halved.run (a : Nat × Nat) : runF impl_halved.C Try.f84.results.toList impl_halved.b (impl_halved.cd.enc a).1 (impl_halved.cd.enc a).2 = (impl_halved.tr a).map fun r => (impl_halved.enc a r, (impl_halved.cd.enc a).2) := by kernel_rfl
theorem impl_halved.cok : OKq Try.prog 84 impl_halved.c := con_q' impl_halved.cd impl_halved.hC Try.func84 (by kernel_rfl) (by kernel_rfl) (by kernel_rfl) impl_halved.lp (fun a => by kernel_rfl) impl_halved.run (Tells.val (tree := impl_halved.tr) fun a => by kernel_rfl)
/-! ### impl_steady -/
noncomputable def impl_steady.b : Code := bodyOf Try.f61
noncomputable def impl_steady.l3.s (x0 : Nat) (x1 : Nat) (x2 : Nat) (x3 : Int) (x4 : Int) (x5 : Nat) (x6 : Nat) (x7 : Nat) (x8 : Nat) (x9 : Nat) : T ((Nat × Nat × Int) ⊕ Nat) :=
  .br (decide (x4 < x3))
  (.br (fgt .f32 (impl_Stone_steadySpeed_1 (impl_halved x1 x2) x5 x6 x7 x8 x9) x0)
   (.leaf (.inl (x1, (impl_halved x1 x2), (IntKind.wrap .i64 (x4 + (1 : Int))))))
   (.leaf (.inl ((impl_halved x1 x2), x2, (IntKind.wrap .i64 (x4 + (1 : Int)))))))
  (.leaf (.inr x1))
noncomputable def impl_steady.l3.st (p : Nat × Int × Nat × Nat × Nat × Nat × Nat) (x : Nat × Nat × Int) : T ((Nat × Nat × Int) ⊕ Nat) := impl_steady.l3.s p.1 x.1 x.2.1 p.2.1 x.2.2 p.2.2.1 p.2.2.2.1 p.2.2.2.2.1 p.2.2.2.2.2.1 p.2.2.2.2.2.2
noncomputable def impl_steady.l3.r (p : Nat × Int × Nat × Nat × Nat × Nat × Nat) (x : Nat × Nat × Int) : Option Nat := iterT (impl_steady.l3.st p) manyRounds x
def impl_steady.l3.cd : Cd ((Nat × Int × Nat × Nat × Nat × Nat × Nat) × (Nat × Nat × Int)) (List V × Hp) := Cd.iso (Cd.pair (Cd.cons (Cd.fl .f32) (Cd.cons (Cd.fu 95 (Cd.cons (Cd.pt 0 (Cd.natc 0)) (Cd.cons (Cd.pt 1 (Cd.natc 0)) Cd.nil))) (Cd.cons (Cd.fl .f32) (Cd.cons (Cd.fl .f32) (Cd.cons (Cd.it .i64) (Cd.cons (Cd.it .i64) Cd.nil)))))) (Cd.cons (Cd.rw 95 1 (Cd.vs (Cd.cons (Cd.pt 2 (Cd.natc 0)) Cd.nil))) (Cd.cons (Cd.rw 22 1 (Cd.vs (Cd.cons (Cd.fl .f32) Cd.nil))) (Cd.cons (Cd.rw 28 4 (Cd.vs (Cd.cons (Cd.fl .f32) (Cd.cons (Cd.fl .f32) (Cd.cons (Cd.fl .f32) (Cd.cons (Cd.fl .f32) Cd.nil)))))) Cd.nil)))) (fun a => ((a.1.1, a.1.2.2.2.2.1, a.2.2.1.1, a.2.2.2.1.1, a.2.2.2.1.2.1, a.2.2.2.1.2.2.1, a.2.2.2.1.2.2.2.1), (a.1.2.2.1, a.1.2.2.2.1, a.1.2.2.2.2.2.1))) (fun a => ((a.1.1, (((), ((), ())), (a.2.1, (a.2.2.1, (a.1.2.1, (a.2.2.2, ())))))), (((), ()), ((a.1.2.2.1, ()), ((a.1.2.2.2.1, (a.1.2.2.2.2.1, (a.1.2.2.2.2.2.1, (a.1.2.2.2.2.2.2, ())))), ()))))) (fun _ => rfl)
def impl_steady.l3.out (p : Nat × Int × Nat × Nat × Nat × Nat × Nat) : Nat → X × List V × Hp := (fun r => (.ex 0, [.fl .f32 r], [some ⟨true, 95, 1, .vs [.pt 2 0]⟩, some ⟨true, 22, 1, .vs [.fl .f32 p.2.2.1]⟩, some ⟨true, 28, 4, .vs [.fl .f32 p.2.2.2.1, .fl .f32 p.2.2.2.2.1, .fl .f32 p.2.2.2.2.2.1, .fl .f32 p.2.2.2.2.2.2]⟩]))
def impl_steady.l3.ex (p : Nat × Int × Nat × Nat × Nat × Nat × Nat) : Nat → T (X × List V × Hp) := leafT (fun r => (.ex 0, [.fl .f32 r], [some ⟨true, 95, 1, .vs [.pt 2 0]⟩, some ⟨true, 22, 1, .vs [.fl .f32 p.2.2.1]⟩, some ⟨true, 28, 4, .vs [.fl .f32 p.2.2.2.1, .fl .f32 p.2.2.2.2.1, .fl .f32 p.2.2.2.2.2.1, .fl .f32 p.2.2.2.2.2.2]⟩]))
noncomputable def impl_steady.l3.c : List V → Hp → T (X × List V × Hp) := cdL impl_steady.l3.cd fun x => optT (impl_steady.l3.r x.1 x.2) (impl_steady.l3.ex x.1)
noncomputable def impl_steady.C : Ctx := { ty := tys, fn := [(84, .q impl_halved.c), (95, .q impl_Stone_steadySpeed_1.c)], lp := [(3, ⟨[0, 2, 7, 8, 10, 11], [7], impl_steady.l3.c⟩)], n := 25, k := 3 }
theorem impl_steady.hC : CtxOK Try.prog impl_steady.C := CtxOK.of mo tys_ok (FnsOK.cons impl_halved.cok (FnsOK.cons impl_Stone_steadySpeed_1.cok FnsOK.nil))
noncomputable def impl_steady.b3 : Code := (nthC (loopsOf impl_steady.b) 0)
theorem impl_steady.lp3 : LpOK Try.prog impl_steady.C impl_steady.b3 := (LpOK.nil (by kernel_rfl))
theorem impl_steady.l3.round (p : Nat × Int × Nat × Nat × Nat × Nat × Nat) (s : Nat × Nat × Int) : roundL impl_steady.C [0, 2, 7, 8, 10, 11] [7] impl_steady.b3 (impl_steady.l3.cd.enc (p, s)).1 (impl_steady.l3.cd.enc (p, s)).2 = (impl_steady.l3.st p s).map (encSum (fun s => impl_steady.l3.cd.enc (p, s)) (impl_steady.l3.out p)) := by kernel_rfl
theorem impl_steady.l3.lok : LoopOK Try.prog impl_steady.C ⟨[0, 2, 7, 8, 10, 11], [7], impl_steady.l3.c⟩ impl_steady.b3 := loop_cd impl_steady.l3.cd impl_steady.hC impl_steady.lp3 impl_steady.l3.round fun p => Gets.leaf
theorem impl_steady.lp : LpOK Try.prog impl_steady.C impl_steady.b := lp_of (by kernel_rfl) (LpsOK.cons (k := 3) (by kernel_rfl) (by kernel_rfl) impl_steady.l3.lok LpsOK.nil)
noncomputable def impl_steady.t (x0 : Nat) (x1 : Int) (x2 : Nat) (x3 : Nat) (x4 : Nat) (x5 : Nat) (x6 : Nat) : T Nat :=
  .br (Option.isSome (impl_steady.l3.r (x0, x1, x2, x3, x4, x5, x6) (0, 1149239296, (0 : Int))))
  (.leaf (Option.getD (impl_steady.l3.r (x0, x1, x2, x3, x4, x5, x6) (0, 1149239296, (0 : Int))) default))
  .bad
noncomputable def impl_steady (x0 : Nat) (x1 : Int) (x2 : Nat) (x3 : Nat) (x4 : Nat) (x5 : Nat) (x6 : Nat) : Nat := (impl_steady.t x0 x1 x2 x3 x4 x5 x6).val
noncomputable def impl_steady.ok (x0 : Nat) (x1 : Int) (x2 : Nat) (x3 : Nat) (x4 : Nat) (x5 : Nat) (x6 : Nat) : Bool := (impl_steady.t x0 x1 x2 x3 x4 x5 x6).ok
def impl_steady.cd : Cd (Nat × Int × Nat × Nat × Nat × Nat × Nat) (List V × Hp) := Cd.iso (Cd.pair (Cd.cons (Cd.fl .f32) (Cd.cons (Cd.it .i64) (Cd.cons (Cd.fu 95 (Cd.cons (Cd.pt 0 (Cd.natc 0)) (Cd.cons (Cd.pt 1 (Cd.natc 0)) Cd.nil))) Cd.nil))) (Cd.cons (Cd.rw 95 1 (Cd.vs (Cd.cons (Cd.pt 2 (Cd.natc 0)) Cd.nil))) (Cd.cons (Cd.rw 22 1 (Cd.vs (Cd.cons (Cd.fl .f32) Cd.nil))) (Cd.cons (Cd.rw 28 4 (Cd.vs (Cd.cons (Cd.fl .f32) (Cd.cons (Cd.fl .f32) (Cd.cons (Cd.fl .f32) (Cd.cons (Cd.fl .f32) Cd.nil)))))) Cd.nil)))) (fun a => (a.1.1, a.1.2.1, a.2.2.1.1, a.2.2.2.1.1, a.2.2.2.1.2.1, a.2.2.2.1.2.2.1, a.2.2.2.1.2.2.2.1)) (fun a => ((a.1, (a.2.1, (((), ((), ())), ()))), (((), ()), ((a.2.2.1, ()), ((a.2.2.2.1, (a.2.2.2.2.1, (a.2.2.2.2.2.1, (a.2.2.2.2.2.2, ())))), ()))))) (fun _ => rfl)
noncomputable def impl_steady.tr (a : Nat × Int × Nat × Nat × Nat × Nat × Nat) : T Nat := impl_steady.t a.1 a.2.1 a.2.2.1 a.2.2.2.1 a.2.2.2.2.1 a.2.2.2.2.2.1 a.2.2.2.2.2.2
def impl_steady.enc : (Nat × Int × Nat × Nat × Nat × Nat × Nat) → Nat → V := fun a r => .fl .f32 r
noncomputable def impl_steady.c : List V → Hp → T V := cdQ impl_steady.cd (fun a => .br (impl_steady.ok a.1 a.2.1 a.2.2.1 a.2.2.2.1 a.2.2.2.2.1 a.2.2.2.2.2.1 a.2.2.2.2.2.2) (.leaf (impl_steady.enc a (impl_steady a.1 a.2.1 a.2.2.1 a.2.2.2.1 a.2.2.2.2.1 a.2.2.2.2.2.1 a.2.2.2.2.2.2))) .bad)
theorem impl_steady.run (a : Nat × Int × Nat × Nat × Nat × Nat × Nat) : runF impl_steady.C Try.f61.results.toList impl_steady.b (impl_steady.cd.enc a).1 (impl_steady.cd.enc a).2 = (impl_steady.tr a).map fun r => (impl_steady.enc a r, (impl_steady.cd.enc a).2) := by kernel_rfl
theorem impl_steady.cok : OKq Try.prog 61 impl_steady.c := con_q' impl_steady.cd impl_steady.hC Try.func61 (by kernel_rfl) (by kernel_rfl) (by kernel_rfl) impl_steady.lp (fun a => by kernel_rfl) impl_steady.run (Tells.ok (tree := impl_steady.tr))
/-! ### impl_Stone_steadySpeed -/
noncomputable def impl_Stone_steadySpeed.b : Code := bodyOf Try.f78
noncomputable def impl_Stone_steadySpeed.C : Ctx := { ty := tys, fn := [(95, .q impl_Stone_steadySpeed_1.c), (61, .q impl_steady.c)], lp := [], n := 20, k := 1 }
theorem impl_Stone_steadySpeed.hC : CtxOK Try.prog impl_Stone_steadySpeed.C := CtxOK.of mo tys_ok (FnsOK.cons impl_Stone_steadySpeed_1.cok (FnsOK.cons impl_steady.cok FnsOK.nil))
theorem impl_Stone_steadySpeed.lp : LpOK Try.prog impl_Stone_steadySpeed.C impl_Stone_steadySpeed.b := (LpOK.nil (by kernel_rfl))
noncomputable def impl_Stone_steadySpeed.t (x0 : Nat) (x1 : Nat) (x2 : Int) (x3 : Nat) (x4 : Nat) (x5 : Nat) (x6 : Nat) : T (Nat × Bool) :=
  .br (fgt .f32 (impl_Stone_steadySpeed_1 0 x1 x3 x4 x5 x6) x0)
  (.leaf (0, false))
  (.br (impl_steady.ok x0 x2 x1 x3 x4 x5 x6)
   (.leaf ((impl_steady x0 x2 x1 x3 x4 x5 x6), true))
   .bad)
noncomputable def impl_Stone_steadySpeed (x0 : Nat) (x1 : Nat) (x2 : Int) (x3 : Nat) (x4 : Nat) (x5 : Nat) (x6 : Nat) : Nat × Bool := (impl_Stone_steadySpeed.t x0 x1 x2 x3 x4 x5 x6).val
noncomputable def impl_Stone_steadySpeed.ok (x0 : Nat) (x1 : Nat) (x2 : Int) (x3 : Nat) (x4 : Nat) (x5 : Nat) (x6 : Nat) : Bool := (impl_Stone_steadySpeed.t x0 x1 x2 x3 x4 x5 x6).ok
def impl_Stone_steadySpeed.cd : Cd (Nat × Nat × Int × Nat × Nat × Nat × Nat) (List V × Hp) := Cd.iso (Cd.pair (Cd.cons (Cd.pt 0 (Cd.natc 0)) (Cd.cons (Cd.fl .f32) (Cd.cons (Cd.fl .f32) (Cd.cons (Cd.it .i64) Cd.nil)))) (Cd.cons (Cd.rw 28 4 (Cd.vs (Cd.cons (Cd.fl .f32) (Cd.cons (Cd.fl .f32) (Cd.cons (Cd.fl .f32) (Cd.cons (Cd.fl .f32) Cd.nil)))))) Cd.nil)) (fun a => (a.1.2.1, a.1.2.2.1, a.1.2.2.2.1, a.2.1.1, a.2.1.2.1, a.2.1.2.2.1, a.2.1.2.2.2.1)) (fun a => (((), (a.1, (a.2.1, (a.2.2.1, ())))), ((a.2.2.2.1, (a.2.2.2.2.1, (a.2.2.2.2.2.1, (a.2.2.2.2.2.2, ())))), ()))) (fun _ => rfl)
noncomputable def impl_Stone_steadySpeed.tr (a : Nat × Nat × Int × Nat × Nat × Nat × Nat) : T (Nat × Bool) := impl_Stone_steadySpeed.t a.1 a.2.1 a.2.2.1 a.2.2.2.1 a.2.2.2.2.1 a.2.2.2.2.2.1 a.2.2.2.2.2.2
def impl_Stone_steadySpeed.enc : (Nat × Nat × Int × Nat × Nat × Nat × Nat) → (Nat × Bool) → V := fun a r => .tup [.fl .f32 r.1, .bo r.2]
noncomputable def impl_Stone_steadySpeed.c : List V → Hp → T V := cdQ impl_Stone_steadySpeed.cd (fun a => .br (impl_Stone_steadySpeed.ok a.1 a.2.1 a.2.2.1 a.2.2.2.1 a.2.2.2.2.1 a.2.2.2.2.2.1 a.2.2.2.2.2.2) (.leaf (impl_Stone_steadySpeed.enc a (impl_Stone_steadySpeed a.1 a.2.1 a.2.2.1 a.2.2.2.1 a.2.2.2.2.1 a.2.2.2.2.2.1 a.2.2.2.2.2.2))) .bad)
theorem impl_Stone_steadySpeed.run (a : Nat × Nat × Int × Nat × Nat × Nat × Nat) : runF impl_Stone_steadySpeed.C Try.f78.results.toList impl_Stone_steadySpeed.b (impl_Stone_steadySpeed.cd.enc a).1 (impl_Stone_steadySpeed.cd.enc a).2 = (impl_Stone_steadySpeed.tr a).map fun r => (impl_Stone_steadySpeed.enc a r, (impl_Stone_steadySpeed.cd.enc a).2) := by kernel_rfl
theorem impl_Stone_steadySpeed.cok : OKq Try.prog 78 impl_Stone_steadySpeed.c := con_q' impl_Stone_steadySpeed.cd impl_Stone_steadySpeed.hC Try.func78 (by kernel_rfl) (by kernel_rfl) (by kernel_rfl) impl_Stone_steadySpeed.lp (fun a => by kernel_rfl) impl_Stone_steadySpeed.run (Tells.ok (tree := impl_Stone_steadySpeed.tr))
/-! ### impl_Stone_flour -/
noncomputable def impl_Stone_flour.b : Code := bodyOf Try.f79
noncomputable def impl_Stone_flour.C : Ctx := { ty := tys, fn := [], lp := [], n := 15, k := 1 }
theorem impl_Stone_flour.hC : CtxOK Try.prog impl_Stone_flour.C := CtxOK.of mo tys_ok FnsOK.nil
theorem impl_Stone_flour.lp : LpOK Try.prog impl_Stone_flour.C impl_Stone_flour.b := (LpOK.nil (by kernel_rfl))
noncomputable def impl_Stone_flour.t (x0 : Nat) (x1 : Nat) (x2 : Nat) (x3 : Nat) (x4 : Nat) (x5 : Nat) : T Nat :=
  .leaf (fmul .f32 (fmul .f32 x0 x1) x5)
noncomputable def impl_Stone_flour (x0 : Nat) (x1 : Nat) (x2 : Nat) (x3 : Nat) (x4 : Nat) (x5 : Nat) : Nat := (impl_Stone_flour.t x0 x1 x2 x3 x4 x5).val
def impl_Stone_flour.cd : Cd (Nat × Nat × Nat × Nat × Nat × Nat) (List V × Hp) := Cd.iso (Cd.pair (Cd.cons (Cd.pt 0 (Cd.natc 0)) (Cd.cons (Cd.fl .f32) (Cd.cons (Cd.fl .f32) Cd.nil))) (Cd.cons (Cd.rw 28 4 (Cd.vs (Cd.cons (Cd.fl .f32) (Cd.cons (Cd.fl .f32) (Cd.cons (Cd.fl .f32) (Cd.cons (Cd.fl .f32) Cd.nil)))))) Cd.nil)) (fun a => (a.1.2.1, a.1.2.2.1, a.2.1.1, a.2.1.2.1, a.2.1.2.2.1, a.2.1.2.2.2.1)) (fun a => (((), (a.1, (a.2.1, ()))), ((a.2.2.1, (a.2.2.2.1, (a.2.2.2.2.1, (a.2.2.2.2.2, ())))), ()))) (fun _ => rfl)
noncomputable def impl_Stone_flour.tr (a : Nat × Nat × Nat × Nat × Nat × Nat) : T Nat := impl_Stone_flour.t a.1 a.2.1 a.2.2.1 a.2.2.2.1 a.2.2.2.2.1 a.2.2.2.2.2
def impl_Stone_flour.enc : (Nat × Nat × Nat × Nat × Nat × Nat) → Nat → V := fun a r => .fl .f32 r
noncomputable def impl_Stone_flour.c : List V → Hp → T V := cdQ impl_Stone_flour.cd (fun a => .leaf (impl_Stone_flour.enc a (impl_Stone_flour a.1 a.2.1 a.2.2.1 a.2.2.2.1 a.2.2.2.2.1 a.2.2.2.2.2)))
theorem impl_Stone_flour.run (a : Nat × Nat × Nat × Nat × Nat × Nat) : runF impl_Stone_flour.C Try.f79.results.toList impl_Stone_flour.b (impl_Stone_flour.cd.enc a).1 (impl_Stone_flour.cd.enc a).2 = (impl_Stone_flour.tr a).map fun r => (impl_Stone_flour.enc a r, (impl_Stone_flour.cd.enc a).2) := by kernel_rfl
theorem impl_Stone_flour.cok : OKq Try.prog 79 impl_Stone_flour.c := con_q' impl_Stone_flour.cd impl_Stone_flour.hC Try.func79 (by kernel_rfl) (by kernel_rfl) (by kernel_rfl) impl_Stone_flour.lp (fun a => by kernel_rfl) impl_Stone_flour.run (Tells.val (tree := impl_Stone_flour.tr) fun a => by kernel_rfl)
/-! ### impl_atLeast0 -/
noncomputable def impl_atLeast0.b : Code := bodyOf Try.f93
noncomputable def impl_atLeast0.C : Ctx := { ty := tys, fn := [], lp := [], n := 6, k := 0 }
theorem impl_atLeast0.hC : CtxOK Try.prog impl_atLeast0.C := CtxOK.of mo tys_ok FnsOK.nil
theorem impl_atLeast0.lp : LpOK Try.prog impl_atLeast0.C impl_atLeast0.b := (LpOK.nil (by kernel_rfl))
noncomputable def impl_atLeast0.t (x0 : Nat) : T Nat :=
  .br (fgt .f32 x0 0)
  (.leaf x0)
  (.leaf 0)
noncomputable def impl_atLeast0 (x0 : Nat) : Nat := (impl_atLeast0.t x0).val
def impl_atLeast0.cd : Cd Nat (List V × Hp) := Cd.iso (Cd.pair (Cd.cons (Cd.fl .f32) Cd.nil) Cd.nil) (fun a => a.1.1) (fun a => ((a, ()), ())) (fun _ => rfl)
noncomputable def impl_atLeast0.tr (a : Nat) : T Nat := impl_atLeast0.t a
def impl_atLeast0.enc : Nat → Nat → V := fun a r => .fl .f32 r
noncomputable def impl_atLeast0.c : List V → Hp → T V := cdQ impl_atLeast0.cd (fun a => .leaf (impl_atLeast0.enc a (impl_atLeast0 a)))
theorem impl_atLeast0.run (a : Nat) : runF impl_atLeast0.C Try.f93.results.toList impl_atLeast0.b (impl_atLeast0.cd.enc a).1 (impl_atLeast0.cd.enc a).2 = (impl_atLeast0.tr a).map fun r => (impl_atLeast0.enc a r, (impl_atLeast0.cd.enc a).2) := by kernel_rfl
theorem impl_atLeast0.cok : OKq Try.prog 93 impl_atLeast0.c := con_q' impl_atLeast0.cd impl_atLeast0.hC Try.func93 (by kernel_rfl) (by kernel_rfl) (by kernel_rfl) impl_atLeast0.lp (fun a => by kernel_rfl) impl_atLeast0.run (Tells.val (tree := impl_atLeast0.tr) fun a => by kernel_rfl)
/-! ### impl_Stone_dull -/
noncomputable def impl_Stone_dull.b : Code := bodyOf Try.f73
noncomputable def impl_Stone_dull.C : Ctx := { ty := tys, fn := [(93, .q impl_atLeast0.c)], lp := [], n := 20, k := 1 }
theorem impl_Stone_dull.hC : CtxOK Try.prog impl_Stone_dull.C := CtxOK.of mo tys_ok (FnsOK.cons impl_atLeast0.cok FnsOK.nil)
theorem impl_Stone_dull.lp : LpOK Try.prog impl_Stone_dull.C impl_Stone_dull.b := (LpOK.nil (by kernel_rfl))
noncomputable def impl_Stone_dull.t (x0 : Nat) (x1 : Nat) (x2 : Nat) (x3 : Nat) (x4 : Nat) : T (Nat × Nat × Nat × Nat) :=
  .leaf (x1, x2, x3, (impl_atLeast0 (fsub .f32 x4 (fmul .f32 x4 (fdiv .f32 x0 1166016512)))))
noncomputable def impl_Stone_dull (x0 : Nat) (x1 : Nat) (x2 : Nat) (x3 : Nat) (x4 : Nat) : Nat × Nat × Nat × Nat := (impl_Stone_dull.t x0 x1 x2 x3 x4).val
def impl_Stone_dull.cd : Cd (Nat × Nat × Nat × Nat × Nat) (List V × Hp) := Cd.iso (Cd.pair (Cd.cons (Cd.pt 0 (Cd.natc 0)) (Cd.cons (Cd.fl .f32) Cd.nil)) (Cd.cons (Cd.rw 28 4 (Cd.vs (Cd.cons (Cd.fl .f32) (Cd.cons (Cd.fl .f32) (Cd.cons (Cd.fl .f32) (Cd.cons (Cd.fl .f32) Cd.nil)))))) Cd.nil)) (fun a => (a.1.2.1, a.2.1.1, a.2.1.2.1, a.2.1.2.2.1, a.2.1.2.2.2.1)) (fun a => (((), (a.1, ())), ((a.2.1, (a.2.2.1, (a.2.2.2.1, (a.2.2.2.2, ())))), ()))) (fun _ => rfl)
noncomputable def impl_Stone_dull.tr (a : Nat × Nat × Nat × Nat × Nat) : T (Nat × Nat × Nat × Nat) := impl_Stone_dull.t a.1 a.2.1 a.2.2.1 a.2.2.2.1 a.2.2.2.2
def impl_Stone_dull.enc : (Nat × Nat × Nat × Nat × Nat) → (Nat × Nat × Nat × Nat) → V × Hp := fun a r => (.tup [], [some ⟨true, 28, 4, .vs [.fl .f32 r.1, .fl .f32 r.2.1, .fl .f32 r.2.2.1, .fl .f32 r.2.2.2]⟩])
noncomputable def impl_Stone_dull.c : List V → Hp → T (V × Hp) := cdE impl_Stone_dull.cd (fun a => .leaf (impl_Stone_dull.enc a (impl_Stone_dull a.1 a.2.1 a.2.2.1 a.2.2.2.1 a.2.2.2.2)))
theorem impl_Stone_dull.run (a : Nat × Nat × Nat × Nat × Nat) : runF impl_Stone_dull.C Try.f73.results.toList impl_Stone_dull.b (impl_Stone_dull.cd.enc a).1 (impl_Stone_dull.cd.enc a).2 = (impl_Stone_dull.tr a).map (impl_Stone_dull.enc a) := by kernel_rfl
theorem impl_Stone_dull.cok : OKe Try.prog 73 impl_Stone_dull.c := con_e' impl_Stone_dull.cd impl_Stone_dull.hC Try.func73 (by kernel_rfl) (by kernel_rfl) (by kernel_rfl) impl_Stone_dull.lp (fun a => by kernel_rfl) impl_Stone_dull.run (Tells.val (tree := impl_Stone_dull.tr) fun a => by kernel_rfl)
/-! ### impl_Stone_hour -/
noncomputable def impl_Stone_hour.b : Code := bodyOf Try.f54
noncomputable def impl_Stone_hour.C : Ctx := { ty := tys, fn := [(78, .q impl_Stone_steadySpeed.c), (79, .q impl_Stone_flour.c), (73, .e impl_Stone_dull.c)], lp := [], n := 28, k := 1 }
theorem impl_Stone_hour.hC : CtxOK Try.prog impl_Stone_hour.C := CtxOK.of mo tys_ok (FnsOK.cons impl_Stone_steadySpeed.cok (FnsOK.cons impl_Stone_flour.cok (FnsOK.cons impl_Stone_dull.cok FnsOK.nil)))
theorem impl_Stone_hour.lp : LpOK Try.prog impl_Stone_hour.C impl_Stone_hour.b := (LpOK.nil (by kernel_rfl))
noncomputable def impl_Stone_hour.t (x0 : Nat) (x1 : Nat) (x2 : Nat) (x3 : Nat) (x4 : Nat) (x5 : Nat) : T (Nat × Nat × Nat × Nat × Nat) :=
  .br (impl_Stone_steadySpeed.ok x0 x1 (40 : Int) x2 x3 x4 x5)
  (.br (!(impl_Stone_steadySpeed x0 x1 (40 : Int) x2 x3 x4 x5).2)
   (.leaf (0, x2, x3, x4, x5))
   (.leaf ((fmin .f32 (impl_Stone_flour ((impl_Stone_steadySpeed x0 x1 (40 : Int) x2 x3 x4 x5).1) x1 x2 x3 x4 x5) 1233125376), (impl_Stone_dull (fmin .f32 (impl_Stone_flour ((impl_Stone_steadySpeed x0 x1 (40 : Int) x2 x3 x4 x5).1) x1 x2 x3 x4 x5) 1233125376) x2 x3 x4 x5).1, (impl_Stone_dull (fmin .f32 (impl_Stone_flour ((impl_Stone_steadySpeed x0 x1 (40 : Int) x2 x3 x4 x5).1) x1 x2 x3 x4 x5) 1233125376) x2 x3 x4 x5).2.1, (impl_Stone_dull (fmin .f32 (impl_Stone_flour ((impl_Stone_steadySpeed x0 x1 (40 : Int) x2 x3 x4 x5).1) x1 x2 x3 x4 x5) 1233125376) x2 x3 x4 x5).2.2.1, (impl_Stone_dull (fmin .f32 (impl_Stone_flour ((impl_Stone_steadySpeed x0 x1 (40 : Int) x2 x3 x4 x5).1) x1 x2 x3 x4 x5) 1233125376) x2 x3 x4 x5).2.2.2)))
  .bad
noncomputable def impl_Stone_hour (x0 : Nat) (x1 : Nat) (x2 : Nat) (x3 : Nat) (x4 : Nat) (x5 : Nat) : Nat × Nat × Nat × Nat × Nat := (impl_Stone_hour.t x0 x1 x2 x3 x4 x5).val
noncomputable def impl_Stone_hour.ok (x0 : Nat) (x1 : Nat) (x2 : Nat) (x3 : Nat) (x4 : Nat) (x5 : Nat) : Bool := (impl_Stone_hour.t x0 x1 x2 x3 x4 x5).ok
def impl_Stone_hour.cd : Cd (Nat × Nat × Nat × Nat × Nat × Nat) (List V × Hp) := Cd.iso (Cd.pair (Cd.cons (Cd.pt 0 (Cd.natc 0)) (Cd.cons (Cd.fl .f32) (Cd.cons (Cd.fl .f32) Cd.nil))) (Cd.cons (Cd.rw 28 4 (Cd.vs (Cd.cons (Cd.fl .f32) (Cd.cons (Cd.fl .f32) (Cd.cons (Cd.fl .f32) (Cd.cons (Cd.fl .f32) Cd.nil)))))) Cd.nil)) (fun a => (a.1.2.1, a.1.2.2.1, a.2.1.1, a.2.1.2.1, a.2.1.2.2.1, a.2.1.2.2.2.1)) (fun a => (((), (a.1, (a.2.1, ()))), ((a.2.2.1, (a.2.2.2.1, (a.2.2.2.2.1, (a.2.2.2.2.2, ())))), ()))) (fun _ => rfl)
noncomputable def impl_Stone_hour.tr (a : Nat × Nat × Nat × Nat × Nat × Nat) : T (Nat × Nat × Nat × Nat × Nat) := impl_Stone_hour.t a.1 a.2.1 a.2.2.1 a.2.2.2.1 a.2.2.2.2.1 a.2.2.2.2.2
def impl_Stone_hour.enc : (Nat × Nat × Nat × Nat × Nat × Nat) → (Nat × Nat × Nat × Nat × Nat) → V × Hp := fun a r => (.fl .f32 r.1, [some ⟨true, 28, 4, .vs [.fl .f32 r.2.1, .fl .f32 r.2.2.1, .fl .f32 r.2.2.2.1, .fl .f32 r.2.2.2.2]⟩])
noncomputable def impl_Stone_hour.c : List V → Hp → T (V × Hp) := cdE impl_Stone_hour.cd (fun a => .br (impl_Stone_hour.ok a.1 a.2.1 a.2.2.1 a.2.2.2.1 a.2.2.2.2.1 a.2.2.2.2.2) (.leaf (impl_Stone_hour.enc a (impl_Stone_hour a.1 a.2.1 a.2.2.1 a.2.2.2.1 a.2.2.2.2.1 a.2.2.2.2.2))) .bad)
theorem impl_Stone_hour.run (a : Nat × Nat × Nat × Nat × Nat × Nat) : runF impl_Stone_hour.C Try.f54.results.toList impl_Stone_hour.b (impl_Stone_hour.cd.enc a).1 (impl_Stone_hour.cd.enc a).2 = (impl_Stone_hour.tr a).map (impl_Stone_hour.enc a) := by kernel_rfl
theorem impl_Stone_hour.cok : OKe Try.prog 54 impl_Stone_hour.c := con_e' impl_Stone_hour.cd impl_Stone_hour.hC Try.func54 (by kernel_rfl) (by kernel_rfl) (by kernel_rfl) impl_Stone_hour.lp (fun a => by kernel_rfl) impl_Stone_hour.run (Tells.ok (tree := impl_Stone_hour.tr))
/-! ### impl_BestFeed -/
noncomputable def impl_BestFeed.b : Code := bodyOf Try.f12
noncomputable def impl_BestFeed.l10.s (x0 : Nat) (x1 : Int) (x2 : Nat) (x3 : Nat) (x4 : Int) (x5 : Int) (x6 : List Nat) (x7 : Nat) (x8 : Nat) (x9 : Nat) (x10 : Nat) : T ((Int × Nat × Int) ⊕ (Int × Nat)) :=
  .br (decide (x5 < x4))
  (.br (bounds x5 x3)
   (.br (Nat.ble ((Int.toNat x5 * 1) + 1) (List.length x6))
    (.br (impl_Stone_hour.ok x0 (List.getD x6 (Int.toNat x5 * 1) 0) x7 x8 x9 x10)
     (.br (fgt .f32 (impl_Stone_hour x0 (List.getD x6 (Int.toNat x5 * 1) 0) x7 x8 x9 x10).1 x2)
      (.leaf (.inl (x5, (impl_Stone_hour x0 (List.getD x6 (Int.toNat x5 * 1) 0) x7 x8 x9 x10).1, (IntKind.wrap .i64 (x5 + (1 : Int))))))
      (.leaf (.inl (x1, x2, (IntKind.wrap .i64 (x5 + (1 : Int)))))))
     .bad)
    .bad)
   .bad)
  (.leaf (.inr (x1, x2)))
noncomputable def impl_BestFeed.l10.st (p : Nat × Nat × Int × List Nat × Nat × Nat × Nat × Nat) (x : Int × Nat × Int) : T ((Int × Nat × Int) ⊕ (Int × Nat)) := impl_BestFeed.l10.s p.1 x.1 x.2.1 p.2.1 p.2.2.1 x.2.2 p.2.2.2.1 p.2.2.2.2.1 p.2.2.2.2.2.1 p.2.2.2.2.2.2.1 p.2.2.2.2.2.2.2
noncomputable def impl_BestFeed.l10.r (p : Nat × Nat × Int × List Nat × Nat × Nat × Nat × Nat) (x : Int × Nat × Int) : Option (Int × Nat) := iterT (impl_BestFeed.l10.st p) manyRounds x
def impl_BestFeed.l10.cd : Cd ((Nat × Nat × Int × List Nat × Nat × Nat × Nat × Nat) × (Int × Nat × Int)) (List V × Hp) := Cd.iso (Cd.pair (Cd.cons (Cd.fl .f32) (Cd.cons (Cd.pt 1 (Cd.natc 0)) (Cd.cons (Cd.it .i64) (Cd.cons (Cd.fl .f32) (Cd.cons (Cd.own 0) (Cd.cons (Cd.it .i64) (Cd.cons (Cd.it .i64) Cd.nil))))))) (Cd.cons (Cd.rw 22 1 (Cd.fs .f32)) (Cd.cons (Cd.rw 28 4 (Cd.vs (Cd.cons (Cd.fl .f32) (Cd.cons (Cd.fl .f32) (Cd.cons (Cd.fl .f32) (Cd.cons (Cd.fl .f32) Cd.nil)))))) Cd.nil))) (fun a => ((a.1.1, a.1.2.2.2.2.1, a.1.2.2.2.2.2.1, a.2.1, a.2.2.1.1, a.2.2.1.2.1, a.2.2.1.2.2.1, a.2.2.1.2.2.2.1), (a.1.2.2.1, a.1.2.2.2.1, a.1.2.2.2.2.2.2.1))) (fun a => ((a.1.1, ((), (a.2.1, (a.2.2.1, (a.1.2.1, (a.1.2.2.1, (a.2.2.2, ()))))))), (a.1.2.2.2.1, ((a.1.2.2.2.2.1, (a.1.2.2.2.2.2.1, (a.1.2.2.2.2.2.2.1, (a.1.2.2.2.2.2.2.2, ())))), ())))) (fun _ => rfl)
def impl_BestFeed.l10.out (p : Nat × Nat × Int × List Nat × Nat × Nat × Nat × Nat) : (Int × Nat) → X × List V × Hp := (fun r => (.ex 1, [.it .i64 r.1, .fl .f32 r.2], [some ⟨true, 22, 1, .fs .f32 p.2.2.2.1⟩]))
def impl_BestFeed.l10.ex (p : Nat × Nat × Int × List Nat × Nat × Nat × Nat × Nat) : (Int × Nat) → T (X × List V × Hp) := leafT (fun r => (.ex 1, [.it .i64 r.1, .fl .f32 r.2], [some ⟨true, 22, 1, .fs .f32 p.2.2.2.1⟩]))
noncomputable def impl_BestFeed.l10.c : List V → Hp → T (X × List V × Hp) := cdL impl_BestFeed.l10.cd fun x => optT (impl_BestFeed.l10.r x.1 x.2) (impl_BestFeed.l10.ex x.1)
noncomputable def impl_BestFeed.C : Ctx := { ty := tys, fn := [(50, .q impl_isAmount.c), (51, .q slices_ContainsFunc_float32_float32.c), (49, .q impl_stoneCode.c), (54, .e impl_Stone_hour.c)], lp := [(10, ⟨[1, 3, 10, 11, 37, 38, 39], [10, 11], impl_BestFeed.l10.c⟩)], n := 56, k := 1 }
theorem impl_BestFeed.hC : CtxOK Try.prog impl_BestFeed.C := CtxOK.of mo tys_ok (FnsOK.cons impl_isAmount.cok (FnsOK.cons slices_ContainsFunc_float32_float32.cok (FnsOK.cons impl_stoneCode.cok (FnsOK.cons impl_Stone_hour.cok FnsOK.nil))))
noncomputable def impl_BestFeed.b10 : Code := (nthC (loopsOf impl_BestFeed.b) 0)
theorem impl_BestFeed.lp10 : LpOK Try.prog impl_BestFeed.C impl_BestFeed.b10 := (LpOK.nil (by kernel_rfl))
theorem impl_BestFeed.l10.round (p : Nat × Nat × Int × List Nat × Nat × Nat × Nat × Nat) (s : Int × Nat × Int) : roundL impl_BestFeed.C [1, 3, 10, 11, 37, 38, 39] [10, 11] impl_BestFeed.b10 (impl_BestFeed.l10.cd.enc (p, s)).1 (impl_BestFeed.l10.cd.enc (p, s)).2 = (impl_BestFeed.l10.st p s).map (encSum (fun s => impl_BestFeed.l10.cd.enc (p, s)) (impl_BestFeed.l10.out p)) := by kernel_rfl
theorem impl_BestFeed.l10.lok : LoopOK Try.prog impl_BestFeed.C ⟨[1, 3, 10, 11, 37, 38, 39], [10, 11], impl_BestFeed.l10.c⟩ impl_BestFeed.b10 := loop_cd impl_BestFeed.l10.cd impl_BestFeed.hC impl_BestFeed.lp10 impl_BestFeed.l10.round fun p => Gets.leaf
theorem impl_BestFeed.lp : LpOK Try.prog impl_BestFeed.C impl_BestFeed.b := lp_of (by kernel_rfl) (LpsOK.cons (k := 10) (by kernel_rfl) (by kernel_rfl) impl_BestFeed.l10.lok LpsOK.nil)
noncomputable def impl_BestFeed.t (x0 : Nat) (x1 : Nat) (x2 : Nat) (x3 : Nat) (x4 : Nat) (x5 : Nat) (x6 : List Nat) : T (Int × Nat × Int) :=
  .br (impl_isAmount x4)
  (.br (slices_ContainsFunc_float32_float32.ok x5 x6)
   (.br ((impl_stoneCode x0 x1 x2 x3 (!(slices_ContainsFunc_float32_float32 x5 x6))) != (0 : Int))
    (.leaf ((0 : Int), 0, (impl_stoneCode x0 x1 x2 x3 (!(slices_ContainsFunc_float32_float32 x5 x6)))))
    (.br (decide (((x5 : Nat) : Int) > (60 : Int)))
     (.leaf ((0 : Int), 0, (3 : Int)))
     (.br (((x5 : Nat) : Int) == (0 : Int))
      (.leaf ((0 : Int), 0, (6 : Int)))
      (.br (Option.isSome (impl_BestFeed.l10.r (x4, x5, ((x5 : Nat) : Int), x6, x0, x1, x2, x3) ((0 : Int), 3212836864, (0 : Int))))
       (.leaf ((Option.getD (impl_BestFeed.l10.r (x4, x5, ((x5 : Nat) : Int), x6, x0, x1, x2, x3) ((0 : Int), 3212836864, (0 : Int))) default).1, (Option.getD (impl_BestFeed.l10.r (x4, x5, ((x5 : Nat) : Int), x6, x0, x1, x2, x3) ((0 : Int), 3212836864, (0 : Int))) default).2, (0 : Int)))
       .bad))))
   .bad)
  (.br ((impl_stoneCode x0 x1 x2 x3 false) != (0 : Int))
   (.leaf ((0 : Int), 0, (impl_stoneCode x0 x1 x2 x3 false)))
   (.br (decide (((x5 : Nat) : Int) > (60 : Int)))
    (.leaf ((0 : Int), 0, (3 : Int)))
    (.br (((x5 : Nat) : Int) == (0 : Int))
     (.leaf ((0 : Int), 0, (6 : Int)))
     (.br (Option.isSome (impl_BestFeed.l10.r (x4, x5, ((x5 : Nat) : Int), x6, x0, x1, x2, x3) ((0 : Int), 3212836864, (0 : Int))))
      (.leaf ((Option.getD (impl_BestFeed.l10.r (x4, x5, ((x5 : Nat) : Int), x6, x0, x1, x2, x3) ((0 : Int), 3212836864, (0 : Int))) default).1, (Option.getD (impl_BestFeed.l10.r (x4, x5, ((x5 : Nat) : Int), x6, x0, x1, x2, x3) ((0 : Int), 3212836864, (0 : Int))) default).2, (0 : Int)))
      .bad))))
noncomputable def impl_BestFeed (x0 : Nat) (x1 : Nat) (x2 : Nat) (x3 : Nat) (x4 : Nat) (x5 : Nat) (x6 : List Nat) : Int × Nat × Int := (impl_BestFeed.t x0 x1 x2 x3 x4 x5 x6).val
noncomputable def impl_BestFeed.ok (x0 : Nat) (x1 : Nat) (x2 : Nat) (x3 : Nat) (x4 : Nat) (x5 : Nat) (x6 : List Nat) : Bool := (impl_BestFeed.t x0 x1 x2 x3 x4 x5 x6).ok
def impl_BestFeed.cd : Cd (Nat × Nat × Nat × Nat × Nat × Nat × List Nat) (List V × Hp) := Cd.iso (Cd.pair (Cd.cons (Cd.agg (Cd.cons (Cd.fl .f32) (Cd.cons (Cd.fl .f32) (Cd.cons (Cd.fl .f32) (Cd.cons (Cd.fl .f32) Cd.nil))))) (Cd.cons (Cd.fl .f32) (Cd.cons (Cd.own 0) Cd.nil))) (Cd.cons (Cd.rw 22 1 (Cd.fs .f32)) Cd.nil)) (fun a => (a.1.1.1, a.1.1.2.1, a.1.1.2.2.1, a.1.1.2.2.2.1, a.1.2.1, a.1.2.2.1, a.2.1)) (fun a => (((a.1, (a.2.1, (a.2.2.1, (a.2.2.2.1, ())))), (a.2.2.2.2.1, (a.2.2.2.2.2.1, ()))), (a.2.2.2.2.2.2, ()))) (fun _ => rfl)
noncomputable def impl_BestFeed.tr (a : Nat × Nat × Nat × Nat × Nat × Nat × List Nat) : T (Int × Nat × Int) := impl_BestFeed.t a.1 a.2.1 a.2.2.1 a.2.2.2.1 a.2.2.2.2.1 a.2.2.2.2.2.1 a.2.2.2.2.2.2
def impl_BestFeed.enc : (Nat × Nat × Nat × Nat × Nat × Nat × List Nat) → (Int × Nat × Int) → V := fun a r => .tup [.it .i64 r.1, .fl .f32 r.2.1, .it .i64 r.2.2]
noncomputable def impl_BestFeed.c : List V → Hp → T V := cdQ impl_BestFeed.cd (fun a => .br (impl_BestFeed.ok a.1 a.2.1 a.2.2.1 a.2.2.2.1 a.2.2.2.2.1 a.2.2.2.2.2.1 a.2.2.2.2.2.2) (.leaf (impl_BestFeed.enc a (impl_BestFeed a.1 a.2.1 a.2.2.1 a.2.2.2.1 a.2.2.2.2.1 a.2.2.2.2.2.1 a.2.2.2.2.2.2))) .bad)
theorem impl_BestFeed.run (a : Nat × Nat × Nat × Nat × Nat × Nat × List Nat) : runF impl_BestFeed.C Try.f12.results.toList impl_BestFeed.b (impl_BestFeed.cd.enc a).1 (impl_BestFeed.cd.enc a).2 = (impl_BestFeed.tr a).map fun r => (impl_BestFeed.enc a r, (impl_BestFeed.cd.enc a).2) := by kernel_rfl
theorem impl_BestFeed.cok : OKq Try.prog 12 impl_BestFeed.c := con_q' impl_BestFeed.cd impl_BestFeed.hC Try.func12 (by kernel_rfl) (by kernel_rfl) (by kernel_rfl) impl_BestFeed.lp (fun a => by kernel_rfl) impl_BestFeed.run (Tells.ok (tree := impl_BestFeed.tr))
/-! ### laws_sameFloat -/
noncomputable def laws_sameFloat.b : Code := bodyOf Try.f13
noncomputable def laws_sameFloat.C : Ctx := { ty := tys, fn := [], lp := [], n := 37, k := 0 }
theorem laws_sameFloat.hC : CtxOK Try.prog laws_sameFloat.C := CtxOK.of mo tys_ok FnsOK.nil
theorem laws_sameFloat.lp : LpOK Try.prog laws_sameFloat.C laws_sameFloat.b := (LpOK.nil (by kernel_rfl))
noncomputable def laws_sameFloat.t (x0 : Nat) (x1 : Nat) : T Bool :=
  .br (fne .f64 x0 x0)
  (.br (fne .f64 x0 x0)
   (.leaf (fne .f64 x1 x1))
   (.leaf false))
  (.br (fne .f64 x1 x1)
   (.br (fne .f64 x0 x0)
    (.leaf (fne .f64 x1 x1))
    (.leaf false))
   (.br (feq .f64 x0 0)
    (.br (feq .f64 x1 0)
     (.leaf ((fgt .f64 (fdiv .f64 4607182418800017408 x0) 0) == (fgt .f64 (fdiv .f64 4607182418800017408 x1) 0)))
     (.leaf (feq .f64 x0 x1)))
    (.leaf (feq .f64 x0 x1))))
noncomputable def laws_sameFloat (x0 : Nat) (x1 : Nat) : Bool := (laws_sameFloat.t x0 x1).val
def laws_sameFloat.cd : Cd (Nat × Nat) (List V × Hp) := Cd.iso (Cd.pair (Cd.cons (Cd.fl .f64) (Cd.cons (Cd.fl .f64) Cd.nil)) Cd.nil) (fun a => (a.1.1, a.1.2.1)) (fun a => ((a.1, (a.2, ())), ())) (fun _ => rfl)
noncomputable def laws_sameFloat.tr (a : Nat × Nat) : T Bool := laws_sameFloat.t a.1 a.2
def laws_sameFloat.enc : (Nat × Nat) → Bool → V := fun a r => .bo r
noncomputable def laws_sameFloat.c : List V → Hp → T V := cdQ laws_sameFloat.cd (fun a => .leaf (laws_sameFloat.enc a (laws_sameFloat a.1 a.2)))
theorem laws_sameFloat.run (a : Nat × Nat) : runF laws_sameFloat.C Try.f13.results.toList laws_sameFloat.b (laws_sameFloat.cd.enc a).1 (laws_sameFloat.cd.enc a).2 = (laws_sameFloat.tr a).map fun r => (laws_sameFloat.enc a r, (laws_sameFloat.cd.enc a).2) := by kernel_rfl
theorem laws_sameFloat.cok : OKq Try.prog 13 laws_sameFloat.c := con_q' laws_sameFloat.cd laws_sameFloat.hC Try.func13 (by kernel_rfl) (by kernel_rfl) (by kernel_rfl) laws_sameFloat.lp (fun a => by kernel_rfl) laws_sameFloat.run (Tells.val (tree := laws_sameFloat.tr) fun a => by kernel_rfl)
/-! ### laws_eqFloat32S -/
noncomputable def laws_eqFloat32S.b : Code := bodyOf Try.f14
noncomputable def laws_eqFloat32S.l4.s (x0 : Nat) (x1 : Nat) (x2 : Int) (x3 : List Nat) (x4 : List Nat) : T (Int ⊕ (Bool ⊕ Unit)) :=
  .br (decide (x2 < ((x0 : Nat) : Int)))
  (.br (bounds x2 x0)
   (.br (Nat.ble ((Int.toNat x2 * 1) + 1) (List.length x3))
    (.br (fcvOpen .f32 .f64 (List.getD x3 (Int.toNat x2 * 1) 0))
     .bad
     (.br (bounds x2 x1)
      (.br (Nat.ble ((Int.toNat x2 * 1) + 1) (List.length x4))
       (.br (fcvOpen .f32 .f64 (List.getD x4 (Int.toNat x2 * 1) 0))
        .bad
        (.br (!(laws_sameFloat (fcv .f32 .f64 (List.getD x3 (Int.toNat x2 * 1) 0)) (fcv .f32 .f64 (List.getD x4 (Int.toNat x2 * 1) 0))))
         (.leaf (.inr (.inl false)))
         (.leaf (.inl (IntKind.wrap .i64 (x2 + (1 : Int)))))))
       .bad)
      .bad))
    .bad)
   .bad)
  (.leaf (.inr (.inr ())))
noncomputable def laws_eqFloat32S.l4.st (p : Nat × Nat × List Nat × List Nat) (x : Int) : T (Int ⊕ (Bool ⊕ Unit)) := laws_eqFloat32S.l4.s p.1 p.2.1 x p.2.2.1 p.2.2.2
noncomputable def laws_eqFloat32S.l4.r (p : Nat × Nat × List Nat × List Nat) (x : Int) : Option (Bool ⊕ Unit) := iterT (laws_eqFloat32S.l4.st p) manyRounds x
def laws_eqFloat32S.l4.cd : Cd ((Nat × Nat × List Nat × List Nat) × Int) (List V × Hp) := Cd.iso (Cd.pair (Cd.cons (Cd.own 0) (Cd.cons (Cd.own 1) (Cd.cons (Cd.it .i64) Cd.nil))) (Cd.cons (Cd.rw 22 1 (Cd.fs .f32)) (Cd.cons (Cd.rw 22 1 (Cd.fs .f32)) Cd.nil))) (fun a => ((a.1.1, a.1.2.1, a.2.1, a.2.2.1), a.1.2.2.1)) (fun a => ((a.1.1, (a.1.2.1, (a.2, ()))), (a.1.2.2.1, (a.1.2.2.2, ())))) (fun _ => rfl)
def laws_eqFloat32S.l4.out (p : Nat × Nat × List Nat × List Nat) : (Bool ⊕ Unit) → X × List V × Hp := sumO (fun r => (.ret, [.bo r], [some ⟨true, 22, 1, .fs .f32 p.2.2.1⟩, some ⟨true, 22, 1, .fs .f32 p.2.2.2⟩])) (fun r => (.ex 0, [.unk], [some ⟨true, 22, 1, .fs .f32 p.2.2.1⟩, some ⟨true, 22, 1, .fs .f32 p.2.2.2⟩]))
def laws_eqFloat32S.l4.ex (p : Nat × Nat × List Nat × List Nat) : (Bool ⊕ Unit) → T (X × List V × Hp) := sumT (leafT (fun r => (.ret, [.bo r], [some ⟨true, 22, 1, .fs .f32 p.2.2.1⟩, some ⟨true, 22, 1, .fs .f32 p.2.2.2⟩]))) (leafT (fun r => (.ex 0, [.unk], [some ⟨true, 22, 1, .fs .f32 p.2.2.1⟩, some ⟨true, 22, 1, .fs .f32 p.2.2.2⟩])))
noncomputable def laws_eqFloat32S.l4.c : List V → Hp → T (X × List V × Hp) := cdL laws_eqFloat32S.l4.cd fun x => optT (laws_eqFloat32S.l4.r x.1 x.2) (laws_eqFloat32S.l4.ex x.1)
noncomputable def laws_eqFloat32S.C : Ctx := { ty := tys, fn := [(13, .q laws_sameFloat.c)], lp := [(4, ⟨[0, 1, 5], [4], laws_eqFloat32S.l4.c⟩)], n := 29, k := 2 }
theorem laws_eqFloat32S.hC : CtxOK Try.prog laws_eqFloat32S.C := CtxOK.of mo tys_ok (FnsOK.cons laws_sameFloat.cok FnsOK.nil)
noncomputable def laws_eqFloat32S.b4 : Code := (nthC (loopsOf laws_eqFloat32S.b) 0)
theorem laws_eqFloat32S.lp4 : LpOK Try.prog laws_eqFloat32S.C laws_eqFloat32S.b4 := (LpOK.nil (by kernel_rfl))
theorem laws_eqFloat32S.l4.round (p : Nat × Nat × List Nat × List Nat) (s : Int) : roundL laws_eqFloat32S.C [0, 1, 5] [4] laws_eqFloat32S.b4 (laws_eqFloat32S.l4.cd.enc (p, s)).1 (laws_eqFloat32S.l4.cd.enc (p, s)).2 = (laws_eqFloat32S.l4.st p s).map (encSum (fun s => laws_eqFloat32S.l4.cd.enc (p, s)) (laws_eqFloat32S.l4.out p)) := by kernel_rfl
theorem laws_eqFloat32S.l4.lok : LoopOK Try.prog laws_eqFloat32S.C ⟨[0, 1, 5], [4], laws_eqFloat32S.l4.c⟩ laws_eqFloat32S.b4 := loop_cd laws_eqFloat32S.l4.cd laws_eqFloat32S.hC laws_eqFloat32S.lp4 laws_eqFloat32S.l4.round fun p => (Gets.sum Gets.leaf Gets.leaf)
theorem laws_eqFloat32S.lp : LpOK Try.prog laws_eqFloat32S.C laws_eqFloat32S.b := lp_of (by kernel_rfl) (LpsOK.cons (k := 4) (by kernel_rfl) (by kernel_rfl) laws_eqFloat32S.l4.lok LpsOK.nil)
noncomputable def laws_eqFloat32S.t (x0 : Nat) (x1 : Nat) (x2 : List Nat) (x3 : List Nat) : T Bool :=
  .br (((x0 : Nat) : Int) != ((x1 : Nat) : Int))
  (.leaf false)
  (.br (Option.isSome (laws_eqFloat32S.l4.r (x0, x1, x2, x3) (0 : Int)))
   (.br (Sum.isLeft (Option.getD (laws_eqFloat32S.l4.r (x0, x1, x2, x3) (0 : Int)) default))
    (.leaf (getLeftD (Option.getD (laws_eqFloat32S.l4.r (x0, x1, x2, x3) (0 : Int)) default)))
    (.leaf true))
   .bad)
noncomputable def laws_eqFloat32S (x0 : Nat) (x1 : Nat) (x2 : List Nat) (x3 : List Nat) : Bool := (laws_eqFloat32S.t x0 x1 x2 x3).val
noncomputable def laws_eqFloat32S.ok (x0 : Nat) (x1 : Nat) (x2 : List Nat) (x3 : List Nat) : Bool := (laws_eqFloat32S.t x0 x1 x2 x3).ok
def laws_eqFloat32S.cd : Cd (Nat × Nat × List Nat × List Nat) (List V × Hp) := Cd.iso (Cd.pair (Cd.cons (Cd.own 0) (Cd.cons (Cd.own 1) Cd.nil)) (Cd.cons (Cd.rw 22 1 (Cd.fs .f32)) (Cd.cons (Cd.rw 22 1 (Cd.fs .f32)) Cd.nil))) (fun a => (a.1.1, a.1.2.1, a.2.1, a.2.2.1)) (fun a => ((a.1, (a.2.1, ())), (a.2.2.1, (a.2.2.2, ())))) (fun _ => rfl)
noncomputable def laws_eqFloat32S.tr (a : Nat × Nat × List Nat × List Nat) : T Bool := laws_eqFloat32S.t a.1 a.2.1 a.2.2.1 a.2.2.2
def laws_eqFloat32S.enc : (Nat × Nat × List Nat × List Nat) → Bool → V := fun a r => .bo r
noncomputable def laws_eqFloat32S.c : List V → Hp → T V := cdQ laws_eqFloat32S.cd (fun a => .br (laws_eqFloat32S.ok a.1 a.2.1 a.2.2.1 a.2.2.2) (.leaf (laws_eqFloat32S.enc a (laws_eqFloat32S a.1 a.2.1 a.2.2.1 a.2.2.2))) .bad)
theorem laws_eqFloat32S.run (a : Nat × Nat × List Nat × List Nat) : runF laws_eqFloat32S.C Try.f14.results.toList laws_eqFloat32S.b (laws_eqFloat32S.cd.enc a).1 (laws_eqFloat32S.cd.enc a).2 = (laws_eqFloat32S.tr a).map fun r => (laws_eqFloat32S.enc a r, (laws_eqFloat32S.cd.enc a).2) := by kernel_rfl
theorem laws_eqFloat32S.cok : OKq Try.prog 14 laws_eqFloat32S.c := con_q' laws_eqFloat32S.cd laws_eqFloat32S.hC Try.func14 (by kernel_rfl) (by kernel_rfl) (by kernel_rfl) laws_eqFloat32S.lp (fun a => by kernel_rfl) laws_eqFloat32S.run (Tells.ok (tree := laws_eqFloat32S.tr))
/-! ### laws_FnExactBestFeed -/
noncomputable def laws_FnExactBestFeed.b : Code := bodyOf Try.f3
noncomputable def laws_FnExactBestFeed.C : Ctx := { ty := tys, fn := [(10, .q laws_toStone.c), (11, .e laws_toFloat32S.c), (9, .q spec_BestFeed.c), (12, .q impl_BestFeed.c), (13, .q laws_sameFloat.c), (14, .q laws_eqFloat32S.c)], lp := [], n := 59, k := 1 }
theorem laws_FnExactBestFeed.hC : CtxOK Try.prog laws_FnExactBestFeed.C := CtxOK.of mo tys_ok (FnsOK.cons laws_toStone.cok (FnsOK.cons laws_toFloat32S.cok (FnsOK.cons spec_BestFeed.cok (FnsOK.cons impl_BestFeed.cok (FnsOK.cons laws_sameFloat.cok (FnsOK.cons laws_eqFloat32S.cok FnsOK.nil))))))
theorem laws_FnExactBestFeed.lp : LpOK Try.prog laws_FnExactBestFeed.C laws_FnExactBestFeed.b := (LpOK.nil (by kernel_rfl))
noncomputable def laws_FnExactBestFeed.t (x0 : Nat) (x1 : Nat) (x2 : Nat) (x3 : Nat) (x4 : Nat) (x5 : Nat) (x6 : List Nat) : T Bool :=
  .br (decide (((x5 : Nat) : Int) > (1048576 : Int)))
  (.leaf true)
  (.br (laws_toFloat32S.ok x5 x6)
   (.br (spec_BestFeed.ok ((laws_toStone x0 x1 x2 x3).1) ((laws_toStone x0 x1 x2 x3).2.1) ((laws_toStone x0 x1 x2 x3).2.2.1) ((laws_toStone x0 x1 x2 x3).2.2.2) x4 ((laws_toFloat32S x5 x6).1) ((laws_toFloat32S x5 x6).2))
    (.br (laws_toFloat32S.ok x5 x6)
     (.br (impl_BestFeed.ok ((laws_toStone x0 x1 x2 x3).1) ((laws_toStone x0 x1 x2 x3).2.1) ((laws_toStone x0 x1 x2 x3).2.2.1) ((laws_toStone x0 x1 x2 x3).2.2.2) x4 ((laws_toFloat32S x5 x6).1) ((laws_toFloat32S x5 x6).2))
      (.br ((impl_BestFeed ((laws_toStone x0 x1 x2 x3).1) ((laws_toStone x0 x1 x2 x3).2.1) ((laws_toStone x0 x1 x2 x3).2.2.1) ((laws_toStone x0 x1 x2 x3).2.2.2) x4 ((laws_toFloat32S x5 x6).1) ((laws_toFloat32S x5 x6).2)).1 != (spec_BestFeed ((laws_toStone x0 x1 x2 x3).1) ((laws_toStone x0 x1 x2 x3).2.1) ((laws_toStone x0 x1 x2 x3).2.2.1) ((laws_toStone x0 x1 x2 x3).2.2.2) x4 ((laws_toFloat32S x5 x6).1) ((laws_toFloat32S x5 x6).2)).1)
       (.leaf false)
       (.br (fcvOpen .f32 .f64 (impl_BestFeed ((laws_toStone x0 x1 x2 x3).1) ((laws_toStone x0 x1 x2 x3).2.1) ((laws_toStone x0 x1 x2 x3).2.2.1) ((laws_toStone x0 x1 x2 x3).2.2.2) x4 ((laws_toFloat32S x5 x6).1) ((laws_toFloat32S x5 x6).2)).2.1)
        .bad
        (.br (fcvOpen .f32 .f64 (spec_BestFeed ((laws_toStone x0 x1 x2 x3).1) ((laws_toStone x0 x1 x2 x3).2.1) ((laws_toStone x0 x1 x2 x3).2.2.1) ((laws_toStone x0 x1 x2 x3).2.2.2) x4 ((laws_toFloat32S x5 x6).1) ((laws_toFloat32S x5 x6).2)).2.1)
         .bad
         (.br (!(laws_sameFloat (fcv .f32 .f64 (impl_BestFeed ((laws_toStone x0 x1 x2 x3).1) ((laws_toStone x0 x1 x2 x3).2.1) ((laws_toStone x0 x1 x2 x3).2.2.1) ((laws_toStone x0 x1 x2 x3).2.2.2) x4 ((laws_toFloat32S x5 x6).1) ((laws_toFloat32S x5 x6).2)).2.1) (fcv .f32 .f64 (spec_BestFeed ((laws_toStone x0 x1 x2 x3).1) ((laws_toStone x0 x1 x2 x3).2.1) ((laws_toStone x0 x1 x2 x3).2.2.1) ((laws_toStone x0 x1 x2 x3).2.2.2) x4 ((laws_toFloat32S x5 x6).1) ((laws_toFloat32S x5 x6).2)).2.1)))
          (.leaf false)
          (.br ((impl_BestFeed ((laws_toStone x0 x1 x2 x3).1) ((laws_toStone x0 x1 x2 x3).2.1) ((laws_toStone x0 x1 x2 x3).2.2.1) ((laws_toStone x0 x1 x2 x3).2.2.2) x4 ((laws_toFloat32S x5 x6).1) ((laws_toFloat32S x5 x6).2)).2.2 != (spec_BestFeed ((laws_toStone x0 x1 x2 x3).1) ((laws_toStone x0 x1 x2 x3).2.1) ((laws_toStone x0 x1 x2 x3).2.2.1) ((laws_toStone x0 x1 x2 x3).2.2.2) x4 ((laws_toFloat32S x5 x6).1) ((laws_toFloat32S x5 x6).2)).2.2)
           (.leaf false)
           (.br (laws_toFloat32S.ok x5 x6)
            (.br (laws_eqFloat32S.ok ((laws_toFloat32S x5 x6).1) ((laws_toFloat32S x5 x6).1) ((laws_toFloat32S x5 x6).2) ((laws_toFloat32S x5 x6).2))
             (.br (!(laws_eqFloat32S ((laws_toFloat32S x5 x6).1) ((laws_toFloat32S x5 x6).1) ((laws_toFloat32S x5 x6).2) ((laws_toFloat32S x5 x6).2)))
              (.leaf false)
              (.leaf true))
             .bad)
            .bad))))))
      .bad)
     .bad)
    .bad)
   .bad)
noncomputable def laws_FnExactBestFeed (x0 : Nat) (x1 : Nat) (x2 : Nat) (x3 : Nat) (x4 : Nat) (x5 : Nat) (x6 : List Nat) : Bool := (laws_FnExactBestFeed.t x0 x1 x2 x3 x4 x5 x6).val
noncomputable def laws_FnExactBestFeed.ok (x0 : Nat) (x1 : Nat) (x2 : Nat) (x3 : Nat) (x4 : Nat) (x5 : Nat) (x6 : List Nat) : Bool := (laws_FnExactBestFeed.t x0 x1 x2 x3 x4 x5 x6).ok
def laws_FnExactBestFeed.cd : Cd (Nat × Nat × Nat × Nat × Nat × Nat × List Nat) (List V × Hp) := Cd.iso (Cd.pair (Cd.cons (Cd.agg (Cd.cons (Cd.fl .f32) (Cd.cons (Cd.fl .f32) (Cd.cons (Cd.fl .f32) (Cd.cons (Cd.fl .f32) Cd.nil))))) (Cd.cons (Cd.fl .f32) (Cd.cons (Cd.sl 0 (Cd.natc 0)) Cd.nil))) (Cd.cons (Cd.ro 0 0 (Cd.fs .f32)) Cd.nil)) (fun a => (a.1.1.1, a.1.1.2.1, a.1.1.2.2.1, a.1.1.2.2.2.1, a.1.2.1, a.1.2.2.1.2, a.2.1)) (fun a => (((a.1, (a.2.1, (a.2.2.1, (a.2.2.2.1, ())))), (a.2.2.2.2.1, (((), a.2.2.2.2.2.1), ()))), (a.2.2.2.2.2.2, ()))) (fun _ => rfl)
noncomputable def laws_FnExactBestFeed.tr (a : Nat × Nat × Nat × Nat × Nat × Nat × List Nat) : T Bool := laws_FnExactBestFeed.t a.1 a.2.1 a.2.2.1 a.2.2.2.1 a.2.2.2.2.1 a.2.2.2.2.2.1 a.2.2.2.2.2.2
def laws_FnExactBestFeed.enc : (Nat × Nat × Nat × Nat × Nat × Nat × List Nat) → Bool → V := fun a r => .bo r
noncomputable def laws_FnExactBestFeed.c : List V → Hp → T V := cdQ laws_FnExactBestFeed.cd (fun a => .br (laws_FnExactBestFeed.ok a.1 a.2.1 a.2.2.1 a.2.2.2.1 a.2.2.2.2.1 a.2.2.2.2.2.1 a.2.2.2.2.2.2) (.leaf (laws_FnExactBestFeed.enc a (laws_FnExactBestFeed a.1 a.2.1 a.2.2.1 a.2.2.2.1 a.2.2.2.2.1 a.2.2.2.2.2.1 a.2.2.2.2.2.2))) .bad)
theorem laws_FnExactBestFeed.run (a : Nat × Nat × Nat × Nat × Nat × Nat × List Nat) : runF laws_FnExactBestFeed.C Try.f3.results.toList laws_FnExactBestFeed.b (laws_FnExactBestFeed.cd.enc a).1 (laws_FnExactBestFeed.cd.enc a).2 = (laws_FnExactBestFeed.tr a).map fun r => (laws_FnExactBestFeed.enc a r, (laws_FnExactBestFeed.cd.enc a).2) := by kernel_rfl
theorem laws_FnExactBestFeed.cok : OKq Try.prog 3 laws_FnExactBestFeed.c := con_q' laws_FnExactBestFeed.cd laws_FnExactBestFeed.hC Try.func3 (by kernel_rfl) (by kernel_rfl) (by kernel_rfl) laws_FnExactBestFeed.lp (fun a => by kernel_rfl) laws_FnExactBestFeed.run (Tells.ok (tree := laws_FnExactBestFeed.tr))
theorem laws_FnExactBestFeed.walk (a : Nat × Nat × Nat × Nat × Nat × Nat × List Nat) (h : (laws_FnExactBestFeed.tr a).get = some true) {ρ : Nat → Option Sx.Loc} {w : World} {vs : List Value} (hargs : V.Rs ρ (laws_FnExactBestFeed.cd.enc a).1 vs) (hh : HpR ρ (laws_FnExactBestFeed.cd.enc a).2 w) :
    Calls Try.prog 3 vs.toArray w fun e w' => e = .returned (.bool true) ∧ Below w.heap.size w w' :=
  law_cd laws_FnExactBestFeed.cd laws_FnExactBestFeed.hC Try.func3 (by kernel_rfl) (by kernel_rfl) laws_FnExactBestFeed.lp (fun a => by kernel_rfl) laws_FnExactBestFeed.run (fun a => by kernel_rfl) a (by kernel_rfl) h hargs hh
end Go.Proofs.Ytffpnngoafpidaa
