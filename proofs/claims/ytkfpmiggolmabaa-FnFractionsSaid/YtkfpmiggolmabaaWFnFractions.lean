/- The walk of FnFractions: what each function that it comes to computes, as a tree of tests. -/
import Derived.Test.YtkfpmiggolmabaaSxP
import Derived.Test.YtkfpmiggolmabaaChecked
namespace Go.Proofs.Ytkfpmiggolmabaa
open Go Go.RowKit Sx
set_option linter.unusedVariables false
set_option maxRecDepth 100000
set_option maxHeartbeats 0
noncomputable def ti1 : TI := ⟨Try.t1.desc, 1, 8, [.nf]⟩
theorem ti1_ok : TyOK Try.prog 1 ti1 := TyOK.of (inf := Try.t1) Try.underlying1 (by kernel_rfl) (by kernel_rfl) (by kernel_rfl) (by kernel_rfl)
noncomputable def ti2 : TI := ⟨Try.t2.desc, 1, 8, [.it .i64 (0 : Int)]⟩
theorem ti2_ok : TyOK Try.prog 2 ti2 := TyOK.of (inf := Try.t2) Try.underlying2 (by kernel_rfl) (by kernel_rfl) (by kernel_rfl) (by kernel_rfl)
noncomputable def ti3 : TI := ⟨Try.t3.desc, 1, 8, [.it .i64 (0 : Int)]⟩
theorem ti3_ok : TyOK Try.prog 3 ti3 := TyOK.of (inf := Try.t3) Try.underlying3 (by kernel_rfl) (by kernel_rfl) (by kernel_rfl) (by kernel_rfl)
noncomputable def ti4 : TI := ⟨Try.t4.desc, 1, 1, [.kb false]⟩
theorem ti4_ok : TyOK Try.prog 4 ti4 := TyOK.of (inf := Try.t4) Try.underlying4 (by kernel_rfl) (by kernel_rfl) (by kernel_rfl) (by kernel_rfl)
noncomputable def ti5 : TI := ⟨Try.t5.desc, 1, 1, [.it .u8 (0 : Int)]⟩
theorem ti5_ok : TyOK Try.prog 5 ti5 := TyOK.of (inf := Try.t5) Try.underlying5 (by kernel_rfl) (by kernel_rfl) (by kernel_rfl) (by kernel_rfl)
noncomputable def ti6 : TI := ⟨Try.t5.desc, 1, 1, [.it .u8 (0 : Int)]⟩
theorem ti6_ok : TyOK Try.prog 6 ti6 := TyOK.of (inf := Try.t6) Try.underlying6 (by kernel_rfl) (by kernel_rfl) (by kernel_rfl) (by kernel_rfl)
noncomputable def ti7 : TI := ⟨Try.t7.desc, 4, 24, [.it .i64 (0 : Int), .it .i64 (0 : Int), .kb false, .it .u8 (0 : Int)]⟩
theorem ti7_ok : TyOK Try.prog 7 ti7 := TyOK.of (inf := Try.t7) Try.underlying7 (by kernel_rfl) (by kernel_rfl) (by kernel_rfl) (by kernel_rfl)
noncomputable def ti8 : TI := ⟨Try.t7.desc, 4, 24, [.it .i64 (0 : Int), .it .i64 (0 : Int), .kb false, .it .u8 (0 : Int)]⟩
theorem ti8_ok : TyOK Try.prog 8 ti8 := TyOK.of (inf := Try.t8) Try.underlying8 (by kernel_rfl) (by kernel_rfl) (by kernel_rfl) (by kernel_rfl)
noncomputable def ti9 : TI := ⟨Try.t9.desc, 1, 16, [.st (ByteArray.mk #[])]⟩
theorem ti9_ok : TyOK Try.prog 9 ti9 := TyOK.of (inf := Try.t9) Try.underlying9 (by kernel_rfl) (by kernel_rfl) (by kernel_rfl) (by kernel_rfl)
noncomputable def ti10 : TI := ⟨Try.t9.desc, 1, 16, [.st (ByteArray.mk #[])]⟩
theorem ti10_ok : TyOK Try.prog 10 ti10 := TyOK.of (inf := Try.t10) Try.underlying10 (by kernel_rfl) (by kernel_rfl) (by kernel_rfl) (by kernel_rfl)
noncomputable def ti11 : TI := ⟨Try.t9.desc, 1, 16, [.st (ByteArray.mk #[])]⟩
theorem ti11_ok : TyOK Try.prog 11 ti11 := TyOK.of (inf := Try.t11) Try.underlying11 (by kernel_rfl) (by kernel_rfl) (by kernel_rfl) (by kernel_rfl)
noncomputable def ti12 : TI := ⟨Try.t12.desc, 1, 8, [.it .u64 (0 : Int)]⟩
theorem ti12_ok : TyOK Try.prog 12 ti12 := TyOK.of (inf := Try.t12) Try.underlying12 (by kernel_rfl) (by kernel_rfl) (by kernel_rfl) (by kernel_rfl)
noncomputable def ti13 : TI := ⟨Try.t13.desc, 2, 24, [.st (ByteArray.mk #[]), .it .u64 (0 : Int)]⟩
theorem ti13_ok : TyOK Try.prog 13 ti13 := TyOK.of (inf := Try.t13) Try.underlying13 (by kernel_rfl) (by kernel_rfl) (by kernel_rfl) (by kernel_rfl)
noncomputable def ti14 : TI := ⟨Try.t13.desc, 2, 24, [.st (ByteArray.mk #[]), .it .u64 (0 : Int)]⟩
theorem ti14_ok : TyOK Try.prog 14 ti14 := TyOK.of (inf := Try.t14) Try.underlying14 (by kernel_rfl) (by kernel_rfl) (by kernel_rfl) (by kernel_rfl)
noncomputable def ti15 : TI := ⟨Try.t15.desc, 1, 8, [.pn]⟩
theorem ti15_ok : TyOK Try.prog 15 ti15 := TyOK.of (inf := Try.t15) Try.underlying15 (by kernel_rfl) (by kernel_rfl) (by kernel_rfl) (by kernel_rfl)
noncomputable def ti16 : TI := ⟨Try.t16.desc, 1, 8, [.pn]⟩
theorem ti16_ok : TyOK Try.prog 16 ti16 := TyOK.of (inf := Try.t16) Try.underlying16 (by kernel_rfl) (by kernel_rfl) (by kernel_rfl) (by kernel_rfl)
noncomputable def ti17 : TI := ⟨Try.t17.desc, 1, 8, [.pn]⟩
theorem ti17_ok : TyOK Try.prog 17 ti17 := TyOK.of (inf := Try.t17) Try.underlying17 (by kernel_rfl) (by kernel_rfl) (by kernel_rfl) (by kernel_rfl)
noncomputable def ti18 : TI := ⟨Try.t18.desc, 1, 8, [.pn]⟩
theorem ti18_ok : TyOK Try.prog 18 ti18 := TyOK.of (inf := Try.t18) Try.underlying18 (by kernel_rfl) (by kernel_rfl) (by kernel_rfl) (by kernel_rfl)
noncomputable def ti19 : TI := ⟨Try.t18.desc, 1, 8, [.pn]⟩
theorem ti19_ok : TyOK Try.prog 19 ti19 := TyOK.of (inf := Try.t19) Try.underlying19 (by kernel_rfl) (by kernel_rfl) (by kernel_rfl) (by kernel_rfl)
noncomputable def ti21 : TI := ⟨Try.t21.desc, 1, 4, [.it .i32 (0 : Int)]⟩
theorem ti21_ok : TyOK Try.prog 21 ti21 := TyOK.of (inf := Try.t21) Try.underlying21 (by kernel_rfl) (by kernel_rfl) (by kernel_rfl) (by kernel_rfl)
noncomputable def ti22 : TI := ⟨Try.t22.desc, 1, 24, [.sn]⟩
theorem ti22_ok : TyOK Try.prog 22 ti22 := TyOK.of (inf := Try.t22) Try.underlying22 (by kernel_rfl) (by kernel_rfl) (by kernel_rfl) (by kernel_rfl)
noncomputable def ti23 : TI := ⟨Try.t23.desc, 1, 4, [.fl .f32 0]⟩
theorem ti23_ok : TyOK Try.prog 23 ti23 := TyOK.of (inf := Try.t23) Try.underlying23 (by kernel_rfl) (by kernel_rfl) (by kernel_rfl) (by kernel_rfl)
noncomputable def ti25 : TI := ⟨Try.t25.desc, 1, 8, [.nf]⟩
theorem ti25_ok : TyOK Try.prog 25 ti25 := TyOK.of (inf := Try.t25) Try.underlying25 (by kernel_rfl) (by kernel_rfl) (by kernel_rfl) (by kernel_rfl)
noncomputable def ti26 : TI := ⟨Try.t26.desc, 1, 8, [.nf]⟩
theorem ti26_ok : TyOK Try.prog 26 ti26 := TyOK.of (inf := Try.t26) Try.underlying26 (by kernel_rfl) (by kernel_rfl) (by kernel_rfl) (by kernel_rfl)
noncomputable def ti27 : TI := ⟨Try.t27.desc, 1, 8, [.nf]⟩
theorem ti27_ok : TyOK Try.prog 27 ti27 := TyOK.of (inf := Try.t27) Try.underlying27 (by kernel_rfl) (by kernel_rfl) (by kernel_rfl) (by kernel_rfl)
noncomputable def ti28 : TI := ⟨Try.t28.desc, 1, 8, [.fl .f64 0]⟩
theorem ti28_ok : TyOK Try.prog 28 ti28 := TyOK.of (inf := Try.t28) Try.underlying28 (by kernel_rfl) (by kernel_rfl) (by kernel_rfl) (by kernel_rfl)
noncomputable def ti29 : TI := ⟨Try.t29.desc, 1, 8, [.nf]⟩
theorem ti29_ok : TyOK Try.prog 29 ti29 := TyOK.of (inf := Try.t29) Try.underlying29 (by kernel_rfl) (by kernel_rfl) (by kernel_rfl) (by kernel_rfl)
noncomputable def ti30 : TI := ⟨Try.t30.desc, 1, 8, [.nf]⟩
theorem ti30_ok : TyOK Try.prog 30 ti30 := TyOK.of (inf := Try.t30) Try.underlying30 (by kernel_rfl) (by kernel_rfl) (by kernel_rfl) (by kernel_rfl)
noncomputable def ti31 : TI := ⟨Try.t31.desc, 1, 24, [.sn]⟩
theorem ti31_ok : TyOK Try.prog 31 ti31 := TyOK.of (inf := Try.t31) Try.underlying31 (by kernel_rfl) (by kernel_rfl) (by kernel_rfl) (by kernel_rfl)
noncomputable def ti32 : TI := ⟨Try.t32.desc, 1, 8, [.nf]⟩
theorem ti32_ok : TyOK Try.prog 32 ti32 := TyOK.of (inf := Try.t32) Try.underlying32 (by kernel_rfl) (by kernel_rfl) (by kernel_rfl) (by kernel_rfl)
noncomputable def ti33 : TI := ⟨Try.t33.desc, 1, 8, [.nf]⟩
theorem ti33_ok : TyOK Try.prog 33 ti33 := TyOK.of (inf := Try.t33) Try.underlying33 (by kernel_rfl) (by kernel_rfl) (by kernel_rfl) (by kernel_rfl)
noncomputable def ti34 : TI := ⟨Try.t34.desc, 1, 8, [.nf]⟩
theorem ti34_ok : TyOK Try.prog 34 ti34 := TyOK.of (inf := Try.t34) Try.underlying34 (by kernel_rfl) (by kernel_rfl) (by kernel_rfl) (by kernel_rfl)
noncomputable def ti35 : TI := ⟨Try.t35.desc, 2, 16, [.it .i64 (0 : Int), .it .i64 (0 : Int)]⟩
theorem ti35_ok : TyOK Try.prog 35 ti35 := TyOK.of (inf := Try.t35) Try.underlying35 (by kernel_rfl) (by kernel_rfl) (by kernel_rfl) (by kernel_rfl)
noncomputable def ti36 : TI := ⟨Try.t35.desc, 2, 16, [.it .i64 (0 : Int), .it .i64 (0 : Int)]⟩
theorem ti36_ok : TyOK Try.prog 36 ti36 := TyOK.of (inf := Try.t36) Try.underlying36 (by kernel_rfl) (by kernel_rfl) (by kernel_rfl) (by kernel_rfl)
noncomputable def ti38 : TI := ⟨Try.t38.desc, 1, 8, [.nf]⟩
theorem ti38_ok : TyOK Try.prog 38 ti38 := TyOK.of (inf := Try.t38) Try.underlying38 (by kernel_rfl) (by kernel_rfl) (by kernel_rfl) (by kernel_rfl)
noncomputable def ti39 : TI := ⟨Try.t39.desc, 1, 24, [.sn]⟩
theorem ti39_ok : TyOK Try.prog 39 ti39 := TyOK.of (inf := Try.t39) Try.underlying39 (by kernel_rfl) (by kernel_rfl) (by kernel_rfl) (by kernel_rfl)
noncomputable def ti41 : TI := ⟨Try.t41.desc, 1, 8, [.nf]⟩
theorem ti41_ok : TyOK Try.prog 41 ti41 := TyOK.of (inf := Try.t41) Try.underlying41 (by kernel_rfl) (by kernel_rfl) (by kernel_rfl) (by kernel_rfl)
noncomputable def ti42 : TI := ⟨Try.t42.desc, 1, 8, [.nf]⟩
theorem ti42_ok : TyOK Try.prog 42 ti42 := TyOK.of (inf := Try.t42) Try.underlying42 (by kernel_rfl) (by kernel_rfl) (by kernel_rfl) (by kernel_rfl)
noncomputable def ti43 : TI := ⟨Try.t43.desc, 1, 8, [.nf]⟩
theorem ti43_ok : TyOK Try.prog 43 ti43 := TyOK.of (inf := Try.t43) Try.underlying43 (by kernel_rfl) (by kernel_rfl) (by kernel_rfl) (by kernel_rfl)
noncomputable def ti45 : TI := ⟨Try.t45.desc, 1, 8, [.nf]⟩
theorem ti45_ok : TyOK Try.prog 45 ti45 := TyOK.of (inf := Try.t45) Try.underlying45 (by kernel_rfl) (by kernel_rfl) (by kernel_rfl) (by kernel_rfl)
noncomputable def ti46 : TI := ⟨Try.t46.desc, 5, 20, [.fl .f32 0, .fl .f32 0, .fl .f32 0, .fl .f32 0, .kb false]⟩
theorem ti46_ok : TyOK Try.prog 46 ti46 := TyOK.of (inf := Try.t46) Try.underlying46 (by kernel_rfl) (by kernel_rfl) (by kernel_rfl) (by kernel_rfl)
noncomputable def ti47 : TI := ⟨Try.t46.desc, 5, 20, [.fl .f32 0, .fl .f32 0, .fl .f32 0, .fl .f32 0, .kb false]⟩
theorem ti47_ok : TyOK Try.prog 47 ti47 := TyOK.of (inf := Try.t47) Try.underlying47 (by kernel_rfl) (by kernel_rfl) (by kernel_rfl) (by kernel_rfl)
noncomputable def ti49 : TI := ⟨Try.t49.desc, 1, 8, [.nf]⟩
theorem ti49_ok : TyOK Try.prog 49 ti49 := TyOK.of (inf := Try.t49) Try.underlying49 (by kernel_rfl) (by kernel_rfl) (by kernel_rfl) (by kernel_rfl)
noncomputable def ti50 : TI := ⟨Try.t46.desc, 5, 20, [.fl .f32 0, .fl .f32 0, .fl .f32 0, .fl .f32 0, .kb false]⟩
theorem ti50_ok : TyOK Try.prog 50 ti50 := TyOK.of (inf := Try.t50) Try.underlying50 (by kernel_rfl) (by kernel_rfl) (by kernel_rfl) (by kernel_rfl)
noncomputable def ti51 : TI := ⟨Try.t51.desc, 1, 8, [.nf]⟩
theorem ti51_ok : TyOK Try.prog 51 ti51 := TyOK.of (inf := Try.t51) Try.underlying51 (by kernel_rfl) (by kernel_rfl) (by kernel_rfl) (by kernel_rfl)
noncomputable def ti52 : TI := ⟨Try.t52.desc, 1, 8, [.nf]⟩
theorem ti52_ok : TyOK Try.prog 52 ti52 := TyOK.of (inf := Try.t52) Try.underlying52 (by kernel_rfl) (by kernel_rfl) (by kernel_rfl) (by kernel_rfl)
noncomputable def ti53 : TI := ⟨Try.t53.desc, 1, 8, [.nf]⟩
theorem ti53_ok : TyOK Try.prog 53 ti53 := TyOK.of (inf := Try.t53) Try.underlying53 (by kernel_rfl) (by kernel_rfl) (by kernel_rfl) (by kernel_rfl)
noncomputable def ti54 : TI := ⟨Try.t54.desc, 1, 8, [.nf]⟩
theorem ti54_ok : TyOK Try.prog 54 ti54 := TyOK.of (inf := Try.t54) Try.underlying54 (by kernel_rfl) (by kernel_rfl) (by kernel_rfl) (by kernel_rfl)
noncomputable def ti55 : TI := ⟨Try.t55.desc, 1, 8, [.nf]⟩
theorem ti55_ok : TyOK Try.prog 55 ti55 := TyOK.of (inf := Try.t55) Try.underlying55 (by kernel_rfl) (by kernel_rfl) (by kernel_rfl) (by kernel_rfl)
noncomputable def ti56 : TI := ⟨Try.t56.desc, 1, 2, [.it .i16 (0 : Int)]⟩
theorem ti56_ok : TyOK Try.prog 56 ti56 := TyOK.of (inf := Try.t56) Try.underlying56 (by kernel_rfl) (by kernel_rfl) (by kernel_rfl) (by kernel_rfl)
noncomputable def ti58 : TI := ⟨Try.t58.desc, 1, 8, [.nf]⟩
theorem ti58_ok : TyOK Try.prog 58 ti58 := TyOK.of (inf := Try.t58) Try.underlying58 (by kernel_rfl) (by kernel_rfl) (by kernel_rfl) (by kernel_rfl)
noncomputable def ti59 : TI := ⟨Try.t59.desc, 1, 8, [.nf]⟩
theorem ti59_ok : TyOK Try.prog 59 ti59 := TyOK.of (inf := Try.t59) Try.underlying59 (by kernel_rfl) (by kernel_rfl) (by kernel_rfl) (by kernel_rfl)
noncomputable def ti60 : TI := ⟨Try.t60.desc, 1, 8, [.nf]⟩
theorem ti60_ok : TyOK Try.prog 60 ti60 := TyOK.of (inf := Try.t60) Try.underlying60 (by kernel_rfl) (by kernel_rfl) (by kernel_rfl) (by kernel_rfl)
noncomputable def ti62 : TI := ⟨Try.t62.desc, 1, 8, [.nf]⟩
theorem ti62_ok : TyOK Try.prog 62 ti62 := TyOK.of (inf := Try.t62) Try.underlying62 (by kernel_rfl) (by kernel_rfl) (by kernel_rfl) (by kernel_rfl)
noncomputable def ti64 : TI := ⟨Try.t64.desc, 1, 8, [.nf]⟩
theorem ti64_ok : TyOK Try.prog 64 ti64 := TyOK.of (inf := Try.t64) Try.underlying64 (by kernel_rfl) (by kernel_rfl) (by kernel_rfl) (by kernel_rfl)
noncomputable def ti65 : TI := ⟨Try.t65.desc, 1, 8, [.nf]⟩
theorem ti65_ok : TyOK Try.prog 65 ti65 := TyOK.of (inf := Try.t65) Try.underlying65 (by kernel_rfl) (by kernel_rfl) (by kernel_rfl) (by kernel_rfl)
noncomputable def ti66 : TI := ⟨Try.t66.desc, 1, 8, [.nf]⟩
theorem ti66_ok : TyOK Try.prog 66 ti66 := TyOK.of (inf := Try.t66) Try.underlying66 (by kernel_rfl) (by kernel_rfl) (by kernel_rfl) (by kernel_rfl)
noncomputable def ti67 : TI := ⟨Try.t67.desc, 1, 8, [.pn]⟩
theorem ti67_ok : TyOK Try.prog 67 ti67 := TyOK.of (inf := Try.t67) Try.underlying67 (by kernel_rfl) (by kernel_rfl) (by kernel_rfl) (by kernel_rfl)
noncomputable def ti68 : TI := ⟨Try.t68.desc, 1, 8, [.nf]⟩
theorem ti68_ok : TyOK Try.prog 68 ti68 := TyOK.of (inf := Try.t68) Try.underlying68 (by kernel_rfl) (by kernel_rfl) (by kernel_rfl) (by kernel_rfl)
noncomputable def ti69 : TI := ⟨Try.t69.desc, 1, 8, [.nf]⟩
theorem ti69_ok : TyOK Try.prog 69 ti69 := TyOK.of (inf := Try.t69) Try.underlying69 (by kernel_rfl) (by kernel_rfl) (by kernel_rfl) (by kernel_rfl)
noncomputable def ti70 : TI := ⟨Try.t70.desc, 1, 8, [.nf]⟩
theorem ti70_ok : TyOK Try.prog 70 ti70 := TyOK.of (inf := Try.t70) Try.underlying70 (by kernel_rfl) (by kernel_rfl) (by kernel_rfl) (by kernel_rfl)
noncomputable def ti71 : TI := ⟨Try.t71.desc, 1, 8, [.nf]⟩
theorem ti71_ok : TyOK Try.prog 71 ti71 := TyOK.of (inf := Try.t71) Try.underlying71 (by kernel_rfl) (by kernel_rfl) (by kernel_rfl) (by kernel_rfl)
noncomputable def ti72 : TI := ⟨Try.t72.desc, 1, 8, [.nf]⟩
theorem ti72_ok : TyOK Try.prog 72 ti72 := TyOK.of (inf := Try.t72) Try.underlying72 (by kernel_rfl) (by kernel_rfl) (by kernel_rfl) (by kernel_rfl)
noncomputable def ti73 : TI := ⟨Try.t73.desc, 1, 8, [.nf]⟩
theorem ti73_ok : TyOK Try.prog 73 ti73 := TyOK.of (inf := Try.t73) Try.underlying73 (by kernel_rfl) (by kernel_rfl) (by kernel_rfl) (by kernel_rfl)
noncomputable def ti74 : TI := ⟨Try.t74.desc, 1, 8, [.nf]⟩
theorem ti74_ok : TyOK Try.prog 74 ti74 := TyOK.of (inf := Try.t74) Try.underlying74 (by kernel_rfl) (by kernel_rfl) (by kernel_rfl) (by kernel_rfl)
noncomputable def ti75 : TI := ⟨Try.t75.desc, 1, 8, [.pn]⟩
theorem ti75_ok : TyOK Try.prog 75 ti75 := TyOK.of (inf := Try.t75) Try.underlying75 (by kernel_rfl) (by kernel_rfl) (by kernel_rfl) (by kernel_rfl)
noncomputable def ti76 : TI := ⟨Try.t76.desc, 1, 8, [.nf]⟩
theorem ti76_ok : TyOK Try.prog 76 ti76 := TyOK.of (inf := Try.t76) Try.underlying76 (by kernel_rfl) (by kernel_rfl) (by kernel_rfl) (by kernel_rfl)
noncomputable def ti77 : TI := ⟨Try.t77.desc, 1, 8, [.nf]⟩
theorem ti77_ok : TyOK Try.prog 77 ti77 := TyOK.of (inf := Try.t77) Try.underlying77 (by kernel_rfl) (by kernel_rfl) (by kernel_rfl) (by kernel_rfl)
noncomputable def ti78 : TI := ⟨Try.t78.desc, 1, 8, [.nf]⟩
theorem ti78_ok : TyOK Try.prog 78 ti78 := TyOK.of (inf := Try.t78) Try.underlying78 (by kernel_rfl) (by kernel_rfl) (by kernel_rfl) (by kernel_rfl)
noncomputable def ti79 : TI := ⟨Try.t79.desc, 1, 8, [.nf]⟩
theorem ti79_ok : TyOK Try.prog 79 ti79 := TyOK.of (inf := Try.t79) Try.underlying79 (by kernel_rfl) (by kernel_rfl) (by kernel_rfl) (by kernel_rfl)
noncomputable def ti80 : TI := ⟨Try.t80.desc, 1, 8, [.nf]⟩
theorem ti80_ok : TyOK Try.prog 80 ti80 := TyOK.of (inf := Try.t80) Try.underlying80 (by kernel_rfl) (by kernel_rfl) (by kernel_rfl) (by kernel_rfl)
noncomputable def ti81 : TI := ⟨Try.t81.desc, 1, 8, [.nf]⟩
theorem ti81_ok : TyOK Try.prog 81 ti81 := TyOK.of (inf := Try.t81) Try.underlying81 (by kernel_rfl) (by kernel_rfl) (by kernel_rfl) (by kernel_rfl)
noncomputable def ti82 : TI := ⟨Try.t82.desc, 1, 8, [.nf]⟩
theorem ti82_ok : TyOK Try.prog 82 ti82 := TyOK.of (inf := Try.t82) Try.underlying82 (by kernel_rfl) (by kernel_rfl) (by kernel_rfl) (by kernel_rfl)
noncomputable def ti83 : TI := ⟨Try.t83.desc, 1, 8, [.nf]⟩
theorem ti83_ok : TyOK Try.prog 83 ti83 := TyOK.of (inf := Try.t83) Try.underlying83 (by kernel_rfl) (by kernel_rfl) (by kernel_rfl) (by kernel_rfl)
noncomputable def ti84 : TI := ⟨Try.t84.desc, 1, 8, [.it .u64 (0 : Int)]⟩
theorem ti84_ok : TyOK Try.prog 84 ti84 := TyOK.of (inf := Try.t84) Try.underlying84 (by kernel_rfl) (by kernel_rfl) (by kernel_rfl) (by kernel_rfl)
noncomputable def ti85 : TI := ⟨Try.t85.desc, 1, 8, [.nf]⟩
theorem ti85_ok : TyOK Try.prog 85 ti85 := TyOK.of (inf := Try.t85) Try.underlying85 (by kernel_rfl) (by kernel_rfl) (by kernel_rfl) (by kernel_rfl)
noncomputable def ti86 : TI := ⟨Try.t86.desc, 1, 8, [.nf]⟩
theorem ti86_ok : TyOK Try.prog 86 ti86 := TyOK.of (inf := Try.t86) Try.underlying86 (by kernel_rfl) (by kernel_rfl) (by kernel_rfl) (by kernel_rfl)
noncomputable def ti87 : TI := ⟨Try.t87.desc, 1, 8, [.nf]⟩
theorem ti87_ok : TyOK Try.prog 87 ti87 := TyOK.of (inf := Try.t87) Try.underlying87 (by kernel_rfl) (by kernel_rfl) (by kernel_rfl) (by kernel_rfl)
noncomputable def ti88 : TI := ⟨Try.t88.desc, 1, 8, [.nf]⟩
theorem ti88_ok : TyOK Try.prog 88 ti88 := TyOK.of (inf := Try.t88) Try.underlying88 (by kernel_rfl) (by kernel_rfl) (by kernel_rfl) (by kernel_rfl)
noncomputable def ti89 : TI := ⟨Try.t89.desc, 1, 8, [.nf]⟩
theorem ti89_ok : TyOK Try.prog 89 ti89 := TyOK.of (inf := Try.t89) Try.underlying89 (by kernel_rfl) (by kernel_rfl) (by kernel_rfl) (by kernel_rfl)
noncomputable def ti90 : TI := ⟨Try.t90.desc, 1, 8, [.nf]⟩
theorem ti90_ok : TyOK Try.prog 90 ti90 := TyOK.of (inf := Try.t90) Try.underlying90 (by kernel_rfl) (by kernel_rfl) (by kernel_rfl) (by kernel_rfl)
noncomputable def ti91 : TI := ⟨Try.t91.desc, 1, 8, [.nf]⟩
theorem ti91_ok : TyOK Try.prog 91 ti91 := TyOK.of (inf := Try.t91) Try.underlying91 (by kernel_rfl) (by kernel_rfl) (by kernel_rfl) (by kernel_rfl)
noncomputable def ti92 : TI := ⟨Try.t92.desc, 1, 8, [.nf]⟩
theorem ti92_ok : TyOK Try.prog 92 ti92 := TyOK.of (inf := Try.t92) Try.underlying92 (by kernel_rfl) (by kernel_rfl) (by kernel_rfl) (by kernel_rfl)
noncomputable def ti93 : TI := ⟨Try.t93.desc, 1, 4, [.it .u32 (0 : Int)]⟩
theorem ti93_ok : TyOK Try.prog 93 ti93 := TyOK.of (inf := Try.t93) Try.underlying93 (by kernel_rfl) (by kernel_rfl) (by kernel_rfl) (by kernel_rfl)
noncomputable def ti94 : TI := ⟨Try.t94.desc, 1, 8, [.nf]⟩
theorem ti94_ok : TyOK Try.prog 94 ti94 := TyOK.of (inf := Try.t94) Try.underlying94 (by kernel_rfl) (by kernel_rfl) (by kernel_rfl) (by kernel_rfl)
noncomputable def ti95 : TI := ⟨Try.t95.desc, 1, 24, [.sn]⟩
theorem ti95_ok : TyOK Try.prog 95 ti95 := TyOK.of (inf := Try.t95) Try.underlying95 (by kernel_rfl) (by kernel_rfl) (by kernel_rfl) (by kernel_rfl)
noncomputable def ti96 : TI := ⟨Try.t96.desc, 1, 8, [.it .u64 (0 : Int)]⟩
theorem ti96_ok : TyOK Try.prog 96 ti96 := TyOK.of (inf := Try.t96) Try.underlying96 (by kernel_rfl) (by kernel_rfl) (by kernel_rfl) (by kernel_rfl)
noncomputable def ti97 : TI := ⟨Try.t97.desc, 3, 40, [.sn, .it .i64 (0 : Int), .it .u64 (0 : Int)]⟩
theorem ti97_ok : TyOK Try.prog 97 ti97 := TyOK.of (inf := Try.t97) Try.underlying97 (by kernel_rfl) (by kernel_rfl) (by kernel_rfl) (by kernel_rfl)
noncomputable def ti98 : TI := ⟨Try.t97.desc, 3, 40, [.sn, .it .i64 (0 : Int), .it .u64 (0 : Int)]⟩
theorem ti98_ok : TyOK Try.prog 98 ti98 := TyOK.of (inf := Try.t98) Try.underlying98 (by kernel_rfl) (by kernel_rfl) (by kernel_rfl) (by kernel_rfl)
noncomputable def ti99 : TI := ⟨Try.t99.desc, 1, 8, [.nf]⟩
theorem ti99_ok : TyOK Try.prog 99 ti99 := TyOK.of (inf := Try.t99) Try.underlying99 (by kernel_rfl) (by kernel_rfl) (by kernel_rfl) (by kernel_rfl)
noncomputable def ti100 : TI := ⟨Try.t100.desc, 1, 8, [.nf]⟩
theorem ti100_ok : TyOK Try.prog 100 ti100 := TyOK.of (inf := Try.t100) Try.underlying100 (by kernel_rfl) (by kernel_rfl) (by kernel_rfl) (by kernel_rfl)
noncomputable def ti101 : TI := ⟨Try.t101.desc, 1, 8, [.nf]⟩
theorem ti101_ok : TyOK Try.prog 101 ti101 := TyOK.of (inf := Try.t101) Try.underlying101 (by kernel_rfl) (by kernel_rfl) (by kernel_rfl) (by kernel_rfl)
noncomputable def ti102 : TI := ⟨Try.t102.desc, 1, 8, [.nf]⟩
theorem ti102_ok : TyOK Try.prog 102 ti102 := TyOK.of (inf := Try.t102) Try.underlying102 (by kernel_rfl) (by kernel_rfl) (by kernel_rfl) (by kernel_rfl)
noncomputable def ti103 : TI := ⟨Try.t103.desc, 1, 8, [.nf]⟩
theorem ti103_ok : TyOK Try.prog 103 ti103 := TyOK.of (inf := Try.t103) Try.underlying103 (by kernel_rfl) (by kernel_rfl) (by kernel_rfl) (by kernel_rfl)
noncomputable def ti104 : TI := ⟨Try.t104.desc, 1, 8, [.nf]⟩
theorem ti104_ok : TyOK Try.prog 104 ti104 := TyOK.of (inf := Try.t104) Try.underlying104 (by kernel_rfl) (by kernel_rfl) (by kernel_rfl) (by kernel_rfl)
noncomputable def ti105 : TI := ⟨Try.t105.desc, 1, 8, [.nf]⟩
theorem ti105_ok : TyOK Try.prog 105 ti105 := TyOK.of (inf := Try.t105) Try.underlying105 (by kernel_rfl) (by kernel_rfl) (by kernel_rfl) (by kernel_rfl)
noncomputable def ti106 : TI := ⟨Try.t106.desc, 1, 8, [.nf]⟩
theorem ti106_ok : TyOK Try.prog 106 ti106 := TyOK.of (inf := Try.t106) Try.underlying106 (by kernel_rfl) (by kernel_rfl) (by kernel_rfl) (by kernel_rfl)
noncomputable def ti107 : TI := ⟨Try.t107.desc, 1, 8, [.nf]⟩
theorem ti107_ok : TyOK Try.prog 107 ti107 := TyOK.of (inf := Try.t107) Try.underlying107 (by kernel_rfl) (by kernel_rfl) (by kernel_rfl) (by kernel_rfl)
noncomputable def ti108 : TI := ⟨Try.t108.desc, 1, 8, [.nf]⟩
theorem ti108_ok : TyOK Try.prog 108 ti108 := TyOK.of (inf := Try.t108) Try.underlying108 (by kernel_rfl) (by kernel_rfl) (by kernel_rfl) (by kernel_rfl)
noncomputable def ti109 : TI := ⟨Try.t109.desc, 1, 8, [.nf]⟩
theorem ti109_ok : TyOK Try.prog 109 ti109 := TyOK.of (inf := Try.t109) Try.underlying109 (by kernel_rfl) (by kernel_rfl) (by kernel_rfl) (by kernel_rfl)
noncomputable def ti110 : TI := ⟨Try.t110.desc, 1, 8, [.nf]⟩
theorem ti110_ok : TyOK Try.prog 110 ti110 := TyOK.of (inf := Try.t110) Try.underlying110 (by kernel_rfl) (by kernel_rfl) (by kernel_rfl) (by kernel_rfl)
noncomputable def ti111 : TI := ⟨Try.t111.desc, 4, 40, [.pn, .pn, .pn, .st (ByteArray.mk #[])]⟩
theorem ti111_ok : TyOK Try.prog 111 ti111 := TyOK.of (inf := Try.t111) Try.underlying111 (by kernel_rfl) (by kernel_rfl) (by kernel_rfl) (by kernel_rfl)
noncomputable def ti112 : TI := ⟨Try.t111.desc, 4, 40, [.pn, .pn, .pn, .st (ByteArray.mk #[])]⟩
theorem ti112_ok : TyOK Try.prog 112 ti112 := TyOK.of (inf := Try.t112) Try.underlying112 (by kernel_rfl) (by kernel_rfl) (by kernel_rfl) (by kernel_rfl)
noncomputable def ti113 : TI := ⟨Try.t113.desc, 0, 0, []⟩
theorem ti113_ok : TyOK Try.prog 113 ti113 := TyOK.of (inf := Try.t113) Try.underlying113 (by kernel_rfl) (by kernel_rfl) (by kernel_rfl) (by kernel_rfl)
noncomputable def ti114 : TI := ⟨Try.t114.desc, 0, 0, []⟩
theorem ti114_ok : TyOK Try.prog 114 ti114 := TyOK.of (inf := Try.t114) Try.underlying114 (by kernel_rfl) (by kernel_rfl) (by kernel_rfl) (by kernel_rfl)
noncomputable def ti115 : TI := ⟨Try.t114.desc, 0, 0, []⟩
theorem ti115_ok : TyOK Try.prog 115 ti115 := TyOK.of (inf := Try.t115) Try.underlying115 (by kernel_rfl) (by kernel_rfl) (by kernel_rfl) (by kernel_rfl)
noncomputable def ti116 : TI := ⟨Try.t116.desc, 1, 8, [.nf]⟩
theorem ti116_ok : TyOK Try.prog 116 ti116 := TyOK.of (inf := Try.t116) Try.underlying116 (by kernel_rfl) (by kernel_rfl) (by kernel_rfl) (by kernel_rfl)
noncomputable def ti117 : TI := ⟨Try.t5.desc, 1, 1, [.it .u8 (0 : Int)]⟩
theorem ti117_ok : TyOK Try.prog 117 ti117 := TyOK.of (inf := Try.t117) Try.underlying117 (by kernel_rfl) (by kernel_rfl) (by kernel_rfl) (by kernel_rfl)
noncomputable def ti118 : TI := ⟨Try.t5.desc, 1, 1, [.it .u8 (0 : Int)]⟩
theorem ti118_ok : TyOK Try.prog 118 ti118 := TyOK.of (inf := Try.t118) Try.underlying118 (by kernel_rfl) (by kernel_rfl) (by kernel_rfl) (by kernel_rfl)
noncomputable def ti119 : TI := ⟨Try.t119.desc, 1, 8, [.nf]⟩
theorem ti119_ok : TyOK Try.prog 119 ti119 := TyOK.of (inf := Try.t119) Try.underlying119 (by kernel_rfl) (by kernel_rfl) (by kernel_rfl) (by kernel_rfl)
noncomputable def ti120 : TI := ⟨Try.t120.desc, 1, 8, [.pn]⟩
theorem ti120_ok : TyOK Try.prog 120 ti120 := TyOK.of (inf := Try.t120) Try.underlying120 (by kernel_rfl) (by kernel_rfl) (by kernel_rfl) (by kernel_rfl)
noncomputable def ti121 : TI := ⟨Try.t21.desc, 1, 4, [.it .i32 (0 : Int)]⟩
theorem ti121_ok : TyOK Try.prog 121 ti121 := TyOK.of (inf := Try.t121) Try.underlying121 (by kernel_rfl) (by kernel_rfl) (by kernel_rfl) (by kernel_rfl)
noncomputable def ti122 : TI := ⟨Try.t21.desc, 1, 4, [.it .i32 (0 : Int)]⟩
theorem ti122_ok : TyOK Try.prog 122 ti122 := TyOK.of (inf := Try.t122) Try.underlying122 (by kernel_rfl) (by kernel_rfl) (by kernel_rfl) (by kernel_rfl)
noncomputable def ti123 : TI := ⟨Try.t123.desc, 11, 48, [.it .u64 (0 : Int), .it .u64 (0 : Int), .it .u32 (0 : Int), .it .u8 (0 : Int), .it .u8 (0 : Int), .it .u8 (0 : Int), .it .u8 (0 : Int), .nf, .pn, .it .i32 (0 : Int), .it .i32 (0 : Int)]⟩
theorem ti123_ok : TyOK Try.prog 123 ti123 := TyOK.of (inf := Try.t123) Try.underlying123 (by kernel_rfl) (by kernel_rfl) (by kernel_rfl) (by kernel_rfl)
noncomputable def ti124 : TI := ⟨Try.t123.desc, 11, 48, [.it .u64 (0 : Int), .it .u64 (0 : Int), .it .u32 (0 : Int), .it .u8 (0 : Int), .it .u8 (0 : Int), .it .u8 (0 : Int), .it .u8 (0 : Int), .nf, .pn, .it .i32 (0 : Int), .it .i32 (0 : Int)]⟩
theorem ti124_ok : TyOK Try.prog 124 ti124 := TyOK.of (inf := Try.t124) Try.underlying124 (by kernel_rfl) (by kernel_rfl) (by kernel_rfl) (by kernel_rfl)
noncomputable def ti125 : TI := ⟨Try.t125.desc, 1, 8, [.pn]⟩
theorem ti125_ok : TyOK Try.prog 125 ti125 := TyOK.of (inf := Try.t125) Try.underlying125 (by kernel_rfl) (by kernel_rfl) (by kernel_rfl) (by kernel_rfl)
noncomputable def tys : List (Nat × TI) := [(1, ti1), (2, ti2), (3, ti3), (4, ti4), (5, ti5), (6, ti6), (7, ti7), (8, ti8), (9, ti9), (10, ti10), (11, ti11), (12, ti12), (13, ti13), (14, ti14), (15, ti15), (16, ti16), (17, ti17), (18, ti18), (19, ti19), (21, ti21), (22, ti22), (23, ti23), (25, ti25), (26, ti26), (27, ti27), (28, ti28), (29, ti29), (30, ti30), (31, ti31), (32, ti32), (33, ti33), (34, ti34), (35, ti35), (36, ti36), (38, ti38), (39, ti39), (41, ti41), (42, ti42), (43, ti43), (45, ti45), (46, ti46), (47, ti47), (49, ti49), (50, ti50), (51, ti51), (52, ti52), (53, ti53), (54, ti54), (55, ti55), (56, ti56), (58, ti58), (59, ti59), (60, ti60), (62, ti62), (64, ti64), (65, ti65), (66, ti66), (67, ti67), (68, ti68), (69, ti69), (70, ti70), (71, ti71), (72, ti72), (73, ti73), (74, ti74), (75, ti75), (76, ti76), (77, ti77), (78, ti78), (79, ti79), (80, ti80), (81, ti81), (82, ti82), (83, ti83), (84, ti84), (85, ti85), (86, ti86), (87, ti87), (88, ti88), (89, ti89), (90, ti90), (91, ti91), (92, ti92), (93, ti93), (94, ti94), (95, ti95), (96, ti96), (97, ti97), (98, ti98), (99, ti99), (100, ti100), (101, ti101), (102, ti102), (103, ti103), (104, ti104), (105, ti105), (106, ti106), (107, ti107), (108, ti108), (109, ti109), (110, ti110), (111, ti111), (112, ti112), (113, ti113), (114, ti114), (115, ti115), (116, ti116), (117, ti117), (118, ti118), (119, ti119), (120, ti120), (121, ti121), (122, ti122), (123, ti123), (124, ti124), (125, ti125)]
theorem mo : Try.prog.follows .mixedOrders = true := by kernel_rfl
theorem tys_ok : TysOK Try.prog tys := (TysOK.cons ti1_ok (TysOK.cons ti2_ok (TysOK.cons ti3_ok (TysOK.cons ti4_ok (TysOK.cons ti5_ok (TysOK.cons ti6_ok (TysOK.cons ti7_ok (TysOK.cons ti8_ok (TysOK.cons ti9_ok (TysOK.cons ti10_ok (TysOK.cons ti11_ok (TysOK.cons ti12_ok (TysOK.cons ti13_ok (TysOK.cons ti14_ok (TysOK.cons ti15_ok (TysOK.cons ti16_ok (TysOK.cons ti17_ok (TysOK.cons ti18_ok (TysOK.cons ti19_ok (TysOK.cons ti21_ok (TysOK.cons ti22_ok (TysOK.cons ti23_ok (TysOK.cons ti25_ok (TysOK.cons ti26_ok (TysOK.cons ti27_ok (TysOK.cons ti28_ok (TysOK.cons ti29_ok (TysOK.cons ti30_ok (TysOK.cons ti31_ok (TysOK.cons ti32_ok (TysOK.cons ti33_ok (TysOK.cons ti34_ok (TysOK.cons ti35_ok (TysOK.cons ti36_ok (TysOK.cons ti38_ok (TysOK.cons ti39_ok (TysOK.cons ti41_ok (TysOK.cons ti42_ok (TysOK.cons ti43_ok (TysOK.cons ti45_ok (TysOK.cons ti46_ok (TysOK.cons ti47_ok (TysOK.cons ti49_ok (TysOK.cons ti50_ok (TysOK.cons ti51_ok (TysOK.cons ti52_ok (TysOK.cons ti53_ok (TysOK.cons ti54_ok (TysOK.cons ti55_ok (TysOK.cons ti56_ok (TysOK.cons ti58_ok (TysOK.cons ti59_ok (TysOK.cons ti60_ok (TysOK.cons ti62_ok (TysOK.cons ti64_ok (TysOK.cons ti65_ok (TysOK.cons ti66_ok (TysOK.cons ti67_ok (TysOK.cons ti68_ok (TysOK.cons ti69_ok (TysOK.cons ti70_ok (TysOK.cons ti71_ok (TysOK.cons ti72_ok (TysOK.cons ti73_ok (TysOK.cons ti74_ok (TysOK.cons ti75_ok (TysOK.cons ti76_ok (TysOK.cons ti77_ok (TysOK.cons ti78_ok (TysOK.cons ti79_ok (TysOK.cons ti80_ok (TysOK.cons ti81_ok (TysOK.cons ti82_ok (TysOK.cons ti83_ok (TysOK.cons ti84_ok (TysOK.cons ti85_ok (TysOK.cons ti86_ok (TysOK.cons ti87_ok (TysOK.cons ti88_ok (TysOK.cons ti89_ok (TysOK.cons ti90_ok (TysOK.cons ti91_ok (TysOK.cons ti92_ok (TysOK.cons ti93_ok (TysOK.cons ti94_ok (TysOK.cons ti95_ok (TysOK.cons ti96_ok (TysOK.cons ti97_ok (TysOK.cons ti98_ok (TysOK.cons ti99_ok (TysOK.cons ti100_ok (TysOK.cons ti101_ok (TysOK.cons ti102_ok (TysOK.cons ti103_ok (TysOK.cons ti104_ok (TysOK.cons ti105_ok (TysOK.cons ti106_ok (TysOK.cons ti107_ok (TysOK.cons ti108_ok (TysOK.cons ti109_ok (TysOK.cons ti110_ok (TysOK.cons ti111_ok (TysOK.cons ti112_ok (TysOK.cons ti113_ok (TysOK.cons ti114_ok (TysOK.cons ti115_ok (TysOK.cons ti116_ok (TysOK.cons ti117_ok (TysOK.cons ti118_ok (TysOK.cons ti119_ok (TysOK.cons ti120_ok (TysOK.cons ti121_ok (TysOK.cons ti122_ok (TysOK.cons ti123_ok (TysOK.cons ti124_ok (TysOK.cons ti125_ok TysOK.nil))))))))))))))))))))))))))))))))))))))))))))))))))))))))))))))))))))))))))))))))))))))))))))))))))))))))))))))))))))
noncomputable def eqs : List (Nat × Nat) := [(36, 2)]
theorem eqs_ok : ∀ t n, alook eqs t = some n → EqOK Try.prog t n := EqsOK.one (EqOK.two Try.underlying36 (by decide) (by decide) rfl rfl Try.underlying2 Try.underlying2 (fun w => Try.isAgg2 w) (fun w => Try.isAgg2 w) (by kernel_rfl) (by kernel_rfl))
/-! ### laws_a2Long -/
noncomputable def laws_a2Long.b : Code := bodyOf Try.f12
noncomputable def laws_a2Long.C : Ctx := { ty := tys, fn := [], lp := [], n := 13, k := 2, eq := eqs }
theorem laws_a2Long.hC : CtxOK Try.prog laws_a2Long.C := CtxOK.of mo tys_ok FnsOK.nil eqs_ok
theorem laws_a2Long.lp : LpOK Try.prog laws_a2Long.C laws_a2Long.b := (LpOK.nil (by kernel_rfl))
noncomputable def laws_a2Long.t (x0 : Nat) (x1 : Nat) (x2 : List Int) (x3 : List Int) : T Bool :=
  .br (decide (((x0 : Nat) : Int) > (3000 : Int)))
  (.leaf true)
  (.leaf (decide (((x1 : Nat) : Int) > (3000 : Int))))
noncomputable def laws_a2Long (x0 : Nat) (x1 : Nat) (x2 : List Int) (x3 : List Int) : Bool := (laws_a2Long.t x0 x1 x2 x3).val
def laws_a2Long.cd : Cd (Nat × Nat × List Int × List Int) (List V × Hp) := Cd.iso (Cd.pair (Cd.cons (Cd.sl 0 (Cd.natc 0)) (Cd.cons (Cd.sl 1 (Cd.natc 0)) Cd.nil)) (Cd.cons (Cd.ro 0 0 (Cd.is .u8)) (Cd.cons (Cd.ro 0 0 (Cd.is .u8)) Cd.nil))) (fun a => (a.1.1.2, a.1.2.1.2, a.2.1, a.2.2.1)) (fun a => ((((), a.1), (((), a.2.1), ())), (a.2.2.1, (a.2.2.2, ())))) (fun _ => rfl)
noncomputable def laws_a2Long.tr (a : Nat × Nat × List Int × List Int) : T Bool := laws_a2Long.t a.1 a.2.1 a.2.2.1 a.2.2.2
def laws_a2Long.enc : (Nat × Nat × List Int × List Int) → Bool → V := fun a r => .bo r
noncomputable def laws_a2Long.c : List V → Hp → T V := cdQ laws_a2Long.cd (fun a => .leaf (laws_a2Long.enc a (laws_a2Long a.1 a.2.1 a.2.2.1 a.2.2.2)))
theorem laws_a2Long.run (a : Nat × Nat × List Int × List Int) : runF laws_a2Long.C Try.f12.results.toList laws_a2Long.b (laws_a2Long.cd.enc a).1 (laws_a2Long.cd.enc a).2 = (laws_a2Long.tr a).map fun r => (laws_a2Long.enc a r, (laws_a2Long.cd.enc a).2) := by kernel_rfl
theorem laws_a2Long.cok : OKq Try.prog 12 laws_a2Long.c := con_q' laws_a2Long.cd laws_a2Long.hC Try.func12 (by kernel_rfl) (by kernel_rfl) (by kernel_rfl) laws_a2Long.lp (fun a => by kernel_rfl) laws_a2Long.run (Tells.val (tree := laws_a2Long.tr) fun a => by kernel_rfl)
/-! ### spec_l00From -/
noncomputable def spec_l00From.b : Code := bodyOf Try.f37
noncomputable def spec_l00From.C : Ctx := { ty := tys, fn := [], lp := [], n := 6, k := 1, eq := eqs }
theorem spec_l00From.hC : CtxOK Try.prog spec_l00From.C := CtxOK.of mo tys_ok FnsOK.nil eqs_ok
theorem spec_l00From.lp : LpOK Try.prog spec_l00From.C spec_l00From.b := (LpOK.nil (by kernel_rfl))
noncomputable def spec_l00From.t (x0 : Nat) (x1 : List Int) : T (Nat × Int × Int) :=
  .leaf (x0, (0 : Int), (0 : Int))
noncomputable def spec_l00From (x0 : Nat) (x1 : List Int) : Nat × Int × Int := (spec_l00From.t x0 x1).val
def spec_l00From.cd : Cd (Nat × List Int) (List V × Hp) := Cd.iso (Cd.pair (Cd.cons (Cd.sl 0 (Cd.natc 0)) Cd.nil) (Cd.cons (Cd.ro 0 0 (Cd.is .u8)) Cd.nil)) (fun a => (a.1.1.2, a.2.1)) (fun a => ((((), a.1), ()), (a.2, ()))) (fun _ => rfl)
noncomputable def spec_l00From.tr (a : Nat × List Int) : T (Nat × Int × Int) := spec_l00From.t a.1 a.2
def spec_l00From.enc : (Nat × List Int) → (Nat × Int × Int) → V × Hp := fun a r => (.pt 1 0, [some ⟨false, 0, 0, .is .u8 a.2⟩, some ⟨true, 98, 3, .vs [.sl 0 0 r.1, .it .i64 r.2.1, .it .u64 r.2.2]⟩])
noncomputable def spec_l00From.c : List V → Hp → T (V × Hp) := cdE spec_l00From.cd (fun a => .leaf (spec_l00From.enc a (spec_l00From a.1 a.2)))
theorem spec_l00From.run (a : Nat × List Int) : runF spec_l00From.C Try.f37.results.toList spec_l00From.b (spec_l00From.cd.enc a).1 (spec_l00From.cd.enc a).2 = (spec_l00From.tr a).map (spec_l00From.enc a) := by kernel_rfl
theorem spec_l00From.cok : OKe Try.prog 37 spec_l00From.c := con_e' spec_l00From.cd spec_l00From.hC Try.func37 (by kernel_rfl) (by kernel_rfl) (by kernel_rfl) spec_l00From.lp (fun a => by kernel_rfl) spec_l00From.run (Tells.val (tree := spec_l00From.tr) fun a => by kernel_rfl)
/-! ### spec_l00Src_next -/
noncomputable def spec_l00Src_next.b : Code := bodyOf Try.f90
noncomputable def spec_l00Src_next.C : Ctx := { ty := tys, fn := [], lp := [], n := 62, k := 2, eq := eqs }
theorem spec_l00Src_next.hC : CtxOK Try.prog spec_l00Src_next.C := CtxOK.of mo tys_ok FnsOK.nil eqs_ok
theorem spec_l00Src_next.lp : LpOK Try.prog spec_l00Src_next.C spec_l00Src_next.b := (LpOK.nil (by kernel_rfl))
noncomputable def spec_l00Src_next.t (x0 : Nat) (x1 : Int) (x2 : Int) (x3 : List Int) : T (Int × Nat × Int × Int) :=
  .br (decide (x1 < ((x0 : Nat) : Int)))
  (.br (bounds x1 x0)
   (.br (Nat.ble ((0 + (Int.toNat x1 * 1)) + 1) (List.length x3))
    (.br (decide ((IntKind.wrap .i64 (x1 + (1 : Int))) ≤ ((x0 : Nat) : Int)))
     (.leaf ((IntKind.wrap .i64 (List.getD x3 (0 + (Int.toNat x1 * 1)) 0)), x0, (IntKind.wrap .i64 (x1 + (1 : Int))), (IntKind.wrap .u64 ((IntKind.wrap .u64 ((IntKind.wrap .u64 (x2 * (6364136223846793005 : Int))) + (IntKind.wrap .u64 (IntKind.wrap .i64 (List.getD x3 (0 + (Int.toNat x1 * 1)) 0))))) + (1442695040888963407 : Int)))))
     (.leaf ((IntKind.wrap .i64 (ibits .and .u64 (Int.fdiv (IntKind.wrap .u64 ((IntKind.wrap .u64 ((IntKind.wrap .u64 (x2 * (6364136223846793005 : Int))) + (IntKind.wrap .u64 (IntKind.wrap .i64 (List.getD x3 (0 + (Int.toNat x1 * 1)) 0))))) + (1442695040888963407 : Int))) (2 ^ min (Int.toNat (40 : Int)) 64)) (255 : Int))), x0, (IntKind.wrap .i64 (x1 + (1 : Int))), (IntKind.wrap .u64 ((IntKind.wrap .u64 ((IntKind.wrap .u64 (x2 * (6364136223846793005 : Int))) + (IntKind.wrap .u64 (IntKind.wrap .i64 (List.getD x3 (0 + (Int.toNat x1 * 1)) 0))))) + (1442695040888963407 : Int))))))
    .bad)
   .bad)
  (.br (decide ((IntKind.wrap .i64 (x1 + (1 : Int))) ≤ ((x0 : Nat) : Int)))
   (.leaf ((0 : Int), x0, (IntKind.wrap .i64 (x1 + (1 : Int))), (IntKind.wrap .u64 ((IntKind.wrap .u64 ((IntKind.wrap .u64 (x2 * (6364136223846793005 : Int))) + (IntKind.wrap .u64 (0 : Int)))) + (1442695040888963407 : Int)))))
   (.leaf ((IntKind.wrap .i64 (ibits .and .u64 (Int.fdiv (IntKind.wrap .u64 ((IntKind.wrap .u64 ((IntKind.wrap .u64 (x2 * (6364136223846793005 : Int))) + (IntKind.wrap .u64 (0 : Int)))) + (1442695040888963407 : Int))) (2 ^ min (Int.toNat (40 : Int)) 64)) (255 : Int))), x0, (IntKind.wrap .i64 (x1 + (1 : Int))), (IntKind.wrap .u64 ((IntKind.wrap .u64 ((IntKind.wrap .u64 (x2 * (6364136223846793005 : Int))) + (IntKind.wrap .u64 (0 : Int)))) + (1442695040888963407 : Int))))))
noncomputable def spec_l00Src_next (x0 : Nat) (x1 : Int) (x2 : Int) (x3 : List Int) : Int × Nat × Int × Int := (spec_l00Src_next.t x0 x1 x2 x3).val
noncomputable def spec_l00Src_next.ok (x0 : Nat) (x1 : Int) (x2 : Int) (x3 : List Int) : Bool := (spec_l00Src_next.t x0 x1 x2 x3).ok
def spec_l00Src_next.cd : Cd (Nat × Int × Int × List Int) (List V × Hp) := Cd.iso (Cd.pair (Cd.cons (Cd.pt 0 (Cd.natc 0)) Cd.nil) (Cd.cons (Cd.rw 98 3 (Cd.vs (Cd.cons (Cd.sl 1 (Cd.natc 0)) (Cd.cons (Cd.it .i64) (Cd.cons (Cd.it .u64) Cd.nil))))) (Cd.cons (Cd.ro 0 0 (Cd.is .u8)) Cd.nil))) (fun a => (a.2.1.1.2, a.2.1.2.1, a.2.1.2.2.1, a.2.2.1)) (fun a => (((), ()), ((((), a.1), (a.2.1, (a.2.2.1, ()))), (a.2.2.2, ())))) (fun _ => rfl)
noncomputable def spec_l00Src_next.tr (a : Nat × Int × Int × List Int) : T (Int × Nat × Int × Int) := spec_l00Src_next.t a.1 a.2.1 a.2.2.1 a.2.2.2
def spec_l00Src_next.enc : (Nat × Int × Int × List Int) → (Int × Nat × Int × Int) → V × Hp := fun a r => (.it .i64 r.1, [some ⟨true, 98, 3, .vs [.sl 1 0 r.2.1, .it .i64 r.2.2.1, .it .u64 r.2.2.2]⟩, some ⟨false, 0, 0, .is .u8 a.2.2.2⟩])
noncomputable def spec_l00Src_next.c : List V → Hp → T (V × Hp) := cdE spec_l00Src_next.cd (fun a => .br (spec_l00Src_next.ok a.1 a.2.1 a.2.2.1 a.2.2.2) (.leaf (spec_l00Src_next.enc a (spec_l00Src_next a.1 a.2.1 a.2.2.1 a.2.2.2))) .bad)
theorem spec_l00Src_next.run (a : Nat × Int × Int × List Int) : runF spec_l00Src_next.C Try.f90.results.toList spec_l00Src_next.b (spec_l00Src_next.cd.enc a).1 (spec_l00Src_next.cd.enc a).2 = (spec_l00Src_next.tr a).map (spec_l00Src_next.enc a) := by kernel_rfl
theorem spec_l00Src_next.cok : OKe Try.prog 90 spec_l00Src_next.c := con_e' spec_l00Src_next.cd spec_l00Src_next.hC Try.func90 (by kernel_rfl) (by kernel_rfl) (by kernel_rfl) spec_l00Src_next.lp (fun a => by kernel_rfl) spec_l00Src_next.run (Tells.ok (tree := spec_l00Src_next.tr))
/-! ### spec_l00Src_pick -/
noncomputable def spec_l00Src_pick.b : Code := bodyOf Try.f69
noncomputable def spec_l00Src_pick.C : Ctx := { ty := tys, fn := [(90, .e spec_l00Src_next.c)], lp := [], n := 20, k := 2, eq := eqs }
theorem spec_l00Src_pick.hC : CtxOK Try.prog spec_l00Src_pick.C := CtxOK.of mo tys_ok (FnsOK.cons spec_l00Src_next.cok FnsOK.nil) eqs_ok
theorem spec_l00Src_pick.lp : LpOK Try.prog spec_l00Src_pick.C spec_l00Src_pick.b := (LpOK.nil (by kernel_rfl))
noncomputable def spec_l00Src_pick.t (x0 : Int) (x1 : Nat) (x2 : Int) (x3 : Int) (x4 : List Int) : T (Int × Nat × Int × Int) :=
  .br (decide (x0 ≤ (1 : Int)))
  (.leaf ((0 : Int), x1, x2, x3))
  (.br (spec_l00Src_next.ok x1 x2 x3 x4)
   (.br (decide (x0 > (200 : Int)))
    (.br (spec_l00Src_next.ok ((spec_l00Src_next x1 x2 x3 x4).2.1) ((spec_l00Src_next x1 x2 x3 x4).2.2.1) ((spec_l00Src_next x1 x2 x3 x4).2.2.2) x4)
     (.br (x0 == 0)
      .bad
      (.leaf ((Int.tmod (IntKind.wrap .i64 ((IntKind.wrap .i64 ((spec_l00Src_next x1 x2 x3 x4).1 * (256 : Int))) + (spec_l00Src_next ((spec_l00Src_next x1 x2 x3 x4).2.1) ((spec_l00Src_next x1 x2 x3 x4).2.2.1) ((spec_l00Src_next x1 x2 x3 x4).2.2.2) x4).1)) x0), (spec_l00Src_next ((spec_l00Src_next x1 x2 x3 x4).2.1) ((spec_l00Src_next x1 x2 x3 x4).2.2.1) ((spec_l00Src_next x1 x2 x3 x4).2.2.2) x4).2.1, (spec_l00Src_next ((spec_l00Src_next x1 x2 x3 x4).2.1) ((spec_l00Src_next x1 x2 x3 x4).2.2.1) ((spec_l00Src_next x1 x2 x3 x4).2.2.2) x4).2.2.1, (spec_l00Src_next ((spec_l00Src_next x1 x2 x3 x4).2.1) ((spec_l00Src_next x1 x2 x3 x4).2.2.1) ((spec_l00Src_next x1 x2 x3 x4).2.2.2) x4).2.2.2)))
     .bad)
    (.br (x0 == 0)
     .bad
     (.leaf ((Int.tmod (spec_l00Src_next x1 x2 x3 x4).1 x0), (spec_l00Src_next x1 x2 x3 x4).2.1, (spec_l00Src_next x1 x2 x3 x4).2.2.1, (spec_l00Src_next x1 x2 x3 x4).2.2.2))))
   .bad)
noncomputable def spec_l00Src_pick (x0 : Int) (x1 : Nat) (x2 : Int) (x3 : Int) (x4 : List Int) : Int × Nat × Int × Int := (spec_l00Src_pick.t x0 x1 x2 x3 x4).val
noncomputable def spec_l00Src_pick.ok (x0 : Int) (x1 : Nat) (x2 : Int) (x3 : Int) (x4 : List Int) : Bool := (spec_l00Src_pick.t x0 x1 x2 x3 x4).ok
def spec_l00Src_pick.cd : Cd (Int × Nat × Int × Int × List Int) (List V × Hp) := Cd.iso (Cd.pair (Cd.cons (Cd.pt 0 (Cd.natc 0)) (Cd.cons (Cd.it .i64) Cd.nil)) (Cd.cons (Cd.rw 98 3 (Cd.vs (Cd.cons (Cd.sl 1 (Cd.natc 0)) (Cd.cons (Cd.it .i64) (Cd.cons (Cd.it .u64) Cd.nil))))) (Cd.cons (Cd.ro 0 0 (Cd.is .u8)) Cd.nil))) (fun a => (a.1.2.1, a.2.1.1.2, a.2.1.2.1, a.2.1.2.2.1, a.2.2.1)) (fun a => (((), (a.1, ())), ((((), a.2.1), (a.2.2.1, (a.2.2.2.1, ()))), (a.2.2.2.2, ())))) (fun _ => rfl)
noncomputable def spec_l00Src_pick.tr (a : Int × Nat × Int × Int × List Int) : T (Int × Nat × Int × Int) := spec_l00Src_pick.t a.1 a.2.1 a.2.2.1 a.2.2.2.1 a.2.2.2.2
def spec_l00Src_pick.enc : (Int × Nat × Int × Int × List Int) → (Int × Nat × Int × Int) → V × Hp := fun a r => (.it .i64 r.1, [some ⟨true, 98, 3, .vs [.sl 1 0 r.2.1, .it .i64 r.2.2.1, .it .u64 r.2.2.2]⟩, some ⟨false, 0, 0, .is .u8 a.2.2.2.2⟩])
noncomputable def spec_l00Src_pick.c : List V → Hp → T (V × Hp) := cdE spec_l00Src_pick.cd (fun a => .br (spec_l00Src_pick.ok a.1 a.2.1 a.2.2.1 a.2.2.2.1 a.2.2.2.2) (.leaf (spec_l00Src_pick.enc a (spec_l00Src_pick a.1 a.2.1 a.2.2.1 a.2.2.2.1 a.2.2.2.2))) .bad)
theorem spec_l00Src_pick.run (a : Int × Nat × Int × Int × List Int) : runF spec_l00Src_pick.C Try.f69.results.toList spec_l00Src_pick.b (spec_l00Src_pick.cd.enc a).1 (spec_l00Src_pick.cd.enc a).2 = (spec_l00Src_pick.tr a).map (spec_l00Src_pick.enc a) := by kernel_rfl
theorem spec_l00Src_pick.cok : OKe Try.prog 69 spec_l00Src_pick.c := con_e' spec_l00Src_pick.cd spec_l00Src_pick.hC Try.func69 (by kernel_rfl) (by kernel_rfl) (by kernel_rfl) spec_l00Src_pick.lp (fun a => by kernel_rfl) spec_l00Src_pick.run (Tells.ok (tree := spec_l00Src_pick.tr))
/-! ### spec_l00Src_one -/
noncomputable def spec_l00Src_one.b : Code := bodyOf Try.f67
noncomputable def spec_l00Src_one.C : Ctx := { ty := tys, fn := [(69, .e spec_l00Src_pick.c)], lp := [], n := 9, k := 2, eq := eqs }
theorem spec_l00Src_one.hC : CtxOK Try.prog spec_l00Src_one.C := CtxOK.of mo tys_ok (FnsOK.cons spec_l00Src_pick.cok FnsOK.nil) eqs_ok
theorem spec_l00Src_one.lp : LpOK Try.prog spec_l00Src_one.C spec_l00Src_one.b := (LpOK.nil (by kernel_rfl))
noncomputable def spec_l00Src_one.t (x0 : Int) (x1 : Nat) (x2 : Int) (x3 : Int) (x4 : List Int) : T (Bool × Nat × Int × Int) :=
  .br (spec_l00Src_pick.ok x0 x1 x2 x3 x4)
  (.leaf (((spec_l00Src_pick x0 x1 x2 x3 x4).1 == (0 : Int)), (spec_l00Src_pick x0 x1 x2 x3 x4).2.1, (spec_l00Src_pick x0 x1 x2 x3 x4).2.2.1, (spec_l00Src_pick x0 x1 x2 x3 x4).2.2.2))
  .bad
noncomputable def spec_l00Src_one (x0 : Int) (x1 : Nat) (x2 : Int) (x3 : Int) (x4 : List Int) : Bool × Nat × Int × Int := (spec_l00Src_one.t x0 x1 x2 x3 x4).val
noncomputable def spec_l00Src_one.ok (x0 : Int) (x1 : Nat) (x2 : Int) (x3 : Int) (x4 : List Int) : Bool := (spec_l00Src_one.t x0 x1 x2 x3 x4).ok
def spec_l00Src_one.cd : Cd (Int × Nat × Int × Int × List Int) (List V × Hp) := Cd.iso (Cd.pair (Cd.cons (Cd.pt 0 (Cd.natc 0)) (Cd.cons (Cd.it .i64) Cd.nil)) (Cd.cons (Cd.rw 98 3 (Cd.vs (Cd.cons (Cd.sl 1 (Cd.natc 0)) (Cd.cons (Cd.it .i64) (Cd.cons (Cd.it .u64) Cd.nil))))) (Cd.cons (Cd.ro 0 0 (Cd.is .u8)) Cd.nil))) (fun a => (a.1.2.1, a.2.1.1.2, a.2.1.2.1, a.2.1.2.2.1, a.2.2.1)) (fun a => (((), (a.1, ())), ((((), a.2.1), (a.2.2.1, (a.2.2.2.1, ()))), (a.2.2.2.2, ())))) (fun _ => rfl)
noncomputable def spec_l00Src_one.tr (a : Int × Nat × Int × Int × List Int) : T (Bool × Nat × Int × Int) := spec_l00Src_one.t a.1 a.2.1 a.2.2.1 a.2.2.2.1 a.2.2.2.2
def spec_l00Src_one.enc : (Int × Nat × Int × Int × List Int) → (Bool × Nat × Int × Int) → V × Hp := fun a r => (.bo r.1, [some ⟨true, 98, 3, .vs [.sl 1 0 r.2.1, .it .i64 r.2.2.1, .it .u64 r.2.2.2]⟩, some ⟨false, 0, 0, .is .u8 a.2.2.2.2⟩])
noncomputable def spec_l00Src_one.c : List V → Hp → T (V × Hp) := cdE spec_l00Src_one.cd (fun a => .br (spec_l00Src_one.ok a.1 a.2.1 a.2.2.1 a.2.2.2.1 a.2.2.2.2) (.leaf (spec_l00Src_one.enc a (spec_l00Src_one a.1 a.2.1 a.2.2.1 a.2.2.2.1 a.2.2.2.2))) .bad)
theorem spec_l00Src_one.run (a : Int × Nat × Int × Int × List Int) : runF spec_l00Src_one.C Try.f67.results.toList spec_l00Src_one.b (spec_l00Src_one.cd.enc a).1 (spec_l00Src_one.cd.enc a).2 = (spec_l00Src_one.tr a).map (spec_l00Src_one.enc a) := by kernel_rfl
theorem spec_l00Src_one.cok : OKe Try.prog 67 spec_l00Src_one.c := con_e' spec_l00Src_one.cd spec_l00Src_one.hC Try.func67 (by kernel_rfl) (by kernel_rfl) (by kernel_rfl) spec_l00Src_one.lp (fun a => by kernel_rfl) spec_l00Src_one.run (Tells.ok (tree := spec_l00Src_one.tr))
/-! ### math_NaN -/
noncomputable def math_NaN.b : Code := bodyOf Try.f87
noncomputable def math_NaN.C : Ctx := { ty := tys, fn := [(96, .q f64fromC)], lp := [], n := 2, k := 0, eq := eqs }
theorem math_NaN.hC : CtxOK Try.prog math_NaN.C := CtxOK.of mo tys_ok (FnsOK.cons (f64from_ok Try.func96 (by kernel_rfl) (by kernel_rfl) (by kernel_rfl) (by kernel_rfl)) FnsOK.nil) eqs_ok
theorem math_NaN.lp : LpOK Try.prog math_NaN.C math_NaN.b := (LpOK.nil (by kernel_rfl))
noncomputable def math_NaN.t : T Nat :=
  .leaf (nz .f64 (Int.toNat (9221120237041090561 : Int)))
noncomputable def math_NaN : Nat := (math_NaN.t).val
def math_NaN.cd : Cd Unit (List V × Hp) := Cd.iso (Cd.pair Cd.nil Cd.nil) (fun a => ()) (fun a => ((), ())) (fun _ => rfl)
noncomputable def math_NaN.tr (a : Unit) : T Nat := math_NaN.t
def math_NaN.enc : Unit → Nat → V := fun a r => .fl .f64 r
noncomputable def math_NaN.c : List V → Hp → T V := cdQ math_NaN.cd (fun a => .leaf (math_NaN.enc a (math_NaN)))
theorem math_NaN.run (a : Unit) : runF math_NaN.C Try.f87.results.toList math_NaN.b (math_NaN.cd.enc a).1 (math_NaN.cd.enc a).2 = (math_NaN.tr a).map fun r => (math_NaN.enc a r, (math_NaN.cd.enc a).2) := by kernel_rfl
theorem math_NaN.cok : OKq Try.prog 87 math_NaN.c := con_q' math_NaN.cd math_NaN.hC Try.func87 (by kernel_rfl) (by kernel_rfl) (by kernel_rfl) math_NaN.lp (fun a => by kernel_rfl) math_NaN.run (Tells.val (tree := math_NaN.tr) fun a => by kernel_rfl)
/-! ### math_Inf -/
noncomputable def math_Inf.b : Code := bodyOf Try.f88
noncomputable def math_Inf.C : Ctx := { ty := tys, fn := [(96, .q f64fromC)], lp := [], n := 8, k := 0, eq := eqs }
theorem math_Inf.hC : CtxOK Try.prog math_Inf.C := CtxOK.of mo tys_ok (FnsOK.cons (f64from_ok Try.func96 (by kernel_rfl) (by kernel_rfl) (by kernel_rfl) (by kernel_rfl)) FnsOK.nil) eqs_ok
theorem math_Inf.lp : LpOK Try.prog math_Inf.C math_Inf.b := (LpOK.nil (by kernel_rfl))
noncomputable def math_Inf.t (x0 : Int) : T Nat :=
  .br (decide (x0 ≥ (0 : Int)))
  (.leaf (nz .f64 (Int.toNat (9218868437227405312 : Int))))
  (.leaf (nz .f64 (Int.toNat (18442240474082181120 : Int))))
noncomputable def math_Inf (x0 : Int) : Nat := (math_Inf.t x0).val
def math_Inf.cd : Cd Int (List V × Hp) := Cd.iso (Cd.pair (Cd.cons (Cd.it .i64) Cd.nil) Cd.nil) (fun a => a.1.1) (fun a => ((a, ()), ())) (fun _ => rfl)
noncomputable def math_Inf.tr (a : Int) : T Nat := math_Inf.t a
def math_Inf.enc : Int → Nat → V := fun a r => .fl .f64 r
noncomputable def math_Inf.c : List V → Hp → T V := cdQ math_Inf.cd (fun a => .leaf (math_Inf.enc a (math_Inf a)))
theorem math_Inf.run (a : Int) : runF math_Inf.C Try.f88.results.toList math_Inf.b (math_Inf.cd.enc a).1 (math_Inf.cd.enc a).2 = (math_Inf.tr a).map fun r => (math_Inf.enc a r, (math_Inf.cd.enc a).2) := by kernel_rfl
theorem math_Inf.cok : OKq Try.prog 88 math_Inf.c := con_q' math_Inf.cd math_Inf.hC Try.func88 (by kernel_rfl) (by kernel_rfl) (by kernel_rfl) math_Inf.lp (fun a => by kernel_rfl) math_Inf.run (Tells.val (tree := math_Inf.tr) fun a => by kernel_rfl)
/-! ### spec_l00Src_among -/
noncomputable def spec_l00Src_among.b : Code := bodyOf Try.f71
noncomputable def spec_l00Src_among.C : Ctx := { ty := tys, fn := [(69, .e spec_l00Src_pick.c)], lp := [], n := 12, k := 3, eq := eqs }
theorem spec_l00Src_among.hC : CtxOK Try.prog spec_l00Src_among.C := CtxOK.of mo tys_ok (FnsOK.cons spec_l00Src_pick.cok FnsOK.nil) eqs_ok
theorem spec_l00Src_among.lp : LpOK Try.prog spec_l00Src_among.C spec_l00Src_among.b := (LpOK.nil (by kernel_rfl))
noncomputable def spec_l00Src_among.t (x0 : Nat) (x1 : Nat) (x2 : Int) (x3 : Int) (x4 : List Int) (x5 : List Int) : T (Int × Nat × Int × Int) :=
  .br (spec_l00Src_pick.ok ((x0 : Nat) : Int) x1 x2 x3 x5)
  (.br (bounds (spec_l00Src_pick ((x0 : Nat) : Int) x1 x2 x3 x5).1 x0)
   (.br (Nat.ble ((Int.toNat (spec_l00Src_pick ((x0 : Nat) : Int) x1 x2 x3 x5).1 * 1) + 1) (List.length x4))
    (.leaf ((List.getD x4 (Int.toNat (spec_l00Src_pick ((x0 : Nat) : Int) x1 x2 x3 x5).1 * 1) 0), (spec_l00Src_pick ((x0 : Nat) : Int) x1 x2 x3 x5).2.1, (spec_l00Src_pick ((x0 : Nat) : Int) x1 x2 x3 x5).2.2.1, (spec_l00Src_pick ((x0 : Nat) : Int) x1 x2 x3 x5).2.2.2))
    .bad)
   .bad)
  .bad
noncomputable def spec_l00Src_among (x0 : Nat) (x1 : Nat) (x2 : Int) (x3 : Int) (x4 : List Int) (x5 : List Int) : Int × Nat × Int × Int := (spec_l00Src_among.t x0 x1 x2 x3 x4 x5).val
noncomputable def spec_l00Src_among.ok (x0 : Nat) (x1 : Nat) (x2 : Int) (x3 : Int) (x4 : List Int) (x5 : List Int) : Bool := (spec_l00Src_among.t x0 x1 x2 x3 x4 x5).ok
def spec_l00Src_among.cd : Cd (Nat × Nat × Int × Int × List Int × List Int) (List V × Hp) := Cd.iso (Cd.pair (Cd.cons (Cd.pt 0 (Cd.natc 0)) (Cd.cons (Cd.own 1) Cd.nil)) (Cd.cons (Cd.rw 98 3 (Cd.vs (Cd.cons (Cd.sl 2 (Cd.natc 0)) (Cd.cons (Cd.it .i64) (Cd.cons (Cd.it .u64) Cd.nil))))) (Cd.cons (Cd.rw 2 1 (Cd.is .i64)) (Cd.cons (Cd.ro 0 0 (Cd.is .u8)) Cd.nil)))) (fun a => (a.1.2.1, a.2.1.1.2, a.2.1.2.1, a.2.1.2.2.1, a.2.2.1, a.2.2.2.1)) (fun a => (((), (a.1, ())), ((((), a.2.1), (a.2.2.1, (a.2.2.2.1, ()))), (a.2.2.2.2.1, (a.2.2.2.2.2, ()))))) (fun _ => rfl)
noncomputable def spec_l00Src_among.tr (a : Nat × Nat × Int × Int × List Int × List Int) : T (Int × Nat × Int × Int) := spec_l00Src_among.t a.1 a.2.1 a.2.2.1 a.2.2.2.1 a.2.2.2.2.1 a.2.2.2.2.2
def spec_l00Src_among.enc : (Nat × Nat × Int × Int × List Int × List Int) → (Int × Nat × Int × Int) → V × Hp := fun a r => (.it .i64 r.1, [some ⟨true, 98, 3, .vs [.sl 2 0 r.2.1, .it .i64 r.2.2.1, .it .u64 r.2.2.2]⟩, some ⟨true, 2, 1, .is .i64 a.2.2.2.2.1⟩, some ⟨false, 0, 0, .is .u8 a.2.2.2.2.2⟩])
noncomputable def spec_l00Src_among.c : List V → Hp → T (V × Hp) := cdE spec_l00Src_among.cd (fun a => .br (spec_l00Src_among.ok a.1 a.2.1 a.2.2.1 a.2.2.2.1 a.2.2.2.2.1 a.2.2.2.2.2) (.leaf (spec_l00Src_among.enc a (spec_l00Src_among a.1 a.2.1 a.2.2.1 a.2.2.2.1 a.2.2.2.2.1 a.2.2.2.2.2))) .bad)
theorem spec_l00Src_among.run (a : Nat × Nat × Int × Int × List Int × List Int) : runF spec_l00Src_among.C Try.f71.results.toList spec_l00Src_among.b (spec_l00Src_among.cd.enc a).1 (spec_l00Src_among.cd.enc a).2 = (spec_l00Src_among.tr a).map (spec_l00Src_among.enc a) := by kernel_rfl
theorem spec_l00Src_among.cok : OKe Try.prog 71 spec_l00Src_among.c := con_e' spec_l00Src_among.cd spec_l00Src_among.hC Try.func71 (by kernel_rfl) (by kernel_rfl) (by kernel_rfl) spec_l00Src_among.lp (fun a => by kernel_rfl) spec_l00Src_among.run (Tells.ok (tree := spec_l00Src_among.tr))
/-! ### spec_l01Few -/
noncomputable def spec_l01Few.b : Code := bodyOf Try.f89
noncomputable def spec_l01Few.C : Ctx := { ty := tys, fn := [(69, .e spec_l00Src_pick.c)], lp := [], n := 8, k := 2, eq := eqs }
theorem spec_l01Few.hC : CtxOK Try.prog spec_l01Few.C := CtxOK.of mo tys_ok (FnsOK.cons spec_l00Src_pick.cok FnsOK.nil) eqs_ok
theorem spec_l01Few.lp : LpOK Try.prog spec_l01Few.C spec_l01Few.b := (LpOK.nil (by kernel_rfl))
noncomputable def spec_l01Few.t (x0 : Nat) (x1 : Int) (x2 : Int) (x3 : List Int) : T (Nat × Nat × Int × Int) :=
  let y12 := (spec_l00Src_pick (65 : Int) x0 x1 x2 x3)
  .br (spec_l00Src_pick.ok (65 : Int) x0 x1 x2 x3)
  (.leaf ((fdiv .f32 (fofint .f32 (IntKind.wrap .i64 (y12.1 - (32 : Int)))) 1082130432), y12.2.1, y12.2.2.1, y12.2.2.2))
  .bad
noncomputable def spec_l01Few (x0 : Nat) (x1 : Int) (x2 : Int) (x3 : List Int) : Nat × Nat × Int × Int := (spec_l01Few.t x0 x1 x2 x3).val
noncomputable def spec_l01Few.ok (x0 : Nat) (x1 : Int) (x2 : Int) (x3 : List Int) : Bool := (spec_l01Few.t x0 x1 x2 x3).ok
def spec_l01Few.cd : Cd (Nat × Int × Int × List Int) (List V × Hp) := Cd.iso (Cd.pair (Cd.cons (Cd.pt 0 (Cd.natc 0)) Cd.nil) (Cd.cons (Cd.rw 98 3 (Cd.vs (Cd.cons (Cd.sl 1 (Cd.natc 0)) (Cd.cons (Cd.it .i64) (Cd.cons (Cd.it .u64) Cd.nil))))) (Cd.cons (Cd.ro 0 0 (Cd.is .u8)) Cd.nil))) (fun a => (a.2.1.1.2, a.2.1.2.1, a.2.1.2.2.1, a.2.2.1)) (fun a => (((), ()), ((((), a.1), (a.2.1, (a.2.2.1, ()))), (a.2.2.2, ())))) (fun _ => rfl)
noncomputable def spec_l01Few.tr (a : Nat × Int × Int × List Int) : T (Nat × Nat × Int × Int) := spec_l01Few.t a.1 a.2.1 a.2.2.1 a.2.2.2
def spec_l01Few.enc : (Nat × Int × Int × List Int) → (Nat × Nat × Int × Int) → V × Hp := fun a r => (.fl .f32 r.1, [some ⟨true, 98, 3, .vs [.sl 1 0 r.2.1, .it .i64 r.2.2.1, .it .u64 r.2.2.2]⟩, some ⟨false, 0, 0, .is .u8 a.2.2.2⟩])
noncomputable def spec_l01Few.c : List V → Hp → T (V × Hp) := cdE spec_l01Few.cd (fun a => .br (spec_l01Few.ok a.1 a.2.1 a.2.2.1 a.2.2.2) (.leaf (spec_l01Few.enc a (spec_l01Few a.1 a.2.1 a.2.2.1 a.2.2.2))) .bad)
theorem spec_l01Few.run (a : Nat × Int × Int × List Int) : runF spec_l01Few.C Try.f89.results.toList spec_l01Few.b (spec_l01Few.cd.enc a).1 (spec_l01Few.cd.enc a).2 = (spec_l01Few.tr a).map (spec_l01Few.enc a) := by kernel_rfl
theorem spec_l01Few.cok : OKe Try.prog 89 spec_l01Few.c := con_e' spec_l01Few.cd spec_l01Few.hC Try.func89 (by kernel_rfl) (by kernel_rfl) (by kernel_rfl) spec_l01Few.lp (fun a => by kernel_rfl) spec_l01Few.run (Tells.ok (tree := spec_l01Few.tr))
/-! ### spec_l01Any -/
noncomputable def spec_l01Any.b : Code := bodyOf Try.f68
noncomputable def spec_l01Any.C : Ctx := { ty := tys, fn := [(69, .e spec_l00Src_pick.c), (87, .q math_NaN.c), (88, .q math_Inf.c), (70, .q f32fromC), (71, .e spec_l00Src_among.c), (89, .e spec_l01Few.c)], lp := [], n := 54, k := 2, eq := eqs }
theorem spec_l01Any.hC : CtxOK Try.prog spec_l01Any.C := CtxOK.of mo tys_ok (FnsOK.cons spec_l00Src_pick.cok (FnsOK.cons math_NaN.cok (FnsOK.cons math_Inf.cok (FnsOK.cons (f32from_ok Try.func70 (by kernel_rfl) (by kernel_rfl) (by kernel_rfl) (by kernel_rfl)) (FnsOK.cons spec_l00Src_among.cok (FnsOK.cons spec_l01Few.cok FnsOK.nil)))))) eqs_ok
theorem spec_l01Any.lp : LpOK Try.prog spec_l01Any.C spec_l01Any.b := (LpOK.nil (by kernel_rfl))
noncomputable def spec_l01Any.t (x0 : Nat) (x1 : Int) (x2 : Int) (x3 : List Int) : T (Nat × Nat × Int × Int) :=
  let y4 := (spec_l00Src_pick (14 : Int) x0 x1 x2 x3)
  .br (spec_l00Src_pick.ok (14 : Int) x0 x1 x2 x3)
  (.br (y4.1 == (0 : Int))
   (.br (fcvOpen .f64 .f32 math_NaN)
    .bad
    (.leaf ((fcv .f64 .f32 math_NaN), y4.2.1, y4.2.2.1, y4.2.2.2)))
   (.br (y4.1 == (1 : Int))
    (let y5 := (math_Inf (1 : Int))
     .br (fcvOpen .f64 .f32 y5)
     .bad
     (.leaf ((fcv .f64 .f32 y5), y4.2.1, y4.2.2.1, y4.2.2.2)))
    (.br (y4.1 == (2 : Int))
     (let y6 := (math_Inf (-1 : Int))
      .br (fcvOpen .f64 .f32 y6)
      .bad
      (.leaf ((fcv .f64 .f32 y6), y4.2.1, y4.2.2.1, y4.2.2.2)))
     (.br (y4.1 == (3 : Int))
      (.leaf ((nz .f32 (Int.toNat (2147483648 : Int))), y4.2.1, y4.2.2.1, y4.2.2.2))
      (.br (y4.1 == (4 : Int))
       (let y7 := (spec_l00Src_pick (16777220 : Int) y4.2.1 y4.2.2.1 y4.2.2.2 x3)
        .br (spec_l00Src_pick.ok (16777220 : Int) y4.2.1 y4.2.2.1 y4.2.2.2 x3)
        (.leaf ((nz .f32 (Int.toNat (IntKind.wrap .u32 y7.1))), y7.2.1, y7.2.2.1, y7.2.2.2))
        .bad)
       (.br (y4.1 == (5 : Int))
        (let y8 := (spec_l00Src_pick (1073741824 : Int) y4.2.1 y4.2.2.1 y4.2.2.2 x3)
         .br (spec_l00Src_pick.ok (1073741824 : Int) y4.2.1 y4.2.2.1 y4.2.2.2 x3)
         (let y9 := (spec_l00Src_pick (4 : Int) y8.2.1 y8.2.2.1 y8.2.2.2 x3)
          .br (spec_l00Src_pick.ok (4 : Int) y8.2.1 y8.2.2.1 y8.2.2.2 x3)
          (.leaf ((nz .f32 (Int.toNat (IntKind.wrap .u32 ((IntKind.wrap .u32 ((IntKind.wrap .u32 y8.1) * (4 : Int))) + (IntKind.wrap .u32 y9.1))))), y9.2.1, y9.2.2.1, y9.2.2.2))
          .bad)
         .bad)
        (.br (y4.1 == (6 : Int))
         (let y10 := (spec_l00Src_pick (2000000 : Int) y4.2.1 y4.2.2.1 y4.2.2.2 x3)
          .br (spec_l00Src_pick.ok (2000000 : Int) y4.2.1 y4.2.2.1 y4.2.2.2 x3)
          (.leaf ((fdiv .f32 (fofint .f32 (IntKind.wrap .i64 (y10.1 - (1000000 : Int)))) 1148846080), y10.2.1, y10.2.2.1, y10.2.2.2))
          .bad)
         (.br (y4.1 == (7 : Int))
          (let y11 := (spec_l00Src_among 3 y4.2.1 y4.2.2.1 y4.2.2.2 [(1048576 : Int), (1048577 : Int), (-1048576 : Int)] x3)
           .br (spec_l00Src_among.ok 3 y4.2.1 y4.2.2.1 y4.2.2.2 [(1048576 : Int), (1048577 : Int), (-1048576 : Int)] x3)
           (.leaf ((fofint .f32 y11.1), y11.2.1, y11.2.2.1, y11.2.2.2))
           .bad)
          (let y13 := (spec_l01Few y4.2.1 y4.2.2.1 y4.2.2.2 x3)
           .br (spec_l01Few.ok y4.2.1 y4.2.2.1 y4.2.2.2 x3)
           (.leaf (y13.1, y13.2.1, y13.2.2.1, y13.2.2.2))
           .bad)))))))))
  .bad
noncomputable def spec_l01Any (x0 : Nat) (x1 : Int) (x2 : Int) (x3 : List Int) : Nat × Nat × Int × Int := (spec_l01Any.t x0 x1 x2 x3).val
noncomputable def spec_l01Any.ok (x0 : Nat) (x1 : Int) (x2 : Int) (x3 : List Int) : Bool := (spec_l01Any.t x0 x1 x2 x3).ok
def spec_l01Any.cd : Cd (Nat × Int × Int × List Int) (List V × Hp) := Cd.iso (Cd.pair (Cd.cons (Cd.pt 0 (Cd.natc 0)) Cd.nil) (Cd.cons (Cd.rw 98 3 (Cd.vs (Cd.cons (Cd.sl 1 (Cd.natc 0)) (Cd.cons (Cd.it .i64) (Cd.cons (Cd.it .u64) Cd.nil))))) (Cd.cons (Cd.ro 0 0 (Cd.is .u8)) Cd.nil))) (fun a => (a.2.1.1.2, a.2.1.2.1, a.2.1.2.2.1, a.2.2.1)) (fun a => (((), ()), ((((), a.1), (a.2.1, (a.2.2.1, ()))), (a.2.2.2, ())))) (fun _ => rfl)
noncomputable def spec_l01Any.tr (a : Nat × Int × Int × List Int) : T (Nat × Nat × Int × Int) := spec_l01Any.t a.1 a.2.1 a.2.2.1 a.2.2.2
def spec_l01Any.enc : (Nat × Int × Int × List Int) → (Nat × Nat × Int × Int) → V × Hp := fun a r => (.fl .f32 r.1, [some ⟨true, 98, 3, .vs [.sl 1 0 r.2.1, .it .i64 r.2.2.1, .it .u64 r.2.2.2]⟩, some ⟨false, 0, 0, .is .u8 a.2.2.2⟩])
noncomputable def spec_l01Any.c : List V → Hp → T (V × Hp) := cdE spec_l01Any.cd (fun a => .br (spec_l01Any.ok a.1 a.2.1 a.2.2.1 a.2.2.2) (.leaf (spec_l01Any.enc a (spec_l01Any a.1 a.2.1 a.2.2.1 a.2.2.2))) .bad)
theorem spec_l01Any.run (a : Nat × Int × Int × List Int) : runF spec_l01Any.C Try.f68.results.toList spec_l01Any.b (spec_l01Any.cd.enc a).1 (spec_l01Any.cd.enc a).2 = (spec_l01Any.tr a).map (spec_l01Any.enc a) := by kernel_rfl
theorem spec_l01Any.cok : OKe Try.prog 68 spec_l01Any.c := con_e' spec_l01Any.cd spec_l01Any.hC Try.func68 (by kernel_rfl) (by kernel_rfl) (by kernel_rfl) spec_l01Any.lp (fun a => by kernel_rfl) spec_l01Any.run (Tells.ok (tree := spec_l01Any.tr))
/-! ### spec_l05Aim -/
noncomputable def spec_l05Aim.b : Code := bodyOf Try.f36
noncomputable def spec_l05Aim.C : Ctx := { ty := tys, fn := [(67, .e spec_l00Src_one.c), (68, .e spec_l01Any.c), (69, .e spec_l00Src_pick.c), (70, .q f32fromC), (71, .e spec_l00Src_among.c)], lp := [], n := 38, k := 2, eq := eqs }
theorem spec_l05Aim.hC : CtxOK Try.prog spec_l05Aim.C := CtxOK.of mo tys_ok (FnsOK.cons spec_l00Src_one.cok (FnsOK.cons spec_l01Any.cok (FnsOK.cons spec_l00Src_pick.cok (FnsOK.cons (f32from_ok Try.func70 (by kernel_rfl) (by kernel_rfl) (by kernel_rfl) (by kernel_rfl)) (FnsOK.cons spec_l00Src_among.cok FnsOK.nil))))) eqs_ok
theorem spec_l05Aim.lp : LpOK Try.prog spec_l05Aim.C spec_l05Aim.b := (LpOK.nil (by kernel_rfl))
noncomputable def spec_l05Aim.t (x0 : Nat) (x1 : Int) (x2 : Int) (x3 : List Int) : T (Nat × Nat × Int × Int) :=
  let y3 := (spec_l00Src_one (12 : Int) x0 x1 x2 x3)
  .br (spec_l00Src_one.ok (12 : Int) x0 x1 x2 x3)
  (.br y3.1
   (let y14 := (spec_l01Any y3.2.1 y3.2.2.1 y3.2.2.2 x3)
    .br (spec_l01Any.ok y3.2.1 y3.2.2.1 y3.2.2.2 x3)
    (.leaf (y14.1, y14.2.1, y14.2.2.1, y14.2.2.2))
    .bad)
   (let y15 := (spec_l00Src_pick (4 : Int) y3.2.1 y3.2.2.1 y3.2.2.2 x3)
    .br (spec_l00Src_pick.ok (4 : Int) y3.2.1 y3.2.2.1 y3.2.2.2 x3)
    (.br (y15.1 == (0 : Int))
     (let y16 := (spec_l00Src_pick (40 : Int) y15.2.1 y15.2.2.1 y15.2.2.2 x3)
      .br (spec_l00Src_pick.ok (40 : Int) y15.2.1 y15.2.2.1 y15.2.2.2 x3)
      (let y17 := (spec_l00Src_pick (40 : Int) y16.2.1 y16.2.2.1 y16.2.2.2 x3)
       .br (spec_l00Src_pick.ok (40 : Int) y16.2.1 y16.2.2.1 y16.2.2.2 x3)
       (.leaf ((fdiv .f32 (fofint .f32 (IntKind.wrap .i64 ((1 : Int) + y16.1))) (fofint .f32 (IntKind.wrap .i64 ((1 : Int) + y17.1)))), y17.2.1, y17.2.2.1, y17.2.2.2))
       .bad)
      .bad)
     (.br (y15.1 == (1 : Int))
      (let y18 := (spec_l00Src_pick (167772161 : Int) y15.2.1 y15.2.2.1 y15.2.2.2 x3)
       .br (spec_l00Src_pick.ok (167772161 : Int) y15.2.1 y15.2.2.1 y15.2.2.2 x3)
       (.leaf ((nz .f32 (Int.toNat (IntKind.wrap .u32 (IntKind.wrap .i64 ((981467136 : Int) + y18.1))))), y18.2.1, y18.2.2.1, y18.2.2.2))
       .bad)
      (.br (y15.1 == (2 : Int))
       (let y19 := (spec_l00Src_among 3 y15.2.1 y15.2.2.1 y15.2.2.2 [(1 : Int), (1024 : Int), (1025 : Int)] x3)
        .br (spec_l00Src_among.ok 3 y15.2.1 y15.2.2.1 y15.2.2.2 [(1 : Int), (1024 : Int), (1025 : Int)] x3)
        (.leaf ((fofint .f32 y19.1), y19.2.1, y19.2.2.1, y19.2.2.2))
        .bad)
       (let y20 := (spec_l00Src_pick (300 : Int) y15.2.1 y15.2.2.1 y15.2.2.2 x3)
        .br (spec_l00Src_pick.ok (300 : Int) y15.2.1 y15.2.2.1 y15.2.2.2 x3)
        (.leaf ((fdiv .f32 (fofint .f32 (IntKind.wrap .i64 ((1 : Int) + y20.1))) 1120403456), y20.2.1, y20.2.2.1, y20.2.2.2))
        .bad))))
    .bad))
  .bad
noncomputable def spec_l05Aim (x0 : Nat) (x1 : Int) (x2 : Int) (x3 : List Int) : Nat × Nat × Int × Int := (spec_l05Aim.t x0 x1 x2 x3).val
noncomputable def spec_l05Aim.ok (x0 : Nat) (x1 : Int) (x2 : Int) (x3 : List Int) : Bool := (spec_l05Aim.t x0 x1 x2 x3).ok
def spec_l05Aim.cd : Cd (Nat × Int × Int × List Int) (List V × Hp) := Cd.iso (Cd.pair (Cd.cons (Cd.pt 0 (Cd.natc 0)) Cd.nil) (Cd.cons (Cd.rw 98 3 (Cd.vs (Cd.cons (Cd.sl 1 (Cd.natc 0)) (Cd.cons (Cd.it .i64) (Cd.cons (Cd.it .u64) Cd.nil))))) (Cd.cons (Cd.ro 0 0 (Cd.is .u8)) Cd.nil))) (fun a => (a.2.1.1.2, a.2.1.2.1, a.2.1.2.2.1, a.2.2.1)) (fun a => (((), ()), ((((), a.1), (a.2.1, (a.2.2.1, ()))), (a.2.2.2, ())))) (fun _ => rfl)
noncomputable def spec_l05Aim.tr (a : Nat × Int × Int × List Int) : T (Nat × Nat × Int × Int) := spec_l05Aim.t a.1 a.2.1 a.2.2.1 a.2.2.2
def spec_l05Aim.enc : (Nat × Int × Int × List Int) → (Nat × Nat × Int × Int) → V × Hp := fun a r => (.fl .f32 r.1, [some ⟨true, 98, 3, .vs [.sl 1 0 r.2.1, .it .i64 r.2.2.1, .it .u64 r.2.2.2]⟩, some ⟨false, 0, 0, .is .u8 a.2.2.2⟩])
noncomputable def spec_l05Aim.c : List V → Hp → T (V × Hp) := cdE spec_l05Aim.cd (fun a => .br (spec_l05Aim.ok a.1 a.2.1 a.2.2.1 a.2.2.2) (.leaf (spec_l05Aim.enc a (spec_l05Aim a.1 a.2.1 a.2.2.1 a.2.2.2))) .bad)
theorem spec_l05Aim.run (a : Nat × Int × Int × List Int) : runF spec_l05Aim.C Try.f36.results.toList spec_l05Aim.b (spec_l05Aim.cd.enc a).1 (spec_l05Aim.cd.enc a).2 = (spec_l05Aim.tr a).map (spec_l05Aim.enc a) := by kernel_rfl
theorem spec_l05Aim.cok : OKe Try.prog 36 spec_l05Aim.c := con_e' spec_l05Aim.cd spec_l05Aim.hC Try.func36 (by kernel_rfl) (by kernel_rfl) (by kernel_rfl) spec_l05Aim.lp (fun a => by kernel_rfl) spec_l05Aim.run (Tells.ok (tree := spec_l05Aim.tr))
/-! ### spec_l05Target -/
noncomputable def spec_l05Target.b : Code := bodyOf Try.f38
noncomputable def spec_l05Target.C : Ctx := { ty := tys, fn := [], lp := [], n := 9, k := 0, eq := eqs }
theorem spec_l05Target.hC : CtxOK Try.prog spec_l05Target.C := CtxOK.of mo tys_ok FnsOK.nil eqs_ok
theorem spec_l05Target.lp : LpOK Try.prog spec_l05Target.C spec_l05Target.b := (LpOK.nil (by kernel_rfl))
noncomputable def spec_l05Target.t (x0 : Nat) : T Bool :=
  .br (fge .f32 x0 981467136)
  (.leaf (fle .f32 x0 1149239296))
  (.leaf false)
noncomputable def spec_l05Target (x0 : Nat) : Bool := (spec_l05Target.t x0).val
def spec_l05Target.cd : Cd Nat (List V × Hp) := Cd.iso (Cd.pair (Cd.cons (Cd.fl .f32) Cd.nil) Cd.nil) (fun a => a.1.1) (fun a => ((a, ()), ())) (fun _ => rfl)
noncomputable def spec_l05Target.tr (a : Nat) : T Bool := spec_l05Target.t a
def spec_l05Target.enc : Nat → Bool → V := fun a r => .bo r
noncomputable def spec_l05Target.c : List V → Hp → T V := cdQ spec_l05Target.cd (fun a => .leaf (spec_l05Target.enc a (spec_l05Target a)))
theorem spec_l05Target.run (a : Nat) : runF spec_l05Target.C Try.f38.results.toList spec_l05Target.b (spec_l05Target.cd.enc a).1 (spec_l05Target.cd.enc a).2 = (spec_l05Target.tr a).map fun r => (spec_l05Target.enc a r, (spec_l05Target.cd.enc a).2) := by kernel_rfl
theorem spec_l05Target.cok : OKq Try.prog 38 spec_l05Target.c := con_q' spec_l05Target.cd spec_l05Target.hC Try.func38 (by kernel_rfl) (by kernel_rfl) (by kernel_rfl) spec_l05Target.lp (fun a => by kernel_rfl) spec_l05Target.run (Tells.val (tree := spec_l05Target.tr) fun a => by kernel_rfl)
/-! ### spec_A2Target -/
noncomputable def spec_A2Target.b : Code := bodyOf Try.f13
noncomputable def spec_A2Target.C : Ctx := { ty := tys, fn := [(37, .e spec_l00From.c), (36, .e spec_l05Aim.c), (38, .q spec_l05Target.c)], lp := [], n := 10, k := 1, eq := eqs }
theorem spec_A2Target.hC : CtxOK Try.prog spec_A2Target.C := CtxOK.of mo tys_ok (FnsOK.cons spec_l00From.cok (FnsOK.cons spec_l05Aim.cok (FnsOK.cons spec_l05Target.cok FnsOK.nil))) eqs_ok
theorem spec_A2Target.lp : LpOK Try.prog spec_A2Target.C spec_A2Target.b := (LpOK.nil (by kernel_rfl))
noncomputable def spec_A2Target.t (x0 : Nat) (x1 : List Int) : T Nat :=
  let y2 := (spec_l00From x0 x1)
  let y21 := (spec_l05Aim y2.1 y2.2.1 y2.2.2 x1)
  .br (spec_l05Aim.ok y2.1 y2.2.1 y2.2.2 x1)
  (let y22 := (spec_l05Target y21.1)
   .br y22
   (.leaf y21.1)
   (.leaf 1061158912))
  .bad
noncomputable def spec_A2Target (x0 : Nat) (x1 : List Int) : Nat := (spec_A2Target.t x0 x1).val
noncomputable def spec_A2Target.ok (x0 : Nat) (x1 : List Int) : Bool := (spec_A2Target.t x0 x1).ok
def spec_A2Target.cd : Cd (Nat × List Int) (List V × Hp) := Cd.iso (Cd.pair (Cd.cons (Cd.sl 0 (Cd.natc 0)) Cd.nil) (Cd.cons (Cd.ro 0 0 (Cd.is .u8)) Cd.nil)) (fun a => (a.1.1.2, a.2.1)) (fun a => ((((), a.1), ()), (a.2, ()))) (fun _ => rfl)
noncomputable def spec_A2Target.tr (a : Nat × List Int) : T Nat := spec_A2Target.t a.1 a.2
def spec_A2Target.enc : (Nat × List Int) → Nat → V := fun a r => .fl .f32 r
noncomputable def spec_A2Target.c : List V → Hp → T V := cdQ spec_A2Target.cd (fun a => .br (spec_A2Target.ok a.1 a.2) (.leaf (spec_A2Target.enc a (spec_A2Target a.1 a.2))) .bad)
theorem spec_A2Target.run (a : Nat × List Int) : runF spec_A2Target.C Try.f13.results.toList spec_A2Target.b (spec_A2Target.cd.enc a).1 (spec_A2Target.cd.enc a).2 = (spec_A2Target.tr a).map fun r => (spec_A2Target.enc a r, (spec_A2Target.cd.enc a).2) := by kernel_rfl
theorem spec_A2Target.cok : OKq Try.prog 13 spec_A2Target.c := con_q' spec_A2Target.cd spec_A2Target.hC Try.func13 (by kernel_rfl) (by kernel_rfl) (by kernel_rfl) spec_A2Target.lp (fun a => by kernel_rfl) spec_A2Target.run (Tells.ok (tree := spec_A2Target.tr))
/-! ### laws_a2At -/
noncomputable def laws_a2At.b : Code := bodyOf Try.f14
noncomputable def laws_a2At.C : Ctx := { ty := tys, fn := [], lp := [], n := 22, k := 1, eq := eqs }
theorem laws_a2At.hC : CtxOK Try.prog laws_a2At.C := CtxOK.of mo tys_ok FnsOK.nil eqs_ok
theorem laws_a2At.lp : LpOK Try.prog laws_a2At.C laws_a2At.b := (LpOK.nil (by kernel_rfl))
noncomputable def laws_a2At.t (x0 : Nat) (x1 : Int) (x2 : Int) (x3 : List Int) : T Int :=
  .br (decide (x1 ≥ ((x0 : Nat) : Int)))
  (.leaf (0 : Int))
  (.br (decide (x2 < (1 : Int)))
   (.leaf (0 : Int))
   (.br (bounds x1 x0)
    (.br (Nat.ble ((0 + (Int.toNat x1 * 1)) + 1) (List.length x3))
     (.br (x2 == 0)
      .bad
      (.leaf (Int.tmod (IntKind.wrap .i64 (List.getD x3 (0 + (Int.toNat x1 * 1)) 0)) x2)))
     .bad)
    .bad))
noncomputable def laws_a2At (x0 : Nat) (x1 : Int) (x2 : Int) (x3 : List Int) : Int := (laws_a2At.t x0 x1 x2 x3).val
noncomputable def laws_a2At.ok (x0 : Nat) (x1 : Int) (x2 : Int) (x3 : List Int) : Bool := (laws_a2At.t x0 x1 x2 x3).ok
def laws_a2At.cd : Cd (Nat × Int × Int × List Int) (List V × Hp) := Cd.iso (Cd.pair (Cd.cons (Cd.sl 0 (Cd.natc 0)) (Cd.cons (Cd.it .i64) (Cd.cons (Cd.it .i64) Cd.nil))) (Cd.cons (Cd.ro 0 0 (Cd.is .u8)) Cd.nil)) (fun a => (a.1.1.2, a.1.2.1, a.1.2.2.1, a.2.1)) (fun a => ((((), a.1), (a.2.1, (a.2.2.1, ()))), (a.2.2.2, ()))) (fun _ => rfl)
noncomputable def laws_a2At.tr (a : Nat × Int × Int × List Int) : T Int := laws_a2At.t a.1 a.2.1 a.2.2.1 a.2.2.2
def laws_a2At.enc : (Nat × Int × Int × List Int) → Int → V := fun a r => .it .i64 r
noncomputable def laws_a2At.c : List V → Hp → T V := cdQ laws_a2At.cd (fun a => .br (laws_a2At.ok a.1 a.2.1 a.2.2.1 a.2.2.2) (.leaf (laws_a2At.enc a (laws_a2At a.1 a.2.1 a.2.2.1 a.2.2.2))) .bad)
theorem laws_a2At.run (a : Nat × Int × Int × List Int) : runF laws_a2At.C Try.f14.results.toList laws_a2At.b (laws_a2At.cd.enc a).1 (laws_a2At.cd.enc a).2 = (laws_a2At.tr a).map fun r => (laws_a2At.enc a r, (laws_a2At.cd.enc a).2) := by kernel_rfl
theorem laws_a2At.cok : OKq Try.prog 14 laws_a2At.c := con_q' laws_a2At.cd laws_a2At.hC Try.func14 (by kernel_rfl) (by kernel_rfl) (by kernel_rfl) laws_a2At.lp (fun a => by kernel_rfl) laws_a2At.run (Tells.ok (tree := laws_a2At.tr))
/-! ### impl_between -/
noncomputable def impl_between.b : Code := bodyOf Try.f59
noncomputable def impl_between.C : Ctx := { ty := tys, fn := [], lp := [], n := 15, k := 0, eq := eqs }
theorem impl_between.hC : CtxOK Try.prog impl_between.C := CtxOK.of mo tys_ok FnsOK.nil eqs_ok
theorem impl_between.lp : LpOK Try.prog impl_between.C impl_between.b := (LpOK.nil (by kernel_rfl))
noncomputable def impl_between.t (x0 : Nat) (x1 : Nat) (x2 : Nat) : T Bool :=
  .br (fle .f32 x1 x0)
  (.leaf (fle .f32 x0 x2))
  (.leaf false)
noncomputable def impl_between (x0 : Nat) (x1 : Nat) (x2 : Nat) : Bool := (impl_between.t x0 x1 x2).val
def impl_between.cd : Cd (Nat × Nat × Nat) (List V × Hp) := Cd.iso (Cd.pair (Cd.cons (Cd.fl .f32) (Cd.cons (Cd.fl .f32) (Cd.cons (Cd.fl .f32) Cd.nil))) Cd.nil) (fun a => (a.1.1, a.1.2.1, a.1.2.2.1)) (fun a => ((a.1, (a.2.1, (a.2.2, ()))), ())) (fun _ => rfl)
noncomputable def impl_between.tr (a : Nat × Nat × Nat) : T Bool := impl_between.t a.1 a.2.1 a.2.2
def impl_between.enc : (Nat × Nat × Nat) → Bool → V := fun a r => .bo r
noncomputable def impl_between.c : List V → Hp → T V := cdQ impl_between.cd (fun a => .leaf (impl_between.enc a (impl_between a.1 a.2.1 a.2.2)))
theorem impl_between.run (a : Nat × Nat × Nat) : runF impl_between.C Try.f59.results.toList impl_between.b (impl_between.cd.enc a).1 (impl_between.cd.enc a).2 = (impl_between.tr a).map fun r => (impl_between.enc a r, (impl_between.cd.enc a).2) := by kernel_rfl
theorem impl_between.cok : OKq Try.prog 59 impl_between.c := con_q' impl_between.cd impl_between.hC Try.func59 (by kernel_rfl) (by kernel_rfl) (by kernel_rfl) impl_between.lp (fun a => by kernel_rfl) impl_between.run (Tells.val (tree := impl_between.tr) fun a => by kernel_rfl)
/-! ### impl_isTarget -/
noncomputable def impl_isTarget.b : Code := bodyOf Try.f31
noncomputable def impl_isTarget.C : Ctx := { ty := tys, fn := [(59, .q impl_between.c)], lp := [], n := 5, k := 0, eq := eqs }
theorem impl_isTarget.hC : CtxOK Try.prog impl_isTarget.C := CtxOK.of mo tys_ok (FnsOK.cons impl_between.cok FnsOK.nil) eqs_ok
theorem impl_isTarget.lp : LpOK Try.prog impl_isTarget.C impl_isTarget.b := (LpOK.nil (by kernel_rfl))
noncomputable def impl_isTarget.t (x0 : Nat) : T Bool :=
  .leaf (impl_between x0 981467136 1149239296)
noncomputable def impl_isTarget (x0 : Nat) : Bool := (impl_isTarget.t x0).val
def impl_isTarget.cd : Cd Nat (List V × Hp) := Cd.iso (Cd.pair (Cd.cons (Cd.fl .f32) Cd.nil) Cd.nil) (fun a => a.1.1) (fun a => ((a, ()), ())) (fun _ => rfl)
noncomputable def impl_isTarget.tr (a : Nat) : T Bool := impl_isTarget.t a
def impl_isTarget.enc : Nat → Bool → V := fun a r => .bo r
noncomputable def impl_isTarget.c : List V → Hp → T V := cdQ impl_isTarget.cd (fun a => .leaf (impl_isTarget.enc a (impl_isTarget a)))
theorem impl_isTarget.run (a : Nat) : runF impl_isTarget.C Try.f31.results.toList impl_isTarget.b (impl_isTarget.cd.enc a).1 (impl_isTarget.cd.enc a).2 = (impl_isTarget.tr a).map fun r => (impl_isTarget.enc a r, (impl_isTarget.cd.enc a).2) := by kernel_rfl
theorem impl_isTarget.cok : OKq Try.prog 31 impl_isTarget.c := con_q' impl_isTarget.cd impl_isTarget.hC Try.func31 (by kernel_rfl) (by kernel_rfl) (by kernel_rfl) impl_isTarget.lp (fun a => by kernel_rfl) impl_isTarget.run (Tells.val (tree := impl_isTarget.tr) fun a => by kernel_rfl)
/-! ### impl_exact -/
noncomputable def impl_exact.b : Code := bodyOf Try.f39
noncomputable def impl_exact.l2.s (x0 : Nat) (x1 : Int) (x2 : Int) (x3 : Int) : T ((Nat × Int) ⊕ (Nat × Int)) :=
  .br (ftoiOk .f64 .i64 x0)
  (.br (fne .f64 x0 (fofint .f64 (ftoi .f64 .i64 x0)))
   (.leaf (.inl ((fmul .f64 x0 4611686018427387904), (IntKind.wrap .i64 (x1 * (2 : Int))))))
   (.leaf (.inr (x0, x1))))
  .bad
noncomputable def impl_exact.l2.st (p : Int × Int) (x : Nat × Int) : T ((Nat × Int) ⊕ (Nat × Int)) := impl_exact.l2.s x.1 x.2 p.1 p.2
noncomputable def impl_exact.l2.r (p : Int × Int) (x : Nat × Int) : Option (Nat × Int) := iterT (impl_exact.l2.st p) manyRounds x
def impl_exact.l2.cd : Cd ((Int × Int) × (Nat × Int)) (List V × Hp) := Cd.iso (Cd.pair (Cd.cons (Cd.pt 0 (Cd.natc 0)) (Cd.cons (Cd.fl .f64) (Cd.cons (Cd.it .i64) Cd.nil))) (Cd.cons (Cd.rw 36 2 (Cd.vs (Cd.cons (Cd.it .i64) (Cd.cons (Cd.it .i64) Cd.nil)))) Cd.nil)) (fun a => ((a.2.1.1, a.2.1.2.1), (a.1.2.1, a.1.2.2.1))) (fun a => (((), (a.2.1, (a.2.2, ()))), ((a.1.1, (a.1.2, ())), ()))) (fun _ => rfl)
def impl_exact.l2.out (p : Int × Int) : (Nat × Int) → X × List V × Hp := (fun r => (.ex 0, [.pt 0 0, .fl .f64 r.1, .it .i64 r.2], [some ⟨true, 36, 2, .vs [.it .i64 p.1, .it .i64 p.2]⟩]))
def impl_exact.l2.ex (p : Int × Int) : (Nat × Int) → T (X × List V × Hp) := leafT (fun r => (.ex 0, [.pt 0 0, .fl .f64 r.1, .it .i64 r.2], [some ⟨true, 36, 2, .vs [.it .i64 p.1, .it .i64 p.2]⟩]))
noncomputable def impl_exact.l2.c : List V → Hp → T (X × List V × Hp) := cdL impl_exact.l2.cd fun x => optT (impl_exact.l2.r x.1 x.2) (impl_exact.l2.ex x.1)
noncomputable def impl_exact.C : Ctx := { ty := tys, fn := [], lp := [(2, ⟨[2, 3, 4], [2, 3, 4], impl_exact.l2.c⟩)], n := 20, k := 0, eq := eqs }
theorem impl_exact.hC : CtxOK Try.prog impl_exact.C := CtxOK.of mo tys_ok FnsOK.nil eqs_ok
noncomputable def impl_exact.b2 : Code := (nthC (loopsOf impl_exact.b) 0)
theorem impl_exact.lp2 : LpOK Try.prog impl_exact.C impl_exact.b2 := (LpOK.nil (by kernel_rfl))
theorem impl_exact.l2.round (p : Int × Int) (s : Nat × Int) : roundL impl_exact.C [2, 3, 4] [2, 3, 4] impl_exact.b2 (impl_exact.l2.cd.enc (p, s)).1 (impl_exact.l2.cd.enc (p, s)).2 = (impl_exact.l2.st p s).map (encSum (fun s => impl_exact.l2.cd.enc (p, s)) (impl_exact.l2.out p)) := by kernel_rfl
theorem impl_exact.l2.lok : LoopOK Try.prog impl_exact.C ⟨[2, 3, 4], [2, 3, 4], impl_exact.l2.c⟩ impl_exact.b2 := loop_cd impl_exact.l2.cd impl_exact.hC impl_exact.lp2 impl_exact.l2.round fun p => Gets.leaf
theorem impl_exact.lp : LpOK Try.prog impl_exact.C impl_exact.b := lp_of (by kernel_rfl) (LpsOK.cons (k := 2) (by kernel_rfl) (by kernel_rfl) impl_exact.l2.lok LpsOK.nil)
noncomputable def impl_exact.t (x0 : Nat) : T (Int × Int) :=
  .br (fcvOpen .f32 .f64 x0)
  .bad
  (.br (Option.isSome (impl_exact.l2.r ((0 : Int), (0 : Int)) ((fcv .f32 .f64 x0), (1 : Int))))
   (.br (ftoiOk .f64 .i64 (Option.getD (impl_exact.l2.r ((0 : Int), (0 : Int)) ((fcv .f32 .f64 x0), (1 : Int))) default).1)
    (.leaf ((ftoi .f64 .i64 (Option.getD (impl_exact.l2.r ((0 : Int), (0 : Int)) ((fcv .f32 .f64 x0), (1 : Int))) default).1), (Option.getD (impl_exact.l2.r ((0 : Int), (0 : Int)) ((fcv .f32 .f64 x0), (1 : Int))) default).2))
    .bad)
   .bad)
noncomputable def impl_exact (x0 : Nat) : Int × Int := (impl_exact.t x0).val
noncomputable def impl_exact.ok (x0 : Nat) : Bool := (impl_exact.t x0).ok
def impl_exact.cd : Cd Nat (List V × Hp) := Cd.iso (Cd.pair (Cd.cons (Cd.fl .f32) Cd.nil) Cd.nil) (fun a => a.1.1) (fun a => ((a, ()), ())) (fun _ => rfl)
noncomputable def impl_exact.tr (a : Nat) : T (Int × Int) := impl_exact.t a
def impl_exact.enc : Nat → (Int × Int) → V := fun a r => .agg [.it .i64 r.1, .it .i64 r.2]
noncomputable def impl_exact.c : List V → Hp → T V := cdQ impl_exact.cd (fun a => .br (impl_exact.ok a) (.leaf (impl_exact.enc a (impl_exact a))) .bad)
theorem impl_exact.run (a : Nat) : runF impl_exact.C Try.f39.results.toList impl_exact.b (impl_exact.cd.enc a).1 (impl_exact.cd.enc a).2 = (impl_exact.tr a).map fun r => (impl_exact.enc a r, (impl_exact.cd.enc a).2) := by kernel_rfl
theorem impl_exact.cok : OKq Try.prog 39 impl_exact.c := con_q' impl_exact.cd impl_exact.hC Try.func39 (by kernel_rfl) (by kernel_rfl) (by kernel_rfl) impl_exact.lp (fun a => by kernel_rfl) impl_exact.run (Tells.ok (tree := impl_exact.tr))
/-! ### impl_ExactOf -/
noncomputable def impl_ExactOf.b : Code := bodyOf Try.f15
noncomputable def impl_ExactOf.C : Ctx := { ty := tys, fn := [(31, .q impl_isTarget.c), (39, .q impl_exact.c)], lp := [], n := 10, k := 0, eq := eqs }
theorem impl_ExactOf.hC : CtxOK Try.prog impl_ExactOf.C := CtxOK.of mo tys_ok (FnsOK.cons impl_isTarget.cok (FnsOK.cons impl_exact.cok FnsOK.nil)) eqs_ok
theorem impl_ExactOf.lp : LpOK Try.prog impl_ExactOf.C impl_ExactOf.b := (LpOK.nil (by kernel_rfl))
noncomputable def impl_ExactOf.t (x0 : Nat) : T (Int × Int × Int) :=
  .br (!(impl_isTarget x0))
  (.leaf ((0 : Int), (0 : Int), (2 : Int)))
  (.br (impl_exact.ok x0)
   (.leaf ((impl_exact x0).1, (impl_exact x0).2, (0 : Int)))
   .bad)
noncomputable def impl_ExactOf (x0 : Nat) : Int × Int × Int := (impl_ExactOf.t x0).val
noncomputable def impl_ExactOf.ok (x0 : Nat) : Bool := (impl_ExactOf.t x0).ok
def impl_ExactOf.cd : Cd Nat (List V × Hp) := Cd.iso (Cd.pair (Cd.cons (Cd.fl .f32) Cd.nil) Cd.nil) (fun a => a.1.1) (fun a => ((a, ()), ())) (fun _ => rfl)
noncomputable def impl_ExactOf.tr (a : Nat) : T (Int × Int × Int) := impl_ExactOf.t a
def impl_ExactOf.enc : Nat → (Int × Int × Int) → V := fun a r => .tup [.agg [.it .i64 r.1, .it .i64 r.2.1], .it .i64 r.2.2]
noncomputable def impl_ExactOf.c : List V → Hp → T V := cdQ impl_ExactOf.cd (fun a => .br (impl_ExactOf.ok a) (.leaf (impl_ExactOf.enc a (impl_ExactOf a))) .bad)
theorem impl_ExactOf.run (a : Nat) : runF impl_ExactOf.C Try.f15.results.toList impl_ExactOf.b (impl_ExactOf.cd.enc a).1 (impl_ExactOf.cd.enc a).2 = (impl_ExactOf.tr a).map fun r => (impl_ExactOf.enc a r, (impl_ExactOf.cd.enc a).2) := by kernel_rfl
theorem impl_ExactOf.cok : OKq Try.prog 15 impl_ExactOf.c := con_q' impl_ExactOf.cd impl_ExactOf.hC Try.func15 (by kernel_rfl) (by kernel_rfl) (by kernel_rfl) impl_ExactOf.lp (fun a => by kernel_rfl) impl_ExactOf.run (Tells.ok (tree := impl_ExactOf.tr))
/-! ### spec_l01Common -/
noncomputable def spec_l01Common.b : Code := bodyOf Try.f73
noncomputable def spec_l01Common.l1.s (x0 : Int) (x1 : Int) : T ((Int × Int) ⊕ Int) :=
  .br (decide (x1 > (0 : Int)))
  (.br (x1 == 0)
   .bad
   (.leaf (.inl (x1, (Int.tmod x0 x1)))))
  (.leaf (.inr x0))
noncomputable def spec_l01Common.l1.st (p : Unit) (x : Int × Int) : T ((Int × Int) ⊕ Int) := spec_l01Common.l1.s x.1 x.2
noncomputable def spec_l01Common.l1.r (p : Unit) (x : Int × Int) : Option Int := iterT (spec_l01Common.l1.st p) manyRounds x
def spec_l01Common.l1.cd : Cd (Unit × (Int × Int)) (List V × Hp) := Cd.iso (Cd.pair (Cd.cons (Cd.it .i64) (Cd.cons (Cd.it .i64) Cd.nil)) Cd.nil) (fun a => ((), (a.1.1, a.1.2.1))) (fun a => ((a.2.1, (a.2.2, ())), ())) (fun _ => rfl)
def spec_l01Common.l1.out (p : Unit) : Int → X × List V × Hp := (fun r => (.ex 0, [.it .i64 r], []))
def spec_l01Common.l1.ex (p : Unit) : Int → T (X × List V × Hp) := leafT (fun r => (.ex 0, [.it .i64 r], []))
noncomputable def spec_l01Common.l1.c : List V → Hp → T (X × List V × Hp) := cdL spec_l01Common.l1.cd fun x => optT (spec_l01Common.l1.r x.1 x.2) (spec_l01Common.l1.ex x.1)
noncomputable def spec_l01Common.C : Ctx := { ty := tys, fn := [], lp := [(1, ⟨[0, 1], [0], spec_l01Common.l1.c⟩)], n := 14, k := 0, eq := eqs }
theorem spec_l01Common.hC : CtxOK Try.prog spec_l01Common.C := CtxOK.of mo tys_ok FnsOK.nil eqs_ok
noncomputable def spec_l01Common.b1 : Code := (nthC (loopsOf spec_l01Common.b) 0)
theorem spec_l01Common.lp1 : LpOK Try.prog spec_l01Common.C spec_l01Common.b1 := (LpOK.nil (by kernel_rfl))
theorem spec_l01Common.l1.round (p : Unit) (s : Int × Int) : roundL spec_l01Common.C [0, 1] [0] spec_l01Common.b1 (spec_l01Common.l1.cd.enc (p, s)).1 (spec_l01Common.l1.cd.enc (p, s)).2 = (spec_l01Common.l1.st p s).map (encSum (fun s => spec_l01Common.l1.cd.enc (p, s)) (spec_l01Common.l1.out p)) := by kernel_rfl
theorem spec_l01Common.l1.lok : LoopOK Try.prog spec_l01Common.C ⟨[0, 1], [0], spec_l01Common.l1.c⟩ spec_l01Common.b1 := loop_cd spec_l01Common.l1.cd spec_l01Common.hC spec_l01Common.lp1 spec_l01Common.l1.round fun p => Gets.leaf
theorem spec_l01Common.lp : LpOK Try.prog spec_l01Common.C spec_l01Common.b := lp_of (by kernel_rfl) (LpsOK.cons (k := 1) (by kernel_rfl) (by kernel_rfl) spec_l01Common.l1.lok LpsOK.nil)
noncomputable def spec_l01Common.t (x0 : Int) (x1 : Int) : T Int :=
  .br (Option.isSome (spec_l01Common.l1.r () (x0, x1)))
  (.leaf (Option.getD (spec_l01Common.l1.r () (x0, x1)) default))
  .bad
noncomputable def spec_l01Common (x0 : Int) (x1 : Int) : Int := (spec_l01Common.t x0 x1).val
noncomputable def spec_l01Common.ok (x0 : Int) (x1 : Int) : Bool := (spec_l01Common.t x0 x1).ok
def spec_l01Common.cd : Cd (Int × Int) (List V × Hp) := Cd.iso (Cd.pair (Cd.cons (Cd.it .i64) (Cd.cons (Cd.it .i64) Cd.nil)) Cd.nil) (fun a => (a.1.1, a.1.2.1)) (fun a => ((a.1, (a.2, ())), ())) (fun _ => rfl)
noncomputable def spec_l01Common.tr (a : Int × Int) : T Int := spec_l01Common.t a.1 a.2
def spec_l01Common.enc : (Int × Int) → Int → V := fun a r => .it .i64 r
noncomputable def spec_l01Common.c : List V → Hp → T V := cdQ spec_l01Common.cd (fun a => .br (spec_l01Common.ok a.1 a.2) (.leaf (spec_l01Common.enc a (spec_l01Common a.1 a.2))) .bad)
theorem spec_l01Common.run (a : Int × Int) : runF spec_l01Common.C Try.f73.results.toList spec_l01Common.b (spec_l01Common.cd.enc a).1 (spec_l01Common.cd.enc a).2 = (spec_l01Common.tr a).map fun r => (spec_l01Common.enc a r, (spec_l01Common.cd.enc a).2) := by kernel_rfl
theorem spec_l01Common.cok : OKq Try.prog 73 spec_l01Common.c := con_q' spec_l01Common.cd spec_l01Common.hC Try.func73 (by kernel_rfl) (by kernel_rfl) (by kernel_rfl) spec_l01Common.lp (fun a => by kernel_rfl) spec_l01Common.run (Tells.ok (tree := spec_l01Common.tr))
/-! ### spec_l05Exact -/
noncomputable def spec_l05Exact.b : Code := bodyOf Try.f40
noncomputable def spec_l05Exact.l5.s (x0 : Int) (x1 : Int) (x2 : Int) (x3 : Int) (x4 : Int) : T ((Int × Int) ⊕ Int) :=
  .br (decide (x2 < (150 : Int)))
  (.leaf (.inl ((IntKind.wrap .i64 (x1 * (2 : Int))), (IntKind.wrap .i64 (x2 + (1 : Int))))))
  (.leaf (.inr x1))
noncomputable def spec_l05Exact.l5.st (p : Int × Int × Int) (x : Int × Int) : T ((Int × Int) ⊕ Int) := spec_l05Exact.l5.s p.1 x.1 x.2 p.2.1 p.2.2
noncomputable def spec_l05Exact.l5.r (p : Int × Int × Int) (x : Int × Int) : Option Int := iterT (spec_l05Exact.l5.st p) manyRounds x
def spec_l05Exact.l5.cd : Cd ((Int × Int × Int) × (Int × Int)) (List V × Hp) := Cd.iso (Cd.pair (Cd.cons (Cd.pt 0 (Cd.natc 0)) (Cd.cons (Cd.it .i64) (Cd.cons (Cd.it .i64) (Cd.cons (Cd.it .i64) Cd.nil)))) (Cd.cons (Cd.rw 36 2 (Cd.vs (Cd.cons (Cd.it .i64) (Cd.cons (Cd.it .i64) Cd.nil)))) Cd.nil)) (fun a => ((a.1.2.1, a.2.1.1, a.2.1.2.1), (a.1.2.2.1, a.1.2.2.2.1))) (fun a => (((), (a.1.1, (a.2.1, (a.2.2, ())))), ((a.1.2.1, (a.1.2.2, ())), ()))) (fun _ => rfl)
def spec_l05Exact.l5.out (p : Int × Int × Int) : Int → X × List V × Hp := (fun r => (.ex 0, [.pt 0 0, .it .i64 p.1, .it .i64 r], [some ⟨true, 36, 2, .vs [.it .i64 p.2.1, .it .i64 p.2.2]⟩]))
def spec_l05Exact.l5.ex (p : Int × Int × Int) : Int → T (X × List V × Hp) := leafT (fun r => (.ex 0, [.pt 0 0, .it .i64 p.1, .it .i64 r], [some ⟨true, 36, 2, .vs [.it .i64 p.2.1, .it .i64 p.2.2]⟩]))
noncomputable def spec_l05Exact.l5.c : List V → Hp → T (X × List V × Hp) := cdL spec_l05Exact.l5.cd fun x => optT (spec_l05Exact.l5.r x.1 x.2) (spec_l05Exact.l5.ex x.1)
noncomputable def spec_l05Exact.C : Ctx := { ty := tys, fn := [(72, .q f32bitsC), (73, .q spec_l01Common.c)], lp := [(5, ⟨[2, 4, 5, 6], [2, 4, 5], spec_l05Exact.l5.c⟩)], n := 32, k := 0, eq := eqs }
theorem spec_l05Exact.hC : CtxOK Try.prog spec_l05Exact.C := CtxOK.of mo tys_ok (FnsOK.cons (f32bits_ok Try.func72 (by kernel_rfl) (by kernel_rfl) (by kernel_rfl) (by kernel_rfl)) (FnsOK.cons spec_l01Common.cok FnsOK.nil)) eqs_ok
noncomputable def spec_l05Exact.b5 : Code := (nthC (loopsOf spec_l05Exact.b) 0)
theorem spec_l05Exact.lp5 : LpOK Try.prog spec_l05Exact.C spec_l05Exact.b5 := (LpOK.nil (by kernel_rfl))
theorem spec_l05Exact.l5.round (p : Int × Int × Int) (s : Int × Int) : roundL spec_l05Exact.C [2, 4, 5, 6] [2, 4, 5] spec_l05Exact.b5 (spec_l05Exact.l5.cd.enc (p, s)).1 (spec_l05Exact.l5.cd.enc (p, s)).2 = (spec_l05Exact.l5.st p s).map (encSum (fun s => spec_l05Exact.l5.cd.enc (p, s)) (spec_l05Exact.l5.out p)) := by kernel_rfl
theorem spec_l05Exact.l5.lok : LoopOK Try.prog spec_l05Exact.C ⟨[2, 4, 5, 6], [2, 4, 5], spec_l05Exact.l5.c⟩ spec_l05Exact.b5 := loop_cd spec_l05Exact.l5.cd spec_l05Exact.hC spec_l05Exact.lp5 spec_l05Exact.l5.round fun p => Gets.leaf
theorem spec_l05Exact.lp : LpOK Try.prog spec_l05Exact.C spec_l05Exact.b := lp_of (by kernel_rfl) (LpsOK.cons (k := 5) (by kernel_rfl) (by kernel_rfl) spec_l05Exact.l5.lok LpsOK.nil)
noncomputable def spec_l05Exact.t (x0 : Nat) : T (Int × Int) :=
  .br (isNaN .f32 x0)
  .bad
  (.br (Option.isSome (spec_l05Exact.l5.r ((IntKind.wrap .i64 ((Int.tmod (IntKind.wrap .i64 ((x0 : Nat) : Int)) (8388608 : Int)) + (8388608 : Int))), (0 : Int), (0 : Int)) ((1 : Int), (IntKind.wrap .i64 (Int.tdiv (IntKind.wrap .i64 ((x0 : Nat) : Int)) (8388608 : Int))))))
   (.br (spec_l01Common.ok (IntKind.wrap .i64 ((Int.tmod (IntKind.wrap .i64 ((x0 : Nat) : Int)) (8388608 : Int)) + (8388608 : Int))) (Option.getD (spec_l05Exact.l5.r ((IntKind.wrap .i64 ((Int.tmod (IntKind.wrap .i64 ((x0 : Nat) : Int)) (8388608 : Int)) + (8388608 : Int))), (0 : Int), (0 : Int)) ((1 : Int), (IntKind.wrap .i64 (Int.tdiv (IntKind.wrap .i64 ((x0 : Nat) : Int)) (8388608 : Int))))) default))
    (.br ((spec_l01Common (IntKind.wrap .i64 ((Int.tmod (IntKind.wrap .i64 ((x0 : Nat) : Int)) (8388608 : Int)) + (8388608 : Int))) (Option.getD (spec_l05Exact.l5.r ((IntKind.wrap .i64 ((Int.tmod (IntKind.wrap .i64 ((x0 : Nat) : Int)) (8388608 : Int)) + (8388608 : Int))), (0 : Int), (0 : Int)) ((1 : Int), (IntKind.wrap .i64 (Int.tdiv (IntKind.wrap .i64 ((x0 : Nat) : Int)) (8388608 : Int))))) default)) == 0)
     .bad
     (.br ((spec_l01Common (IntKind.wrap .i64 ((Int.tmod (IntKind.wrap .i64 ((x0 : Nat) : Int)) (8388608 : Int)) + (8388608 : Int))) (Option.getD (spec_l05Exact.l5.r ((IntKind.wrap .i64 ((Int.tmod (IntKind.wrap .i64 ((x0 : Nat) : Int)) (8388608 : Int)) + (8388608 : Int))), (0 : Int), (0 : Int)) ((1 : Int), (IntKind.wrap .i64 (Int.tdiv (IntKind.wrap .i64 ((x0 : Nat) : Int)) (8388608 : Int))))) default)) == 0)
      .bad
      (.leaf ((IntKind.wrap .i64 (Int.tdiv (IntKind.wrap .i64 ((Int.tmod (IntKind.wrap .i64 ((x0 : Nat) : Int)) (8388608 : Int)) + (8388608 : Int))) (spec_l01Common (IntKind.wrap .i64 ((Int.tmod (IntKind.wrap .i64 ((x0 : Nat) : Int)) (8388608 : Int)) + (8388608 : Int))) (Option.getD (spec_l05Exact.l5.r ((IntKind.wrap .i64 ((Int.tmod (IntKind.wrap .i64 ((x0 : Nat) : Int)) (8388608 : Int)) + (8388608 : Int))), (0 : Int), (0 : Int)) ((1 : Int), (IntKind.wrap .i64 (Int.tdiv (IntKind.wrap .i64 ((x0 : Nat) : Int)) (8388608 : Int))))) default)))), (IntKind.wrap .i64 (Int.tdiv (Option.getD (spec_l05Exact.l5.r ((IntKind.wrap .i64 ((Int.tmod (IntKind.wrap .i64 ((x0 : Nat) : Int)) (8388608 : Int)) + (8388608 : Int))), (0 : Int), (0 : Int)) ((1 : Int), (IntKind.wrap .i64 (Int.tdiv (IntKind.wrap .i64 ((x0 : Nat) : Int)) (8388608 : Int))))) default) (spec_l01Common (IntKind.wrap .i64 ((Int.tmod (IntKind.wrap .i64 ((x0 : Nat) : Int)) (8388608 : Int)) + (8388608 : Int))) (Option.getD (spec_l05Exact.l5.r ((IntKind.wrap .i64 ((Int.tmod (IntKind.wrap .i64 ((x0 : Nat) : Int)) (8388608 : Int)) + (8388608 : Int))), (0 : Int), (0 : Int)) ((1 : Int), (IntKind.wrap .i64 (Int.tdiv (IntKind.wrap .i64 ((x0 : Nat) : Int)) (8388608 : Int))))) default))))))))
    .bad)
   .bad)
noncomputable def spec_l05Exact (x0 : Nat) : Int × Int := (spec_l05Exact.t x0).val
noncomputable def spec_l05Exact.ok (x0 : Nat) : Bool := (spec_l05Exact.t x0).ok
def spec_l05Exact.cd : Cd Nat (List V × Hp) := Cd.iso (Cd.pair (Cd.cons (Cd.fl .f32) Cd.nil) Cd.nil) (fun a => a.1.1) (fun a => ((a, ()), ())) (fun _ => rfl)
noncomputable def spec_l05Exact.tr (a : Nat) : T (Int × Int) := spec_l05Exact.t a
def spec_l05Exact.enc : Nat → (Int × Int) → V := fun a r => .agg [.it .i64 r.1, .it .i64 r.2]
noncomputable def spec_l05Exact.c : List V → Hp → T V := cdQ spec_l05Exact.cd (fun a => .br (spec_l05Exact.ok a) (.leaf (spec_l05Exact.enc a (spec_l05Exact a))) .bad)
theorem spec_l05Exact.run (a : Nat) : runF spec_l05Exact.C Try.f40.results.toList spec_l05Exact.b (spec_l05Exact.cd.enc a).1 (spec_l05Exact.cd.enc a).2 = (spec_l05Exact.tr a).map fun r => (spec_l05Exact.enc a r, (spec_l05Exact.cd.enc a).2) := by kernel_rfl
theorem spec_l05Exact.cok : OKq Try.prog 40 spec_l05Exact.c := con_q' spec_l05Exact.cd spec_l05Exact.hC Try.func40 (by kernel_rfl) (by kernel_rfl) (by kernel_rfl) spec_l05Exact.lp (fun a => by kernel_rfl) spec_l05Exact.run (Tells.ok (tree := spec_l05Exact.tr))
/-! ### spec_ExactOf -/
noncomputable def spec_ExactOf.b : Code := bodyOf Try.f16
noncomputable def spec_ExactOf.C : Ctx := { ty := tys, fn := [(38, .q spec_l05Target.c), (40, .q spec_l05Exact.c)], lp := [], n := 10, k := 0, eq := eqs }
theorem spec_ExactOf.hC : CtxOK Try.prog spec_ExactOf.C := CtxOK.of mo tys_ok (FnsOK.cons spec_l05Target.cok (FnsOK.cons spec_l05Exact.cok FnsOK.nil)) eqs_ok
theorem spec_ExactOf.lp : LpOK Try.prog spec_ExactOf.C spec_ExactOf.b := (LpOK.nil (by kernel_rfl))
noncomputable def spec_ExactOf.t (x0 : Nat) : T (Int × Int × Int) :=
  .br (!(spec_l05Target x0))
  (.leaf ((0 : Int), (0 : Int), (2 : Int)))
  (.br (spec_l05Exact.ok x0)
   (.leaf ((spec_l05Exact x0).1, (spec_l05Exact x0).2, (0 : Int)))
   .bad)
noncomputable def spec_ExactOf (x0 : Nat) : Int × Int × Int := (spec_ExactOf.t x0).val
noncomputable def spec_ExactOf.ok (x0 : Nat) : Bool := (spec_ExactOf.t x0).ok
def spec_ExactOf.cd : Cd Nat (List V × Hp) := Cd.iso (Cd.pair (Cd.cons (Cd.fl .f32) Cd.nil) Cd.nil) (fun a => a.1.1) (fun a => ((a, ()), ())) (fun _ => rfl)
noncomputable def spec_ExactOf.tr (a : Nat) : T (Int × Int × Int) := spec_ExactOf.t a
def spec_ExactOf.enc : Nat → (Int × Int × Int) → V := fun a r => .tup [.agg [.it .i64 r.1, .it .i64 r.2.1], .it .i64 r.2.2]
noncomputable def spec_ExactOf.c : List V → Hp → T V := cdQ spec_ExactOf.cd (fun a => .br (spec_ExactOf.ok a) (.leaf (spec_ExactOf.enc a (spec_ExactOf a))) .bad)
theorem spec_ExactOf.run (a : Nat) : runF spec_ExactOf.C Try.f16.results.toList spec_ExactOf.b (spec_ExactOf.cd.enc a).1 (spec_ExactOf.cd.enc a).2 = (spec_ExactOf.tr a).map fun r => (spec_ExactOf.enc a r, (spec_ExactOf.cd.enc a).2) := by kernel_rfl
theorem spec_ExactOf.cok : OKq Try.prog 16 spec_ExactOf.c := con_q' spec_ExactOf.cd spec_ExactOf.hC Try.func16 (by kernel_rfl) (by kernel_rfl) (by kernel_rfl) spec_ExactOf.lp (fun a => by kernel_rfl) spec_ExactOf.run (Tells.ok (tree := spec_ExactOf.tr))
/-! ### impl_within -/
noncomputable def impl_within.b : Code := bodyOf Try.f41
noncomputable def impl_within.C : Ctx := { ty := tys, fn := [], lp := [], n := 15, k := 0, eq := eqs }
theorem impl_within.hC : CtxOK Try.prog impl_within.C := CtxOK.of mo tys_ok FnsOK.nil eqs_ok
theorem impl_within.lp : LpOK Try.prog impl_within.C impl_within.b := (LpOK.nil (by kernel_rfl))
noncomputable def impl_within.t (x0 : Int) (x1 : Int) (x2 : Int) : T Bool :=
  .br (decide (x1 ≤ x0))
  (.leaf (decide (x0 ≤ x2)))
  (.leaf false)
noncomputable def impl_within (x0 : Int) (x1 : Int) (x2 : Int) : Bool := (impl_within.t x0 x1 x2).val
def impl_within.cd : Cd (Int × Int × Int) (List V × Hp) := Cd.iso (Cd.pair (Cd.cons (Cd.it .i64) (Cd.cons (Cd.it .i64) (Cd.cons (Cd.it .i64) Cd.nil))) Cd.nil) (fun a => (a.1.1, a.1.2.1, a.1.2.2.1)) (fun a => ((a.1, (a.2.1, (a.2.2, ()))), ())) (fun _ => rfl)
noncomputable def impl_within.tr (a : Int × Int × Int) : T Bool := impl_within.t a.1 a.2.1 a.2.2
def impl_within.enc : (Int × Int × Int) → Bool → V := fun a r => .bo r
noncomputable def impl_within.c : List V → Hp → T V := cdQ impl_within.cd (fun a => .leaf (impl_within.enc a (impl_within a.1 a.2.1 a.2.2)))
theorem impl_within.run (a : Int × Int × Int) : runF impl_within.C Try.f41.results.toList impl_within.b (impl_within.cd.enc a).1 (impl_within.cd.enc a).2 = (impl_within.tr a).map fun r => (impl_within.enc a r, (impl_within.cd.enc a).2) := by kernel_rfl
theorem impl_within.cok : OKq Try.prog 41 impl_within.c := con_q' impl_within.cd impl_within.hC Try.func41 (by kernel_rfl) (by kernel_rfl) (by kernel_rfl) impl_within.lp (fun a => by kernel_rfl) impl_within.run (Tells.val (tree := impl_within.tr) fun a => by kernel_rfl)
/-! ### impl_ConvergentsOf -/
noncomputable def impl_ConvergentsOf.b : Code := bodyOf Try.f17
noncomputable def impl_ConvergentsOf.l5.s (x0 : Int) (x1 : Nat) (x2 : List Int) (x3 : Int) (x4 : Int) (x5 : Int) (x6 : Int) (x7 : Int) (x8 : Int) : T ((Nat × List Int × Int × Int × Int × Int × Int × Int) ⊕ (Nat × List Int)) :=
  .br (x4 != (0 : Int))
  (.br (decide (((x1 : Nat) : Int) < (40 : Int)))
   (.br (x4 == 0)
    .bad
    (.br (decide ((IntKind.wrap .i64 ((IntKind.wrap .i64 ((IntKind.wrap .i64 (Int.tdiv x3 x4)) * x8)) + x6)) > x0))
     (.leaf (.inr (x1, x2)))
     (.br ((Nat.ble 2 (List.length [(IntKind.wrap .i64 ((IntKind.wrap .i64 ((IntKind.wrap .i64 (Int.tdiv x3 x4)) * x7)) + x5)), (IntKind.wrap .i64 ((IntKind.wrap .i64 ((IntKind.wrap .i64 (Int.tdiv x3 x4)) * x8)) + x6))])) && (Nat.beq (List.length x2) (x1 * 2) && Nat.ble ((x1 + 1) * 16) 35184372088832 && Nat.ble (x1 + 1) 35184372088832))
      (.leaf (.inl ((x1 + 1), (x2 ++ (List.take 2 (List.drop 0 [(IntKind.wrap .i64 ((IntKind.wrap .i64 ((IntKind.wrap .i64 (Int.tdiv x3 x4)) * x7)) + x5)), (IntKind.wrap .i64 ((IntKind.wrap .i64 ((IntKind.wrap .i64 (Int.tdiv x3 x4)) * x8)) + x6))]))), x4, (IntKind.wrap .i64 (x3 - (IntKind.wrap .i64 ((IntKind.wrap .i64 (Int.tdiv x3 x4)) * x4)))), x7, x8, (IntKind.wrap .i64 ((IntKind.wrap .i64 ((IntKind.wrap .i64 (Int.tdiv x3 x4)) * x7)) + x5)), (IntKind.wrap .i64 ((IntKind.wrap .i64 ((IntKind.wrap .i64 (Int.tdiv x3 x4)) * x8)) + x6)))))
      .bad)))
   (.leaf (.inr (x1, x2))))
  (.leaf (.inr (x1, x2)))
noncomputable def impl_ConvergentsOf.l5.st (p : Int) (x : Nat × List Int × Int × Int × Int × Int × Int × Int) : T ((Nat × List Int × Int × Int × Int × Int × Int × Int) ⊕ (Nat × List Int)) := impl_ConvergentsOf.l5.s p x.1 x.2.1 x.2.2.1 x.2.2.2.1 x.2.2.2.2.1 x.2.2.2.2.2.1 x.2.2.2.2.2.2.1 x.2.2.2.2.2.2.2
noncomputable def impl_ConvergentsOf.l5.r (p : Int) (x : Nat × List Int × Int × Int × Int × Int × Int × Int) : Option (Nat × List Int) := iterT (impl_ConvergentsOf.l5.st p) manyRounds x
def impl_ConvergentsOf.l5.cd : Cd (Int × (Nat × List Int × Int × Int × Int × Int × Int × Int)) (List V × Hp) := Cd.iso (Cd.pair (Cd.cons (Cd.it .i64) (Cd.cons (Cd.own 0) (Cd.cons (Cd.pt 1 (Cd.natc 0)) (Cd.cons (Cd.pt 2 (Cd.natc 0)) (Cd.cons (Cd.pt 3 (Cd.natc 0)) Cd.nil))))) (Cd.cons (Cd.rw 36 2 (Cd.is .i64)) (Cd.cons (Cd.rw 36 2 (Cd.vs (Cd.cons (Cd.it .i64) (Cd.cons (Cd.it .i64) Cd.nil)))) (Cd.cons (Cd.rw 36 2 (Cd.vs (Cd.cons (Cd.it .i64) (Cd.cons (Cd.it .i64) Cd.nil)))) (Cd.cons (Cd.rw 36 2 (Cd.vs (Cd.cons (Cd.it .i64) (Cd.cons (Cd.it .i64) Cd.nil)))) Cd.nil))))) (fun a => (a.1.1, (a.1.2.1, a.2.1, a.2.2.1.1, a.2.2.1.2.1, a.2.2.2.1.1, a.2.2.2.1.2.1, a.2.2.2.2.1.1, a.2.2.2.2.1.2.1))) (fun a => ((a.1, (a.2.1, ((), ((), ((), ()))))), (a.2.2.1, ((a.2.2.2.1, (a.2.2.2.2.1, ())), ((a.2.2.2.2.2.1, (a.2.2.2.2.2.2.1, ())), ((a.2.2.2.2.2.2.2.1, (a.2.2.2.2.2.2.2.2, ())), ())))))) (fun _ => rfl)
def impl_ConvergentsOf.l5.out (p : Int) : (Nat × List Int) → X × List V × Hp := (fun r => (.ex 0, [.own 0 r.1], [some ⟨true, 36, 2, .is .i64 r.2⟩]))
def impl_ConvergentsOf.l5.ex (p : Int) : (Nat × List Int) → T (X × List V × Hp) := leafT (fun r => (.ex 0, [.own 0 r.1], [some ⟨true, 36, 2, .is .i64 r.2⟩]))
noncomputable def impl_ConvergentsOf.l5.c : List V → Hp → T (X × List V × Hp) := cdL impl_ConvergentsOf.l5.cd fun x => optT (impl_ConvergentsOf.l5.r x.1 x.2) (impl_ConvergentsOf.l5.ex x.1)
noncomputable def impl_ConvergentsOf.C : Ctx := { ty := tys, fn := [(31, .q impl_isTarget.c), (41, .q impl_within.c), (39, .q impl_exact.c)], lp := [(5, ⟨[1, 6, 7, 8, 9], [6], impl_ConvergentsOf.l5.c⟩)], n := 74, k := 0, eq := eqs }
theorem impl_ConvergentsOf.hC : CtxOK Try.prog impl_ConvergentsOf.C := CtxOK.of mo tys_ok (FnsOK.cons impl_isTarget.cok (FnsOK.cons impl_within.cok (FnsOK.cons impl_exact.cok FnsOK.nil))) eqs_ok
noncomputable def impl_ConvergentsOf.b5 : Code := (nthC (loopsOf impl_ConvergentsOf.b) 0)
theorem impl_ConvergentsOf.lp5 : LpOK Try.prog impl_ConvergentsOf.C impl_ConvergentsOf.b5 := (LpOK.nil (by kernel_rfl))
theorem impl_ConvergentsOf.l5.round (p : Int) (s : Nat × List Int × Int × Int × Int × Int × Int × Int) : roundL impl_ConvergentsOf.C [1, 6, 7, 8, 9] [6] impl_ConvergentsOf.b5 (impl_ConvergentsOf.l5.cd.enc (p, s)).1 (impl_ConvergentsOf.l5.cd.enc (p, s)).2 = (impl_ConvergentsOf.l5.st p s).map (encSum (fun s => impl_ConvergentsOf.l5.cd.enc (p, s)) (impl_ConvergentsOf.l5.out p)) := by kernel_rfl
theorem impl_ConvergentsOf.l5.lok : LoopOK Try.prog impl_ConvergentsOf.C ⟨[1, 6, 7, 8, 9], [6], impl_ConvergentsOf.l5.c⟩ impl_ConvergentsOf.b5 := loop_cd impl_ConvergentsOf.l5.cd impl_ConvergentsOf.hC impl_ConvergentsOf.lp5 impl_ConvergentsOf.l5.round fun p => Gets.leaf
theorem impl_ConvergentsOf.lp : LpOK Try.prog impl_ConvergentsOf.C impl_ConvergentsOf.b := lp_of (by kernel_rfl) (LpsOK.cons (k := 5) (by kernel_rfl) (by kernel_rfl) impl_ConvergentsOf.l5.lok LpsOK.nil)
noncomputable def impl_ConvergentsOf.t (x0 : Nat) (x1 : Int) : T (Int ⊕ (Nat × Int × List Int)) :=
  .br (!(impl_isTarget x0))
  (.leaf (.inl (2 : Int)))
  (.br (!(impl_within x1 (1 : Int) (1000000 : Int)))
   (.leaf (.inl (2 : Int)))
   (.br (impl_exact.ok x0)
    (.br (Option.isSome (impl_ConvergentsOf.l5.r x1 (0, [], (impl_exact x0).1, (impl_exact x0).2, (0 : Int), (1 : Int), (1 : Int), (0 : Int))))
     (.leaf (.inr ((Option.getD (impl_ConvergentsOf.l5.r x1 (0, [], (impl_exact x0).1, (impl_exact x0).2, (0 : Int), (1 : Int), (1 : Int), (0 : Int))) default).1, (0 : Int), (Option.getD (impl_ConvergentsOf.l5.r x1 (0, [], (impl_exact x0).1, (impl_exact x0).2, (0 : Int), (1 : Int), (1 : Int), (0 : Int))) default).2)))
     .bad)
    .bad))
noncomputable def impl_ConvergentsOf (x0 : Nat) (x1 : Int) : Int ⊕ (Nat × Int × List Int) := (impl_ConvergentsOf.t x0 x1).val
noncomputable def impl_ConvergentsOf.ok (x0 : Nat) (x1 : Int) : Bool := (impl_ConvergentsOf.t x0 x1).ok
def impl_ConvergentsOf.cd : Cd (Nat × Int) (List V × Hp) := Cd.iso (Cd.pair (Cd.cons (Cd.fl .f32) (Cd.cons (Cd.it .i64) Cd.nil)) Cd.nil) (fun a => (a.1.1, a.1.2.1)) (fun a => ((a.1, (a.2, ())), ())) (fun _ => rfl)
noncomputable def impl_ConvergentsOf.tr (a : Nat × Int) : T (Int ⊕ (Nat × Int × List Int)) := impl_ConvergentsOf.t a.1 a.2
def impl_ConvergentsOf.enc : (Nat × Int) → (Int ⊕ (Nat × Int × List Int)) → V × Hp := fun a => sumO (fun r => (.tup [.sn, .it .i64 r], [])) (fun r => (.tup [.own 0 r.1, .it .i64 r.2.1], [some ⟨true, 36, 2, .is .i64 r.2.2⟩]))
noncomputable def impl_ConvergentsOf.ex : (Nat × Int) → (Int ⊕ (Nat × Int × List Int)) → T (V × Hp) := fun a => sumT (leafT (fun r => (.tup [.sn, .it .i64 r], []))) (leafT (fun r => (.tup [.own 0 r.1, .it .i64 r.2.1], [some ⟨true, 36, 2, .is .i64 r.2.2⟩])))
noncomputable def impl_ConvergentsOf.c : List V → Hp → T (V × Hp) := cdE impl_ConvergentsOf.cd (fun a => .br (impl_ConvergentsOf.ok a.1 a.2) (impl_ConvergentsOf.ex a (impl_ConvergentsOf a.1 a.2)) .bad)
theorem impl_ConvergentsOf.run (a : Nat × Int) : runF impl_ConvergentsOf.C Try.f17.results.toList impl_ConvergentsOf.b (impl_ConvergentsOf.cd.enc a).1 (impl_ConvergentsOf.cd.enc a).2 = (impl_ConvergentsOf.tr a).map (impl_ConvergentsOf.enc a) := by kernel_rfl
theorem impl_ConvergentsOf.cok : OKe Try.prog 17 impl_ConvergentsOf.c := con_e' impl_ConvergentsOf.cd impl_ConvergentsOf.hC Try.func17 (by kernel_rfl) (by kernel_rfl) (by kernel_rfl) impl_ConvergentsOf.lp (fun a => by kernel_rfl) impl_ConvergentsOf.run (Tells.okS (tree := impl_ConvergentsOf.tr) (ex := impl_ConvergentsOf.ex) fun a => (Gets.sum Gets.leaf Gets.leaf))
/-! ### spec_l00In -/
noncomputable def spec_l00In.b : Code := bodyOf Try.f74
noncomputable def spec_l00In.C : Ctx := { ty := tys, fn := [], lp := [], n := 15, k := 0, eq := eqs }
theorem spec_l00In.hC : CtxOK Try.prog spec_l00In.C := CtxOK.of mo tys_ok FnsOK.nil eqs_ok
theorem spec_l00In.lp : LpOK Try.prog spec_l00In.C spec_l00In.b := (LpOK.nil (by kernel_rfl))
noncomputable def spec_l00In.t (x0 : Int) (x1 : Int) (x2 : Int) : T Bool :=
  .br (decide (x0 ≥ x1))
  (.leaf (decide (x0 ≤ x2)))
  (.leaf false)
noncomputable def spec_l00In (x0 : Int) (x1 : Int) (x2 : Int) : Bool := (spec_l00In.t x0 x1 x2).val
def spec_l00In.cd : Cd (Int × Int × Int) (List V × Hp) := Cd.iso (Cd.pair (Cd.cons (Cd.it .i64) (Cd.cons (Cd.it .i64) (Cd.cons (Cd.it .i64) Cd.nil))) Cd.nil) (fun a => (a.1.1, a.1.2.1, a.1.2.2.1)) (fun a => ((a.1, (a.2.1, (a.2.2, ()))), ())) (fun _ => rfl)
noncomputable def spec_l00In.tr (a : Int × Int × Int) : T Bool := spec_l00In.t a.1 a.2.1 a.2.2
def spec_l00In.enc : (Int × Int × Int) → Bool → V := fun a r => .bo r
noncomputable def spec_l00In.c : List V → Hp → T V := cdQ spec_l00In.cd (fun a => .leaf (spec_l00In.enc a (spec_l00In a.1 a.2.1 a.2.2)))
theorem spec_l00In.run (a : Int × Int × Int) : runF spec_l00In.C Try.f74.results.toList spec_l00In.b (spec_l00In.cd.enc a).1 (spec_l00In.cd.enc a).2 = (spec_l00In.tr a).map fun r => (spec_l00In.enc a r, (spec_l00In.cd.enc a).2) := by kernel_rfl
theorem spec_l00In.cok : OKq Try.prog 74 spec_l00In.c := con_q' spec_l00In.cd spec_l00In.hC Try.func74 (by kernel_rfl) (by kernel_rfl) (by kernel_rfl) spec_l00In.lp (fun a => by kernel_rfl) spec_l00In.run (Tells.val (tree := spec_l00In.tr) fun a => by kernel_rfl)
/-! ### spec_l05Most -/
noncomputable def spec_l05Most.b : Code := bodyOf Try.f42
noncomputable def spec_l05Most.C : Ctx := { ty := tys, fn := [(38, .q spec_l05Target.c), (74, .q spec_l00In.c)], lp := [], n := 13, k := 0, eq := eqs }
theorem spec_l05Most.hC : CtxOK Try.prog spec_l05Most.C := CtxOK.of mo tys_ok (FnsOK.cons spec_l05Target.cok (FnsOK.cons spec_l00In.cok FnsOK.nil)) eqs_ok
theorem spec_l05Most.lp : LpOK Try.prog spec_l05Most.C spec_l05Most.b := (LpOK.nil (by kernel_rfl))
noncomputable def spec_l05Most.t (x0 : Nat) (x1 : Int) : T Int :=
  .br (!(spec_l05Target x0))
  (.leaf (2 : Int))
  (.br (!(spec_l00In x1 (1 : Int) (1000000 : Int)))
   (.leaf (2 : Int))
   (.leaf (0 : Int)))
noncomputable def spec_l05Most (x0 : Nat) (x1 : Int) : Int := (spec_l05Most.t x0 x1).val
def spec_l05Most.cd : Cd (Nat × Int) (List V × Hp) := Cd.iso (Cd.pair (Cd.cons (Cd.fl .f32) (Cd.cons (Cd.it .i64) Cd.nil)) Cd.nil) (fun a => (a.1.1, a.1.2.1)) (fun a => ((a.1, (a.2, ())), ())) (fun _ => rfl)
noncomputable def spec_l05Most.tr (a : Nat × Int) : T Int := spec_l05Most.t a.1 a.2
def spec_l05Most.enc : (Nat × Int) → Int → V := fun a r => .it .i64 r
noncomputable def spec_l05Most.c : List V → Hp → T V := cdQ spec_l05Most.cd (fun a => .leaf (spec_l05Most.enc a (spec_l05Most a.1 a.2)))
theorem spec_l05Most.run (a : Nat × Int) : runF spec_l05Most.C Try.f42.results.toList spec_l05Most.b (spec_l05Most.cd.enc a).1 (spec_l05Most.cd.enc a).2 = (spec_l05Most.tr a).map fun r => (spec_l05Most.enc a r, (spec_l05Most.cd.enc a).2) := by kernel_rfl
theorem spec_l05Most.cok : OKq Try.prog 42 spec_l05Most.c := con_q' spec_l05Most.cd spec_l05Most.hC Try.func42 (by kernel_rfl) (by kernel_rfl) (by kernel_rfl) spec_l05Most.lp (fun a => by kernel_rfl) spec_l05Most.run (Tells.val (tree := spec_l05Most.tr) fun a => by kernel_rfl)
/-! ### spec_l05Convergents -/
noncomputable def spec_l05Convergents.b : Code := bodyOf Try.f43
noncomputable def spec_l05Convergents.l7.s (x0 : Int) (x1 : Int) (x2 : Int) (x3 : Nat) (x4 : Int) (x5 : Int) (x6 : Int) (x7 : Int) (x8 : List Int) : T ((Int × Int × Nat × Int × Int × Int × Int × List Int) ⊕ (Nat × List Int)) :=
  .br (decide (x2 > (0 : Int)))
  (.br (decide (((x3 : Nat) : Int) < (40 : Int)))
   (.br (x2 == 0)
    .bad
    (.br (decide ((IntKind.wrap .i64 ((IntKind.wrap .i64 ((IntKind.wrap .i64 (Int.tdiv x1 x2)) * x7)) + x5)) > x0))
     (.leaf (.inr (x3, x8)))
     (.br ((Nat.ble 2 (List.length [(IntKind.wrap .i64 ((IntKind.wrap .i64 ((IntKind.wrap .i64 (Int.tdiv x1 x2)) * x6)) + x4)), (IntKind.wrap .i64 ((IntKind.wrap .i64 ((IntKind.wrap .i64 (Int.tdiv x1 x2)) * x7)) + x5))])) && (Nat.beq (List.length x8) (x3 * 2) && Nat.ble ((x3 + 1) * 16) 35184372088832 && Nat.ble (x3 + 1) 35184372088832))
      (.leaf (.inl (x2, (IntKind.wrap .i64 (x1 - (IntKind.wrap .i64 ((IntKind.wrap .i64 (Int.tdiv x1 x2)) * x2)))), (x3 + 1), x6, x7, (IntKind.wrap .i64 ((IntKind.wrap .i64 ((IntKind.wrap .i64 (Int.tdiv x1 x2)) * x6)) + x4)), (IntKind.wrap .i64 ((IntKind.wrap .i64 ((IntKind.wrap .i64 (Int.tdiv x1 x2)) * x7)) + x5)), (x8 ++ (List.take 2 (List.drop 0 [(IntKind.wrap .i64 ((IntKind.wrap .i64 ((IntKind.wrap .i64 (Int.tdiv x1 x2)) * x6)) + x4)), (IntKind.wrap .i64 ((IntKind.wrap .i64 ((IntKind.wrap .i64 (Int.tdiv x1 x2)) * x7)) + x5))]))))))
      .bad)))
   (.leaf (.inr (x3, x8))))
  (.leaf (.inr (x3, x8)))
noncomputable def spec_l05Convergents.l7.st (p : Int) (x : Int × Int × Nat × Int × Int × Int × Int × List Int) : T ((Int × Int × Nat × Int × Int × Int × Int × List Int) ⊕ (Nat × List Int)) := spec_l05Convergents.l7.s p x.1 x.2.1 x.2.2.1 x.2.2.2.1 x.2.2.2.2.1 x.2.2.2.2.2.1 x.2.2.2.2.2.2.1 x.2.2.2.2.2.2.2
noncomputable def spec_l05Convergents.l7.r (p : Int) (x : Int × Int × Nat × Int × Int × Int × Int × List Int) : Option (Nat × List Int) := iterT (spec_l05Convergents.l7.st p) manyRounds x
def spec_l05Convergents.l7.cd : Cd (Int × (Int × Int × Nat × Int × Int × Int × Int × List Int)) (List V × Hp) := Cd.iso (Cd.pair (Cd.cons (Cd.it .i64) (Cd.cons (Cd.it .i64) (Cd.cons (Cd.it .i64) (Cd.cons (Cd.pt 0 (Cd.natc 0)) (Cd.cons (Cd.pt 1 (Cd.natc 0)) (Cd.cons (Cd.own 2) Cd.nil)))))) (Cd.cons (Cd.rw 36 2 (Cd.vs (Cd.cons (Cd.it .i64) (Cd.cons (Cd.it .i64) Cd.nil)))) (Cd.cons (Cd.rw 36 2 (Cd.vs (Cd.cons (Cd.it .i64) (Cd.cons (Cd.it .i64) Cd.nil)))) (Cd.cons (Cd.rw 36 2 (Cd.is .i64)) Cd.nil)))) (fun a => (a.1.1, (a.1.2.1, a.1.2.2.1, a.1.2.2.2.2.2.1, a.2.1.1, a.2.1.2.1, a.2.2.1.1, a.2.2.1.2.1, a.2.2.2.1))) (fun a => ((a.1, (a.2.1, (a.2.2.1, ((), ((), (a.2.2.2.1, ())))))), ((a.2.2.2.2.1, (a.2.2.2.2.2.1, ())), ((a.2.2.2.2.2.2.1, (a.2.2.2.2.2.2.2.1, ())), (a.2.2.2.2.2.2.2.2, ()))))) (fun _ => rfl)
def spec_l05Convergents.l7.out (p : Int) : (Nat × List Int) → X × List V × Hp := (fun r => (.ex 0, [.own 0 r.1], [some ⟨true, 36, 2, .is .i64 r.2⟩]))
def spec_l05Convergents.l7.ex (p : Int) : (Nat × List Int) → T (X × List V × Hp) := leafT (fun r => (.ex 0, [.own 0 r.1], [some ⟨true, 36, 2, .is .i64 r.2⟩]))
noncomputable def spec_l05Convergents.l7.c : List V → Hp → T (X × List V × Hp) := cdL spec_l05Convergents.l7.cd fun x => optT (spec_l05Convergents.l7.r x.1 x.2) (spec_l05Convergents.l7.ex x.1)
noncomputable def spec_l05Convergents.C : Ctx := { ty := tys, fn := [(40, .q spec_l05Exact.c)], lp := [(7, ⟨[1, 6, 7, 8, 9, 10], [10], spec_l05Convergents.l7.c⟩)], n := 66, k := 0, eq := eqs }
theorem spec_l05Convergents.hC : CtxOK Try.prog spec_l05Convergents.C := CtxOK.of mo tys_ok (FnsOK.cons spec_l05Exact.cok FnsOK.nil) eqs_ok
noncomputable def spec_l05Convergents.b7 : Code := (nthC (loopsOf spec_l05Convergents.b) 0)
theorem spec_l05Convergents.lp7 : LpOK Try.prog spec_l05Convergents.C spec_l05Convergents.b7 := (LpOK.nil (by kernel_rfl))
theorem spec_l05Convergents.l7.round (p : Int) (s : Int × Int × Nat × Int × Int × Int × Int × List Int) : roundL spec_l05Convergents.C [1, 6, 7, 8, 9, 10] [10] spec_l05Convergents.b7 (spec_l05Convergents.l7.cd.enc (p, s)).1 (spec_l05Convergents.l7.cd.enc (p, s)).2 = (spec_l05Convergents.l7.st p s).map (encSum (fun s => spec_l05Convergents.l7.cd.enc (p, s)) (spec_l05Convergents.l7.out p)) := by kernel_rfl
theorem spec_l05Convergents.l7.lok : LoopOK Try.prog spec_l05Convergents.C ⟨[1, 6, 7, 8, 9, 10], [10], spec_l05Convergents.l7.c⟩ spec_l05Convergents.b7 := loop_cd spec_l05Convergents.l7.cd spec_l05Convergents.hC spec_l05Convergents.lp7 spec_l05Convergents.l7.round fun p => Gets.leaf
theorem spec_l05Convergents.lp : LpOK Try.prog spec_l05Convergents.C spec_l05Convergents.b := lp_of (by kernel_rfl) (LpsOK.cons (k := 7) (by kernel_rfl) (by kernel_rfl) spec_l05Convergents.l7.lok LpsOK.nil)
noncomputable def spec_l05Convergents.t (x0 : Nat) (x1 : Int) : T (Nat × List Int) :=
  .br (spec_l05Exact.ok x0)
  (.br (Option.isSome (spec_l05Convergents.l7.r x1 ((spec_l05Exact x0).1, (spec_l05Exact x0).2, 0, (0 : Int), (1 : Int), (1 : Int), (0 : Int), [])))
   (.leaf ((Option.getD (spec_l05Convergents.l7.r x1 ((spec_l05Exact x0).1, (spec_l05Exact x0).2, 0, (0 : Int), (1 : Int), (1 : Int), (0 : Int), [])) default).1, (Option.getD (spec_l05Convergents.l7.r x1 ((spec_l05Exact x0).1, (spec_l05Exact x0).2, 0, (0 : Int), (1 : Int), (1 : Int), (0 : Int), [])) default).2))
   .bad)
  .bad
noncomputable def spec_l05Convergents (x0 : Nat) (x1 : Int) : Nat × List Int := (spec_l05Convergents.t x0 x1).val
noncomputable def spec_l05Convergents.ok (x0 : Nat) (x1 : Int) : Bool := (spec_l05Convergents.t x0 x1).ok
def spec_l05Convergents.cd : Cd (Nat × Int) (List V × Hp) := Cd.iso (Cd.pair (Cd.cons (Cd.fl .f32) (Cd.cons (Cd.it .i64) Cd.nil)) Cd.nil) (fun a => (a.1.1, a.1.2.1)) (fun a => ((a.1, (a.2, ())), ())) (fun _ => rfl)
noncomputable def spec_l05Convergents.tr (a : Nat × Int) : T (Nat × List Int) := spec_l05Convergents.t a.1 a.2
def spec_l05Convergents.enc : (Nat × Int) → (Nat × List Int) → V × Hp := fun a r => (.own 0 r.1, [some ⟨true, 36, 2, .is .i64 r.2⟩])
noncomputable def spec_l05Convergents.c : List V → Hp → T (V × Hp) := cdE spec_l05Convergents.cd (fun a => .br (spec_l05Convergents.ok a.1 a.2) (.leaf (spec_l05Convergents.enc a (spec_l05Convergents a.1 a.2))) .bad)
theorem spec_l05Convergents.run (a : Nat × Int) : runF spec_l05Convergents.C Try.f43.results.toList spec_l05Convergents.b (spec_l05Convergents.cd.enc a).1 (spec_l05Convergents.cd.enc a).2 = (spec_l05Convergents.tr a).map (spec_l05Convergents.enc a) := by kernel_rfl
theorem spec_l05Convergents.cok : OKe Try.prog 43 spec_l05Convergents.c := con_e' spec_l05Convergents.cd spec_l05Convergents.hC Try.func43 (by kernel_rfl) (by kernel_rfl) (by kernel_rfl) spec_l05Convergents.lp (fun a => by kernel_rfl) spec_l05Convergents.run (Tells.ok (tree := spec_l05Convergents.tr))
/-! ### spec_ConvergentsOf -/
noncomputable def spec_ConvergentsOf.b : Code := bodyOf Try.f18
noncomputable def spec_ConvergentsOf.C : Ctx := { ty := tys, fn := [(42, .q spec_l05Most.c), (43, .e spec_l05Convergents.c)], lp := [], n := 17, k := 0, eq := eqs }
theorem spec_ConvergentsOf.hC : CtxOK Try.prog spec_ConvergentsOf.C := CtxOK.of mo tys_ok (FnsOK.cons spec_l05Most.cok (FnsOK.cons spec_l05Convergents.cok FnsOK.nil)) eqs_ok
theorem spec_ConvergentsOf.lp : LpOK Try.prog spec_ConvergentsOf.C spec_ConvergentsOf.b := (LpOK.nil (by kernel_rfl))
noncomputable def spec_ConvergentsOf.t (x0 : Nat) (x1 : Int) : T (Nat × Int × List Int) :=
  .br ((spec_l05Most x0 x1) != (0 : Int))
  (.leaf (0, (spec_l05Most x0 x1), []))
  (.br (spec_l05Convergents.ok x0 x1)
   (.leaf ((spec_l05Convergents x0 x1).1, (0 : Int), (spec_l05Convergents x0 x1).2))
   .bad)
noncomputable def spec_ConvergentsOf (x0 : Nat) (x1 : Int) : Nat × Int × List Int := (spec_ConvergentsOf.t x0 x1).val
noncomputable def spec_ConvergentsOf.ok (x0 : Nat) (x1 : Int) : Bool := (spec_ConvergentsOf.t x0 x1).ok
def spec_ConvergentsOf.cd : Cd (Nat × Int) (List V × Hp) := Cd.iso (Cd.pair (Cd.cons (Cd.fl .f32) (Cd.cons (Cd.it .i64) Cd.nil)) Cd.nil) (fun a => (a.1.1, a.1.2.1)) (fun a => ((a.1, (a.2, ())), ())) (fun _ => rfl)
noncomputable def spec_ConvergentsOf.tr (a : Nat × Int) : T (Nat × Int × List Int) := spec_ConvergentsOf.t a.1 a.2
def spec_ConvergentsOf.enc : (Nat × Int) → (Nat × Int × List Int) → V × Hp := fun a r => (.tup [.own 0 r.1, .it .i64 r.2.1], [some ⟨true, 36, 2, .is .i64 r.2.2⟩])
noncomputable def spec_ConvergentsOf.c : List V → Hp → T (V × Hp) := cdE spec_ConvergentsOf.cd (fun a => .br (spec_ConvergentsOf.ok a.1 a.2) (.leaf (spec_ConvergentsOf.enc a (spec_ConvergentsOf a.1 a.2))) .bad)
theorem spec_ConvergentsOf.run (a : Nat × Int) : runF spec_ConvergentsOf.C Try.f18.results.toList spec_ConvergentsOf.b (spec_ConvergentsOf.cd.enc a).1 (spec_ConvergentsOf.cd.enc a).2 = (spec_ConvergentsOf.tr a).map (spec_ConvergentsOf.enc a) := by kernel_rfl
theorem spec_ConvergentsOf.cok : OKe Try.prog 18 spec_ConvergentsOf.c := con_e' spec_ConvergentsOf.cd spec_ConvergentsOf.hC Try.func18 (by kernel_rfl) (by kernel_rfl) (by kernel_rfl) spec_ConvergentsOf.lp (fun a => by kernel_rfl) spec_ConvergentsOf.run (Tells.ok (tree := spec_ConvergentsOf.tr))
/-! ### impl_NearestFraction -/
noncomputable def impl_NearestFraction.b : Code := bodyOf Try.f19
noncomputable def impl_NearestFraction.l12.s (x0 : Int) (x1 : Int) (x2 : Int) (x3 : Int) (x4 : Int) (x5 : Int) (x6 : Int) (x7 : Int) (x8 : Int) (x9 : Int) (x10 : Int) : T ((Int × Int × Int × Int) ⊕ (Int × Int × Int)) :=
  .br (decide (x4 ≤ (IntKind.wrap .i64 (x3 + (1 : Int)))))
  (.br (x10 == (0 : Int))
   (.leaf (.inl ((if (IntKind.wrap .i64 ((IntKind.wrap .i64 (x4 * x8)) - (IntKind.wrap .i64 (x7 * x2)))) > (IntKind.wrap .i64 ((IntKind.wrap .i64 (x7 * x2)) - (IntKind.wrap .i64 (x4 * x8)))) then (IntKind.wrap .i64 ((IntKind.wrap .i64 (x4 * x8)) - (IntKind.wrap .i64 (x7 * x2)))) else (IntKind.wrap .i64 ((IntKind.wrap .i64 (x7 * x2)) - (IntKind.wrap .i64 (x4 * x8))))), (IntKind.wrap .i64 (x4 + (1 : Int))), x4, x2)))
   (.br (decide ((IntKind.wrap .i64 ((if (IntKind.wrap .i64 ((IntKind.wrap .i64 (x4 * x8)) - (IntKind.wrap .i64 (x7 * x2)))) > (IntKind.wrap .i64 ((IntKind.wrap .i64 (x7 * x2)) - (IntKind.wrap .i64 (x4 * x8)))) then (IntKind.wrap .i64 ((IntKind.wrap .i64 (x4 * x8)) - (IntKind.wrap .i64 (x7 * x2)))) else (IntKind.wrap .i64 ((IntKind.wrap .i64 (x7 * x2)) - (IntKind.wrap .i64 (x4 * x8))))) * x10)) < (IntKind.wrap .i64 (x1 * x2))))
    (.leaf (.inl ((if (IntKind.wrap .i64 ((IntKind.wrap .i64 (x4 * x8)) - (IntKind.wrap .i64 (x7 * x2)))) > (IntKind.wrap .i64 ((IntKind.wrap .i64 (x7 * x2)) - (IntKind.wrap .i64 (x4 * x8)))) then (IntKind.wrap .i64 ((IntKind.wrap .i64 (x4 * x8)) - (IntKind.wrap .i64 (x7 * x2)))) else (IntKind.wrap .i64 ((IntKind.wrap .i64 (x7 * x2)) - (IntKind.wrap .i64 (x4 * x8))))), (IntKind.wrap .i64 (x4 + (1 : Int))), x4, x2)))
    (.leaf (.inl (x1, (IntKind.wrap .i64 (x4 + (1 : Int))), x9, x10)))))
  (.leaf (.inr (x1, x9, x10)))
noncomputable def impl_NearestFraction.l12.st (p : Int × Int × Int × Int × Int × Int × Int) (x : Int × Int × Int × Int) : T ((Int × Int × Int × Int) ⊕ (Int × Int × Int)) := impl_NearestFraction.l12.s p.1 x.1 p.2.1 p.2.2.1 x.2.1 p.2.2.2.1 p.2.2.2.2.1 p.2.2.2.2.2.1 p.2.2.2.2.2.2 x.2.2.1 x.2.2.2
noncomputable def impl_NearestFraction.l12.r (p : Int × Int × Int × Int × Int × Int × Int) (x : Int × Int × Int × Int) : Option (Int × Int × Int) := iterT (impl_NearestFraction.l12.st p) manyRounds x
def impl_NearestFraction.l12.cd : Cd ((Int × Int × Int × Int × Int × Int × Int) × (Int × Int × Int × Int)) (List V × Hp) := Cd.iso (Cd.pair (Cd.cons (Cd.it .i64) (Cd.cons (Cd.pt 0 (Cd.natc 0)) (Cd.cons (Cd.pt 1 (Cd.natc 0)) (Cd.cons (Cd.pt 2 (Cd.natc 0)) (Cd.cons (Cd.it .i64) (Cd.cons (Cd.it .i64) (Cd.cons (Cd.it .i64) (Cd.cons (Cd.it .i64) Cd.nil)))))))) (Cd.cons (Cd.rw 36 2 (Cd.vs (Cd.cons (Cd.it .i64) (Cd.cons (Cd.it .i64) Cd.nil)))) (Cd.cons (Cd.rw 36 2 (Cd.vs (Cd.cons (Cd.it .i64) (Cd.cons (Cd.it .i64) Cd.nil)))) (Cd.cons (Cd.rw 36 2 (Cd.vs (Cd.cons (Cd.it .i64) (Cd.cons (Cd.it .i64) Cd.nil)))) Cd.nil)))) (fun a => ((a.1.1, a.1.2.2.2.2.2.1, a.1.2.2.2.2.2.2.1, a.2.1.1, a.2.1.2.1, a.2.2.1.1, a.2.2.1.2.1), (a.1.2.2.2.2.1, a.1.2.2.2.2.2.2.2.1, a.2.2.2.1.1, a.2.2.2.1.2.1))) (fun a => ((a.1.1, ((), ((), ((), (a.2.1, (a.1.2.1, (a.1.2.2.1, (a.2.2.1, ())))))))), ((a.1.2.2.2.1, (a.1.2.2.2.2.1, ())), ((a.1.2.2.2.2.2.1, (a.1.2.2.2.2.2.2, ())), ((a.2.2.2.1, (a.2.2.2.2, ())), ()))))) (fun _ => rfl)
def impl_NearestFraction.l12.out (p : Int × Int × Int × Int × Int × Int × Int) : (Int × Int × Int) → X × List V × Hp := (fun r => (.ex 3, [.it .i64 p.1, .pt 0 0, .pt 1 0, .pt 2 0, .it .i64 r.1, .it .i64 p.2.1], [some ⟨true, 36, 2, .vs [.it .i64 p.2.2.2.1, .it .i64 p.2.2.2.2.1]⟩, some ⟨true, 36, 2, .vs [.it .i64 p.2.2.2.2.2.1, .it .i64 p.2.2.2.2.2.2]⟩, some ⟨true, 36, 2, .vs [.it .i64 r.2.1, .it .i64 r.2.2]⟩]))
def impl_NearestFraction.l12.ex (p : Int × Int × Int × Int × Int × Int × Int) : (Int × Int × Int) → T (X × List V × Hp) := leafT (fun r => (.ex 3, [.it .i64 p.1, .pt 0 0, .pt 1 0, .pt 2 0, .it .i64 r.1, .it .i64 p.2.1], [some ⟨true, 36, 2, .vs [.it .i64 p.2.2.2.1, .it .i64 p.2.2.2.2.1]⟩, some ⟨true, 36, 2, .vs [.it .i64 p.2.2.2.2.2.1, .it .i64 p.2.2.2.2.2.2]⟩, some ⟨true, 36, 2, .vs [.it .i64 r.2.1, .it .i64 r.2.2]⟩]))
noncomputable def impl_NearestFraction.l12.c : List V → Hp → T (X × List V × Hp) := cdL impl_NearestFraction.l12.cd fun x => optT (impl_NearestFraction.l12.r x.1 x.2) (impl_NearestFraction.l12.ex x.1)
noncomputable def impl_NearestFraction.l8.s (x0 : Int) (x1 : Int) (x2 : Int) (x3 : Int) (x4 : Int) (x5 : Int) (x6 : Int) (x7 : Int) (x8 : Int) : T ((Int × Int × Int × Int) ⊕ (Int × Int)) :=
  .br (decide (x2 ≤ x0))
  (.br (x6 == 0)
   .bad
   (.br (Option.isSome (impl_NearestFraction.l12.r (x0, x2, (IntKind.wrap .i64 (Int.tdiv (IntKind.wrap .i64 (x5 * x2)) x6)), x3, x4, x5, x6) (x1, (IntKind.wrap .i64 (Int.tdiv (IntKind.wrap .i64 (x5 * x2)) x6)), x7, x8)))
    (.leaf (.inl ((Option.getD (impl_NearestFraction.l12.r (x0, x2, (IntKind.wrap .i64 (Int.tdiv (IntKind.wrap .i64 (x5 * x2)) x6)), x3, x4, x5, x6) (x1, (IntKind.wrap .i64 (Int.tdiv (IntKind.wrap .i64 (x5 * x2)) x6)), x7, x8)) default).1, (IntKind.wrap .i64 (x2 + (1 : Int))), (Option.getD (impl_NearestFraction.l12.r (x0, x2, (IntKind.wrap .i64 (Int.tdiv (IntKind.wrap .i64 (x5 * x2)) x6)), x3, x4, x5, x6) (x1, (IntKind.wrap .i64 (Int.tdiv (IntKind.wrap .i64 (x5 * x2)) x6)), x7, x8)) default).2.1, (Option.getD (impl_NearestFraction.l12.r (x0, x2, (IntKind.wrap .i64 (Int.tdiv (IntKind.wrap .i64 (x5 * x2)) x6)), x3, x4, x5, x6) (x1, (IntKind.wrap .i64 (Int.tdiv (IntKind.wrap .i64 (x5 * x2)) x6)), x7, x8)) default).2.2)))
    .bad))
  (.leaf (.inr (x7, x8)))
noncomputable def impl_NearestFraction.l8.st (p : Int × Int × Int × Int × Int) (x : Int × Int × Int × Int) : T ((Int × Int × Int × Int) ⊕ (Int × Int)) := impl_NearestFraction.l8.s p.1 x.1 x.2.1 p.2.1 p.2.2.1 p.2.2.2.1 p.2.2.2.2 x.2.2.1 x.2.2.2
noncomputable def impl_NearestFraction.l8.r (p : Int × Int × Int × Int × Int) (x : Int × Int × Int × Int) : Option (Int × Int) := iterT (impl_NearestFraction.l8.st p) manyRounds x
def impl_NearestFraction.l8.cd : Cd ((Int × Int × Int × Int × Int) × (Int × Int × Int × Int)) (List V × Hp) := Cd.iso (Cd.pair (Cd.cons (Cd.it .i64) (Cd.cons (Cd.pt 0 (Cd.natc 0)) (Cd.cons (Cd.pt 1 (Cd.natc 0)) (Cd.cons (Cd.pt 2 (Cd.natc 0)) (Cd.cons (Cd.it .i64) (Cd.cons (Cd.it .i64) Cd.nil)))))) (Cd.cons (Cd.rw 36 2 (Cd.vs (Cd.cons (Cd.it .i64) (Cd.cons (Cd.it .i64) Cd.nil)))) (Cd.cons (Cd.rw 36 2 (Cd.vs (Cd.cons (Cd.it .i64) (Cd.cons (Cd.it .i64) Cd.nil)))) (Cd.cons (Cd.rw 36 2 (Cd.vs (Cd.cons (Cd.it .i64) (Cd.cons (Cd.it .i64) Cd.nil)))) Cd.nil)))) (fun a => ((a.1.1, a.2.1.1, a.2.1.2.1, a.2.2.1.1, a.2.2.1.2.1), (a.1.2.2.2.2.1, a.1.2.2.2.2.2.1, a.2.2.2.1.1, a.2.2.2.1.2.1))) (fun a => ((a.1.1, ((), ((), ((), (a.2.1, (a.2.2.1, ())))))), ((a.1.2.1, (a.1.2.2.1, ())), ((a.1.2.2.2.1, (a.1.2.2.2.2, ())), ((a.2.2.2.1, (a.2.2.2.2, ())), ()))))) (fun _ => rfl)
def impl_NearestFraction.l8.out (p : Int × Int × Int × Int × Int) : (Int × Int) → X × List V × Hp := (fun r => (.ex 1, [.pt 0 0, .pt 1 0], [some ⟨true, 36, 2, .vs [.it .i64 p.2.1, .it .i64 p.2.2.1]⟩, some ⟨true, 36, 2, .vs [.it .i64 r.1, .it .i64 r.2]⟩]))
def impl_NearestFraction.l8.ex (p : Int × Int × Int × Int × Int) : (Int × Int) → T (X × List V × Hp) := leafT (fun r => (.ex 1, [.pt 0 0, .pt 1 0], [some ⟨true, 36, 2, .vs [.it .i64 p.2.1, .it .i64 p.2.2.1]⟩, some ⟨true, 36, 2, .vs [.it .i64 r.1, .it .i64 r.2]⟩]))
noncomputable def impl_NearestFraction.l8.c : List V → Hp → T (X × List V × Hp) := cdL impl_NearestFraction.l8.cd fun x => optT (impl_NearestFraction.l8.r x.1 x.2) (impl_NearestFraction.l8.ex x.1)
noncomputable def impl_NearestFraction.C : Ctx := { ty := tys, fn := [(31, .q impl_isTarget.c), (41, .q impl_within.c), (39, .q impl_exact.c)], lp := [(8, ⟨[1, 4, 6, 7, 8, 9], [4, 7], impl_NearestFraction.l8.c⟩), (12, ⟨[1, 4, 6, 7, 8, 9, 10, 11], [1, 4, 6, 7, 8, 9], impl_NearestFraction.l12.c⟩)], n := 86, k := 0, eq := eqs }
theorem impl_NearestFraction.hC : CtxOK Try.prog impl_NearestFraction.C := CtxOK.of mo tys_ok (FnsOK.cons impl_isTarget.cok (FnsOK.cons impl_within.cok (FnsOK.cons impl_exact.cok FnsOK.nil))) eqs_ok
noncomputable def impl_NearestFraction.b12 : Code := (nthC (loopsOf (nthC (loopsOf impl_NearestFraction.b) 0)) 0)
theorem impl_NearestFraction.lp12 : LpOK Try.prog impl_NearestFraction.C impl_NearestFraction.b12 := (LpOK.nil (by kernel_rfl))
theorem impl_NearestFraction.l12.round (p : Int × Int × Int × Int × Int × Int × Int) (s : Int × Int × Int × Int) : roundL impl_NearestFraction.C [1, 4, 6, 7, 8, 9, 10, 11] [1, 4, 6, 7, 8, 9] impl_NearestFraction.b12 (impl_NearestFraction.l12.cd.enc (p, s)).1 (impl_NearestFraction.l12.cd.enc (p, s)).2 = (impl_NearestFraction.l12.st p s).map (encSum (fun s => impl_NearestFraction.l12.cd.enc (p, s)) (impl_NearestFraction.l12.out p)) := by kernel_rfl
theorem impl_NearestFraction.l12.lok : LoopOK Try.prog impl_NearestFraction.C ⟨[1, 4, 6, 7, 8, 9, 10, 11], [1, 4, 6, 7, 8, 9], impl_NearestFraction.l12.c⟩ impl_NearestFraction.b12 := loop_cd impl_NearestFraction.l12.cd impl_NearestFraction.hC impl_NearestFraction.lp12 impl_NearestFraction.l12.round fun p => Gets.leaf
noncomputable def impl_NearestFraction.b8 : Code := (nthC (loopsOf impl_NearestFraction.b) 0)
theorem impl_NearestFraction.lp8 : LpOK Try.prog impl_NearestFraction.C impl_NearestFraction.b8 := lp_of (by kernel_rfl) (LpsOK.cons (k := 12) (by kernel_rfl) (by kernel_rfl) impl_NearestFraction.l12.lok LpsOK.nil)
theorem impl_NearestFraction.l8.round (p : Int × Int × Int × Int × Int) (s : Int × Int × Int × Int) : roundL impl_NearestFraction.C [1, 4, 6, 7, 8, 9] [4, 7] impl_NearestFraction.b8 (impl_NearestFraction.l8.cd.enc (p, s)).1 (impl_NearestFraction.l8.cd.enc (p, s)).2 = (impl_NearestFraction.l8.st p s).map (encSum (fun s => impl_NearestFraction.l8.cd.enc (p, s)) (impl_NearestFraction.l8.out p)) := by kernel_rfl
theorem impl_NearestFraction.l8.lok : LoopOK Try.prog impl_NearestFraction.C ⟨[1, 4, 6, 7, 8, 9], [4, 7], impl_NearestFraction.l8.c⟩ impl_NearestFraction.b8 := loop_cd impl_NearestFraction.l8.cd impl_NearestFraction.hC impl_NearestFraction.lp8 impl_NearestFraction.l8.round fun p => Gets.leaf
theorem impl_NearestFraction.lp : LpOK Try.prog impl_NearestFraction.C impl_NearestFraction.b := lp_of (by kernel_rfl) (LpsOK.cons (k := 8) (by kernel_rfl) (by kernel_rfl) impl_NearestFraction.l8.lok LpsOK.nil)
noncomputable def impl_NearestFraction.t (x0 : Nat) (x1 : Int) : T (Int × Int × Int) :=
  .br (!(impl_isTarget x0))
  (.leaf ((0 : Int), (0 : Int), (2 : Int)))
  (.br (!(impl_within x1 (1 : Int) (1000000 : Int)))
   (.leaf ((0 : Int), (0 : Int), (2 : Int)))
   (.br (decide (x1 > (1000 : Int)))
    (.leaf ((0 : Int), (0 : Int), (3 : Int)))
    (.br (impl_exact.ok x0)
     (.br (Option.isSome (impl_NearestFraction.l8.r (x1, (0 : Int), (0 : Int), (impl_exact x0).1, (impl_exact x0).2) ((0 : Int), (1 : Int), (0 : Int), (0 : Int))))
      (.leaf ((Option.getD (impl_NearestFraction.l8.r (x1, (0 : Int), (0 : Int), (impl_exact x0).1, (impl_exact x0).2) ((0 : Int), (1 : Int), (0 : Int), (0 : Int))) default).1, (Option.getD (impl_NearestFraction.l8.r (x1, (0 : Int), (0 : Int), (impl_exact x0).1, (impl_exact x0).2) ((0 : Int), (1 : Int), (0 : Int), (0 : Int))) default).2, (0 : Int)))
      .bad)
     .bad)))
noncomputable def impl_NearestFraction (x0 : Nat) (x1 : Int) : Int × Int × Int := (impl_NearestFraction.t x0 x1).val
noncomputable def impl_NearestFraction.ok (x0 : Nat) (x1 : Int) : Bool := (impl_NearestFraction.t x0 x1).ok
def impl_NearestFraction.cd : Cd (Nat × Int) (List V × Hp) := Cd.iso (Cd.pair (Cd.cons (Cd.fl .f32) (Cd.cons (Cd.it .i64) Cd.nil)) Cd.nil) (fun a => (a.1.1, a.1.2.1)) (fun a => ((a.1, (a.2, ())), ())) (fun _ => rfl)
noncomputable def impl_NearestFraction.tr (a : Nat × Int) : T (Int × Int × Int) := impl_NearestFraction.t a.1 a.2
def impl_NearestFraction.enc : (Nat × Int) → (Int × Int × Int) → V := fun a r => .tup [.agg [.it .i64 r.1, .it .i64 r.2.1], .it .i64 r.2.2]
noncomputable def impl_NearestFraction.c : List V → Hp → T V := cdQ impl_NearestFraction.cd (fun a => .br (impl_NearestFraction.ok a.1 a.2) (.leaf (impl_NearestFraction.enc a (impl_NearestFraction a.1 a.2))) .bad)
theorem impl_NearestFraction.run (a : Nat × Int) : runF impl_NearestFraction.C Try.f19.results.toList impl_NearestFraction.b (impl_NearestFraction.cd.enc a).1 (impl_NearestFraction.cd.enc a).2 = (impl_NearestFraction.tr a).map fun r => (impl_NearestFraction.enc a r, (impl_NearestFraction.cd.enc a).2) := by kernel_rfl
theorem impl_NearestFraction.cok : OKq Try.prog 19 impl_NearestFraction.c := con_q' impl_NearestFraction.cd impl_NearestFraction.hC Try.func19 (by kernel_rfl) (by kernel_rfl) (by kernel_rfl) impl_NearestFraction.lp (fun a => by kernel_rfl) impl_NearestFraction.run (Tells.ok (tree := impl_NearestFraction.tr))
/-! ### spec_l00Max -/
noncomputable def spec_l00Max.b : Code := bodyOf Try.f75
noncomputable def spec_l00Max.C : Ctx := { ty := tys, fn := [], lp := [], n := 10, k := 0, eq := eqs }
theorem spec_l00Max.hC : CtxOK Try.prog spec_l00Max.C := CtxOK.of mo tys_ok FnsOK.nil eqs_ok
theorem spec_l00Max.lp : LpOK Try.prog spec_l00Max.C spec_l00Max.b := (LpOK.nil (by kernel_rfl))
noncomputable def spec_l00Max.t (x0 : Int) (x1 : Int) : T Int :=
  .br (decide (x0 > x1))
  (.leaf x0)
  (.leaf x1)
noncomputable def spec_l00Max (x0 : Int) (x1 : Int) : Int := (spec_l00Max.t x0 x1).val
def spec_l00Max.cd : Cd (Int × Int) (List V × Hp) := Cd.iso (Cd.pair (Cd.cons (Cd.it .i64) (Cd.cons (Cd.it .i64) Cd.nil)) Cd.nil) (fun a => (a.1.1, a.1.2.1)) (fun a => ((a.1, (a.2, ())), ())) (fun _ => rfl)
noncomputable def spec_l00Max.tr (a : Int × Int) : T Int := spec_l00Max.t a.1 a.2
def spec_l00Max.enc : (Int × Int) → Int → V := fun a r => .it .i64 r
noncomputable def spec_l00Max.c : List V → Hp → T V := cdQ spec_l00Max.cd (fun a => .leaf (spec_l00Max.enc a (spec_l00Max a.1 a.2)))
theorem spec_l00Max.run (a : Int × Int) : runF spec_l00Max.C Try.f75.results.toList spec_l00Max.b (spec_l00Max.cd.enc a).1 (spec_l00Max.cd.enc a).2 = (spec_l00Max.tr a).map fun r => (spec_l00Max.enc a r, (spec_l00Max.cd.enc a).2) := by kernel_rfl
theorem spec_l00Max.cok : OKq Try.prog 75 spec_l00Max.c := con_q' spec_l00Max.cd spec_l00Max.hC Try.func75 (by kernel_rfl) (by kernel_rfl) (by kernel_rfl) spec_l00Max.lp (fun a => by kernel_rfl) spec_l00Max.run (Tells.val (tree := spec_l00Max.tr) fun a => by kernel_rfl)
/-! ### spec_l05Apart -/
noncomputable def spec_l05Apart.b : Code := bodyOf Try.f44
noncomputable def spec_l05Apart.C : Ctx := { ty := tys, fn := [(75, .q spec_l00Max.c)], lp := [], n := 21, k := 0, eq := eqs }
theorem spec_l05Apart.hC : CtxOK Try.prog spec_l05Apart.C := CtxOK.of mo tys_ok (FnsOK.cons spec_l00Max.cok FnsOK.nil) eqs_ok
theorem spec_l05Apart.lp : LpOK Try.prog spec_l05Apart.C spec_l05Apart.b := (LpOK.nil (by kernel_rfl))
noncomputable def spec_l05Apart.t (x0 : Int) (x1 : Int) (x2 : Int) (x3 : Int) : T Int :=
  .leaf (spec_l00Max (IntKind.wrap .i64 ((IntKind.wrap .i64 (x0 * x3)) - (IntKind.wrap .i64 (x2 * x1)))) (IntKind.wrap .i64 (0 - (IntKind.wrap .i64 ((IntKind.wrap .i64 (x0 * x3)) - (IntKind.wrap .i64 (x2 * x1)))))))
noncomputable def spec_l05Apart (x0 : Int) (x1 : Int) (x2 : Int) (x3 : Int) : Int := (spec_l05Apart.t x0 x1 x2 x3).val
def spec_l05Apart.cd : Cd (Int × Int × Int × Int) (List V × Hp) := Cd.iso (Cd.pair (Cd.cons (Cd.agg (Cd.cons (Cd.it .i64) (Cd.cons (Cd.it .i64) Cd.nil))) (Cd.cons (Cd.it .i64) (Cd.cons (Cd.it .i64) Cd.nil))) Cd.nil) (fun a => (a.1.1.1, a.1.1.2.1, a.1.2.1, a.1.2.2.1)) (fun a => (((a.1, (a.2.1, ())), (a.2.2.1, (a.2.2.2, ()))), ())) (fun _ => rfl)
noncomputable def spec_l05Apart.tr (a : Int × Int × Int × Int) : T Int := spec_l05Apart.t a.1 a.2.1 a.2.2.1 a.2.2.2
def spec_l05Apart.enc : (Int × Int × Int × Int) → Int → V := fun a r => .it .i64 r
noncomputable def spec_l05Apart.c : List V → Hp → T V := cdQ spec_l05Apart.cd (fun a => .leaf (spec_l05Apart.enc a (spec_l05Apart a.1 a.2.1 a.2.2.1 a.2.2.2)))
theorem spec_l05Apart.run (a : Int × Int × Int × Int) : runF spec_l05Apart.C Try.f44.results.toList spec_l05Apart.b (spec_l05Apart.cd.enc a).1 (spec_l05Apart.cd.enc a).2 = (spec_l05Apart.tr a).map fun r => (spec_l05Apart.enc a r, (spec_l05Apart.cd.enc a).2) := by kernel_rfl
theorem spec_l05Apart.cok : OKq Try.prog 44 spec_l05Apart.c := con_q' spec_l05Apart.cd spec_l05Apart.hC Try.func44 (by kernel_rfl) (by kernel_rfl) (by kernel_rfl) spec_l05Apart.lp (fun a => by kernel_rfl) spec_l05Apart.run (Tells.val (tree := spec_l05Apart.tr) fun a => by kernel_rfl)
/-! ### spec_NearestFraction -/
noncomputable def spec_NearestFraction.b : Code := bodyOf Try.f20
noncomputable def spec_NearestFraction.l13.s (x0 : Int) (x1 : Int) (x2 : Int) (x3 : Int) (x4 : Int) (x5 : Int) (x6 : Int) (x7 : Int) (x8 : Int) (x9 : Int) : T ((Int × Int × Int) ⊕ (Int × Int)) :=
  .br (decide (x3 < (2 : Int)))
  (.br (decide ((IntKind.wrap .i64 ((spec_l05Apart x6 x7 (IntKind.wrap .i64 (x2 + x3)) x1) * x9)) < (IntKind.wrap .i64 ((spec_l05Apart x6 x7 x8 x9) * x1))))
   (.leaf (.inl ((IntKind.wrap .i64 (x3 + (1 : Int))), (IntKind.wrap .i64 (x2 + x3)), x1)))
   (.leaf (.inl ((IntKind.wrap .i64 (x3 + (1 : Int))), x8, x9))))
  (.leaf (.inr (x8, x9)))
noncomputable def spec_NearestFraction.l13.st (p : Int × Int × Int × Int × Int × Int × Int) (x : Int × Int × Int) : T ((Int × Int × Int) ⊕ (Int × Int)) := spec_NearestFraction.l13.s p.1 p.2.1 p.2.2.1 x.1 p.2.2.2.1 p.2.2.2.2.1 p.2.2.2.2.2.1 p.2.2.2.2.2.2 x.2.1 x.2.2
noncomputable def spec_NearestFraction.l13.r (p : Int × Int × Int × Int × Int × Int × Int) (x : Int × Int × Int) : Option (Int × Int) := iterT (spec_NearestFraction.l13.st p) manyRounds x
def spec_NearestFraction.l13.cd : Cd ((Int × Int × Int × Int × Int × Int × Int) × (Int × Int × Int)) (List V × Hp) := Cd.iso (Cd.pair (Cd.cons (Cd.it .i64) (Cd.cons (Cd.pt 0 (Cd.natc 0)) (Cd.cons (Cd.pt 1 (Cd.natc 0)) (Cd.cons (Cd.pt 2 (Cd.natc 0)) (Cd.cons (Cd.it .i64) (Cd.cons (Cd.it .i64) (Cd.cons (Cd.it .i64) Cd.nil))))))) (Cd.cons (Cd.rw 36 2 (Cd.vs (Cd.cons (Cd.it .i64) (Cd.cons (Cd.it .i64) Cd.nil)))) (Cd.cons (Cd.rw 36 2 (Cd.vs (Cd.cons (Cd.it .i64) (Cd.cons (Cd.it .i64) Cd.nil)))) (Cd.cons (Cd.rw 36 2 (Cd.vs (Cd.cons (Cd.it .i64) (Cd.cons (Cd.it .i64) Cd.nil)))) Cd.nil)))) (fun a => ((a.1.1, a.1.2.2.2.2.1, a.1.2.2.2.2.2.1, a.2.1.1, a.2.1.2.1, a.2.2.1.1, a.2.2.1.2.1), (a.1.2.2.2.2.2.2.1, a.2.2.2.1.1, a.2.2.2.1.2.1))) (fun a => ((a.1.1, ((), ((), ((), (a.1.2.1, (a.1.2.2.1, (a.2.1, ()))))))), ((a.1.2.2.2.1, (a.1.2.2.2.2.1, ())), ((a.1.2.2.2.2.2.1, (a.1.2.2.2.2.2.2, ())), ((a.2.2.1, (a.2.2.2, ())), ()))))) (fun _ => rfl)
def spec_NearestFraction.l13.out (p : Int × Int × Int × Int × Int × Int × Int) : (Int × Int) → X × List V × Hp := (fun r => (.ex 2, [.it .i64 p.1, .pt 0 0, .pt 1 0, .pt 2 0, .it .i64 p.2.1], [some ⟨true, 36, 2, .vs [.it .i64 p.2.2.2.1, .it .i64 p.2.2.2.2.1]⟩, some ⟨true, 36, 2, .vs [.it .i64 p.2.2.2.2.2.1, .it .i64 p.2.2.2.2.2.2]⟩, some ⟨true, 36, 2, .vs [.it .i64 r.1, .it .i64 r.2]⟩]))
def spec_NearestFraction.l13.ex (p : Int × Int × Int × Int × Int × Int × Int) : (Int × Int) → T (X × List V × Hp) := leafT (fun r => (.ex 2, [.it .i64 p.1, .pt 0 0, .pt 1 0, .pt 2 0, .it .i64 p.2.1], [some ⟨true, 36, 2, .vs [.it .i64 p.2.2.2.1, .it .i64 p.2.2.2.2.1]⟩, some ⟨true, 36, 2, .vs [.it .i64 p.2.2.2.2.2.1, .it .i64 p.2.2.2.2.2.2]⟩, some ⟨true, 36, 2, .vs [.it .i64 r.1, .it .i64 r.2]⟩]))
noncomputable def spec_NearestFraction.l13.c : List V → Hp → T (X × List V × Hp) := cdL spec_NearestFraction.l13.cd fun x => optT (spec_NearestFraction.l13.r x.1 x.2) (spec_NearestFraction.l13.ex x.1)
noncomputable def spec_NearestFraction.l9.s (x0 : Int) (x1 : Int) (x2 : Int) (x3 : Int) (x4 : Int) (x5 : Int) (x6 : Int) (x7 : Int) : T ((Int × Int × Int) ⊕ (Int × Int)) :=
  .br (decide (x1 ≤ x0))
  (.br (x5 == 0)
   .bad
   (.br (Option.isSome (spec_NearestFraction.l13.r (x0, x1, (IntKind.wrap .i64 (Int.tdiv (IntKind.wrap .i64 (x4 * x1)) x5)), x2, x3, x4, x5) ((0 : Int), x6, x7)))
    (.leaf (.inl ((IntKind.wrap .i64 (x1 + (1 : Int))), (Option.getD (spec_NearestFraction.l13.r (x0, x1, (IntKind.wrap .i64 (Int.tdiv (IntKind.wrap .i64 (x4 * x1)) x5)), x2, x3, x4, x5) ((0 : Int), x6, x7)) default).1, (Option.getD (spec_NearestFraction.l13.r (x0, x1, (IntKind.wrap .i64 (Int.tdiv (IntKind.wrap .i64 (x4 * x1)) x5)), x2, x3, x4, x5) ((0 : Int), x6, x7)) default).2)))
    .bad))
  (.leaf (.inr (x6, x7)))
noncomputable def spec_NearestFraction.l9.st (p : Int × Int × Int × Int × Int) (x : Int × Int × Int) : T ((Int × Int × Int) ⊕ (Int × Int)) := spec_NearestFraction.l9.s p.1 x.1 p.2.1 p.2.2.1 p.2.2.2.1 p.2.2.2.2 x.2.1 x.2.2
noncomputable def spec_NearestFraction.l9.r (p : Int × Int × Int × Int × Int) (x : Int × Int × Int) : Option (Int × Int) := iterT (spec_NearestFraction.l9.st p) manyRounds x
def spec_NearestFraction.l9.cd : Cd ((Int × Int × Int × Int × Int) × (Int × Int × Int)) (List V × Hp) := Cd.iso (Cd.pair (Cd.cons (Cd.it .i64) (Cd.cons (Cd.pt 0 (Cd.natc 0)) (Cd.cons (Cd.pt 1 (Cd.natc 0)) (Cd.cons (Cd.pt 2 (Cd.natc 0)) (Cd.cons (Cd.it .i64) Cd.nil))))) (Cd.cons (Cd.rw 36 2 (Cd.vs (Cd.cons (Cd.it .i64) (Cd.cons (Cd.it .i64) Cd.nil)))) (Cd.cons (Cd.rw 36 2 (Cd.vs (Cd.cons (Cd.it .i64) (Cd.cons (Cd.it .i64) Cd.nil)))) (Cd.cons (Cd.rw 36 2 (Cd.vs (Cd.cons (Cd.it .i64) (Cd.cons (Cd.it .i64) Cd.nil)))) Cd.nil)))) (fun a => ((a.1.1, a.2.1.1, a.2.1.2.1, a.2.2.1.1, a.2.2.1.2.1), (a.1.2.2.2.2.1, a.2.2.2.1.1, a.2.2.2.1.2.1))) (fun a => ((a.1.1, ((), ((), ((), (a.2.1, ()))))), ((a.1.2.1, (a.1.2.2.1, ())), ((a.1.2.2.2.1, (a.1.2.2.2.2, ())), ((a.2.2.1, (a.2.2.2, ())), ()))))) (fun _ => rfl)
def spec_NearestFraction.l9.out (p : Int × Int × Int × Int × Int) : (Int × Int) → X × List V × Hp := (fun r => (.ex 0, [.pt 0 0, .pt 1 0], [some ⟨true, 36, 2, .vs [.it .i64 p.2.1, .it .i64 p.2.2.1]⟩, some ⟨true, 36, 2, .vs [.it .i64 r.1, .it .i64 r.2]⟩]))
def spec_NearestFraction.l9.ex (p : Int × Int × Int × Int × Int) : (Int × Int) → T (X × List V × Hp) := leafT (fun r => (.ex 0, [.pt 0 0, .pt 1 0], [some ⟨true, 36, 2, .vs [.it .i64 p.2.1, .it .i64 p.2.2.1]⟩, some ⟨true, 36, 2, .vs [.it .i64 r.1, .it .i64 r.2]⟩]))
noncomputable def spec_NearestFraction.l9.c : List V → Hp → T (X × List V × Hp) := cdL spec_NearestFraction.l9.cd fun x => optT (spec_NearestFraction.l9.r x.1 x.2) (spec_NearestFraction.l9.ex x.1)
noncomputable def spec_NearestFraction.C : Ctx := { ty := tys, fn := [(42, .q spec_l05Most.c), (40, .q spec_l05Exact.c), (44, .q spec_l05Apart.c)], lp := [(9, ⟨[1, 4, 7, 8, 9], [4, 8], spec_NearestFraction.l9.c⟩), (13, ⟨[1, 4, 7, 8, 9, 10, 11], [1, 4, 7, 8, 9], spec_NearestFraction.l13.c⟩)], n := 77, k := 0, eq := eqs }
theorem spec_NearestFraction.hC : CtxOK Try.prog spec_NearestFraction.C := CtxOK.of mo tys_ok (FnsOK.cons spec_l05Most.cok (FnsOK.cons spec_l05Exact.cok (FnsOK.cons spec_l05Apart.cok FnsOK.nil))) eqs_ok
noncomputable def spec_NearestFraction.b13 : Code := (nthC (loopsOf (nthC (loopsOf spec_NearestFraction.b) 0)) 0)
theorem spec_NearestFraction.lp13 : LpOK Try.prog spec_NearestFraction.C spec_NearestFraction.b13 := (LpOK.nil (by kernel_rfl))
theorem spec_NearestFraction.l13.round (p : Int × Int × Int × Int × Int × Int × Int) (s : Int × Int × Int) : roundL spec_NearestFraction.C [1, 4, 7, 8, 9, 10, 11] [1, 4, 7, 8, 9] spec_NearestFraction.b13 (spec_NearestFraction.l13.cd.enc (p, s)).1 (spec_NearestFraction.l13.cd.enc (p, s)).2 = (spec_NearestFraction.l13.st p s).map (encSum (fun s => spec_NearestFraction.l13.cd.enc (p, s)) (spec_NearestFraction.l13.out p)) := by kernel_rfl
theorem spec_NearestFraction.l13.lok : LoopOK Try.prog spec_NearestFraction.C ⟨[1, 4, 7, 8, 9, 10, 11], [1, 4, 7, 8, 9], spec_NearestFraction.l13.c⟩ spec_NearestFraction.b13 := loop_cd spec_NearestFraction.l13.cd spec_NearestFraction.hC spec_NearestFraction.lp13 spec_NearestFraction.l13.round fun p => Gets.leaf
noncomputable def spec_NearestFraction.b9 : Code := (nthC (loopsOf spec_NearestFraction.b) 0)
theorem spec_NearestFraction.lp9 : LpOK Try.prog spec_NearestFraction.C spec_NearestFraction.b9 := lp_of (by kernel_rfl) (LpsOK.cons (k := 13) (by kernel_rfl) (by kernel_rfl) spec_NearestFraction.l13.lok LpsOK.nil)
theorem spec_NearestFraction.l9.round (p : Int × Int × Int × Int × Int) (s : Int × Int × Int) : roundL spec_NearestFraction.C [1, 4, 7, 8, 9] [4, 8] spec_NearestFraction.b9 (spec_NearestFraction.l9.cd.enc (p, s)).1 (spec_NearestFraction.l9.cd.enc (p, s)).2 = (spec_NearestFraction.l9.st p s).map (encSum (fun s => spec_NearestFraction.l9.cd.enc (p, s)) (spec_NearestFraction.l9.out p)) := by kernel_rfl
theorem spec_NearestFraction.l9.lok : LoopOK Try.prog spec_NearestFraction.C ⟨[1, 4, 7, 8, 9], [4, 8], spec_NearestFraction.l9.c⟩ spec_NearestFraction.b9 := loop_cd spec_NearestFraction.l9.cd spec_NearestFraction.hC spec_NearestFraction.lp9 spec_NearestFraction.l9.round fun p => Gets.leaf
theorem spec_NearestFraction.lp : LpOK Try.prog spec_NearestFraction.C spec_NearestFraction.b := lp_of (by kernel_rfl) (LpsOK.cons (k := 9) (by kernel_rfl) (by kernel_rfl) spec_NearestFraction.l9.lok LpsOK.nil)
noncomputable def spec_NearestFraction.t (x0 : Nat) (x1 : Int) : T (Int × Int × Int) :=
  .br ((spec_l05Most x0 x1) == (0 : Int))
  (.br (decide (x1 > (1000 : Int)))
   (.br ((3 : Int) != (0 : Int))
    (.leaf ((0 : Int), (0 : Int), (3 : Int)))
    (.br (spec_l05Exact.ok x0)
     (.br ((spec_l05Exact x0).2 == 0)
      .bad
      (.br (Option.isSome (spec_NearestFraction.l9.r (x1, (0 : Int), (0 : Int), (spec_l05Exact x0).1, (spec_l05Exact x0).2) ((1 : Int), (IntKind.wrap .i64 (Int.tdiv (spec_l05Exact x0).1 (spec_l05Exact x0).2)), (1 : Int))))
       (.leaf ((Option.getD (spec_NearestFraction.l9.r (x1, (0 : Int), (0 : Int), (spec_l05Exact x0).1, (spec_l05Exact x0).2) ((1 : Int), (IntKind.wrap .i64 (Int.tdiv (spec_l05Exact x0).1 (spec_l05Exact x0).2)), (1 : Int))) default).1, (Option.getD (spec_NearestFraction.l9.r (x1, (0 : Int), (0 : Int), (spec_l05Exact x0).1, (spec_l05Exact x0).2) ((1 : Int), (IntKind.wrap .i64 (Int.tdiv (spec_l05Exact x0).1 (spec_l05Exact x0).2)), (1 : Int))) default).2, (0 : Int)))
       .bad))
     .bad))
   (.br ((spec_l05Most x0 x1) != (0 : Int))
    (.leaf ((0 : Int), (0 : Int), (spec_l05Most x0 x1)))
    (.br (spec_l05Exact.ok x0)
     (.br ((spec_l05Exact x0).2 == 0)
      .bad
      (.br (Option.isSome (spec_NearestFraction.l9.r (x1, (0 : Int), (0 : Int), (spec_l05Exact x0).1, (spec_l05Exact x0).2) ((1 : Int), (IntKind.wrap .i64 (Int.tdiv (spec_l05Exact x0).1 (spec_l05Exact x0).2)), (1 : Int))))
       (.leaf ((Option.getD (spec_NearestFraction.l9.r (x1, (0 : Int), (0 : Int), (spec_l05Exact x0).1, (spec_l05Exact x0).2) ((1 : Int), (IntKind.wrap .i64 (Int.tdiv (spec_l05Exact x0).1 (spec_l05Exact x0).2)), (1 : Int))) default).1, (Option.getD (spec_NearestFraction.l9.r (x1, (0 : Int), (0 : Int), (spec_l05Exact x0).1, (spec_l05Exact x0).2) ((1 : Int), (IntKind.wrap .i64 (Int.tdiv (spec_l05Exact x0).1 (spec_l05Exact x0).2)), (1 : Int))) default).2, (0 : Int)))
       .bad))
     .bad)))
  (.br ((spec_l05Most x0 x1) != (0 : Int))
   (.leaf ((0 : Int), (0 : Int), (spec_l05Most x0 x1)))
   (.br (spec_l05Exact.ok x0)
    (.br ((spec_l05Exact x0).2 == 0)
     .bad
     (.br (Option.isSome (spec_NearestFraction.l9.r (x1, (0 : Int), (0 : Int), (spec_l05Exact x0).1, (spec_l05Exact x0).2) ((1 : Int), (IntKind.wrap .i64 (Int.tdiv (spec_l05Exact x0).1 (spec_l05Exact x0).2)), (1 : Int))))
      (.leaf ((Option.getD (spec_NearestFraction.l9.r (x1, (0 : Int), (0 : Int), (spec_l05Exact x0).1, (spec_l05Exact x0).2) ((1 : Int), (IntKind.wrap .i64 (Int.tdiv (spec_l05Exact x0).1 (spec_l05Exact x0).2)), (1 : Int))) default).1, (Option.getD (spec_NearestFraction.l9.r (x1, (0 : Int), (0 : Int), (spec_l05Exact x0).1, (spec_l05Exact x0).2) ((1 : Int), (IntKind.wrap .i64 (Int.tdiv (spec_l05Exact x0).1 (spec_l05Exact x0).2)), (1 : Int))) default).2, (0 : Int)))
      .bad))
    .bad))
noncomputable def spec_NearestFraction (x0 : Nat) (x1 : Int) : Int × Int × Int := (spec_NearestFraction.t x0 x1).val
noncomputable def spec_NearestFraction.ok (x0 : Nat) (x1 : Int) : Bool := (spec_NearestFraction.t x0 x1).ok
def spec_NearestFraction.cd : Cd (Nat × Int) (List V × Hp) := Cd.iso (Cd.pair (Cd.cons (Cd.fl .f32) (Cd.cons (Cd.it .i64) Cd.nil)) Cd.nil) (fun a => (a.1.1, a.1.2.1)) (fun a => ((a.1, (a.2, ())), ())) (fun _ => rfl)
noncomputable def spec_NearestFraction.tr (a : Nat × Int) : T (Int × Int × Int) := spec_NearestFraction.t a.1 a.2
def spec_NearestFraction.enc : (Nat × Int) → (Int × Int × Int) → V := fun a r => .tup [.agg [.it .i64 r.1, .it .i64 r.2.1], .it .i64 r.2.2]
noncomputable def spec_NearestFraction.c : List V → Hp → T V := cdQ spec_NearestFraction.cd (fun a => .br (spec_NearestFraction.ok a.1 a.2) (.leaf (spec_NearestFraction.enc a (spec_NearestFraction a.1 a.2))) .bad)
theorem spec_NearestFraction.run (a : Nat × Int) : runF spec_NearestFraction.C Try.f20.results.toList spec_NearestFraction.b (spec_NearestFraction.cd.enc a).1 (spec_NearestFraction.cd.enc a).2 = (spec_NearestFraction.tr a).map fun r => (spec_NearestFraction.enc a r, (spec_NearestFraction.cd.enc a).2) := by kernel_rfl
theorem spec_NearestFraction.cok : OKq Try.prog 20 spec_NearestFraction.c := con_q' spec_NearestFraction.cd spec_NearestFraction.hC Try.func20 (by kernel_rfl) (by kernel_rfl) (by kernel_rfl) spec_NearestFraction.lp (fun a => by kernel_rfl) spec_NearestFraction.run (Tells.ok (tree := spec_NearestFraction.tr))
/-! ### spec_A2SameFractions -/
noncomputable def spec_A2SameFractions.b : Code := bodyOf Try.f21
noncomputable def spec_A2SameFractions.l4.s (x0 : Nat) (x1 : Int) (x2 : List Int) : T (Unit ⊕ Unit) :=
  .br (decide (x1 < ((0 : Nat) : Int)))
  .bad
  (.leaf (.inr ()))
noncomputable def spec_A2SameFractions.l4.st (p : Nat × Int × List Int) (x : Unit) : T (Unit ⊕ Unit) := spec_A2SameFractions.l4.s p.1 p.2.1 p.2.2
noncomputable def spec_A2SameFractions.l4.r (p : Nat × Int × List Int) (x : Unit) : Option Unit := iterT (spec_A2SameFractions.l4.st p) manyRounds x
def spec_A2SameFractions.l4.cd : Cd ((Nat × Int × List Int) × Unit) (List V × Hp) := Cd.iso (Cd.pair (Cd.cons Cd.sn (Cd.cons (Cd.own 0) (Cd.cons (Cd.it .i64) Cd.nil))) (Cd.cons (Cd.rw 36 2 (Cd.is .i64)) Cd.nil)) (fun a => ((a.1.2.1, a.1.2.2.1, a.2.1), ())) (fun a => (((), (a.1.1, (a.1.2.1, ()))), (a.1.2.2, ()))) (fun _ => rfl)
def spec_A2SameFractions.l4.out (p : Nat × Int × List Int) : Unit → X × List V × Hp := (fun r => (.ex 0, [.unk], [some ⟨true, 36, 2, .is .i64 p.2.2⟩]))
def spec_A2SameFractions.l4.ex (p : Nat × Int × List Int) : Unit → T (X × List V × Hp) := leafT (fun r => (.ex 0, [.unk], [some ⟨true, 36, 2, .is .i64 p.2.2⟩]))
noncomputable def spec_A2SameFractions.l4.c : List V → Hp → T (X × List V × Hp) := cdL spec_A2SameFractions.l4.cd fun x => optT (spec_A2SameFractions.l4.r x.1 x.2) (spec_A2SameFractions.l4.ex x.1)
noncomputable def spec_A2SameFractions.C : Ctx := { ty := tys, fn := [], lp := [(4, ⟨[0, 1, 5], [4], spec_A2SameFractions.l4.c⟩)], n := 26, k := 1, eq := eqs }
theorem spec_A2SameFractions.hC : CtxOK Try.prog spec_A2SameFractions.C := CtxOK.of mo tys_ok FnsOK.nil eqs_ok
noncomputable def spec_A2SameFractions.b4 : Code := (nthC (loopsOf spec_A2SameFractions.b) 0)
theorem spec_A2SameFractions.lp4 : LpOK Try.prog spec_A2SameFractions.C spec_A2SameFractions.b4 := (LpOK.nil (by kernel_rfl))
theorem spec_A2SameFractions.l4.round (p : Nat × Int × List Int) (s : Unit) : roundL spec_A2SameFractions.C [0, 1, 5] [4] spec_A2SameFractions.b4 (spec_A2SameFractions.l4.cd.enc (p, s)).1 (spec_A2SameFractions.l4.cd.enc (p, s)).2 = (spec_A2SameFractions.l4.st p s).map (encSum (fun s => spec_A2SameFractions.l4.cd.enc (p, s)) (spec_A2SameFractions.l4.out p)) := by kernel_rfl
theorem spec_A2SameFractions.l4.lok : LoopOK Try.prog spec_A2SameFractions.C ⟨[0, 1, 5], [4], spec_A2SameFractions.l4.c⟩ spec_A2SameFractions.b4 := loop_cd spec_A2SameFractions.l4.cd spec_A2SameFractions.hC spec_A2SameFractions.lp4 spec_A2SameFractions.l4.round fun p => Gets.leaf
theorem spec_A2SameFractions.lp : LpOK Try.prog spec_A2SameFractions.C spec_A2SameFractions.b := lp_of (by kernel_rfl) (LpsOK.cons (k := 4) (by kernel_rfl) (by kernel_rfl) spec_A2SameFractions.l4.lok LpsOK.nil)
noncomputable def spec_A2SameFractions.t (x0 : Nat) (x1 : List Int) : T Bool :=
  .br (((0 : Nat) : Int) != ((x0 : Nat) : Int))
  (.leaf false)
  (let y31 := (spec_A2SameFractions.l4.r (x0, (0 : Int), x1) ())
   .br (Option.isSome y31)
   (.leaf true)
   .bad)
noncomputable def spec_A2SameFractions (x0 : Nat) (x1 : List Int) : Bool := (spec_A2SameFractions.t x0 x1).val
noncomputable def spec_A2SameFractions.ok (x0 : Nat) (x1 : List Int) : Bool := (spec_A2SameFractions.t x0 x1).ok
def spec_A2SameFractions.cd : Cd (Nat × List Int) (List V × Hp) := Cd.iso (Cd.pair (Cd.cons Cd.sn (Cd.cons (Cd.own 0) Cd.nil)) (Cd.cons (Cd.rw 36 2 (Cd.is .i64)) Cd.nil)) (fun a => (a.1.2.1, a.2.1)) (fun a => (((), (a.1, ())), (a.2, ()))) (fun _ => rfl)
noncomputable def spec_A2SameFractions.tr (a : Nat × List Int) : T Bool := spec_A2SameFractions.t a.1 a.2
def spec_A2SameFractions.enc : (Nat × List Int) → Bool → V := fun a r => .bo r
noncomputable def spec_A2SameFractions.c : List V → Hp → T V := cdQ spec_A2SameFractions.cd (fun a => .br (spec_A2SameFractions.ok a.1 a.2) (.leaf (spec_A2SameFractions.enc a (spec_A2SameFractions a.1 a.2))) .bad)
theorem spec_A2SameFractions.run (a : Nat × List Int) : runF spec_A2SameFractions.C Try.f21.results.toList spec_A2SameFractions.b (spec_A2SameFractions.cd.enc a).1 (spec_A2SameFractions.cd.enc a).2 = (spec_A2SameFractions.tr a).map fun r => (spec_A2SameFractions.enc a r, (spec_A2SameFractions.cd.enc a).2) := by kernel_rfl
theorem spec_A2SameFractions.cok : OKq Try.prog 21 spec_A2SameFractions.c := con_q' spec_A2SameFractions.cd spec_A2SameFractions.hC Try.func21 (by kernel_rfl) (by kernel_rfl) (by kernel_rfl) spec_A2SameFractions.lp (fun a => by kernel_rfl) spec_A2SameFractions.run (Tells.ok (tree := spec_A2SameFractions.tr))
/-! ### laws_a2Far -/
noncomputable def laws_a2Far.b : Code := bodyOf Try.f22
noncomputable def laws_a2Far.C : Ctx := { ty := tys, fn := [], lp := [], n := 24, k := 0, eq := eqs }
theorem laws_a2Far.hC : CtxOK Try.prog laws_a2Far.C := CtxOK.of mo tys_ok FnsOK.nil eqs_ok
theorem laws_a2Far.lp : LpOK Try.prog laws_a2Far.C laws_a2Far.b := (LpOK.nil (by kernel_rfl))
noncomputable def laws_a2Far.t (x0 : Int) (x1 : Int) (x2 : Int) (x3 : Int) : T (Int × Int) :=
  .leaf ((if (IntKind.wrap .i64 (0 - (IntKind.wrap .i64 ((IntKind.wrap .i64 (x0 * x3)) - (IntKind.wrap .i64 (x2 * x1)))))) > (IntKind.wrap .i64 ((IntKind.wrap .i64 (x0 * x3)) - (IntKind.wrap .i64 (x2 * x1)))) then (IntKind.wrap .i64 (0 - (IntKind.wrap .i64 ((IntKind.wrap .i64 (x0 * x3)) - (IntKind.wrap .i64 (x2 * x1)))))) else (IntKind.wrap .i64 ((IntKind.wrap .i64 (x0 * x3)) - (IntKind.wrap .i64 (x2 * x1))))), x3)
noncomputable def laws_a2Far (x0 : Int) (x1 : Int) (x2 : Int) (x3 : Int) : Int × Int := (laws_a2Far.t x0 x1 x2 x3).val
def laws_a2Far.cd : Cd (Int × Int × Int × Int) (List V × Hp) := Cd.iso (Cd.pair (Cd.cons (Cd.agg (Cd.cons (Cd.it .i64) (Cd.cons (Cd.it .i64) Cd.nil))) (Cd.cons (Cd.agg (Cd.cons (Cd.it .i64) (Cd.cons (Cd.it .i64) Cd.nil))) Cd.nil)) Cd.nil) (fun a => (a.1.1.1, a.1.1.2.1, a.1.2.1.1, a.1.2.1.2.1)) (fun a => (((a.1, (a.2.1, ())), ((a.2.2.1, (a.2.2.2, ())), ())), ())) (fun _ => rfl)
noncomputable def laws_a2Far.tr (a : Int × Int × Int × Int) : T (Int × Int) := laws_a2Far.t a.1 a.2.1 a.2.2.1 a.2.2.2
def laws_a2Far.enc : (Int × Int × Int × Int) → (Int × Int) → V := fun a r => .tup [.it .i64 r.1, .it .i64 r.2]
noncomputable def laws_a2Far.c : List V → Hp → T V := cdQ laws_a2Far.cd (fun a => .leaf (laws_a2Far.enc a (laws_a2Far a.1 a.2.1 a.2.2.1 a.2.2.2)))
theorem laws_a2Far.run (a : Int × Int × Int × Int) : runF laws_a2Far.C Try.f22.results.toList laws_a2Far.b (laws_a2Far.cd.enc a).1 (laws_a2Far.cd.enc a).2 = (laws_a2Far.tr a).map fun r => (laws_a2Far.enc a r, (laws_a2Far.cd.enc a).2) := by kernel_rfl
theorem laws_a2Far.cok : OKq Try.prog 22 laws_a2Far.c := con_q' laws_a2Far.cd laws_a2Far.hC Try.func22 (by kernel_rfl) (by kernel_rfl) (by kernel_rfl) laws_a2Far.lp (fun a => by kernel_rfl) laws_a2Far.run (Tells.val (tree := laws_a2Far.tr) fun a => by kernel_rfl)
/-! ### spec_A2SameFractions_w1 -/
noncomputable def spec_A2SameFractions_w1.b : Code := bodyOf Try.f21
noncomputable def spec_A2SameFractions_w1.l4.s (x0 : Nat) (x1 : Nat) (x2 : Int) (x3 : List Int) (x4 : List Int) : T (Int ⊕ (Bool ⊕ Unit)) :=
  .br (decide (x2 < ((x0 : Nat) : Int)))
  (.br (bounds x2 x0)
   (.br (Nat.ble ((Int.toNat x2 * 2) + 2) (List.length x3))
    (.br (bounds x2 x1)
     (.br (Nat.ble ((Int.toNat x2 * 2) + 2) (List.length x4))
      (.br (!(eqInts [(List.getD x3 (Int.toNat x2 * 2) 0), (List.getD x3 ((Int.toNat x2 * 2) + 1) 0)] [(List.getD x4 (Int.toNat x2 * 2) 0), (List.getD x4 ((Int.toNat x2 * 2) + 1) 0)]))
       (.leaf (.inr (.inl false)))
       (.leaf (.inl (IntKind.wrap .i64 (x2 + (1 : Int))))))
      .bad)
     .bad)
    .bad)
   .bad)
  (.leaf (.inr (.inr ())))
noncomputable def spec_A2SameFractions_w1.l4.st (p : Nat × Nat × List Int × List Int) (x : Int) : T (Int ⊕ (Bool ⊕ Unit)) := spec_A2SameFractions_w1.l4.s p.1 p.2.1 x p.2.2.1 p.2.2.2
noncomputable def spec_A2SameFractions_w1.l4.r (p : Nat × Nat × List Int × List Int) (x : Int) : Option (Bool ⊕ Unit) := iterT (spec_A2SameFractions_w1.l4.st p) manyRounds x
def spec_A2SameFractions_w1.l4.cd : Cd ((Nat × Nat × List Int × List Int) × Int) (List V × Hp) := Cd.iso (Cd.pair (Cd.cons (Cd.own 0) (Cd.cons (Cd.own 1) (Cd.cons (Cd.it .i64) Cd.nil))) (Cd.cons (Cd.rw 36 2 (Cd.is .i64)) (Cd.cons (Cd.rw 36 2 (Cd.is .i64)) Cd.nil))) (fun a => ((a.1.1, a.1.2.1, a.2.1, a.2.2.1), a.1.2.2.1)) (fun a => ((a.1.1, (a.1.2.1, (a.2, ()))), (a.1.2.2.1, (a.1.2.2.2, ())))) (fun _ => rfl)
def spec_A2SameFractions_w1.l4.out (p : Nat × Nat × List Int × List Int) : (Bool ⊕ Unit) → X × List V × Hp := sumO (fun r => (.ret, [.bo r], [some ⟨true, 36, 2, .is .i64 p.2.2.1⟩, some ⟨true, 36, 2, .is .i64 p.2.2.2⟩])) (fun r => (.ex 0, [.unk], [some ⟨true, 36, 2, .is .i64 p.2.2.1⟩, some ⟨true, 36, 2, .is .i64 p.2.2.2⟩]))
def spec_A2SameFractions_w1.l4.ex (p : Nat × Nat × List Int × List Int) : (Bool ⊕ Unit) → T (X × List V × Hp) := sumT (leafT (fun r => (.ret, [.bo r], [some ⟨true, 36, 2, .is .i64 p.2.2.1⟩, some ⟨true, 36, 2, .is .i64 p.2.2.2⟩]))) (leafT (fun r => (.ex 0, [.unk], [some ⟨true, 36, 2, .is .i64 p.2.2.1⟩, some ⟨true, 36, 2, .is .i64 p.2.2.2⟩])))
noncomputable def spec_A2SameFractions_w1.l4.c : List V → Hp → T (X × List V × Hp) := cdL spec_A2SameFractions_w1.l4.cd fun x => optT (spec_A2SameFractions_w1.l4.r x.1 x.2) (spec_A2SameFractions_w1.l4.ex x.1)
noncomputable def spec_A2SameFractions_w1.C : Ctx := { ty := tys, fn := [], lp := [(4, ⟨[0, 1, 5], [4], spec_A2SameFractions_w1.l4.c⟩)], n := 26, k := 2, eq := eqs }
theorem spec_A2SameFractions_w1.hC : CtxOK Try.prog spec_A2SameFractions_w1.C := CtxOK.of mo tys_ok FnsOK.nil eqs_ok
noncomputable def spec_A2SameFractions_w1.b4 : Code := (nthC (loopsOf spec_A2SameFractions_w1.b) 0)
theorem spec_A2SameFractions_w1.lp4 : LpOK Try.prog spec_A2SameFractions_w1.C spec_A2SameFractions_w1.b4 := (LpOK.nil (by kernel_rfl))
theorem spec_A2SameFractions_w1.l4.round (p : Nat × Nat × List Int × List Int) (s : Int) : roundL spec_A2SameFractions_w1.C [0, 1, 5] [4] spec_A2SameFractions_w1.b4 (spec_A2SameFractions_w1.l4.cd.enc (p, s)).1 (spec_A2SameFractions_w1.l4.cd.enc (p, s)).2 = (spec_A2SameFractions_w1.l4.st p s).map (encSum (fun s => spec_A2SameFractions_w1.l4.cd.enc (p, s)) (spec_A2SameFractions_w1.l4.out p)) := by kernel_rfl
theorem spec_A2SameFractions_w1.l4.lok : LoopOK Try.prog spec_A2SameFractions_w1.C ⟨[0, 1, 5], [4], spec_A2SameFractions_w1.l4.c⟩ spec_A2SameFractions_w1.b4 := loop_cd spec_A2SameFractions_w1.l4.cd spec_A2SameFractions_w1.hC spec_A2SameFractions_w1.lp4 spec_A2SameFractions_w1.l4.round fun p => (Gets.sum Gets.leaf Gets.leaf)
theorem spec_A2SameFractions_w1.lp : LpOK Try.prog spec_A2SameFractions_w1.C spec_A2SameFractions_w1.b := lp_of (by kernel_rfl) (LpsOK.cons (k := 4) (by kernel_rfl) (by kernel_rfl) spec_A2SameFractions_w1.l4.lok LpsOK.nil)
noncomputable def spec_A2SameFractions_w1.t (x0 : Nat) (x1 : Nat) (x2 : List Int) (x3 : List Int) : T Bool :=
  .br (((x0 : Nat) : Int) != ((x1 : Nat) : Int))
  (.leaf false)
  (let y44 := (spec_A2SameFractions_w1.l4.r (x0, x1, x2, x3) (0 : Int))
   .br (Option.isSome y44)
   (.br (Sum.isLeft (Option.getD y44 default))
    (.leaf (getLeftD (Option.getD y44 default)))
    (.leaf true))
   .bad)
noncomputable def spec_A2SameFractions_w1 (x0 : Nat) (x1 : Nat) (x2 : List Int) (x3 : List Int) : Bool := (spec_A2SameFractions_w1.t x0 x1 x2 x3).val
noncomputable def spec_A2SameFractions_w1.ok (x0 : Nat) (x1 : Nat) (x2 : List Int) (x3 : List Int) : Bool := (spec_A2SameFractions_w1.t x0 x1 x2 x3).ok
def spec_A2SameFractions_w1.cd : Cd (Nat × Nat × List Int × List Int) (List V × Hp) := Cd.iso (Cd.pair (Cd.cons (Cd.own 0) (Cd.cons (Cd.own 1) Cd.nil)) (Cd.cons (Cd.rw 36 2 (Cd.is .i64)) (Cd.cons (Cd.rw 36 2 (Cd.is .i64)) Cd.nil))) (fun a => (a.1.1, a.1.2.1, a.2.1, a.2.2.1)) (fun a => ((a.1, (a.2.1, ())), (a.2.2.1, (a.2.2.2, ())))) (fun _ => rfl)
noncomputable def spec_A2SameFractions_w1.tr (a : Nat × Nat × List Int × List Int) : T Bool := spec_A2SameFractions_w1.t a.1 a.2.1 a.2.2.1 a.2.2.2
def spec_A2SameFractions_w1.enc : (Nat × Nat × List Int × List Int) → Bool → V := fun a r => .bo r
noncomputable def spec_A2SameFractions_w1.c : List V → Hp → T V := cdQ spec_A2SameFractions_w1.cd (fun a => .br (spec_A2SameFractions_w1.ok a.1 a.2.1 a.2.2.1 a.2.2.2) (.leaf (spec_A2SameFractions_w1.enc a (spec_A2SameFractions_w1 a.1 a.2.1 a.2.2.1 a.2.2.2))) .bad)
theorem spec_A2SameFractions_w1.run (a : Nat × Nat × List Int × List Int) : runF spec_A2SameFractions_w1.C Try.f21.results.toList spec_A2SameFractions_w1.b (spec_A2SameFractions_w1.cd.enc a).1 (spec_A2SameFractions_w1.cd.enc a).2 = (spec_A2SameFractions_w1.tr a).map fun r => (spec_A2SameFractions_w1.enc a r, (spec_A2SameFractions_w1.cd.enc a).2) := by kernel_rfl
theorem spec_A2SameFractions_w1.cok : OKq Try.prog 21 spec_A2SameFractions_w1.c := con_q' spec_A2SameFractions_w1.cd spec_A2SameFractions_w1.hC Try.func21 (by kernel_rfl) (by kernel_rfl) (by kernel_rfl) spec_A2SameFractions_w1.lp (fun a => by kernel_rfl) spec_A2SameFractions_w1.run (Tells.ok (tree := spec_A2SameFractions_w1.tr))
/-! ### laws_FnFractions -/
noncomputable def laws_FnFractions.b : Code := bodyOf Try.f4
noncomputable def laws_FnFractions.l14.s (x0 : Int) (x1 : Nat) (x2 : Int) (x3 : List Int) (x4 : List Int) (x5 : Int) (x6 : Int) (x7 : List Int) (x8 : Int) (x9 : Int) : T (Int ⊕ (Bool ⊕ Unit)) :=
  .br (decide (x2 < ((x1 : Nat) : Int)))
  (.join
   (.br (bounds x2 x1)
    (.br (Nat.ble (((Int.toNat x2 * 2) + 1) + 1) (List.length x7))
     (.br (decide ((List.getD x7 ((Int.toNat x2 * 2) + 1) 0) < (1 : Int)))
      (.leaf (some (.inr (.inl false))))
      (.br (bounds x2 x1)
       (.br (Nat.ble (((Int.toNat x2 * 2) + 1) + 1) (List.length x7))
        (.br (decide ((List.getD x7 ((Int.toNat x2 * 2) + 1) 0) > (1000 : Int)))
         (.leaf (some (.inr (.inl false))))
         (.br (decide (x2 > (0 : Int)))
          (.br (bounds x2 x1)
           (.br (Nat.ble (((Int.toNat x2 * 2) + 1) + 1) (List.length x7))
            (.br (bounds (IntKind.wrap .i64 (x2 - (1 : Int))) x1)
             (.br (Nat.ble (((Int.toNat (IntKind.wrap .i64 (x2 - (1 : Int))) * 2) + 1) + 1) (List.length x7))
              (.br (decide ((List.getD x7 ((Int.toNat x2 * 2) + 1) 0) < (List.getD x7 ((Int.toNat (IntKind.wrap .i64 (x2 - (1 : Int))) * 2) + 1) 0)))
               (.leaf (some (.inr (.inl false))))
               (.leaf none))
              .bad)
             .bad)
            .bad)
           .bad)
          (.leaf none)))
        .bad)
       .bad))
     .bad)
    .bad)
   (.br (decide (x2 > (0 : Int)))
    (.br (bounds x2 x1)
     (.br (Nat.ble ((Int.toNat x2 * 2) + 2) (List.length x7))
      (let y33 := (laws_a2Far x5 x6 (List.getD x7 (Int.toNat x2 * 2) 0) (List.getD x7 ((Int.toNat x2 * 2) + 1) 0))
       .br (bounds (IntKind.wrap .i64 (x2 - (1 : Int))) x1)
       (.br (Nat.ble ((Int.toNat (IntKind.wrap .i64 (x2 - (1 : Int))) * 2) + 2) (List.length x7))
        (let y34 := (laws_a2Far x5 x6 (List.getD x7 (Int.toNat (IntKind.wrap .i64 (x2 - (1 : Int))) * 2) 0) (List.getD x7 ((Int.toNat (IntKind.wrap .i64 (x2 - (1 : Int))) * 2) + 1) 0))
         .br (decide ((IntKind.wrap .i64 (y33.1 * y34.2)) > (IntKind.wrap .i64 (y34.1 * y33.2))))
         (.leaf (.inr (.inl false)))
         (.leaf (.inl (IntKind.wrap .i64 (x2 + (1 : Int))))))
        .bad)
       .bad)
      .bad)
     .bad)
    (.leaf (.inl (IntKind.wrap .i64 (x2 + (1 : Int)))))))
  (.leaf (.inr (.inr ())))
noncomputable def laws_FnFractions.l14.st (p : Int × Nat × List Int × List Int × Int × Int × List Int × Int × Int) (x : Int) : T (Int ⊕ (Bool ⊕ Unit)) := laws_FnFractions.l14.s p.1 p.2.1 x p.2.2.1 p.2.2.2.1 p.2.2.2.2.1 p.2.2.2.2.2.1 p.2.2.2.2.2.2.1 p.2.2.2.2.2.2.2.1 p.2.2.2.2.2.2.2.2
noncomputable def laws_FnFractions.l14.r (p : Int × Nat × List Int × List Int × Int × Int × List Int × Int × Int) (x : Int) : Option (Bool ⊕ Unit) := iterT (laws_FnFractions.l14.st p) manyRounds x
def laws_FnFractions.l14.cd : Cd ((Int × Nat × List Int × List Int × Int × Int × List Int × Int × Int) × Int) (List V × Hp) := Cd.iso (Cd.pair (Cd.cons (Cd.it .i64) (Cd.cons (Cd.pt 2 (Cd.natc 0)) (Cd.cons (Cd.own 3) (Cd.cons (Cd.pt 4 (Cd.natc 0)) (Cd.cons (Cd.it .i64) Cd.nil))))) (Cd.cons (Cd.ro 0 0 (Cd.is .u8)) (Cd.cons (Cd.ro 0 0 (Cd.is .u8)) (Cd.cons (Cd.rw 36 2 (Cd.vs (Cd.cons (Cd.it .i64) (Cd.cons (Cd.it .i64) Cd.nil)))) (Cd.cons (Cd.rw 36 2 (Cd.is .i64)) (Cd.cons (Cd.rw 36 2 (Cd.vs (Cd.cons (Cd.it .i64) (Cd.cons (Cd.it .i64) Cd.nil)))) Cd.nil)))))) (fun a => ((a.1.1, a.1.2.2.1, a.2.1, a.2.2.1, a.2.2.2.1.1, a.2.2.2.1.2.1, a.2.2.2.2.1, a.2.2.2.2.2.1.1, a.2.2.2.2.2.1.2.1), a.1.2.2.2.2.1)) (fun a => ((a.1.1, ((), (a.1.2.1, ((), (a.2, ()))))), (a.1.2.2.1, (a.1.2.2.2.1, ((a.1.2.2.2.2.1, (a.1.2.2.2.2.2.1, ())), (a.1.2.2.2.2.2.2.1, ((a.1.2.2.2.2.2.2.2.1, (a.1.2.2.2.2.2.2.2.2, ())), ()))))))) (fun _ => rfl)
def laws_FnFractions.l14.out (p : Int × Nat × List Int × List Int × Int × Int × List Int × Int × Int) : (Bool ⊕ Unit) → X × List V × Hp := sumO (fun r => (.ret, [.bo r, .it .i64 p.1, .pt 2 0, .pt 3 0], [some ⟨false, 0, 0, .is .u8 p.2.2.1⟩, some ⟨false, 0, 0, .is .u8 p.2.2.2.1⟩, some ⟨true, 36, 2, .vs [.it .i64 p.2.2.2.2.1, .it .i64 p.2.2.2.2.2.1]⟩, some ⟨true, 36, 2, .vs [.it .i64 p.2.2.2.2.2.2.2.1, .it .i64 p.2.2.2.2.2.2.2.2]⟩])) (fun r => (.ex 0, [.unk, .it .i64 p.1, .pt 2 0, .pt 3 0], [some ⟨false, 0, 0, .is .u8 p.2.2.1⟩, some ⟨false, 0, 0, .is .u8 p.2.2.2.1⟩, some ⟨true, 36, 2, .vs [.it .i64 p.2.2.2.2.1, .it .i64 p.2.2.2.2.2.1]⟩, some ⟨true, 36, 2, .vs [.it .i64 p.2.2.2.2.2.2.2.1, .it .i64 p.2.2.2.2.2.2.2.2]⟩]))
def laws_FnFractions.l14.ex (p : Int × Nat × List Int × List Int × Int × Int × List Int × Int × Int) : (Bool ⊕ Unit) → T (X × List V × Hp) := sumT (leafT (fun r => (.ret, [.bo r, .it .i64 p.1, .pt 2 0, .pt 3 0], [some ⟨false, 0, 0, .is .u8 p.2.2.1⟩, some ⟨false, 0, 0, .is .u8 p.2.2.2.1⟩, some ⟨true, 36, 2, .vs [.it .i64 p.2.2.2.2.1, .it .i64 p.2.2.2.2.2.1]⟩, some ⟨true, 36, 2, .vs [.it .i64 p.2.2.2.2.2.2.2.1, .it .i64 p.2.2.2.2.2.2.2.2]⟩]))) (leafT (fun r => (.ex 0, [.unk, .it .i64 p.1, .pt 2 0, .pt 3 0], [some ⟨false, 0, 0, .is .u8 p.2.2.1⟩, some ⟨false, 0, 0, .is .u8 p.2.2.2.1⟩, some ⟨true, 36, 2, .vs [.it .i64 p.2.2.2.2.1, .it .i64 p.2.2.2.2.2.1]⟩, some ⟨true, 36, 2, .vs [.it .i64 p.2.2.2.2.2.2.2.1, .it .i64 p.2.2.2.2.2.2.2.2]⟩])))
noncomputable def laws_FnFractions.l14.c : List V → Hp → T (X × List V × Hp) := cdL laws_FnFractions.l14.cd fun x => optT (laws_FnFractions.l14.r x.1 x.2) (laws_FnFractions.l14.ex x.1)
noncomputable def laws_FnFractions.l29.s (x0 : Int) (x1 : Int) (x2 : Int) (x3 : Int) (x4 : Int) (x5 : Int) (x6 : List Int) (x7 : List Int) (x8 : Int) (x9 : Int) (x10 : Int) (x11 : Int) : T (Int ⊕ (Bool ⊕ Unit)) :=
  .br (decide (x5 < (2 : Int)))
  (let y38 := (laws_a2Far x8 x9 (IntKind.wrap .i64 (x4 + x5)) x3)
   .br (decide ((IntKind.wrap .i64 (y38.1 * x2)) < (IntKind.wrap .i64 (x1 * y38.2))))
   (.leaf (.inr (.inl false)))
   (.br ((IntKind.wrap .i64 (y38.1 * x2)) == (IntKind.wrap .i64 (x1 * y38.2)))
    (.br (decide (x3 < x11))
     (.leaf (.inr (.inl false)))
     (.leaf (.inl (IntKind.wrap .i64 (x5 + (1 : Int))))))
    (.leaf (.inl (IntKind.wrap .i64 (x5 + (1 : Int)))))))
  (.leaf (.inr (.inr ())))
noncomputable def laws_FnFractions.l29.st (p : Int × Int × Int × Int × Int × List Int × List Int × Int × Int × Int × Int) (x : Int) : T (Int ⊕ (Bool ⊕ Unit)) := laws_FnFractions.l29.s p.1 p.2.1 p.2.2.1 p.2.2.2.1 p.2.2.2.2.1 x p.2.2.2.2.2.1 p.2.2.2.2.2.2.1 p.2.2.2.2.2.2.2.1 p.2.2.2.2.2.2.2.2.1 p.2.2.2.2.2.2.2.2.2.1 p.2.2.2.2.2.2.2.2.2.2
noncomputable def laws_FnFractions.l29.r (p : Int × Int × Int × Int × Int × List Int × List Int × Int × Int × Int × Int) (x : Int) : Option (Bool ⊕ Unit) := iterT (laws_FnFractions.l29.st p) manyRounds x
def laws_FnFractions.l29.cd : Cd ((Int × Int × Int × Int × Int × List Int × List Int × Int × Int × Int × Int) × Int) (List V × Hp) := Cd.iso (Cd.pair (Cd.cons (Cd.it .i64) (Cd.cons (Cd.pt 2 (Cd.natc 0)) (Cd.cons (Cd.pt 3 (Cd.natc 0)) (Cd.cons (Cd.it .i64) (Cd.cons (Cd.it .i64) (Cd.cons (Cd.it .i64) (Cd.cons (Cd.it .i64) (Cd.cons (Cd.it .i64) Cd.nil)))))))) (Cd.cons (Cd.ro 0 0 (Cd.is .u8)) (Cd.cons (Cd.ro 0 0 (Cd.is .u8)) (Cd.cons (Cd.rw 36 2 (Cd.vs (Cd.cons (Cd.it .i64) (Cd.cons (Cd.it .i64) Cd.nil)))) (Cd.cons (Cd.rw 36 2 (Cd.vs (Cd.cons (Cd.it .i64) (Cd.cons (Cd.it .i64) Cd.nil)))) Cd.nil))))) (fun a => ((a.1.1, a.1.2.2.2.1, a.1.2.2.2.2.1, a.1.2.2.2.2.2.1, a.1.2.2.2.2.2.2.1, a.2.1, a.2.2.1, a.2.2.2.1.1, a.2.2.2.1.2.1, a.2.2.2.2.1.1, a.2.2.2.2.1.2.1), a.1.2.2.2.2.2.2.2.1)) (fun a => ((a.1.1, ((), ((), (a.1.2.1, (a.1.2.2.1, (a.1.2.2.2.1, (a.1.2.2.2.2.1, (a.2, ())))))))), (a.1.2.2.2.2.2.1, (a.1.2.2.2.2.2.2.1, ((a.1.2.2.2.2.2.2.2.1, (a.1.2.2.2.2.2.2.2.2.1, ())), ((a.1.2.2.2.2.2.2.2.2.2.1, (a.1.2.2.2.2.2.2.2.2.2.2, ())), ())))))) (fun _ => rfl)
def laws_FnFractions.l29.out (p : Int × Int × Int × Int × Int × List Int × List Int × Int × Int × Int × Int) : (Bool ⊕ Unit) → X × List V × Hp := sumO (fun r => (.ret, [.bo r, .it .i64 p.1, .pt 2 0, .pt 3 0, .it .i64 p.2.1, .it .i64 p.2.2.1, .it .i64 p.2.2.2.1], [some ⟨false, 0, 0, .is .u8 p.2.2.2.2.2.1⟩, some ⟨false, 0, 0, .is .u8 p.2.2.2.2.2.2.1⟩, some ⟨true, 36, 2, .vs [.it .i64 p.2.2.2.2.2.2.2.1, .it .i64 p.2.2.2.2.2.2.2.2.1]⟩, some ⟨true, 36, 2, .vs [.it .i64 p.2.2.2.2.2.2.2.2.2.1, .it .i64 p.2.2.2.2.2.2.2.2.2.2]⟩])) (fun r => (.ex 4, [.unk, .it .i64 p.1, .pt 2 0, .pt 3 0, .it .i64 p.2.1, .it .i64 p.2.2.1, .it .i64 p.2.2.2.1], [some ⟨false, 0, 0, .is .u8 p.2.2.2.2.2.1⟩, some ⟨false, 0, 0, .is .u8 p.2.2.2.2.2.2.1⟩, some ⟨true, 36, 2, .vs [.it .i64 p.2.2.2.2.2.2.2.1, .it .i64 p.2.2.2.2.2.2.2.2.1]⟩, some ⟨true, 36, 2, .vs [.it .i64 p.2.2.2.2.2.2.2.2.2.1, .it .i64 p.2.2.2.2.2.2.2.2.2.2]⟩]))
def laws_FnFractions.l29.ex (p : Int × Int × Int × Int × Int × List Int × List Int × Int × Int × Int × Int) : (Bool ⊕ Unit) → T (X × List V × Hp) := sumT (leafT (fun r => (.ret, [.bo r, .it .i64 p.1, .pt 2 0, .pt 3 0, .it .i64 p.2.1, .it .i64 p.2.2.1, .it .i64 p.2.2.2.1], [some ⟨false, 0, 0, .is .u8 p.2.2.2.2.2.1⟩, some ⟨false, 0, 0, .is .u8 p.2.2.2.2.2.2.1⟩, some ⟨true, 36, 2, .vs [.it .i64 p.2.2.2.2.2.2.2.1, .it .i64 p.2.2.2.2.2.2.2.2.1]⟩, some ⟨true, 36, 2, .vs [.it .i64 p.2.2.2.2.2.2.2.2.2.1, .it .i64 p.2.2.2.2.2.2.2.2.2.2]⟩]))) (leafT (fun r => (.ex 4, [.unk, .it .i64 p.1, .pt 2 0, .pt 3 0, .it .i64 p.2.1, .it .i64 p.2.2.1, .it .i64 p.2.2.2.1], [some ⟨false, 0, 0, .is .u8 p.2.2.2.2.2.1⟩, some ⟨false, 0, 0, .is .u8 p.2.2.2.2.2.2.1⟩, some ⟨true, 36, 2, .vs [.it .i64 p.2.2.2.2.2.2.2.1, .it .i64 p.2.2.2.2.2.2.2.2.1]⟩, some ⟨true, 36, 2, .vs [.it .i64 p.2.2.2.2.2.2.2.2.2.1, .it .i64 p.2.2.2.2.2.2.2.2.2.2]⟩])))
noncomputable def laws_FnFractions.l29.c : List V → Hp → T (X × List V × Hp) := cdL laws_FnFractions.l29.cd fun x => optT (laws_FnFractions.l29.r x.1 x.2) (laws_FnFractions.l29.ex x.1)
noncomputable def laws_FnFractions.l25.s (x0 : Int) (x1 : Int) (x2 : Int) (x3 : Int) (x4 : List Int) (x5 : List Int) (x6 : Int) (x7 : Int) (x8 : Int) (x9 : Int) : T (Int ⊕ (Bool ⊕ Unit)) :=
  .br (decide (x3 ≤ x0))
  (.br (x7 == 0)
   .bad
   (let y39 := (laws_FnFractions.l29.r (x0, x1, x2, x3, (IntKind.wrap .i64 (Int.tdiv (IntKind.wrap .i64 (x6 * x3)) x7)), x4, x5, x6, x7, x8, x9) (0 : Int))
    .br (Option.isSome y39)
    (.br (Sum.isLeft (Option.getD y39 default))
     (.leaf (.inr (.inl (getLeftD (Option.getD y39 default)))))
     (.leaf (.inl (IntKind.wrap .i64 (x3 + (1 : Int))))))
    .bad))
  (.leaf (.inr (.inr ())))
noncomputable def laws_FnFractions.l25.st (p : Int × Int × Int × List Int × List Int × Int × Int × Int × Int) (x : Int) : T (Int ⊕ (Bool ⊕ Unit)) := laws_FnFractions.l25.s p.1 p.2.1 p.2.2.1 x p.2.2.2.1 p.2.2.2.2.1 p.2.2.2.2.2.1 p.2.2.2.2.2.2.1 p.2.2.2.2.2.2.2.1 p.2.2.2.2.2.2.2.2
noncomputable def laws_FnFractions.l25.r (p : Int × Int × Int × List Int × List Int × Int × Int × Int × Int) (x : Int) : Option (Bool ⊕ Unit) := iterT (laws_FnFractions.l25.st p) manyRounds x
def laws_FnFractions.l25.cd : Cd ((Int × Int × Int × List Int × List Int × Int × Int × Int × Int) × Int) (List V × Hp) := Cd.iso (Cd.pair (Cd.cons (Cd.it .i64) (Cd.cons (Cd.pt 2 (Cd.natc 0)) (Cd.cons (Cd.pt 3 (Cd.natc 0)) (Cd.cons (Cd.it .i64) (Cd.cons (Cd.it .i64) (Cd.cons (Cd.it .i64) Cd.nil)))))) (Cd.cons (Cd.ro 0 0 (Cd.is .u8)) (Cd.cons (Cd.ro 0 0 (Cd.is .u8)) (Cd.cons (Cd.rw 36 2 (Cd.vs (Cd.cons (Cd.it .i64) (Cd.cons (Cd.it .i64) Cd.nil)))) (Cd.cons (Cd.rw 36 2 (Cd.vs (Cd.cons (Cd.it .i64) (Cd.cons (Cd.it .i64) Cd.nil)))) Cd.nil))))) (fun a => ((a.1.1, a.1.2.2.2.1, a.1.2.2.2.2.1, a.2.1, a.2.2.1, a.2.2.2.1.1, a.2.2.2.1.2.1, a.2.2.2.2.1.1, a.2.2.2.2.1.2.1), a.1.2.2.2.2.2.1)) (fun a => ((a.1.1, ((), ((), (a.1.2.1, (a.1.2.2.1, (a.2, ())))))), (a.1.2.2.2.1, (a.1.2.2.2.2.1, ((a.1.2.2.2.2.2.1, (a.1.2.2.2.2.2.2.1, ())), ((a.1.2.2.2.2.2.2.2.1, (a.1.2.2.2.2.2.2.2.2, ())), ())))))) (fun _ => rfl)
def laws_FnFractions.l25.out (p : Int × Int × Int × List Int × List Int × Int × Int × Int × Int) : (Bool ⊕ Unit) → X × List V × Hp := sumO (fun r => (.ret, [.bo r], [some ⟨false, 0, 0, .is .u8 p.2.2.2.1⟩, some ⟨false, 0, 0, .is .u8 p.2.2.2.2.1⟩])) (fun r => (.ex 2, [.unk], [some ⟨false, 0, 0, .is .u8 p.2.2.2.1⟩, some ⟨false, 0, 0, .is .u8 p.2.2.2.2.1⟩]))
def laws_FnFractions.l25.ex (p : Int × Int × Int × List Int × List Int × Int × Int × Int × Int) : (Bool ⊕ Unit) → T (X × List V × Hp) := sumT (leafT (fun r => (.ret, [.bo r], [some ⟨false, 0, 0, .is .u8 p.2.2.2.1⟩, some ⟨false, 0, 0, .is .u8 p.2.2.2.2.1⟩]))) (leafT (fun r => (.ex 2, [.unk], [some ⟨false, 0, 0, .is .u8 p.2.2.2.1⟩, some ⟨false, 0, 0, .is .u8 p.2.2.2.2.1⟩])))
noncomputable def laws_FnFractions.l25.c : List V → Hp → T (X × List V × Hp) := cdL laws_FnFractions.l25.cd fun x => optT (laws_FnFractions.l25.r x.1 x.2) (laws_FnFractions.l25.ex x.1)
noncomputable def laws_FnFractions.C : Ctx := { ty := tys, fn := [(12, .q laws_a2Long.c), (13, .q spec_A2Target.c), (14, .q laws_a2At.c), (15, .q impl_ExactOf.c), (16, .q spec_ExactOf.c), (17, .e impl_ConvergentsOf.c), (18, .e spec_ConvergentsOf.c), (19, .q impl_NearestFraction.c), (20, .q spec_NearestFraction.c), (21, .q (altQ spec_A2SameFractions.c spec_A2SameFractions_w1.c)), (22, .q laws_a2Far.c)], lp := [(14, ⟨[6, 9, 13, 17, 19], [4, 6, 9, 17], laws_FnFractions.l14.c⟩), (25, ⟨[6, 9, 17, 24, 25, 26], [4], laws_FnFractions.l25.c⟩), (29, ⟨[6, 9, 17, 24, 25, 26, 27, 28], [4, 6, 9, 17, 24, 25, 26], laws_FnFractions.l29.c⟩)], n := 270, k := 2, eq := eqs }
theorem laws_FnFractions.hC : CtxOK Try.prog laws_FnFractions.C := CtxOK.of mo tys_ok (FnsOK.cons laws_a2Long.cok (FnsOK.cons spec_A2Target.cok (FnsOK.cons laws_a2At.cok (FnsOK.cons impl_ExactOf.cok (FnsOK.cons spec_ExactOf.cok (FnsOK.cons impl_ConvergentsOf.cok (FnsOK.cons spec_ConvergentsOf.cok (FnsOK.cons impl_NearestFraction.cok (FnsOK.cons spec_NearestFraction.cok (FnsOK.cons (OKq.alt spec_A2SameFractions.cok spec_A2SameFractions_w1.cok) (FnsOK.cons laws_a2Far.cok FnsOK.nil))))))))))) eqs_ok
noncomputable def laws_FnFractions.b14 : Code := (nthC (loopsOf laws_FnFractions.b) 0)
theorem laws_FnFractions.lp14 : LpOK Try.prog laws_FnFractions.C laws_FnFractions.b14 := (LpOK.nil (by kernel_rfl))
theorem laws_FnFractions.l14.round (p : Int × Nat × List Int × List Int × Int × Int × List Int × Int × Int) (s : Int) : roundL laws_FnFractions.C [6, 9, 13, 17, 19] [4, 6, 9, 17] laws_FnFractions.b14 (laws_FnFractions.l14.cd.enc (p, s)).1 (laws_FnFractions.l14.cd.enc (p, s)).2 = (laws_FnFractions.l14.st p s).map (encSum (fun s => laws_FnFractions.l14.cd.enc (p, s)) (laws_FnFractions.l14.out p)) := by kernel_rfl
theorem laws_FnFractions.l14.lok : LoopOK Try.prog laws_FnFractions.C ⟨[6, 9, 13, 17, 19], [4, 6, 9, 17], laws_FnFractions.l14.c⟩ laws_FnFractions.b14 := loop_cd laws_FnFractions.l14.cd laws_FnFractions.hC laws_FnFractions.lp14 laws_FnFractions.l14.round fun p => (Gets.sum Gets.leaf Gets.leaf)
noncomputable def laws_FnFractions.b29 : Code := (nthC (loopsOf (nthC (loopsOf laws_FnFractions.b) 1)) 0)
theorem laws_FnFractions.lp29 : LpOK Try.prog laws_FnFractions.C laws_FnFractions.b29 := (LpOK.nil (by kernel_rfl))
theorem laws_FnFractions.l29.round (p : Int × Int × Int × Int × Int × List Int × List Int × Int × Int × Int × Int) (s : Int) : roundL laws_FnFractions.C [6, 9, 17, 24, 25, 26, 27, 28] [4, 6, 9, 17, 24, 25, 26] laws_FnFractions.b29 (laws_FnFractions.l29.cd.enc (p, s)).1 (laws_FnFractions.l29.cd.enc (p, s)).2 = (laws_FnFractions.l29.st p s).map (encSum (fun s => laws_FnFractions.l29.cd.enc (p, s)) (laws_FnFractions.l29.out p)) := by kernel_rfl
theorem laws_FnFractions.l29.lok : LoopOK Try.prog laws_FnFractions.C ⟨[6, 9, 17, 24, 25, 26, 27, 28], [4, 6, 9, 17, 24, 25, 26], laws_FnFractions.l29.c⟩ laws_FnFractions.b29 := loop_cd laws_FnFractions.l29.cd laws_FnFractions.hC laws_FnFractions.lp29 laws_FnFractions.l29.round fun p => (Gets.sum Gets.leaf Gets.leaf)
noncomputable def laws_FnFractions.b25 : Code := (nthC (loopsOf laws_FnFractions.b) 1)
theorem laws_FnFractions.lp25 : LpOK Try.prog laws_FnFractions.C laws_FnFractions.b25 := lp_of (by kernel_rfl) (LpsOK.cons (k := 29) (by kernel_rfl) (by kernel_rfl) laws_FnFractions.l29.lok LpsOK.nil)
theorem laws_FnFractions.l25.round (p : Int × Int × Int × List Int × List Int × Int × Int × Int × Int) (s : Int) : roundL laws_FnFractions.C [6, 9, 17, 24, 25, 26] [4] laws_FnFractions.b25 (laws_FnFractions.l25.cd.enc (p, s)).1 (laws_FnFractions.l25.cd.enc (p, s)).2 = (laws_FnFractions.l25.st p s).map (encSum (fun s => laws_FnFractions.l25.cd.enc (p, s)) (laws_FnFractions.l25.out p)) := by kernel_rfl
theorem laws_FnFractions.l25.lok : LoopOK Try.prog laws_FnFractions.C ⟨[6, 9, 17, 24, 25, 26], [4], laws_FnFractions.l25.c⟩ laws_FnFractions.b25 := loop_cd laws_FnFractions.l25.cd laws_FnFractions.hC laws_FnFractions.lp25 laws_FnFractions.l25.round fun p => (Gets.sum Gets.leaf Gets.leaf)
theorem laws_FnFractions.lp : LpOK Try.prog laws_FnFractions.C laws_FnFractions.b := lp_of (by kernel_rfl) (LpsOK.cons (k := 14) (by kernel_rfl) (by kernel_rfl) laws_FnFractions.l14.lok (LpsOK.cons (k := 25) (by kernel_rfl) (by kernel_rfl) laws_FnFractions.l25.lok LpsOK.nil))
noncomputable def laws_FnFractions.t (x0 : Nat) (x1 : Nat) (x2 : List Int) (x3 : List Int) : T Bool :=
  let y1 := (laws_a2Long x0 x1 x2 x3)
  .br y1
  (.leaf true)
  (let y23 := (spec_A2Target x0 x2)
   .br (spec_A2Target.ok x0 x2)
   (let y24 := (laws_a2At x1 (0 : Int) (120 : Int) x3)
    .br (laws_a2At.ok x1 (0 : Int) (120 : Int) x3)
    (let y25 := (impl_ExactOf y23)
     .br (impl_ExactOf.ok y23)
     (let y26 := (spec_ExactOf y23)
      .br (spec_ExactOf.ok y23)
      (let y27 := (impl_ConvergentsOf y23 (1000 : Int))
       .br (impl_ConvergentsOf.ok y23 (1000 : Int))
       (.br (Sum.isLeft y27)
        (let y28 := (spec_ConvergentsOf y23 (1000 : Int))
         .br (spec_ConvergentsOf.ok y23 (1000 : Int))
         (let y29 := (impl_NearestFraction y23 (IntKind.wrap .i64 ((1 : Int) + y24)))
          .br (impl_NearestFraction.ok y23 (IntKind.wrap .i64 ((1 : Int) + y24)))
          (let y30 := (spec_NearestFraction y23 (IntKind.wrap .i64 ((1 : Int) + y24)))
           .br (spec_NearestFraction.ok y23 (IntKind.wrap .i64 ((1 : Int) + y24)))
           (.br (y25.2.2 != y26.2.2)
            (.leaf false)
            (.br (y25.2.2 != (0 : Int))
             (.leaf false)
             (.br (!(eqInts [y25.1, y25.2.1] [y26.1, y26.2.1]))
              (.leaf false)
              (.br (decide (y26.2.1 < (1 : Int)))
               (.leaf false)
               (.br (fcvOpen .f64 .f32 (fdiv .f64 (fofint .f64 y26.1) (fofint .f64 y26.2.1)))
                .bad
                (.br (fne .f32 (fcv .f64 .f32 (fdiv .f64 (fofint .f64 y26.1) (fofint .f64 y26.2.1))) y23)
                 (.leaf false)
                 (.br ((getLeftD y27) != y28.2.1)
                  (.leaf false)
                  (.br ((getLeftD y27) != (0 : Int))
                   (.leaf false)
                   (let y32 := (spec_A2SameFractions y28.1 y28.2.2)
                    .br (spec_A2SameFractions.ok y28.1 y28.2.2)
                    (.br (!y32)
                     (.leaf false)
                     (.br (decide (((y28.1 : Nat) : Int) < (1 : Int)))
                      (.leaf false)
                      (.br (y29.2.2 != y30.2.2)
                       (.leaf false)
                       (.br (y29.2.2 != (0 : Int))
                        (.leaf false)
                        (.br (!(eqInts [y29.1, y29.2.1] [y30.1, y30.2.1]))
                         (.leaf false)
                         (.br (decide (y30.2.1 < (1 : Int)))
                          (.leaf false)
                          (.br (decide (y30.2.1 > (IntKind.wrap .i64 ((1 : Int) + y24))))
                           (.leaf false)
                           (.br (decide (y30.1 < (0 : Int)))
                            (.leaf false)
                            (let y36 := (laws_FnFractions.l14.r ((IntKind.wrap .i64 ((1 : Int) + y24)), y28.1, x2, x3, y26.1, y26.2.1, y28.2.2, y30.1, y30.2.1) (0 : Int))
                             .br (Option.isSome y36)
                             (.br (Sum.isLeft (Option.getD y36 default))
                              (.leaf (getLeftD (Option.getD y36 default)))
                              (let y37 := (laws_a2Far y26.1 y26.2.1 y30.1 y30.2.1)
                               let y40 := (laws_FnFractions.l25.r ((IntKind.wrap .i64 ((1 : Int) + y24)), y37.1, y37.2, x2, x3, y26.1, y26.2.1, y30.1, y30.2.1) (1 : Int))
                               .br (Option.isSome y40)
                               (.br (Sum.isLeft (Option.getD y40 default))
                                (.leaf (getLeftD (Option.getD y40 default)))
                                (.leaf true))
                               .bad))
                             .bad)))))))))
                    .bad)))))))))
           .bad)
          .bad)
         .bad)
        (let y41 := (spec_ConvergentsOf y23 (1000 : Int))
         .br (spec_ConvergentsOf.ok y23 (1000 : Int))
         (let y42 := (impl_NearestFraction y23 (IntKind.wrap .i64 ((1 : Int) + y24)))
          .br (impl_NearestFraction.ok y23 (IntKind.wrap .i64 ((1 : Int) + y24)))
          (let y43 := (spec_NearestFraction y23 (IntKind.wrap .i64 ((1 : Int) + y24)))
           .br (spec_NearestFraction.ok y23 (IntKind.wrap .i64 ((1 : Int) + y24)))
           (.br (y25.2.2 != y26.2.2)
            (.leaf false)
            (.br (y25.2.2 != (0 : Int))
             (.leaf false)
             (.br (!(eqInts [y25.1, y25.2.1] [y26.1, y26.2.1]))
              (.leaf false)
              (.br (decide (y26.2.1 < (1 : Int)))
               (.leaf false)
               (.br (fcvOpen .f64 .f32 (fdiv .f64 (fofint .f64 y26.1) (fofint .f64 y26.2.1)))
                .bad
                (.br (fne .f32 (fcv .f64 .f32 (fdiv .f64 (fofint .f64 y26.1) (fofint .f64 y26.2.1))) y23)
                 (.leaf false)
                 (.br ((getRightD y27).2.1 != y41.2.1)
                  (.leaf false)
                  (.br ((getRightD y27).2.1 != (0 : Int))
                   (.leaf false)
                   (let y45 := (spec_A2SameFractions_w1 ((getRightD y27).1) y41.1 ((getRightD y27).2.2) y41.2.2)
                    .br (spec_A2SameFractions_w1.ok ((getRightD y27).1) y41.1 ((getRightD y27).2.2) y41.2.2)
                    (.br (!y45)
                     (.leaf false)
                     (.br (decide (((y41.1 : Nat) : Int) < (1 : Int)))
                      (.leaf false)
                      (.br (y42.2.2 != y43.2.2)
                       (.leaf false)
                       (.br (y42.2.2 != (0 : Int))
                        (.leaf false)
                        (.br (!(eqInts [y42.1, y42.2.1] [y43.1, y43.2.1]))
                         (.leaf false)
                         (.br (decide (y43.2.1 < (1 : Int)))
                          (.leaf false)
                          (.br (decide (y43.2.1 > (IntKind.wrap .i64 ((1 : Int) + y24))))
                           (.leaf false)
                           (.br (decide (y43.1 < (0 : Int)))
                            (.leaf false)
                            (let y46 := (laws_FnFractions.l14.r ((IntKind.wrap .i64 ((1 : Int) + y24)), y41.1, x2, x3, y26.1, y26.2.1, y41.2.2, y43.1, y43.2.1) (0 : Int))
                             .br (Option.isSome y46)
                             (.br (Sum.isLeft (Option.getD y46 default))
                              (.leaf (getLeftD (Option.getD y46 default)))
                              (let y47 := (laws_a2Far y26.1 y26.2.1 y43.1 y43.2.1)
                               let y48 := (laws_FnFractions.l25.r ((IntKind.wrap .i64 ((1 : Int) + y24)), y47.1, y47.2, x2, x3, y26.1, y26.2.1, y43.1, y43.2.1) (1 : Int))
                               .br (Option.isSome y48)
                               (.br (Sum.isLeft (Option.getD y48 default))
                                (.leaf (getLeftD (Option.getD y48 default)))
                                (.leaf true))
                               .bad))
                             .bad)))))))))
                    .bad)))))))))
           .bad)
          .bad)
         .bad))
       .bad)
      .bad)
     .bad)
    .bad)
   .bad)
noncomputable def laws_FnFractions (x0 : Nat) (x1 : Nat) (x2 : List Int) (x3 : List Int) : Bool := (laws_FnFractions.t x0 x1 x2 x3).val
noncomputable def laws_FnFractions.ok (x0 : Nat) (x1 : Nat) (x2 : List Int) (x3 : List Int) : Bool := (laws_FnFractions.t x0 x1 x2 x3).ok
def laws_FnFractions.cd : Cd (Nat × Nat × List Int × List Int) (List V × Hp) := Cd.iso (Cd.pair (Cd.cons (Cd.sl 0 (Cd.natc 0)) (Cd.cons (Cd.sl 1 (Cd.natc 0)) Cd.nil)) (Cd.cons (Cd.ro 0 0 (Cd.is .u8)) (Cd.cons (Cd.ro 0 0 (Cd.is .u8)) Cd.nil))) (fun a => (a.1.1.2, a.1.2.1.2, a.2.1, a.2.2.1)) (fun a => ((((), a.1), (((), a.2.1), ())), (a.2.2.1, (a.2.2.2, ())))) (fun _ => rfl)
noncomputable def laws_FnFractions.tr (a : Nat × Nat × List Int × List Int) : T Bool := laws_FnFractions.t a.1 a.2.1 a.2.2.1 a.2.2.2
def laws_FnFractions.enc : (Nat × Nat × List Int × List Int) → Bool → V := fun a r => .bo r
noncomputable def laws_FnFractions.c : List V → Hp → T V := cdQ laws_FnFractions.cd (fun a => .br (laws_FnFractions.ok a.1 a.2.1 a.2.2.1 a.2.2.2) (.leaf (laws_FnFractions.enc a (laws_FnFractions a.1 a.2.1 a.2.2.1 a.2.2.2))) .bad)
theorem laws_FnFractions.run (a : Nat × Nat × List Int × List Int) : runF laws_FnFractions.C Try.f4.results.toList laws_FnFractions.b (laws_FnFractions.cd.enc a).1 (laws_FnFractions.cd.enc a).2 = (laws_FnFractions.tr a).map fun r => (laws_FnFractions.enc a r, (laws_FnFractions.cd.enc a).2) := by kernel_rfl
theorem laws_FnFractions.cok : OKq Try.prog 4 laws_FnFractions.c := con_q' laws_FnFractions.cd laws_FnFractions.hC Try.func4 (by kernel_rfl) (by kernel_rfl) (by kernel_rfl) laws_FnFractions.lp (fun a => by kernel_rfl) laws_FnFractions.run (Tells.ok (tree := laws_FnFractions.tr))
theorem laws_FnFractions.walk (a : Nat × Nat × List Int × List Int) (h : (laws_FnFractions.tr a).get = some true) {ρ : Nat → Option Sx.Loc} {w : World} {vs : List Value} (hargs : V.Rs ρ (laws_FnFractions.cd.enc a).1 vs) (hh : HpR ρ (laws_FnFractions.cd.enc a).2 w) :
    Calls Try.prog 4 vs.toArray w fun e w' => e = .returned (.bool true) ∧ Below w.heap.size w w' :=
  law_cd laws_FnFractions.cd laws_FnFractions.hC Try.func4 (by kernel_rfl) (by kernel_rfl) laws_FnFractions.lp (fun a => by kernel_rfl) laws_FnFractions.run (fun a => by kernel_rfl) a (by kernel_rfl) h hargs hh
end Go.Proofs.Ytkfpmiggolmabaa
