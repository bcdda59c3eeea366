/- The walk of FnExactBeltsNeeded: what each function that it comes to computes, as a tree of tests. -/
import Derived.Test.YtkfpmiggolmabaaSxP
import Derived.Test.YtkfpmiggolmabaaChecked
namespace Go.Proofs.Ytkfpmiggolmabaa
open Go Go.RowKit Sx
set_option linter.unusedVariables false
set_option maxRecDepth 100000
set_option maxHeartbeats 0
noncomputable def ti1 : TI := ⟨Try.t1.desc, 1, 8, [.nf]⟩
theorem ti1_ok : TyOK Try.prog 1 ti1 := TyOK.of (inf := Try.t1) Try.underlying1 (by kernel_rfl) (by kernel_rfl) (by kernel_rfl) (by kernel_rfl)
noncomputable def ti2 : TI := ⟨Try.t2.desc, 1, 8, [.it .i64 (0 : Int)]⟩
theorem ti2_ok : TyOK Try.prog 2 ti2 := TyOK.of (inf := Try.t2) Try.underlying2 (by kernel_rfl) (by kernel_rfl) (by kernel_rfl) (by kernel_rfl)
noncomputable def ti3 : TI := ⟨Try.t3.desc, 1, 8, [.it .i64 (0 : Int)]⟩
theorem ti3_ok : TyOK Try.prog 3 ti3 := TyOK.of (inf := Try.t3) Try.underlying3 (by kernel_rfl) (by kernel_rfl) (by kernel_rfl) (by kernel_rfl)
noncomputable def ti4 : TI := ⟨Try.t4.desc, 1, 1, [.kb false]⟩
theorem ti4_ok : TyOK Try.prog 4 ti4 := TyOK.of (inf := Try.t4) Try.underlying4 (by kernel_rfl) (by kernel_rfl) (by kernel_rfl) (by kernel_rfl)
noncomputable def ti5 : TI := ⟨Try.t5.desc, 1, 1, [.it .u8 (0 : Int)]⟩
theorem ti5_ok : TyOK Try.prog 5 ti5 := TyOK.of (inf := Try.t5) Try.underlying5 (by kernel_rfl) (by kernel_rfl) (by kernel_rfl) (by kernel_rfl)
noncomputable def ti6 : TI := ⟨Try.t5.desc, 1, 1, [.it .u8 (0 : Int)]⟩
theorem ti6_ok : TyOK Try.prog 6 ti6 := TyOK.of (inf := Try.t6) Try.underlying6 (by kernel_rfl) (by kernel_rfl) (by kernel_rfl) (by kernel_rfl)
noncomputable def ti7 : TI := ⟨Try.t7.desc, 4, 24, [.it .i64 (0 : Int), .it .i64 (0 : Int), .kb false, .it .u8 (0 : Int)]⟩
theorem ti7_ok : TyOK Try.prog 7 ti7 := TyOK.of (inf := Try.t7) Try.underlying7 (by kernel_rfl) (by kernel_rfl) (by kernel_rfl) (by kernel_rfl)
noncomputable def ti8 : TI := ⟨Try.t7.desc, 4, 24, [.it .i64 (0 : Int), .it .i64 (0 : Int), .kb false, .it .u8 (0 : Int)]⟩
theorem ti8_ok : TyOK Try.prog 8 ti8 := TyOK.of (inf := Try.t8) Try.underlying8 (by kernel_rfl) (by kernel_rfl) (by kernel_rfl) (by kernel_rfl)
noncomputable def ti9 : TI := ⟨Try.t9.desc, 1, 16, [.st (ByteArray.mk #[])]⟩
theorem ti9_ok : TyOK Try.prog 9 ti9 := TyOK.of (inf := Try.t9) Try.underlying9 (by kernel_rfl) (by kernel_rfl) (by kernel_rfl) (by kernel_rfl)
noncomputable def ti10 : TI := ⟨Try.t9.desc, 1, 16, [.st (ByteArray.mk #[])]⟩
theorem ti10_ok : TyOK Try.prog 10 ti10 := TyOK.of (inf := Try.t10) Try.underlying10 (by kernel_rfl) (by kernel_rfl) (by kernel_rfl) (by kernel_rfl)
noncomputable def ti11 : TI := ⟨Try.t9.desc, 1, 16, [.st (ByteArray.mk #[])]⟩
theorem ti11_ok : TyOK Try.prog 11 ti11 := TyOK.of (inf := Try.t11) Try.underlying11 (by kernel_rfl) (by kernel_rfl) (by kernel_rfl) (by kernel_rfl)
noncomputable def ti12 : TI := ⟨Try.t12.desc, 1, 8, [.it .u64 (0 : Int)]⟩
theorem ti12_ok : TyOK Try.prog 12 ti12 := TyOK.of (inf := Try.t12) Try.underlying12 (by kernel_rfl) (by kernel_rfl) (by kernel_rfl) (by kernel_rfl)
noncomputable def ti13 : TI := ⟨Try.t13.desc, 2, 24, [.st (ByteArray.mk #[]), .it .u64 (0 : Int)]⟩
theorem ti13_ok : TyOK Try.prog 13 ti13 := TyOK.of (inf := Try.t13) Try.underlying13 (by kernel_rfl) (by kernel_rfl) (by kernel_rfl) (by kernel_rfl)
noncomputable def ti14 : TI := ⟨Try.t13.desc, 2, 24, [.st (ByteArray.mk #[]), .it .u64 (0 : Int)]⟩
theorem ti14_ok : TyOK Try.prog 14 ti14 := TyOK.of (inf := Try.t14) Try.underlying14 (by kernel_rfl) (by kernel_rfl) (by kernel_rfl) (by kernel_rfl)
noncomputable def ti15 : TI := ⟨Try.t15.desc, 1, 8, [.pn]⟩
theorem ti15_ok : TyOK Try.prog 15 ti15 := TyOK.of (inf := Try.t15) Try.underlying15 (by kernel_rfl) (by kernel_rfl) (by kernel_rfl) (by kernel_rfl)
noncomputable def ti16 : TI := ⟨Try.t16.desc, 1, 8, [.pn]⟩
theorem ti16_ok : TyOK Try.prog 16 ti16 := TyOK.of (inf := Try.t16) Try.underlying16 (by kernel_rfl) (by kernel_rfl) (by kernel_rfl) (by kernel_rfl)
noncomputable def ti17 : TI := ⟨Try.t17.desc, 1, 8, [.pn]⟩
theorem ti17_ok : TyOK Try.prog 17 ti17 := TyOK.of (inf := Try.t17) Try.underlying17 (by kernel_rfl) (by kernel_rfl) (by kernel_rfl) (by kernel_rfl)
noncomputable def ti18 : TI := ⟨Try.t18.desc, 1, 8, [.pn]⟩
theorem ti18_ok : TyOK Try.prog 18 ti18 := TyOK.of (inf := Try.t18) Try.underlying18 (by kernel_rfl) (by kernel_rfl) (by kernel_rfl) (by kernel_rfl)
noncomputable def ti19 : TI := ⟨Try.t18.desc, 1, 8, [.pn]⟩
theorem ti19_ok : TyOK Try.prog 19 ti19 := TyOK.of (inf := Try.t19) Try.underlying19 (by kernel_rfl) (by kernel_rfl) (by kernel_rfl) (by kernel_rfl)
noncomputable def ti21 : TI := ⟨Try.t21.desc, 1, 4, [.it .i32 (0 : Int)]⟩
theorem ti21_ok : TyOK Try.prog 21 ti21 := TyOK.of (inf := Try.t21) Try.underlying21 (by kernel_rfl) (by kernel_rfl) (by kernel_rfl) (by kernel_rfl)
noncomputable def ti22 : TI := ⟨Try.t22.desc, 1, 24, [.sn]⟩
theorem ti22_ok : TyOK Try.prog 22 ti22 := TyOK.of (inf := Try.t22) Try.underlying22 (by kernel_rfl) (by kernel_rfl) (by kernel_rfl) (by kernel_rfl)
noncomputable def ti23 : TI := ⟨Try.t23.desc, 1, 4, [.fl .f32 0]⟩
theorem ti23_ok : TyOK Try.prog 23 ti23 := TyOK.of (inf := Try.t23) Try.underlying23 (by kernel_rfl) (by kernel_rfl) (by kernel_rfl) (by kernel_rfl)
noncomputable def ti25 : TI := ⟨Try.t25.desc, 1, 8, [.nf]⟩
theorem ti25_ok : TyOK Try.prog 25 ti25 := TyOK.of (inf := Try.t25) Try.underlying25 (by kernel_rfl) (by kernel_rfl) (by kernel_rfl) (by kernel_rfl)
noncomputable def ti26 : TI := ⟨Try.t26.desc, 1, 8, [.nf]⟩
theorem ti26_ok : TyOK Try.prog 26 ti26 := TyOK.of (inf := Try.t26) Try.underlying26 (by kernel_rfl) (by kernel_rfl) (by kernel_rfl) (by kernel_rfl)
noncomputable def ti27 : TI := ⟨Try.t27.desc, 1, 8, [.nf]⟩
theorem ti27_ok : TyOK Try.prog 27 ti27 := TyOK.of (inf := Try.t27) Try.underlying27 (by kernel_rfl) (by kernel_rfl) (by kernel_rfl) (by kernel_rfl)
noncomputable def ti28 : TI := ⟨Try.t28.desc, 1, 8, [.fl .f64 0]⟩
theorem ti28_ok : TyOK Try.prog 28 ti28 := TyOK.of (inf := Try.t28) Try.underlying28 (by kernel_rfl) (by kernel_rfl) (by kernel_rfl) (by kernel_rfl)
noncomputable def ti29 : TI := ⟨Try.t29.desc, 1, 8, [.nf]⟩
theorem ti29_ok : TyOK Try.prog 29 ti29 := TyOK.of (inf := Try.t29) Try.underlying29 (by kernel_rfl) (by kernel_rfl) (by kernel_rfl) (by kernel_rfl)
noncomputable def ti30 : TI := ⟨Try.t30.desc, 1, 8, [.nf]⟩
theorem ti30_ok : TyOK Try.prog 30 ti30 := TyOK.of (inf := Try.t30) Try.underlying30 (by kernel_rfl) (by kernel_rfl) (by kernel_rfl) (by kernel_rfl)
noncomputable def ti31 : TI := ⟨Try.t31.desc, 1, 24, [.sn]⟩
theorem ti31_ok : TyOK Try.prog 31 ti31 := TyOK.of (inf := Try.t31) Try.underlying31 (by kernel_rfl) (by kernel_rfl) (by kernel_rfl) (by kernel_rfl)
noncomputable def ti32 : TI := ⟨Try.t32.desc, 1, 8, [.nf]⟩
theorem ti32_ok : TyOK Try.prog 32 ti32 := TyOK.of (inf := Try.t32) Try.underlying32 (by kernel_rfl) (by kernel_rfl) (by kernel_rfl) (by kernel_rfl)
noncomputable def ti33 : TI := ⟨Try.t33.desc, 1, 8, [.nf]⟩
theorem ti33_ok : TyOK Try.prog 33 ti33 := TyOK.of (inf := Try.t33) Try.underlying33 (by kernel_rfl) (by kernel_rfl) (by kernel_rfl) (by kernel_rfl)
noncomputable def ti34 : TI := ⟨Try.t34.desc, 1, 8, [.nf]⟩
theorem ti34_ok : TyOK Try.prog 34 ti34 := TyOK.of (inf := Try.t34) Try.underlying34 (by kernel_rfl) (by kernel_rfl) (by kernel_rfl) (by kernel_rfl)
noncomputable def ti35 : TI := ⟨Try.t35.desc, 2, 16, [.it .i64 (0 : Int), .it .i64 (0 : Int)]⟩
theorem ti35_ok : TyOK Try.prog 35 ti35 := TyOK.of (inf := Try.t35) Try.underlying35 (by kernel_rfl) (by kernel_rfl) (by kernel_rfl) (by kernel_rfl)
noncomputable def ti36 : TI := ⟨Try.t35.desc, 2, 16, [.it .i64 (0 : Int), .it .i64 (0 : Int)]⟩
theorem ti36_ok : TyOK Try.prog 36 ti36 := TyOK.of (inf := Try.t36) Try.underlying36 (by kernel_rfl) (by kernel_rfl) (by kernel_rfl) (by kernel_rfl)
noncomputable def ti38 : TI := ⟨Try.t38.desc, 1, 8, [.nf]⟩
theorem ti38_ok : TyOK Try.prog 38 ti38 := TyOK.of (inf := Try.t38) Try.underlying38 (by kernel_rfl) (by kernel_rfl) (by kernel_rfl) (by kernel_rfl)
noncomputable def ti39 : TI := ⟨Try.t39.desc, 1, 24, [.sn]⟩
theorem ti39_ok : TyOK Try.prog 39 ti39 := TyOK.of (inf := Try.t39) Try.underlying39 (by kernel_rfl) (by kernel_rfl) (by kernel_rfl) (by kernel_rfl)
noncomputable def ti41 : TI := ⟨Try.t41.desc, 1, 8, [.nf]⟩
theorem ti41_ok : TyOK Try.prog 41 ti41 := TyOK.of (inf := Try.t41) Try.underlying41 (by kernel_rfl) (by kernel_rfl) (by kernel_rfl) (by kernel_rfl)
noncomputable def ti42 : TI := ⟨Try.t42.desc, 1, 8, [.nf]⟩
theorem ti42_ok : TyOK Try.prog 42 ti42 := TyOK.of (inf := Try.t42) Try.underlying42 (by kernel_rfl) (by kernel_rfl) (by kernel_rfl) (by kernel_rfl)
noncomputable def ti43 : TI := ⟨Try.t43.desc, 1, 8, [.nf]⟩
theorem ti43_ok : TyOK Try.prog 43 ti43 := TyOK.of (inf := Try.t43) Try.underlying43 (by kernel_rfl) (by kernel_rfl) (by kernel_rfl) (by kernel_rfl)
noncomputable def ti45 : TI := ⟨Try.t45.desc, 1, 8, [.nf]⟩
theorem ti45_ok : TyOK Try.prog 45 ti45 := TyOK.of (inf := Try.t45) Try.underlying45 (by kernel_rfl) (by kernel_rfl) (by kernel_rfl) (by kernel_rfl)
noncomputable def ti46 : TI := ⟨Try.t46.desc, 5, 20, [.fl .f32 0, .fl .f32 0, .fl .f32 0, .fl .f32 0, .kb false]⟩
theorem ti46_ok : TyOK Try.prog 46 ti46 := TyOK.of (inf := Try.t46) Try.underlying46 (by kernel_rfl) (by kernel_rfl) (by kernel_rfl) (by kernel_rfl)
noncomputable def ti47 : TI := ⟨Try.t46.desc, 5, 20, [.fl .f32 0, .fl .f32 0, .fl .f32 0, .fl .f32 0, .kb false]⟩
theorem ti47_ok : TyOK Try.prog 47 ti47 := TyOK.of (inf := Try.t47) Try.underlying47 (by kernel_rfl) (by kernel_rfl) (by kernel_rfl) (by kernel_rfl)
noncomputable def ti49 : TI := ⟨Try.t49.desc, 1, 8, [.nf]⟩
theorem ti49_ok : TyOK Try.prog 49 ti49 := TyOK.of (inf := Try.t49) Try.underlying49 (by kernel_rfl) (by kernel_rfl) (by kernel_rfl) (by kernel_rfl)
noncomputable def ti50 : TI := ⟨Try.t46.desc, 5, 20, [.fl .f32 0, .fl .f32 0, .fl .f32 0, .fl .f32 0, .kb false]⟩
theorem ti50_ok : TyOK Try.prog 50 ti50 := TyOK.of (inf := Try.t50) Try.underlying50 (by kernel_rfl) (by kernel_rfl) (by kernel_rfl) (by kernel_rfl)
noncomputable def ti51 : TI := ⟨Try.t51.desc, 1, 8, [.nf]⟩
theorem ti51_ok : TyOK Try.prog 51 ti51 := TyOK.of (inf := Try.t51) Try.underlying51 (by kernel_rfl) (by kernel_rfl) (by kernel_rfl) (by kernel_rfl)
noncomputable def ti52 : TI := ⟨Try.t52.desc, 1, 8, [.nf]⟩
theorem ti52_ok : TyOK Try.prog 52 ti52 := TyOK.of (inf := Try.t52) Try.underlying52 (by kernel_rfl) (by kernel_rfl) (by kernel_rfl) (by kernel_rfl)
noncomputable def ti53 : TI := ⟨Try.t53.desc, 1, 8, [.nf]⟩
theorem ti53_ok : TyOK Try.prog 53 ti53 := TyOK.of (inf := Try.t53) Try.underlying53 (by kernel_rfl) (by kernel_rfl) (by kernel_rfl) (by kernel_rfl)
noncomputable def ti54 : TI := ⟨Try.t54.desc, 1, 8, [.nf]⟩
theorem ti54_ok : TyOK Try.prog 54 ti54 := TyOK.of (inf := Try.t54) Try.underlying54 (by kernel_rfl) (by kernel_rfl) (by kernel_rfl) (by kernel_rfl)
noncomputable def ti55 : TI := ⟨Try.t55.desc, 1, 8, [.nf]⟩
theorem ti55_ok : TyOK Try.prog 55 ti55 := TyOK.of (inf := Try.t55) Try.underlying55 (by kernel_rfl) (by kernel_rfl) (by kernel_rfl) (by kernel_rfl)
noncomputable def ti56 : TI := ⟨Try.t56.desc, 1, 2, [.it .i16 (0 : Int)]⟩
theorem ti56_ok : TyOK Try.prog 56 ti56 := TyOK.of (inf := Try.t56) Try.underlying56 (by kernel_rfl) (by kernel_rfl) (by kernel_rfl) (by kernel_rfl)
noncomputable def ti58 : TI := ⟨Try.t58.desc, 1, 8, [.nf]⟩
theorem ti58_ok : TyOK Try.prog 58 ti58 := TyOK.of (inf := Try.t58) Try.underlying58 (by kernel_rfl) (by kernel_rfl) (by kernel_rfl) (by kernel_rfl)
noncomputable def ti59 : TI := ⟨Try.t59.desc, 1, 8, [.nf]⟩
theorem ti59_ok : TyOK Try.prog 59 ti59 := TyOK.of (inf := Try.t59) Try.underlying59 (by kernel_rfl) (by kernel_rfl) (by kernel_rfl) (by kernel_rfl)
noncomputable def ti60 : TI := ⟨Try.t60.desc, 1, 8, [.nf]⟩
theorem ti60_ok : TyOK Try.prog 60 ti60 := TyOK.of (inf := Try.t60) Try.underlying60 (by kernel_rfl) (by kernel_rfl) (by kernel_rfl) (by kernel_rfl)
noncomputable def ti62 : TI := ⟨Try.t62.desc, 1, 8, [.nf]⟩
theorem ti62_ok : TyOK Try.prog 62 ti62 := TyOK.of (inf := Try.t62) Try.underlying62 (by kernel_rfl) (by kernel_rfl) (by kernel_rfl) (by kernel_rfl)
noncomputable def ti64 : TI := ⟨Try.t64.desc, 1, 8, [.nf]⟩
theorem ti64_ok : TyOK Try.prog 64 ti64 := TyOK.of (inf := Try.t64) Try.underlying64 (by kernel_rfl) (by kernel_rfl) (by kernel_rfl) (by kernel_rfl)
noncomputable def ti65 : TI := ⟨Try.t65.desc, 1, 8, [.nf]⟩
theorem ti65_ok : TyOK Try.prog 65 ti65 := TyOK.of (inf := Try.t65) Try.underlying65 (by kernel_rfl) (by kernel_rfl) (by kernel_rfl) (by kernel_rfl)
noncomputable def ti66 : TI := ⟨Try.t66.desc, 1, 8, [.nf]⟩
theorem ti66_ok : TyOK Try.prog 66 ti66 := TyOK.of (inf := Try.t66) Try.underlying66 (by kernel_rfl) (by kernel_rfl) (by kernel_rfl) (by kernel_rfl)
noncomputable def ti67 : TI := ⟨Try.t67.desc, 1, 8, [.pn]⟩
theorem ti67_ok : TyOK Try.prog 67 ti67 := TyOK.of (inf := Try.t67) Try.underlying67 (by kernel_rfl) (by kernel_rfl) (by kernel_rfl) (by kernel_rfl)
noncomputable def ti68 : TI := ⟨Try.t68.desc, 1, 8, [.nf]⟩
theorem ti68_ok : TyOK Try.prog 68 ti68 := TyOK.of (inf := Try.t68) Try.underlying68 (by kernel_rfl) (by kernel_rfl) (by kernel_rfl) (by kernel_rfl)
noncomputable def ti69 : TI := ⟨Try.t69.desc, 1, 8, [.nf]⟩
theorem ti69_ok : TyOK Try.prog 69 ti69 := TyOK.of (inf := Try.t69) Try.underlying69 (by kernel_rfl) (by kernel_rfl) (by kernel_rfl) (by kernel_rfl)
noncomputable def ti70 : TI := ⟨Try.t70.desc, 1, 8, [.nf]⟩
theorem ti70_ok : TyOK Try.prog 70 ti70 := TyOK.of (inf := Try.t70) Try.underlying70 (by kernel_rfl) (by kernel_rfl) (by kernel_rfl) (by kernel_rfl)
noncomputable def ti71 : TI := ⟨Try.t71.desc, 1, 8, [.nf]⟩
theorem ti71_ok : TyOK Try.prog 71 ti71 := TyOK.of (inf := Try.t71) Try.underlying71 (by kernel_rfl) (by kernel_rfl) (by kernel_rfl) (by kernel_rfl)
noncomputable def ti72 : TI := ⟨Try.t72.desc, 1, 8, [.nf]⟩
theorem ti72_ok : TyOK Try.prog 72 ti72 := TyOK.of (inf := Try.t72) Try.underlying72 (by kernel_rfl) (by kernel_rfl) (by kernel_rfl) (by kernel_rfl)
noncomputable def ti73 : TI := ⟨Try.t73.desc, 1, 8, [.nf]⟩
theorem ti73_ok : TyOK Try.prog 73 ti73 := TyOK.of (inf := Try.t73) Try.underlying73 (by kernel_rfl) (by kernel_rfl) (by kernel_rfl) (by kernel_rfl)
noncomputable def ti74 : TI := ⟨Try.t74.desc, 1, 8, [.nf]⟩
theorem ti74_ok : TyOK Try.prog 74 ti74 := TyOK.of (inf := Try.t74) Try.underlying74 (by kernel_rfl) (by kernel_rfl) (by kernel_rfl) (by kernel_rfl)
noncomputable def ti75 : TI := ⟨Try.t75.desc, 1, 8, [.pn]⟩
theorem ti75_ok : TyOK Try.prog 75 ti75 := TyOK.of (inf := Try.t75) Try.underlying75 (by kernel_rfl) (by kernel_rfl) (by kernel_rfl) (by kernel_rfl)
noncomputable def ti76 : TI := ⟨Try.t76.desc, 1, 8, [.nf]⟩
theorem ti76_ok : TyOK Try.prog 76 ti76 := TyOK.of (inf := Try.t76) Try.underlying76 (by kernel_rfl) (by kernel_rfl) (by kernel_rfl) (by kernel_rfl)
noncomputable def ti77 : TI := ⟨Try.t77.desc, 1, 8, [.nf]⟩
theorem ti77_ok : TyOK Try.prog 77 ti77 := TyOK.of (inf := Try.t77) Try.underlying77 (by kernel_rfl) (by kernel_rfl) (by kernel_rfl) (by kernel_rfl)
noncomputable def ti78 : TI := ⟨Try.t78.desc, 1, 8, [.nf]⟩
theorem ti78_ok : TyOK Try.prog 78 ti78 := TyOK.of (inf := Try.t78) Try.underlying78 (by kernel_rfl) (by kernel_rfl) (by kernel_rfl) (by kernel_rfl)
noncomputable def ti79 : TI := ⟨Try.t79.desc, 1, 8, [.nf]⟩
theorem ti79_ok : TyOK Try.prog 79 ti79 := TyOK.of (inf := Try.t79) Try.underlying79 (by kernel_rfl) (by kernel_rfl) (by kernel_rfl) (by kernel_rfl)
noncomputable def ti80 : TI := ⟨Try.t80.desc, 1, 8, [.nf]⟩
theorem ti80_ok : TyOK Try.prog 80 ti80 := TyOK.of (inf := Try.t80) Try.underlying80 (by kernel_rfl) (by kernel_rfl) (by kernel_rfl) (by kernel_rfl)
noncomputable def ti81 : TI := ⟨Try.t81.desc, 1, 8, [.nf]⟩
theorem ti81_ok : TyOK Try.prog 81 ti81 := TyOK.of (inf := Try.t81) Try.underlying81 (by kernel_rfl) (by kernel_rfl) (by kernel_rfl) (by kernel_rfl)
noncomputable def ti82 : TI := ⟨Try.t82.desc, 1, 8, [.nf]⟩
theorem ti82_ok : TyOK Try.prog 82 ti82 := TyOK.of (inf := Try.t82) Try.underlying82 (by kernel_rfl) (by kernel_rfl) (by kernel_rfl) (by kernel_rfl)
noncomputable def ti83 : TI := ⟨Try.t83.desc, 1, 8, [.nf]⟩
theorem ti83_ok : TyOK Try.prog 83 ti83 := TyOK.of (inf := Try.t83) Try.underlying83 (by kernel_rfl) (by kernel_rfl) (by kernel_rfl) (by kernel_rfl)
noncomputable def ti84 : TI := ⟨Try.t84.desc, 1, 8, [.it .u64 (0 : Int)]⟩
theorem ti84_ok : TyOK Try.prog 84 ti84 := TyOK.of (inf := Try.t84) Try.underlying84 (by kernel_rfl) (by kernel_rfl) (by kernel_rfl) (by kernel_rfl)
noncomputable def ti85 : TI := ⟨Try.t85.desc, 1, 8, [.nf]⟩
theorem ti85_ok : TyOK Try.prog 85 ti85 := TyOK.of (inf := Try.t85) Try.underlying85 (by kernel_rfl) (by kernel_rfl) (by kernel_rfl) (by kernel_rfl)
noncomputable def ti86 : TI := ⟨Try.t86.desc, 1, 8, [.nf]⟩
theorem ti86_ok : TyOK Try.prog 86 ti86 := TyOK.of (inf := Try.t86) Try.underlying86 (by kernel_rfl) (by kernel_rfl) (by kernel_rfl) (by kernel_rfl)
noncomputable def ti87 : TI := ⟨Try.t87.desc, 1, 8, [.nf]⟩
theorem ti87_ok : TyOK Try.prog 87 ti87 := TyOK.of (inf := Try.t87) Try.underlying87 (by kernel_rfl) (by kernel_rfl) (by kernel_rfl) (by kernel_rfl)
noncomputable def ti88 : TI := ⟨Try.t88.desc, 1, 8, [.nf]⟩
theorem ti88_ok : TyOK Try.prog 88 ti88 := TyOK.of (inf := Try.t88) Try.underlying88 (by kernel_rfl) (by kernel_rfl) (by kernel_rfl) (by kernel_rfl)
noncomputable def ti89 : TI := ⟨Try.t89.desc, 1, 8, [.nf]⟩
theorem ti89_ok : TyOK Try.prog 89 ti89 := TyOK.of (inf := Try.t89) Try.underlying89 (by kernel_rfl) (by kernel_rfl) (by kernel_rfl) (by kernel_rfl)
noncomputable def ti90 : TI := ⟨Try.t90.desc, 1, 8, [.nf]⟩
theorem ti90_ok : TyOK Try.prog 90 ti90 := TyOK.of (inf := Try.t90) Try.underlying90 (by kernel_rfl) (by kernel_rfl) (by kernel_rfl) (by kernel_rfl)
noncomputable def ti91 : TI := ⟨Try.t91.desc, 1, 8, [.nf]⟩
theorem ti91_ok : TyOK Try.prog 91 ti91 := TyOK.of (inf := Try.t91) Try.underlying91 (by kernel_rfl) (by kernel_rfl) (by kernel_rfl) (by kernel_rfl)
noncomputable def ti92 : TI := ⟨Try.t92.desc, 1, 8, [.nf]⟩
theorem ti92_ok : TyOK Try.prog 92 ti92 := TyOK.of (inf := Try.t92) Try.underlying92 (by kernel_rfl) (by kernel_rfl) (by kernel_rfl) (by kernel_rfl)
noncomputable def ti93 : TI := ⟨Try.t93.desc, 1, 4, [.it .u32 (0 : Int)]⟩
theorem ti93_ok : TyOK Try.prog 93 ti93 := TyOK.of (inf := Try.t93) Try.underlying93 (by kernel_rfl) (by kernel_rfl) (by kernel_rfl) (by kernel_rfl)
noncomputable def ti94 : TI := ⟨Try.t94.desc, 1, 8, [.nf]⟩
theorem ti94_ok : TyOK Try.prog 94 ti94 := TyOK.of (inf := Try.t94) Try.underlying94 (by kernel_rfl) (by kernel_rfl) (by kernel_rfl) (by kernel_rfl)
noncomputable def ti95 : TI := ⟨Try.t95.desc, 1, 24, [.sn]⟩
theorem ti95_ok : TyOK Try.prog 95 ti95 := TyOK.of (inf := Try.t95) Try.underlying95 (by kernel_rfl) (by kernel_rfl) (by kernel_rfl) (by kernel_rfl)
noncomputable def ti96 : TI := ⟨Try.t96.desc, 1, 8, [.it .u64 (0 : Int)]⟩
theorem ti96_ok : TyOK Try.prog 96 ti96 := TyOK.of (inf := Try.t96) Try.underlying96 (by kernel_rfl) (by kernel_rfl) (by kernel_rfl) (by kernel_rfl)
noncomputable def ti97 : TI := ⟨Try.t97.desc, 3, 40, [.sn, .it .i64 (0 : Int), .it .u64 (0 : Int)]⟩
theorem ti97_ok : TyOK Try.prog 97 ti97 := TyOK.of (inf := Try.t97) Try.underlying97 (by kernel_rfl) (by kernel_rfl) (by kernel_rfl) (by kernel_rfl)
noncomputable def ti98 : TI := ⟨Try.t97.desc, 3, 40, [.sn, .it .i64 (0 : Int), .it .u64 (0 : Int)]⟩
theorem ti98_ok : TyOK Try.prog 98 ti98 := TyOK.of (inf := Try.t98) Try.underlying98 (by kernel_rfl) (by kernel_rfl) (by kernel_rfl) (by kernel_rfl)
noncomputable def ti99 : TI := ⟨Try.t99.desc, 1, 8, [.nf]⟩
theorem ti99_ok : TyOK Try.prog 99 ti99 := TyOK.of (inf := Try.t99) Try.underlying99 (by kernel_rfl) (by kernel_rfl) (by kernel_rfl) (by kernel_rfl)
noncomputable def ti100 : TI := ⟨Try.t100.desc, 1, 8, [.nf]⟩
theorem ti100_ok : TyOK Try.prog 100 ti100 := TyOK.of (inf := Try.t100) Try.underlying100 (by kernel_rfl) (by kernel_rfl) (by kernel_rfl) (by kernel_rfl)
noncomputable def ti101 : TI := ⟨Try.t101.desc, 1, 8, [.nf]⟩
theorem ti101_ok : TyOK Try.prog 101 ti101 := TyOK.of (inf := Try.t101) Try.underlying101 (by kernel_rfl) (by kernel_rfl) (by kernel_rfl) (by kernel_rfl)
noncomputable def ti102 : TI := ⟨Try.t102.desc, 1, 8, [.nf]⟩
theorem ti102_ok : TyOK Try.prog 102 ti102 := TyOK.of (inf := Try.t102) Try.underlying102 (by kernel_rfl) (by kernel_rfl) (by kernel_rfl) (by kernel_rfl)
noncomputable def ti103 : TI := ⟨Try.t103.desc, 1, 8, [.nf]⟩
theorem ti103_ok : TyOK Try.prog 103 ti103 := TyOK.of (inf := Try.t103) Try.underlying103 (by kernel_rfl) (by kernel_rfl) (by kernel_rfl) (by kernel_rfl)
noncomputable def ti104 : TI := ⟨Try.t104.desc, 1, 8, [.nf]⟩
theorem ti104_ok : TyOK Try.prog 104 ti104 := TyOK.of (inf := Try.t104) Try.underlying104 (by kernel_rfl) (by kernel_rfl) (by kernel_rfl) (by kernel_rfl)
noncomputable def ti105 : TI := ⟨Try.t105.desc, 1, 8, [.nf]⟩
theorem ti105_ok : TyOK Try.prog 105 ti105 := TyOK.of (inf := Try.t105) Try.underlying105 (by kernel_rfl) (by kernel_rfl) (by kernel_rfl) (by kernel_rfl)
noncomputable def ti106 : TI := ⟨Try.t106.desc, 1, 8, [.nf]⟩
theorem ti106_ok : TyOK Try.prog 106 ti106 := TyOK.of (inf := Try.t106) Try.underlying106 (by kernel_rfl) (by kernel_rfl) (by kernel_rfl) (by kernel_rfl)
noncomputable def ti107 : TI := ⟨Try.t107.desc, 1, 8, [.nf]⟩
theorem ti107_ok : TyOK Try.prog 107 ti107 := TyOK.of (inf := Try.t107) Try.underlying107 (by kernel_rfl) (by kernel_rfl) (by kernel_rfl) (by kernel_rfl)
noncomputable def ti108 : TI := ⟨Try.t108.desc, 1, 8, [.nf]⟩
theorem ti108_ok : TyOK Try.prog 108 ti108 := TyOK.of (inf := Try.t108) Try.underlying108 (by kernel_rfl) (by kernel_rfl) (by kernel_rfl) (by kernel_rfl)
noncomputable def ti109 : TI := ⟨Try.t109.desc, 1, 8, [.nf]⟩
theorem ti109_ok : TyOK Try.prog 109 ti109 := TyOK.of (inf := Try.t109) Try.underlying109 (by kernel_rfl) (by kernel_rfl) (by kernel_rfl) (by kernel_rfl)
noncomputable def ti110 : TI := ⟨Try.t110.desc, 1, 8, [.nf]⟩
theorem ti110_ok : TyOK Try.prog 110 ti110 := TyOK.of (inf := Try.t110) Try.underlying110 (by kernel_rfl) (by kernel_rfl) (by kernel_rfl) (by kernel_rfl)
noncomputable def ti111 : TI := ⟨Try.t111.desc, 4, 40, [.pn, .pn, .pn, .st (ByteArray.mk #[])]⟩
theorem ti111_ok : TyOK Try.prog 111 ti111 := TyOK.of (inf := Try.t111) Try.underlying111 (by kernel_rfl) (by kernel_rfl) (by kernel_rfl) (by kernel_rfl)
noncomputable def ti112 : TI := ⟨Try.t111.desc, 4, 40, [.pn, .pn, .pn, .st (ByteArray.mk #[])]⟩
theorem ti112_ok : TyOK Try.prog 112 ti112 := TyOK.of (inf := Try.t112) Try.underlying112 (by kernel_rfl) (by kernel_rfl) (by kernel_rfl) (by kernel_rfl)
noncomputable def ti113 : TI := ⟨Try.t113.desc, 0, 0, []⟩
theorem ti113_ok : TyOK Try.prog 113 ti113 := TyOK.of (inf := Try.t113) Try.underlying113 (by kernel_rfl) (by kernel_rfl) (by kernel_rfl) (by kernel_rfl)
noncomputable def ti114 : TI := ⟨Try.t114.desc, 0, 0, []⟩
theorem ti114_ok : TyOK Try.prog 114 ti114 := TyOK.of (inf := Try.t114) Try.underlying114 (by kernel_rfl) (by kernel_rfl) (by kernel_rfl) (by kernel_rfl)
noncomputable def ti115 : TI := ⟨Try.t114.desc, 0, 0, []⟩
theorem ti115_ok : TyOK Try.prog 115 ti115 := TyOK.of (inf := Try.t115) Try.underlying115 (by kernel_rfl) (by kernel_rfl) (by kernel_rfl) (by kernel_rfl)
noncomputable def ti116 : TI := ⟨Try.t116.desc, 1, 8, [.nf]⟩
theorem ti116_ok : TyOK Try.prog 116 ti116 := TyOK.of (inf := Try.t116) Try.underlying116 (by kernel_rfl) (by kernel_rfl) (by kernel_rfl) (by kernel_rfl)
noncomputable def ti117 : TI := ⟨Try.t5.desc, 1, 1, [.it .u8 (0 : Int)]⟩
theorem ti117_ok : TyOK Try.prog 117 ti117 := TyOK.of (inf := Try.t117) Try.underlying117 (by kernel_rfl) (by kernel_rfl) (by kernel_rfl) (by kernel_rfl)
noncomputable def ti118 : TI := ⟨Try.t5.desc, 1, 1, [.it .u8 (0 : Int)]⟩
theorem ti118_ok : TyOK Try.prog 118 ti118 := TyOK.of (inf := Try.t118) Try.underlying118 (by kernel_rfl) (by kernel_rfl) (by kernel_rfl) (by kernel_rfl)
noncomputable def ti119 : TI := ⟨Try.t119.desc, 1, 8, [.nf]⟩
theorem ti119_ok : TyOK Try.prog 119 ti119 := TyOK.of (inf := Try.t119) Try.underlying119 (by kernel_rfl) (by kernel_rfl) (by kernel_rfl) (by kernel_rfl)
noncomputable def ti120 : TI := ⟨Try.t120.desc, 1, 8, [.pn]⟩
theorem ti120_ok : TyOK Try.prog 120 ti120 := TyOK.of (inf := Try.t120) Try.underlying120 (by kernel_rfl) (by kernel_rfl) (by kernel_rfl) (by kernel_rfl)
noncomputable def ti121 : TI := ⟨Try.t21.desc, 1, 4, [.it .i32 (0 : Int)]⟩
theorem ti121_ok : TyOK Try.prog 121 ti121 := TyOK.of (inf := Try.t121) Try.underlying121 (by kernel_rfl) (by kernel_rfl) (by kernel_rfl) (by kernel_rfl)
noncomputable def ti122 : TI := ⟨Try.t21.desc, 1, 4, [.it .i32 (0 : Int)]⟩
theorem ti122_ok : TyOK Try.prog 122 ti122 := TyOK.of (inf := Try.t122) Try.underlying122 (by kernel_rfl) (by kernel_rfl) (by kernel_rfl) (by kernel_rfl)
noncomputable def ti123 : TI := ⟨Try.t123.desc, 11, 48, [.it .u64 (0 : Int), .it .u64 (0 : Int), .it .u32 (0 : Int), .it .u8 (0 : Int), .it .u8 (0 : Int), .it .u8 (0 : Int), .it .u8 (0 : Int), .nf, .pn, .it .i32 (0 : Int), .it .i32 (0 : Int)]⟩
theorem ti123_ok : TyOK Try.prog 123 ti123 := TyOK.of (inf := Try.t123) Try.underlying123 (by kernel_rfl) (by kernel_rfl) (by kernel_rfl) (by kernel_rfl)
noncomputable def ti124 : TI := ⟨Try.t123.desc, 11, 48, [.it .u64 (0 : Int), .it .u64 (0 : Int), .it .u32 (0 : Int), .it .u8 (0 : Int), .it .u8 (0 : Int), .it .u8 (0 : Int), .it .u8 (0 : Int), .nf, .pn, .it .i32 (0 : Int), .it .i32 (0 : Int)]⟩
theorem ti124_ok : TyOK Try.prog 124 ti124 := TyOK.of (inf := Try.t124) Try.underlying124 (by kernel_rfl) (by kernel_rfl) (by kernel_rfl) (by kernel_rfl)
noncomputable def ti125 : TI := ⟨Try.t125.desc, 1, 8, [.pn]⟩
theorem ti125_ok : TyOK Try.prog 125 ti125 := TyOK.of (inf := Try.t125) Try.underlying125 (by kernel_rfl) (by kernel_rfl) (by kernel_rfl) (by kernel_rfl)
noncomputable def tys : List (Nat × TI) := [(1, ti1), (2, ti2), (3, ti3), (4, ti4), (5, ti5), (6, ti6), (7, ti7), (8, ti8), (9, ti9), (10, ti10), (11, ti11), (12, ti12), (13, ti13), (14, ti14), (15, ti15), (16, ti16), (17, ti17), (18, ti18), (19, ti19), (21, ti21), (22, ti22), (23, ti23), (25, ti25), (26, ti26), (27, ti27), (28, ti28), (29, ti29), (30, ti30), (31, ti31), (32, ti32), (33, ti33), (34, ti34), (35, ti35), (36, ti36), (38, ti38), (39, ti39), (41, ti41), (42, ti42), (43, ti43), (45, ti45), (46, ti46), (47, ti47), (49, ti49), (50, ti50), (51, ti51), (52, ti52), (53, ti53), (54, ti54), (55, ti55), (56, ti56), (58, ti58), (59, ti59), (60, ti60), (62, ti62), (64, ti64), (65, ti65), (66, ti66), (67, ti67), (68, ti68), (69, ti69), (70, ti70), (71, ti71), (72, ti72), (73, ti73), (74, ti74), (75, ti75), (76, ti76), (77, ti77), (78, ti78), (79, ti79), (80, ti80), (81, ti81), (82, ti82), (83, ti83), (84, ti84), (85, ti85), (86, ti86), (87, ti87), (88, ti88), (89, ti89), (90, ti90), (91, ti91), (92, ti92), (93, ti93), (94, ti94), (95, ti95), (96, ti96), (97, ti97), (98, ti98), (99, ti99), (100, ti100), (101, ti101), (102, ti102), (103, ti103), (104, ti104), (105, ti105), (106, ti106), (107, ti107), (108, ti108), (109, ti109), (110, ti110), (111, ti111), (112, ti112), (113, ti113), (114, ti114), (115, ti115), (116, ti116), (117, ti117), (118, ti118), (119, ti119), (120, ti120), (121, ti121), (122, ti122), (123, ti123), (124, ti124), (125, ti125)]
theorem mo : Try.prog.follows .mixedOrders = true := by kernel_rfl
theorem tys_ok : TysOK Try.prog tys := (TysOK.cons ti1_ok (TysOK.cons ti2_ok (TysOK.cons ti3_ok (TysOK.cons ti4_ok (TysOK.cons ti5_ok (TysOK.cons ti6_ok (TysOK.cons ti7_ok (TysOK.cons ti8_ok (TysOK.cons ti9_ok (TysOK.cons ti10_ok (TysOK.cons ti11_ok (TysOK.cons ti12_ok (TysOK.cons ti13_ok (TysOK.cons ti14_ok (TysOK.cons ti15_ok (TysOK.cons ti16_ok (TysOK.cons ti17_ok (TysOK.cons ti18_ok (TysOK.cons ti19_ok (TysOK.cons ti21_ok (TysOK.cons ti22_ok (TysOK.cons ti23_ok (TysOK.cons ti25_ok (TysOK.cons ti26_ok (TysOK.cons ti27_ok (TysOK.cons ti28_ok (TysOK.cons ti29_ok (TysOK.cons ti30_ok (TysOK.cons ti31_ok (TysOK.cons ti32_ok (TysOK.cons ti33_ok (TysOK.cons ti34_ok (TysOK.cons ti35_ok (TysOK.cons ti36_ok (TysOK.cons ti38_ok (TysOK.cons ti39_ok (TysOK.cons ti41_ok (TysOK.cons ti42_ok (TysOK.cons ti43_ok (TysOK.cons ti45_ok (TysOK.cons ti46_ok (TysOK.cons ti47_ok (TysOK.cons ti49_ok (TysOK.cons ti50_ok (TysOK.cons ti51_ok (TysOK.cons ti52_ok (TysOK.cons ti53_ok (TysOK.cons ti54_ok (TysOK.cons ti55_ok (TysOK.cons ti56_ok (TysOK.cons ti58_ok (TysOK.cons ti59_ok (TysOK.cons ti60_ok (TysOK.cons ti62_ok (TysOK.cons ti64_ok (TysOK.cons ti65_ok (TysOK.cons ti66_ok (TysOK.cons ti67_ok (TysOK.cons ti68_ok (TysOK.cons ti69_ok (TysOK.cons ti70_ok (TysOK.cons ti71_ok (TysOK.cons ti72_ok (TysOK.cons ti73_ok (TysOK.cons ti74_ok (TysOK.cons ti75_ok (TysOK.cons ti76_ok (TysOK.cons ti77_ok (TysOK.cons ti78_ok (TysOK.cons ti79_ok (TysOK.cons ti80_ok (TysOK.cons ti81_ok (TysOK.cons ti82_ok (TysOK.cons ti83_ok (TysOK.cons ti84_ok (TysOK.cons ti85_ok (TysOK.cons ti86_ok (TysOK.cons ti87_ok (TysOK.cons ti88_ok (TysOK.cons ti89_ok (TysOK.cons ti90_ok (TysOK.cons ti91_ok (TysOK.cons ti92_ok (TysOK.cons ti93_ok (TysOK.cons ti94_ok (TysOK.cons ti95_ok (TysOK.cons ti96_ok (TysOK.cons ti97_ok (TysOK.cons ti98_ok (TysOK.cons ti99_ok (TysOK.cons ti100_ok (TysOK.cons ti101_ok (TysOK.cons ti102_ok (TysOK.cons ti103_ok (TysOK.cons ti104_ok (TysOK.cons ti105_ok (TysOK.cons ti106_ok (TysOK.cons ti107_ok (TysOK.cons ti108_ok (TysOK.cons ti109_ok (TysOK.cons ti110_ok (TysOK.cons ti111_ok (TysOK.cons ti112_ok (TysOK.cons ti113_ok (TysOK.cons ti114_ok (TysOK.cons ti115_ok (TysOK.cons ti116_ok (TysOK.cons ti117_ok (TysOK.cons ti118_ok (TysOK.cons ti119_ok (TysOK.cons ti120_ok (TysOK.cons ti121_ok (TysOK.cons ti122_ok (TysOK.cons ti123_ok (TysOK.cons ti124_ok (TysOK.cons ti125_ok TysOK.nil))))))))))))))))))))))))))))))))))))))))))))))))))))))))))))))))))))))))))))))))))))))))))))))))))))))))))))))))))))
/-! ### laws_toBelt -/
noncomputable def laws_toBelt.b : Code := bodyOf Try.f24
noncomputable def laws_toBelt.C : Ctx := { ty := tys, fn := [], lp := [], n := 20, k := 0 }
theorem laws_toBelt.hC : CtxOK Try.prog laws_toBelt.C := CtxOK.of mo tys_ok FnsOK.nil
theorem laws_toBelt.lp : LpOK Try.prog laws_toBelt.C laws_toBelt.b := (LpOK.nil (by kernel_rfl))
noncomputable def laws_toBelt.t (x0 : Nat) (x1 : Nat) (x2 : Nat) (x3 : Nat) (x4 : Bool) : T (Nat × Nat × Nat × Nat × Bool) :=
  .leaf (x0, x1, x2, x3, x4)
noncomputable def laws_toBelt (x0 : Nat) (x1 : Nat) (x2 : Nat) (x3 : Nat) (x4 : Bool) : Nat × Nat × Nat × Nat × Bool := (laws_toBelt.t x0 x1 x2 x3 x4).val
def laws_toBelt.cd : Cd (Nat × Nat × Nat × Nat × Bool) (List V × Hp) := Cd.iso (Cd.pair (Cd.cons (Cd.agg (Cd.cons (Cd.fl .f32) (Cd.cons (Cd.fl .f32) (Cd.cons (Cd.fl .f32) (Cd.cons (Cd.fl .f32) (Cd.cons Cd.bo Cd.nil)))))) Cd.nil) Cd.nil) (fun a => (a.1.1.1, a.1.1.2.1, a.1.1.2.2.1, a.1.1.2.2.2.1, a.1.1.2.2.2.2.1)) (fun a => (((a.1, (a.2.1, (a.2.2.1, (a.2.2.2.1, (a.2.2.2.2, ()))))), ()), ())) (fun _ => rfl)
noncomputable def laws_toBelt.tr (a : Nat × Nat × Nat × Nat × Bool) : T (Nat × Nat × Nat × Nat × Bool) := laws_toBelt.t a.1 a.2.1 a.2.2.1 a.2.2.2.1 a.2.2.2.2
def laws_toBelt.enc : (Nat × Nat × Nat × Nat × Bool) → (Nat × Nat × Nat × Nat × Bool) → V := fun a r => .agg [.fl .f32 r.1, .fl .f32 r.2.1, .fl .f32 r.2.2.1, .fl .f32 r.2.2.2.1, .bo r.2.2.2.2]
noncomputable def laws_toBelt.c : List V → Hp → T V := cdQ laws_toBelt.cd (fun a => .leaf (laws_toBelt.enc a (laws_toBelt a.1 a.2.1 a.2.2.1 a.2.2.2.1 a.2.2.2.2)))
theorem laws_toBelt.run (a : Nat × Nat × Nat × Nat × Bool) : runF laws_toBelt.C Try.f24.results.toList laws_toBelt.b (laws_toBelt.cd.enc a).1 (laws_toBelt.cd.enc a).2 = (laws_toBelt.tr a).map fun r => (laws_toBelt.enc a r, (laws_toBelt.cd.enc a).2) := by kernel_rfl
theorem laws_toBelt.cok : OKq Try.prog 24 laws_toBelt.c := con_q' laws_toBelt.cd laws_toBelt.hC Try.func24 (by kernel_rfl) (by kernel_rfl) (by kernel_rfl) laws_toBelt.lp (fun a => by kernel_rfl) laws_toBelt.run (Tells.val (tree := laws_toBelt.tr) fun a => by kernel_rfl)
/-! ### spec_l02Radius -/
noncomputable def spec_l02Radius.b : Code := bodyOf Try.f91
noncomputable def spec_l02Radius.C : Ctx := { ty := tys, fn := [], lp := [], n := 9, k := 0 }
theorem spec_l02Radius.hC : CtxOK Try.prog spec_l02Radius.C := CtxOK.of mo tys_ok FnsOK.nil
theorem spec_l02Radius.lp : LpOK Try.prog spec_l02Radius.C spec_l02Radius.b := (LpOK.nil (by kernel_rfl))
noncomputable def spec_l02Radius.t (x0 : Nat) : T Bool :=
  .br (fge .f32 x0 1031798784)
  (.leaf (fle .f32 x0 1149239296))
  (.leaf false)
noncomputable def spec_l02Radius (x0 : Nat) : Bool := (spec_l02Radius.t x0).val
def spec_l02Radius.cd : Cd Nat (List V × Hp) := Cd.iso (Cd.pair (Cd.cons (Cd.fl .f32) Cd.nil) Cd.nil) (fun a => a.1.1) (fun a => ((a, ()), ())) (fun _ => rfl)
noncomputable def spec_l02Radius.tr (a : Nat) : T Bool := spec_l02Radius.t a
def spec_l02Radius.enc : Nat → Bool → V := fun a r => .bo r
noncomputable def spec_l02Radius.c : List V → Hp → T V := cdQ spec_l02Radius.cd (fun a => .leaf (spec_l02Radius.enc a (spec_l02Radius a)))
theorem spec_l02Radius.run (a : Nat) : runF spec_l02Radius.C Try.f91.results.toList spec_l02Radius.b (spec_l02Radius.cd.enc a).1 (spec_l02Radius.cd.enc a).2 = (spec_l02Radius.tr a).map fun r => (spec_l02Radius.enc a r, (spec_l02Radius.cd.enc a).2) := by kernel_rfl
theorem spec_l02Radius.cok : OKq Try.prog 91 spec_l02Radius.c := con_q' spec_l02Radius.cd spec_l02Radius.hC Try.func91 (by kernel_rfl) (by kernel_rfl) (by kernel_rfl) spec_l02Radius.lp (fun a => by kernel_rfl) spec_l02Radius.run (Tells.val (tree := spec_l02Radius.tr) fun a => by kernel_rfl)
/-! ### spec_l02Ok -/
noncomputable def spec_l02Ok.b : Code := bodyOf Try.f76
noncomputable def spec_l02Ok.C : Ctx := { ty := tys, fn := [(91, .q spec_l02Radius.c)], lp := [], n := 52, k := 1 }
theorem spec_l02Ok.hC : CtxOK Try.prog spec_l02Ok.C := CtxOK.of mo tys_ok (FnsOK.cons spec_l02Radius.cok FnsOK.nil)
theorem spec_l02Ok.lp : LpOK Try.prog spec_l02Ok.C spec_l02Ok.b := (LpOK.nil (by kernel_rfl))
noncomputable def spec_l02Ok.t (x0 : Nat) (x1 : Nat) (x2 : Nat) (x3 : Nat) (x4 : Bool) : T Bool :=
  .br (spec_l02Radius x0)
  (.br (spec_l02Radius x1)
   (.br (fge .f32 x2 (fadd .f32 x0 x1))
    (.br (fle .f32 x2 1199570944)
     (.br (fge .f32 x3 0)
      (.leaf (fle .f32 x3 1073741824))
      (.leaf false))
     (.leaf false))
    (.leaf false))
   (.leaf false))
  (.leaf false)
noncomputable def spec_l02Ok (x0 : Nat) (x1 : Nat) (x2 : Nat) (x3 : Nat) (x4 : Bool) : Bool := (spec_l02Ok.t x0 x1 x2 x3 x4).val
def spec_l02Ok.cd : Cd (Nat × Nat × Nat × Nat × Bool) (List V × Hp) := Cd.iso (Cd.pair (Cd.cons (Cd.pt 0 (Cd.natc 0)) Cd.nil) (Cd.cons (Cd.rw 50 5 (Cd.vs (Cd.cons (Cd.fl .f32) (Cd.cons (Cd.fl .f32) (Cd.cons (Cd.fl .f32) (Cd.cons (Cd.fl .f32) (Cd.cons Cd.bo Cd.nil))))))) Cd.nil)) (fun a => (a.2.1.1, a.2.1.2.1, a.2.1.2.2.1, a.2.1.2.2.2.1, a.2.1.2.2.2.2.1)) (fun a => (((), ()), ((a.1, (a.2.1, (a.2.2.1, (a.2.2.2.1, (a.2.2.2.2, ()))))), ()))) (fun _ => rfl)
noncomputable def spec_l02Ok.tr (a : Nat × Nat × Nat × Nat × Bool) : T Bool := spec_l02Ok.t a.1 a.2.1 a.2.2.1 a.2.2.2.1 a.2.2.2.2
def spec_l02Ok.enc : (Nat × Nat × Nat × Nat × Bool) → Bool → V := fun a r => .bo r
noncomputable def spec_l02Ok.c : List V → Hp → T V := cdQ spec_l02Ok.cd (fun a => .leaf (spec_l02Ok.enc a (spec_l02Ok a.1 a.2.1 a.2.2.1 a.2.2.2.1 a.2.2.2.2)))
theorem spec_l02Ok.run (a : Nat × Nat × Nat × Nat × Bool) : runF spec_l02Ok.C Try.f76.results.toList spec_l02Ok.b (spec_l02Ok.cd.enc a).1 (spec_l02Ok.cd.enc a).2 = (spec_l02Ok.tr a).map fun r => (spec_l02Ok.enc a r, (spec_l02Ok.cd.enc a).2) := by kernel_rfl
theorem spec_l02Ok.cok : OKq Try.prog 76 spec_l02Ok.c := con_q' spec_l02Ok.cd spec_l02Ok.hC Try.func76 (by kernel_rfl) (by kernel_rfl) (by kernel_rfl) spec_l02Ok.lp (fun a => by kernel_rfl) spec_l02Ok.run (Tells.val (tree := spec_l02Ok.tr) fun a => by kernel_rfl)
/-! ### spec_l02Tight -/
noncomputable def spec_l02Tight.b : Code := bodyOf Try.f77
noncomputable def spec_l02Tight.C : Ctx := { ty := tys, fn := [], lp := [], n := 9, k := 0 }
theorem spec_l02Tight.hC : CtxOK Try.prog spec_l02Tight.C := CtxOK.of mo tys_ok FnsOK.nil
theorem spec_l02Tight.lp : LpOK Try.prog spec_l02Tight.C spec_l02Tight.b := (LpOK.nil (by kernel_rfl))
noncomputable def spec_l02Tight.t (x0 : Nat) : T Bool :=
  .br (fge .f32 x0 0)
  (.leaf (fle .f32 x0 1233125376))
  (.leaf false)
noncomputable def spec_l02Tight (x0 : Nat) : Bool := (spec_l02Tight.t x0).val
def spec_l02Tight.cd : Cd Nat (List V × Hp) := Cd.iso (Cd.pair (Cd.cons (Cd.fl .f32) Cd.nil) Cd.nil) (fun a => a.1.1) (fun a => ((a, ()), ())) (fun _ => rfl)
noncomputable def spec_l02Tight.tr (a : Nat) : T Bool := spec_l02Tight.t a
def spec_l02Tight.enc : Nat → Bool → V := fun a r => .bo r
noncomputable def spec_l02Tight.c : List V → Hp → T V := cdQ spec_l02Tight.cd (fun a => .leaf (spec_l02Tight.enc a (spec_l02Tight a)))
theorem spec_l02Tight.run (a : Nat) : runF spec_l02Tight.C Try.f77.results.toList spec_l02Tight.b (spec_l02Tight.cd.enc a).1 (spec_l02Tight.cd.enc a).2 = (spec_l02Tight.tr a).map fun r => (spec_l02Tight.enc a r, (spec_l02Tight.cd.enc a).2) := by kernel_rfl
theorem spec_l02Tight.cok : OKq Try.prog 77 spec_l02Tight.c := con_q' spec_l02Tight.cd spec_l02Tight.hC Try.func77 (by kernel_rfl) (by kernel_rfl) (by kernel_rfl) spec_l02Tight.lp (fun a => by kernel_rfl) spec_l02Tight.run (Tells.val (tree := spec_l02Tight.tr) fun a => by kernel_rfl)
/-! ### spec_l01Plain -/
noncomputable def spec_l01Plain.b : Code := bodyOf Try.f78
noncomputable def spec_l01Plain.C : Ctx := { ty := tys, fn := [], lp := [], n := 9, k := 0 }
theorem spec_l01Plain.hC : CtxOK Try.prog spec_l01Plain.C := CtxOK.of mo tys_ok FnsOK.nil
theorem spec_l01Plain.lp : LpOK Try.prog spec_l01Plain.C spec_l01Plain.b := (LpOK.nil (by kernel_rfl))
noncomputable def spec_l01Plain.t (x0 : Nat) : T Bool :=
  .br (fge .f32 x0 3380609024)
  (.leaf (fle .f32 x0 1233125376))
  (.leaf false)
noncomputable def spec_l01Plain (x0 : Nat) : Bool := (spec_l01Plain.t x0).val
def spec_l01Plain.cd : Cd Nat (List V × Hp) := Cd.iso (Cd.pair (Cd.cons (Cd.fl .f32) Cd.nil) Cd.nil) (fun a => a.1.1) (fun a => ((a, ()), ())) (fun _ => rfl)
noncomputable def spec_l01Plain.tr (a : Nat) : T Bool := spec_l01Plain.t a
def spec_l01Plain.enc : Nat → Bool → V := fun a r => .bo r
noncomputable def spec_l01Plain.c : List V → Hp → T V := cdQ spec_l01Plain.cd (fun a => .leaf (spec_l01Plain.enc a (spec_l01Plain a)))
theorem spec_l01Plain.run (a : Nat) : runF spec_l01Plain.C Try.f78.results.toList spec_l01Plain.b (spec_l01Plain.cd.enc a).1 (spec_l01Plain.cd.enc a).2 = (spec_l01Plain.tr a).map fun r => (spec_l01Plain.enc a r, (spec_l01Plain.cd.enc a).2) := by kernel_rfl
theorem spec_l01Plain.cok : OKq Try.prog 78 spec_l01Plain.c := con_q' spec_l01Plain.cd spec_l01Plain.hC Try.func78 (by kernel_rfl) (by kernel_rfl) (by kernel_rfl) spec_l01Plain.lp (fun a => by kernel_rfl) spec_l01Plain.run (Tells.val (tree := spec_l01Plain.tr) fun a => by kernel_rfl)
/-! ### spec_l02Asked -/
noncomputable def spec_l02Asked.b : Code := bodyOf Try.f45
noncomputable def spec_l02Asked.C : Ctx := { ty := tys, fn := [(76, .q spec_l02Ok.c), (77, .q spec_l02Tight.c), (78, .q spec_l01Plain.c)], lp := [], n := 18, k := 1 }
theorem spec_l02Asked.hC : CtxOK Try.prog spec_l02Asked.C := CtxOK.of mo tys_ok (FnsOK.cons spec_l02Ok.cok (FnsOK.cons spec_l02Tight.cok (FnsOK.cons spec_l01Plain.cok FnsOK.nil)))
theorem spec_l02Asked.lp : LpOK Try.prog spec_l02Asked.C spec_l02Asked.b := (LpOK.nil (by kernel_rfl))
noncomputable def spec_l02Asked.t (x0 : Nat) (x1 : Nat) (x2 : Nat) (x3 : Nat) (x4 : Nat) (x5 : Nat) (x6 : Bool) : T Int :=
  .br (!(spec_l02Ok x2 x3 x4 x5 x6))
  (.leaf (1 : Int))
  (.br (!(spec_l02Tight x0))
   (.leaf (2 : Int))
   (.br (!(spec_l01Plain x1))
    (.leaf (2 : Int))
    (.leaf (0 : Int))))
noncomputable def spec_l02Asked (x0 : Nat) (x1 : Nat) (x2 : Nat) (x3 : Nat) (x4 : Nat) (x5 : Nat) (x6 : Bool) : Int := (spec_l02Asked.t x0 x1 x2 x3 x4 x5 x6).val
def spec_l02Asked.cd : Cd (Nat × Nat × Nat × Nat × Nat × Nat × Bool) (List V × Hp) := Cd.iso (Cd.pair (Cd.cons (Cd.pt 0 (Cd.natc 0)) (Cd.cons (Cd.fl .f32) (Cd.cons (Cd.fl .f32) Cd.nil))) (Cd.cons (Cd.rw 50 5 (Cd.vs (Cd.cons (Cd.fl .f32) (Cd.cons (Cd.fl .f32) (Cd.cons (Cd.fl .f32) (Cd.cons (Cd.fl .f32) (Cd.cons Cd.bo Cd.nil))))))) Cd.nil)) (fun a => (a.1.2.1, a.1.2.2.1, a.2.1.1, a.2.1.2.1, a.2.1.2.2.1, a.2.1.2.2.2.1, a.2.1.2.2.2.2.1)) (fun a => (((), (a.1, (a.2.1, ()))), ((a.2.2.1, (a.2.2.2.1, (a.2.2.2.2.1, (a.2.2.2.2.2.1, (a.2.2.2.2.2.2, ()))))), ()))) (fun _ => rfl)
noncomputable def spec_l02Asked.tr (a : Nat × Nat × Nat × Nat × Nat × Nat × Bool) : T Int := spec_l02Asked.t a.1 a.2.1 a.2.2.1 a.2.2.2.1 a.2.2.2.2.1 a.2.2.2.2.2.1 a.2.2.2.2.2.2
def spec_l02Asked.enc : (Nat × Nat × Nat × Nat × Nat × Nat × Bool) → Int → V := fun a r => .it .i64 r
noncomputable def spec_l02Asked.c : List V → Hp → T V := cdQ spec_l02Asked.cd (fun a => .leaf (spec_l02Asked.enc a (spec_l02Asked a.1 a.2.1 a.2.2.1 a.2.2.2.1 a.2.2.2.2.1 a.2.2.2.2.2.1 a.2.2.2.2.2.2)))
theorem spec_l02Asked.run (a : Nat × Nat × Nat × Nat × Nat × Nat × Bool) : runF spec_l02Asked.C Try.f45.results.toList spec_l02Asked.b (spec_l02Asked.cd.enc a).1 (spec_l02Asked.cd.enc a).2 = (spec_l02Asked.tr a).map fun r => (spec_l02Asked.enc a r, (spec_l02Asked.cd.enc a).2) := by kernel_rfl
theorem spec_l02Asked.cok : OKq Try.prog 45 spec_l02Asked.c := con_q' spec_l02Asked.cd spec_l02Asked.hC Try.func45 (by kernel_rfl) (by kernel_rfl) (by kernel_rfl) spec_l02Asked.lp (fun a => by kernel_rfl) spec_l02Asked.run (Tells.val (tree := spec_l02Asked.tr) fun a => by kernel_rfl)
/-! ### spec_l02Reach -/
noncomputable def spec_l02Reach.b : Code := bodyOf Try.f97
noncomputable def spec_l02Reach.C : Ctx := { ty := tys, fn := [], lp := [], n := 43, k := 1 }
theorem spec_l02Reach.hC : CtxOK Try.prog spec_l02Reach.C := CtxOK.of mo tys_ok FnsOK.nil
theorem spec_l02Reach.lp : LpOK Try.prog spec_l02Reach.C spec_l02Reach.b := (LpOK.nil (by kernel_rfl))
noncomputable def spec_l02Reach.t (x0 : Nat) (x1 : Nat) (x2 : Nat) (x3 : Nat) (x4 : Bool) : T Nat :=
  .br x4
  (.leaf (fadd .f32 x0 x1))
  (.br (fgt .f32 x1 x0)
   (.leaf (fsub .f32 x1 x0))
   (.leaf (fsub .f32 x0 x1)))
noncomputable def spec_l02Reach (x0 : Nat) (x1 : Nat) (x2 : Nat) (x3 : Nat) (x4 : Bool) : Nat := (spec_l02Reach.t x0 x1 x2 x3 x4).val
def spec_l02Reach.cd : Cd (Nat × Nat × Nat × Nat × Bool) (List V × Hp) := Cd.iso (Cd.pair (Cd.cons (Cd.pt 0 (Cd.natc 0)) Cd.nil) (Cd.cons (Cd.rw 50 5 (Cd.vs (Cd.cons (Cd.fl .f32) (Cd.cons (Cd.fl .f32) (Cd.cons (Cd.fl .f32) (Cd.cons (Cd.fl .f32) (Cd.cons Cd.bo Cd.nil))))))) Cd.nil)) (fun a => (a.2.1.1, a.2.1.2.1, a.2.1.2.2.1, a.2.1.2.2.2.1, a.2.1.2.2.2.2.1)) (fun a => (((), ()), ((a.1, (a.2.1, (a.2.2.1, (a.2.2.2.1, (a.2.2.2.2, ()))))), ()))) (fun _ => rfl)
noncomputable def spec_l02Reach.tr (a : Nat × Nat × Nat × Nat × Bool) : T Nat := spec_l02Reach.t a.1 a.2.1 a.2.2.1 a.2.2.2.1 a.2.2.2.2
def spec_l02Reach.enc : (Nat × Nat × Nat × Nat × Bool) → Nat → V := fun a r => .fl .f32 r
noncomputable def spec_l02Reach.c : List V → Hp → T V := cdQ spec_l02Reach.cd (fun a => .leaf (spec_l02Reach.enc a (spec_l02Reach a.1 a.2.1 a.2.2.1 a.2.2.2.1 a.2.2.2.2)))
theorem spec_l02Reach.run (a : Nat × Nat × Nat × Nat × Bool) : runF spec_l02Reach.C Try.f97.results.toList spec_l02Reach.b (spec_l02Reach.cd.enc a).1 (spec_l02Reach.cd.enc a).2 = (spec_l02Reach.tr a).map fun r => (spec_l02Reach.enc a r, (spec_l02Reach.cd.enc a).2) := by kernel_rfl
theorem spec_l02Reach.cok : OKq Try.prog 97 spec_l02Reach.c := con_q' spec_l02Reach.cd spec_l02Reach.hC Try.func97 (by kernel_rfl) (by kernel_rfl) (by kernel_rfl) spec_l02Reach.lp (fun a => by kernel_rfl) spec_l02Reach.run (Tells.val (tree := spec_l02Reach.tr) fun a => by kernel_rfl)
/-! ### spec_l02Wrap -/
noncomputable def spec_l02Wrap.b : Code := bodyOf Try.f92
noncomputable def spec_l02Wrap.C : Ctx := { ty := tys, fn := [(97, .q spec_l02Reach.c)], lp := [], n := 22, k := 1 }
theorem spec_l02Wrap.hC : CtxOK Try.prog spec_l02Wrap.C := CtxOK.of mo tys_ok (FnsOK.cons spec_l02Reach.cok FnsOK.nil)
theorem spec_l02Wrap.lp : LpOK Try.prog spec_l02Wrap.C spec_l02Wrap.b := (LpOK.nil (by kernel_rfl))
noncomputable def spec_l02Wrap.t (x0 : Nat) (x1 : Nat) (x2 : Nat) (x3 : Nat) (x4 : Bool) : T Nat :=
  .br x4
  (.leaf (fadd .f32 1078525952 (fdiv .f32 (fmul .f32 1073741824 (spec_l02Reach x0 x1 x2 x3 x4)) x2)))
  (.leaf (fsub .f32 1078525952 (fdiv .f32 (fmul .f32 1073741824 (spec_l02Reach x0 x1 x2 x3 x4)) x2)))
noncomputable def spec_l02Wrap (x0 : Nat) (x1 : Nat) (x2 : Nat) (x3 : Nat) (x4 : Bool) : Nat := (spec_l02Wrap.t x0 x1 x2 x3 x4).val
def spec_l02Wrap.cd : Cd (Nat × Nat × Nat × Nat × Bool) (List V × Hp) := Cd.iso (Cd.pair (Cd.cons (Cd.pt 0 (Cd.natc 0)) Cd.nil) (Cd.cons (Cd.rw 50 5 (Cd.vs (Cd.cons (Cd.fl .f32) (Cd.cons (Cd.fl .f32) (Cd.cons (Cd.fl .f32) (Cd.cons (Cd.fl .f32) (Cd.cons Cd.bo Cd.nil))))))) Cd.nil)) (fun a => (a.2.1.1, a.2.1.2.1, a.2.1.2.2.1, a.2.1.2.2.2.1, a.2.1.2.2.2.2.1)) (fun a => (((), ()), ((a.1, (a.2.1, (a.2.2.1, (a.2.2.2.1, (a.2.2.2.2, ()))))), ()))) (fun _ => rfl)
noncomputable def spec_l02Wrap.tr (a : Nat × Nat × Nat × Nat × Bool) : T Nat := spec_l02Wrap.t a.1 a.2.1 a.2.2.1 a.2.2.2.1 a.2.2.2.2
def spec_l02Wrap.enc : (Nat × Nat × Nat × Nat × Bool) → Nat → V := fun a r => .fl .f32 r
noncomputable def spec_l02Wrap.c : List V → Hp → T V := cdQ spec_l02Wrap.cd (fun a => .leaf (spec_l02Wrap.enc a (spec_l02Wrap a.1 a.2.1 a.2.2.1 a.2.2.2.1 a.2.2.2.2)))
theorem spec_l02Wrap.run (a : Nat × Nat × Nat × Nat × Bool) : runF spec_l02Wrap.C Try.f92.results.toList spec_l02Wrap.b (spec_l02Wrap.cd.enc a).1 (spec_l02Wrap.cd.enc a).2 = (spec_l02Wrap.tr a).map fun r => (spec_l02Wrap.enc a r, (spec_l02Wrap.cd.enc a).2) := by kernel_rfl
theorem spec_l02Wrap.cok : OKq Try.prog 92 spec_l02Wrap.c := con_q' spec_l02Wrap.cd spec_l02Wrap.hC Try.func92 (by kernel_rfl) (by kernel_rfl) (by kernel_rfl) spec_l02Wrap.lp (fun a => by kernel_rfl) spec_l02Wrap.run (Tells.val (tree := spec_l02Wrap.tr) fun a => by kernel_rfl)
/-! ### spec_l02Grip -/
noncomputable def spec_l02Grip.b : Code := bodyOf Try.f79
noncomputable def spec_l02Grip.l4.s (x0 : Nat) (x1 : Int) (x2 : Nat) (x3 : Nat) (x4 : Nat) (x5 : Nat) (x6 : Bool) : T ((Nat × Int) ⊕ Nat) :=
  .br (decide (x1 < (4 : Int)))
  (.leaf (.inl ((fmul .f32 x0 x0), (IntKind.wrap .i64 (x1 + (1 : Int))))))
  (.leaf (.inr x0))
noncomputable def spec_l02Grip.l4.st (p : Nat × Nat × Nat × Nat × Bool) (x : Nat × Int) : T ((Nat × Int) ⊕ Nat) := spec_l02Grip.l4.s x.1 x.2 p.1 p.2.1 p.2.2.1 p.2.2.2.1 p.2.2.2.2
noncomputable def spec_l02Grip.l4.r (p : Nat × Nat × Nat × Nat × Bool) (x : Nat × Int) : Option Nat := iterT (spec_l02Grip.l4.st p) manyRounds x
def spec_l02Grip.l4.cd : Cd ((Nat × Nat × Nat × Nat × Bool) × (Nat × Int)) (List V × Hp) := Cd.iso (Cd.pair (Cd.cons (Cd.fl .f32) (Cd.cons (Cd.it .i64) Cd.nil)) (Cd.cons (Cd.rw 50 5 (Cd.vs (Cd.cons (Cd.fl .f32) (Cd.cons (Cd.fl .f32) (Cd.cons (Cd.fl .f32) (Cd.cons (Cd.fl .f32) (Cd.cons Cd.bo Cd.nil))))))) Cd.nil)) (fun a => ((a.2.1.1, a.2.1.2.1, a.2.1.2.2.1, a.2.1.2.2.2.1, a.2.1.2.2.2.2.1), (a.1.1, a.1.2.1))) (fun a => ((a.2.1, (a.2.2, ())), ((a.1.1, (a.1.2.1, (a.1.2.2.1, (a.1.2.2.2.1, (a.1.2.2.2.2, ()))))), ()))) (fun _ => rfl)
def spec_l02Grip.l4.out (p : Nat × Nat × Nat × Nat × Bool) : Nat → X × List V × Hp := (fun r => (.ex 0, [.fl .f32 r], [some ⟨true, 50, 5, .vs [.fl .f32 p.1, .fl .f32 p.2.1, .fl .f32 p.2.2.1, .fl .f32 p.2.2.2.1, .bo p.2.2.2.2]⟩]))
def spec_l02Grip.l4.ex (p : Nat × Nat × Nat × Nat × Bool) : Nat → T (X × List V × Hp) := leafT (fun r => (.ex 0, [.fl .f32 r], [some ⟨true, 50, 5, .vs [.fl .f32 p.1, .fl .f32 p.2.1, .fl .f32 p.2.2.1, .fl .f32 p.2.2.2.1, .bo p.2.2.2.2]⟩]))
noncomputable def spec_l02Grip.l4.c : List V → Hp → T (X × List V × Hp) := cdL spec_l02Grip.l4.cd fun x => optT (spec_l02Grip.l4.r x.1 x.2) (spec_l02Grip.l4.ex x.1)
noncomputable def spec_l02Grip.C : Ctx := { ty := tys, fn := [(92, .q spec_l02Wrap.c)], lp := [(4, ⟨[4, 5], [4], spec_l02Grip.l4.c⟩)], n := 24, k := 1 }
theorem spec_l02Grip.hC : CtxOK Try.prog spec_l02Grip.C := CtxOK.of mo tys_ok (FnsOK.cons spec_l02Wrap.cok FnsOK.nil)
noncomputable def spec_l02Grip.b4 : Code := (nthC (loopsOf spec_l02Grip.b) 0)
theorem spec_l02Grip.lp4 : LpOK Try.prog spec_l02Grip.C spec_l02Grip.b4 := (LpOK.nil (by kernel_rfl))
theorem spec_l02Grip.l4.round (p : Nat × Nat × Nat × Nat × Bool) (s : Nat × Int) : roundL spec_l02Grip.C [4, 5] [4] spec_l02Grip.b4 (spec_l02Grip.l4.cd.enc (p, s)).1 (spec_l02Grip.l4.cd.enc (p, s)).2 = (spec_l02Grip.l4.st p s).map (encSum (fun s => spec_l02Grip.l4.cd.enc (p, s)) (spec_l02Grip.l4.out p)) := by kernel_rfl
theorem spec_l02Grip.l4.lok : LoopOK Try.prog spec_l02Grip.C ⟨[4, 5], [4], spec_l02Grip.l4.c⟩ spec_l02Grip.b4 := loop_cd spec_l02Grip.l4.cd spec_l02Grip.hC spec_l02Grip.lp4 spec_l02Grip.l4.round fun p => Gets.leaf
theorem spec_l02Grip.lp : LpOK Try.prog spec_l02Grip.C spec_l02Grip.b := lp_of (by kernel_rfl) (LpsOK.cons (k := 4) (by kernel_rfl) (by kernel_rfl) spec_l02Grip.l4.lok LpsOK.nil)
noncomputable def spec_l02Grip.t (x0 : Nat) (x1 : Nat) (x2 : Nat) (x3 : Nat) (x4 : Bool) : T Nat :=
  .br (Option.isSome (spec_l02Grip.l4.r (x0, x1, x2, x3, x4) ((fadd .f32 1065353216 (fdiv .f32 (fmul .f32 x3 (spec_l02Wrap x0 x1 x2 x3 x4)) 1098907648)), (0 : Int))))
  (.leaf (Option.getD (spec_l02Grip.l4.r (x0, x1, x2, x3, x4) ((fadd .f32 1065353216 (fdiv .f32 (fmul .f32 x3 (spec_l02Wrap x0 x1 x2 x3 x4)) 1098907648)), (0 : Int))) default))
  .bad
noncomputable def spec_l02Grip (x0 : Nat) (x1 : Nat) (x2 : Nat) (x3 : Nat) (x4 : Bool) : Nat := (spec_l02Grip.t x0 x1 x2 x3 x4).val
noncomputable def spec_l02Grip.ok (x0 : Nat) (x1 : Nat) (x2 : Nat) (x3 : Nat) (x4 : Bool) : Bool := (spec_l02Grip.t x0 x1 x2 x3 x4).ok
def spec_l02Grip.cd : Cd (Nat × Nat × Nat × Nat × Bool) (List V × Hp) := Cd.iso (Cd.pair (Cd.cons (Cd.pt 0 (Cd.natc 0)) Cd.nil) (Cd.cons (Cd.rw 50 5 (Cd.vs (Cd.cons (Cd.fl .f32) (Cd.cons (Cd.fl .f32) (Cd.cons (Cd.fl .f32) (Cd.cons (Cd.fl .f32) (Cd.cons Cd.bo Cd.nil))))))) Cd.nil)) (fun a => (a.2.1.1, a.2.1.2.1, a.2.1.2.2.1, a.2.1.2.2.2.1, a.2.1.2.2.2.2.1)) (fun a => (((), ()), ((a.1, (a.2.1, (a.2.2.1, (a.2.2.2.1, (a.2.2.2.2, ()))))), ()))) (fun _ => rfl)
noncomputable def spec_l02Grip.tr (a : Nat × Nat × Nat × Nat × Bool) : T Nat := spec_l02Grip.t a.1 a.2.1 a.2.2.1 a.2.2.2.1 a.2.2.2.2
def spec_l02Grip.enc : (Nat × Nat × Nat × Nat × Bool) → Nat → V := fun a r => .fl .f32 r
noncomputable def spec_l02Grip.c : List V → Hp → T V := cdQ spec_l02Grip.cd (fun a => .br (spec_l02Grip.ok a.1 a.2.1 a.2.2.1 a.2.2.2.1 a.2.2.2.2) (.leaf (spec_l02Grip.enc a (spec_l02Grip a.1 a.2.1 a.2.2.1 a.2.2.2.1 a.2.2.2.2))) .bad)
theorem spec_l02Grip.run (a : Nat × Nat × Nat × Nat × Bool) : runF spec_l02Grip.C Try.f79.results.toList spec_l02Grip.b (spec_l02Grip.cd.enc a).1 (spec_l02Grip.cd.enc a).2 = (spec_l02Grip.tr a).map fun r => (spec_l02Grip.enc a r, (spec_l02Grip.cd.enc a).2) := by kernel_rfl
theorem spec_l02Grip.cok : OKq Try.prog 79 spec_l02Grip.c := con_q' spec_l02Grip.cd spec_l02Grip.hC Try.func79 (by kernel_rfl) (by kernel_rfl) (by kernel_rfl) spec_l02Grip.lp (fun a => by kernel_rfl) spec_l02Grip.run (Tells.ok (tree := spec_l02Grip.tr))
/-! ### spec_l02Pull -/
noncomputable def spec_l02Pull.b : Code := bodyOf Try.f46
noncomputable def spec_l02Pull.C : Ctx := { ty := tys, fn := [(79, .q spec_l02Grip.c)], lp := [], n := 11, k := 1 }
theorem spec_l02Pull.hC : CtxOK Try.prog spec_l02Pull.C := CtxOK.of mo tys_ok (FnsOK.cons spec_l02Grip.cok FnsOK.nil)
theorem spec_l02Pull.lp : LpOK Try.prog spec_l02Pull.C spec_l02Pull.b := (LpOK.nil (by kernel_rfl))
noncomputable def spec_l02Pull.t (x0 : Nat) (x1 : Nat) (x2 : Nat) (x3 : Nat) (x4 : Nat) (x5 : Bool) : T Nat :=
  .br (spec_l02Grip.ok x1 x2 x3 x4 x5)
  (.leaf (fsub .f32 x0 (fdiv .f32 x0 (spec_l02Grip x1 x2 x3 x4 x5))))
  .bad
noncomputable def spec_l02Pull (x0 : Nat) (x1 : Nat) (x2 : Nat) (x3 : Nat) (x4 : Nat) (x5 : Bool) : Nat := (spec_l02Pull.t x0 x1 x2 x3 x4 x5).val
noncomputable def spec_l02Pull.ok (x0 : Nat) (x1 : Nat) (x2 : Nat) (x3 : Nat) (x4 : Nat) (x5 : Bool) : Bool := (spec_l02Pull.t x0 x1 x2 x3 x4 x5).ok
def spec_l02Pull.cd : Cd (Nat × Nat × Nat × Nat × Nat × Bool) (List V × Hp) := Cd.iso (Cd.pair (Cd.cons (Cd.pt 0 (Cd.natc 0)) (Cd.cons (Cd.fl .f32) Cd.nil)) (Cd.cons (Cd.rw 50 5 (Cd.vs (Cd.cons (Cd.fl .f32) (Cd.cons (Cd.fl .f32) (Cd.cons (Cd.fl .f32) (Cd.cons (Cd.fl .f32) (Cd.cons Cd.bo Cd.nil))))))) Cd.nil)) (fun a => (a.1.2.1, a.2.1.1, a.2.1.2.1, a.2.1.2.2.1, a.2.1.2.2.2.1, a.2.1.2.2.2.2.1)) (fun a => (((), (a.1, ())), ((a.2.1, (a.2.2.1, (a.2.2.2.1, (a.2.2.2.2.1, (a.2.2.2.2.2, ()))))), ()))) (fun _ => rfl)
noncomputable def spec_l02Pull.tr (a : Nat × Nat × Nat × Nat × Nat × Bool) : T Nat := spec_l02Pull.t a.1 a.2.1 a.2.2.1 a.2.2.2.1 a.2.2.2.2.1 a.2.2.2.2.2
def spec_l02Pull.enc : (Nat × Nat × Nat × Nat × Nat × Bool) → Nat → V := fun a r => .fl .f32 r
noncomputable def spec_l02Pull.c : List V → Hp → T V := cdQ spec_l02Pull.cd (fun a => .br (spec_l02Pull.ok a.1 a.2.1 a.2.2.1 a.2.2.2.1 a.2.2.2.2.1 a.2.2.2.2.2) (.leaf (spec_l02Pull.enc a (spec_l02Pull a.1 a.2.1 a.2.2.1 a.2.2.2.1 a.2.2.2.2.1 a.2.2.2.2.2))) .bad)
theorem spec_l02Pull.run (a : Nat × Nat × Nat × Nat × Nat × Bool) : runF spec_l02Pull.C Try.f46.results.toList spec_l02Pull.b (spec_l02Pull.cd.enc a).1 (spec_l02Pull.cd.enc a).2 = (spec_l02Pull.tr a).map fun r => (spec_l02Pull.enc a r, (spec_l02Pull.cd.enc a).2) := by kernel_rfl
theorem spec_l02Pull.cok : OKq Try.prog 46 spec_l02Pull.c := con_q' spec_l02Pull.cd spec_l02Pull.hC Try.func46 (by kernel_rfl) (by kernel_rfl) (by kernel_rfl) spec_l02Pull.lp (fun a => by kernel_rfl) spec_l02Pull.run (Tells.ok (tree := spec_l02Pull.tr))
/-! ### spec_l01Size -/
noncomputable def spec_l01Size.b : Code := bodyOf Try.f51
noncomputable def spec_l01Size.C : Ctx := { ty := tys, fn := [], lp := [], n := 8, k := 0 }
theorem spec_l01Size.hC : CtxOK Try.prog spec_l01Size.C := CtxOK.of mo tys_ok FnsOK.nil
theorem spec_l01Size.lp : LpOK Try.prog spec_l01Size.C spec_l01Size.b := (LpOK.nil (by kernel_rfl))
noncomputable def spec_l01Size.t (x0 : Nat) : T Nat :=
  .br (flt .f32 x0 0)
  (.leaf (fneg .f32 x0))
  (.leaf x0)
noncomputable def spec_l01Size (x0 : Nat) : Nat := (spec_l01Size.t x0).val
def spec_l01Size.cd : Cd Nat (List V × Hp) := Cd.iso (Cd.pair (Cd.cons (Cd.fl .f32) Cd.nil) Cd.nil) (fun a => a.1.1) (fun a => ((a, ()), ())) (fun _ => rfl)
noncomputable def spec_l01Size.tr (a : Nat) : T Nat := spec_l01Size.t a
def spec_l01Size.enc : Nat → Nat → V := fun a r => .fl .f32 r
noncomputable def spec_l01Size.c : List V → Hp → T V := cdQ spec_l01Size.cd (fun a => .leaf (spec_l01Size.enc a (spec_l01Size a)))
theorem spec_l01Size.run (a : Nat) : runF spec_l01Size.C Try.f51.results.toList spec_l01Size.b (spec_l01Size.cd.enc a).1 (spec_l01Size.cd.enc a).2 = (spec_l01Size.tr a).map fun r => (spec_l01Size.enc a r, (spec_l01Size.cd.enc a).2) := by kernel_rfl
theorem spec_l01Size.cok : OKq Try.prog 51 spec_l01Size.c := con_q' spec_l01Size.cd spec_l01Size.hC Try.func51 (by kernel_rfl) (by kernel_rfl) (by kernel_rfl) spec_l01Size.lp (fun a => by kernel_rfl) spec_l01Size.run (Tells.val (tree := spec_l01Size.tr) fun a => by kernel_rfl)
/-! ### spec_BeltsNeeded -/
noncomputable def spec_BeltsNeeded.b : Code := bodyOf Try.f26
noncomputable def spec_BeltsNeeded.l6.s (x0 : Nat) (x1 : Nat) (x2 : Int) : T (Int ⊕ ((Int × Int) ⊕ Unit)) :=
  .br (decide (x2 ≤ (12 : Int)))
  (.br (fge .f32 (fmul .f32 x1 (fofint .f32 x2)) (spec_l01Size x0))
   (.leaf (.inr (.inl (x2, (0 : Int)))))
   (.leaf (.inl (IntKind.wrap .i64 (x2 + (1 : Int))))))
  (.leaf (.inr (.inr ())))
noncomputable def spec_BeltsNeeded.l6.st (p : Nat × Nat) (x : Int) : T (Int ⊕ ((Int × Int) ⊕ Unit)) := spec_BeltsNeeded.l6.s p.1 p.2 x
noncomputable def spec_BeltsNeeded.l6.r (p : Nat × Nat) (x : Int) : Option ((Int × Int) ⊕ Unit) := iterT (spec_BeltsNeeded.l6.st p) manyRounds x
def spec_BeltsNeeded.l6.cd : Cd ((Nat × Nat) × Int) (List V × Hp) := Cd.iso (Cd.pair (Cd.cons (Cd.fl .f32) (Cd.cons (Cd.fl .f32) (Cd.cons (Cd.it .i64) Cd.nil))) Cd.nil) (fun a => ((a.1.1, a.1.2.1), a.1.2.2.1)) (fun a => ((a.1.1, (a.1.2, (a.2, ()))), ())) (fun _ => rfl)
def spec_BeltsNeeded.l6.out (p : Nat × Nat) : ((Int × Int) ⊕ Unit) → X × List V × Hp := sumO (fun r => (.ret, [.it .i64 r.1, .it .i64 r.2], [])) (fun r => (.ex 0, [.unk, .unk], []))
def spec_BeltsNeeded.l6.ex (p : Nat × Nat) : ((Int × Int) ⊕ Unit) → T (X × List V × Hp) := sumT (leafT (fun r => (.ret, [.it .i64 r.1, .it .i64 r.2], []))) (leafT (fun r => (.ex 0, [.unk, .unk], [])))
noncomputable def spec_BeltsNeeded.l6.c : List V → Hp → T (X × List V × Hp) := cdL spec_BeltsNeeded.l6.cd fun x => optT (spec_BeltsNeeded.l6.r x.1 x.2) (spec_BeltsNeeded.l6.ex x.1)
noncomputable def spec_BeltsNeeded.C : Ctx := { ty := tys, fn := [(45, .q spec_l02Asked.c), (46, .q spec_l02Pull.c), (51, .q spec_l01Size.c)], lp := [(6, ⟨[2, 9, 10], [6, 7], spec_BeltsNeeded.l6.c⟩)], n := 34, k := 0 }
theorem spec_BeltsNeeded.hC : CtxOK Try.prog spec_BeltsNeeded.C := CtxOK.of mo tys_ok (FnsOK.cons spec_l02Asked.cok (FnsOK.cons spec_l02Pull.cok (FnsOK.cons spec_l01Size.cok FnsOK.nil)))
noncomputable def spec_BeltsNeeded.b6 : Code := (nthC (loopsOf spec_BeltsNeeded.b) 0)
theorem spec_BeltsNeeded.lp6 : LpOK Try.prog spec_BeltsNeeded.C spec_BeltsNeeded.b6 := (LpOK.nil (by kernel_rfl))
theorem spec_BeltsNeeded.l6.round (p : Nat × Nat) (s : Int) : roundL spec_BeltsNeeded.C [2, 9, 10] [6, 7] spec_BeltsNeeded.b6 (spec_BeltsNeeded.l6.cd.enc (p, s)).1 (spec_BeltsNeeded.l6.cd.enc (p, s)).2 = (spec_BeltsNeeded.l6.st p s).map (encSum (fun s => spec_BeltsNeeded.l6.cd.enc (p, s)) (spec_BeltsNeeded.l6.out p)) := by kernel_rfl
theorem spec_BeltsNeeded.l6.lok : LoopOK Try.prog spec_BeltsNeeded.C ⟨[2, 9, 10], [6, 7], spec_BeltsNeeded.l6.c⟩ spec_BeltsNeeded.b6 := loop_cd spec_BeltsNeeded.l6.cd spec_BeltsNeeded.hC spec_BeltsNeeded.lp6 spec_BeltsNeeded.l6.round fun p => (Gets.sum Gets.leaf Gets.leaf)
theorem spec_BeltsNeeded.lp : LpOK Try.prog spec_BeltsNeeded.C spec_BeltsNeeded.b := lp_of (by kernel_rfl) (LpsOK.cons (k := 6) (by kernel_rfl) (by kernel_rfl) spec_BeltsNeeded.l6.lok LpsOK.nil)
noncomputable def spec_BeltsNeeded.t (x0 : Nat) (x1 : Nat) (x2 : Nat) (x3 : Nat) (x4 : Bool) (x5 : Nat) (x6 : Nat) : T (Int × Int) :=
  .br ((spec_l02Asked x5 x6 x0 x1 x2 x3 x4) != (0 : Int))
  (.leaf ((0 : Int), (spec_l02Asked x5 x6 x0 x1 x2 x3 x4)))
  (.br (spec_l02Pull.ok x5 x0 x1 x2 x3 x4)
   (.br (Option.isSome (spec_BeltsNeeded.l6.r (x6, (fmul .f32 (spec_l02Pull x5 x0 x1 x2 x3 x4) x0)) (1 : Int)))
    (.br (Sum.isLeft (Option.getD (spec_BeltsNeeded.l6.r (x6, (fmul .f32 (spec_l02Pull x5 x0 x1 x2 x3 x4) x0)) (1 : Int)) default))
     (.leaf ((getLeftD (Option.getD (spec_BeltsNeeded.l6.r (x6, (fmul .f32 (spec_l02Pull x5 x0 x1 x2 x3 x4) x0)) (1 : Int)) default)).1, (getLeftD (Option.getD (spec_BeltsNeeded.l6.r (x6, (fmul .f32 (spec_l02Pull x5 x0 x1 x2 x3 x4) x0)) (1 : Int)) default)).2))
     (.leaf ((0 : Int), (6 : Int))))
    .bad)
   .bad)
noncomputable def spec_BeltsNeeded (x0 : Nat) (x1 : Nat) (x2 : Nat) (x3 : Nat) (x4 : Bool) (x5 : Nat) (x6 : Nat) : Int × Int := (spec_BeltsNeeded.t x0 x1 x2 x3 x4 x5 x6).val
noncomputable def spec_BeltsNeeded.ok (x0 : Nat) (x1 : Nat) (x2 : Nat) (x3 : Nat) (x4 : Bool) (x5 : Nat) (x6 : Nat) : Bool := (spec_BeltsNeeded.t x0 x1 x2 x3 x4 x5 x6).ok
def spec_BeltsNeeded.cd : Cd (Nat × Nat × Nat × Nat × Bool × Nat × Nat) (List V × Hp) := Cd.iso (Cd.pair (Cd.cons (Cd.agg (Cd.cons (Cd.fl .f32) (Cd.cons (Cd.fl .f32) (Cd.cons (Cd.fl .f32) (Cd.cons (Cd.fl .f32) (Cd.cons Cd.bo Cd.nil)))))) (Cd.cons (Cd.fl .f32) (Cd.cons (Cd.fl .f32) Cd.nil))) Cd.nil) (fun a => (a.1.1.1, a.1.1.2.1, a.1.1.2.2.1, a.1.1.2.2.2.1, a.1.1.2.2.2.2.1, a.1.2.1, a.1.2.2.1)) (fun a => (((a.1, (a.2.1, (a.2.2.1, (a.2.2.2.1, (a.2.2.2.2.1, ()))))), (a.2.2.2.2.2.1, (a.2.2.2.2.2.2, ()))), ())) (fun _ => rfl)
noncomputable def spec_BeltsNeeded.tr (a : Nat × Nat × Nat × Nat × Bool × Nat × Nat) : T (Int × Int) := spec_BeltsNeeded.t a.1 a.2.1 a.2.2.1 a.2.2.2.1 a.2.2.2.2.1 a.2.2.2.2.2.1 a.2.2.2.2.2.2
def spec_BeltsNeeded.enc : (Nat × Nat × Nat × Nat × Bool × Nat × Nat) → (Int × Int) → V := fun a r => .tup [.it .i64 r.1, .it .i64 r.2]
noncomputable def spec_BeltsNeeded.c : List V → Hp → T V := cdQ spec_BeltsNeeded.cd (fun a => .br (spec_BeltsNeeded.ok a.1 a.2.1 a.2.2.1 a.2.2.2.1 a.2.2.2.2.1 a.2.2.2.2.2.1 a.2.2.2.2.2.2) (.leaf (spec_BeltsNeeded.enc a (spec_BeltsNeeded a.1 a.2.1 a.2.2.1 a.2.2.2.1 a.2.2.2.2.1 a.2.2.2.2.2.1 a.2.2.2.2.2.2))) .bad)
theorem spec_BeltsNeeded.run (a : Nat × Nat × Nat × Nat × Bool × Nat × Nat) : runF spec_BeltsNeeded.C Try.f26.results.toList spec_BeltsNeeded.b (spec_BeltsNeeded.cd.enc a).1 (spec_BeltsNeeded.cd.enc a).2 = (spec_BeltsNeeded.tr a).map fun r => (spec_BeltsNeeded.enc a r, (spec_BeltsNeeded.cd.enc a).2) := by kernel_rfl
theorem spec_BeltsNeeded.cok : OKq Try.prog 26 spec_BeltsNeeded.c := con_q' spec_BeltsNeeded.cd spec_BeltsNeeded.hC Try.func26 (by kernel_rfl) (by kernel_rfl) (by kernel_rfl) spec_BeltsNeeded.lp (fun a => by kernel_rfl) spec_BeltsNeeded.run (Tells.ok (tree := spec_BeltsNeeded.tr))
/-! ### impl_between -/
noncomputable def impl_between.b : Code := bodyOf Try.f59
noncomputable def impl_between.C : Ctx := { ty := tys, fn := [], lp := [], n := 15, k := 0 }
theorem impl_between.hC : CtxOK Try.prog impl_between.C := CtxOK.of mo tys_ok FnsOK.nil
theorem impl_between.lp : LpOK Try.prog impl_between.C impl_between.b := (LpOK.nil (by kernel_rfl))
noncomputable def impl_between.t (x0 : Nat) (x1 : Nat) (x2 : Nat) : T Bool :=
  .br (fle .f32 x1 x0)
  (.leaf (fle .f32 x0 x2))
  (.leaf false)
noncomputable def impl_between (x0 : Nat) (x1 : Nat) (x2 : Nat) : Bool := (impl_between.t x0 x1 x2).val
def impl_between.cd : Cd (Nat × Nat × Nat) (List V × Hp) := Cd.iso (Cd.pair (Cd.cons (Cd.fl .f32) (Cd.cons (Cd.fl .f32) (Cd.cons (Cd.fl .f32) Cd.nil))) Cd.nil) (fun a => (a.1.1, a.1.2.1, a.1.2.2.1)) (fun a => ((a.1, (a.2.1, (a.2.2, ()))), ())) (fun _ => rfl)
noncomputable def impl_between.tr (a : Nat × Nat × Nat) : T Bool := impl_between.t a.1 a.2.1 a.2.2
def impl_between.enc : (Nat × Nat × Nat) → Bool → V := fun a r => .bo r
noncomputable def impl_between.c : List V → Hp → T V := cdQ impl_between.cd (fun a => .leaf (impl_between.enc a (impl_between a.1 a.2.1 a.2.2)))
theorem impl_between.run (a : Nat × Nat × Nat) : runF impl_between.C Try.f59.results.toList impl_between.b (impl_between.cd.enc a).1 (impl_between.cd.enc a).2 = (impl_between.tr a).map fun r => (impl_between.enc a r, (impl_between.cd.enc a).2) := by kernel_rfl
theorem impl_between.cok : OKq Try.prog 59 impl_between.c := con_q' impl_between.cd impl_between.hC Try.func59 (by kernel_rfl) (by kernel_rfl) (by kernel_rfl) impl_between.lp (fun a => by kernel_rfl) impl_between.run (Tells.val (tree := impl_between.tr) fun a => by kernel_rfl)
/-! ### impl_isAmount -/
noncomputable def impl_isAmount.b : Code := bodyOf Try.f50
noncomputable def impl_isAmount.C : Ctx := { ty := tys, fn := [(59, .q impl_between.c)], lp := [], n := 5, k := 0 }
theorem impl_isAmount.hC : CtxOK Try.prog impl_isAmount.C := CtxOK.of mo tys_ok (FnsOK.cons impl_between.cok FnsOK.nil)
theorem impl_isAmount.lp : LpOK Try.prog impl_isAmount.C impl_isAmount.b := (LpOK.nil (by kernel_rfl))
noncomputable def impl_isAmount.t (x0 : Nat) : T Bool :=
  .leaf (impl_between x0 0 1233125376)
noncomputable def impl_isAmount (x0 : Nat) : Bool := (impl_isAmount.t x0).val
def impl_isAmount.cd : Cd Nat (List V × Hp) := Cd.iso (Cd.pair (Cd.cons (Cd.fl .f32) Cd.nil) Cd.nil) (fun a => a.1.1) (fun a => ((a, ()), ())) (fun _ => rfl)
noncomputable def impl_isAmount.tr (a : Nat) : T Bool := impl_isAmount.t a
def impl_isAmount.enc : Nat → Bool → V := fun a r => .bo r
noncomputable def impl_isAmount.c : List V → Hp → T V := cdQ impl_isAmount.cd (fun a => .leaf (impl_isAmount.enc a (impl_isAmount a)))
theorem impl_isAmount.run (a : Nat) : runF impl_isAmount.C Try.f50.results.toList impl_isAmount.b (impl_isAmount.cd.enc a).1 (impl_isAmount.cd.enc a).2 = (impl_isAmount.tr a).map fun r => (impl_isAmount.enc a r, (impl_isAmount.cd.enc a).2) := by kernel_rfl
theorem impl_isAmount.cok : OKq Try.prog 50 impl_isAmount.c := con_q' impl_isAmount.cd impl_isAmount.hC Try.func50 (by kernel_rfl) (by kernel_rfl) (by kernel_rfl) impl_isAmount.lp (fun a => by kernel_rfl) impl_isAmount.run (Tells.val (tree := impl_isAmount.tr) fun a => by kernel_rfl)
/-! ### impl_IsPlain -/
noncomputable def impl_IsPlain.b : Code := bodyOf Try.f52
noncomputable def impl_IsPlain.C : Ctx := { ty := tys, fn := [(59, .q impl_between.c)], lp := [], n := 5, k := 0 }
theorem impl_IsPlain.hC : CtxOK Try.prog impl_IsPlain.C := CtxOK.of mo tys_ok (FnsOK.cons impl_between.cok FnsOK.nil)
theorem impl_IsPlain.lp : LpOK Try.prog impl_IsPlain.C impl_IsPlain.b := (LpOK.nil (by kernel_rfl))
noncomputable def impl_IsPlain.t (x0 : Nat) : T Bool :=
  .leaf (impl_between x0 3380609024 1233125376)
noncomputable def impl_IsPlain (x0 : Nat) : Bool := (impl_IsPlain.t x0).val
def impl_IsPlain.cd : Cd Nat (List V × Hp) := Cd.iso (Cd.pair (Cd.cons (Cd.fl .f32) Cd.nil) Cd.nil) (fun a => a.1.1) (fun a => ((a, ()), ())) (fun _ => rfl)
noncomputable def impl_IsPlain.tr (a : Nat) : T Bool := impl_IsPlain.t a
def impl_IsPlain.enc : Nat → Bool → V := fun a r => .bo r
noncomputable def impl_IsPlain.c : List V → Hp → T V := cdQ impl_IsPlain.cd (fun a => .leaf (impl_IsPlain.enc a (impl_IsPlain a)))
theorem impl_IsPlain.run (a : Nat) : runF impl_IsPlain.C Try.f52.results.toList impl_IsPlain.b (impl_IsPlain.cd.enc a).1 (impl_IsPlain.cd.enc a).2 = (impl_IsPlain.tr a).map fun r => (impl_IsPlain.enc a r, (impl_IsPlain.cd.enc a).2) := by kernel_rfl
theorem impl_IsPlain.cok : OKq Try.prog 52 impl_IsPlain.c := con_q' impl_IsPlain.cd impl_IsPlain.hC Try.func52 (by kernel_rfl) (by kernel_rfl) (by kernel_rfl) impl_IsPlain.lp (fun a => by kernel_rfl) impl_IsPlain.run (Tells.val (tree := impl_IsPlain.tr) fun a => by kernel_rfl)
/-! ### impl_isRadius -/
noncomputable def impl_isRadius.b : Code := bodyOf Try.f94
noncomputable def impl_isRadius.C : Ctx := { ty := tys, fn := [(59, .q impl_between.c)], lp := [], n := 5, k := 0 }
theorem impl_isRadius.hC : CtxOK Try.prog impl_isRadius.C := CtxOK.of mo tys_ok (FnsOK.cons impl_between.cok FnsOK.nil)
theorem impl_isRadius.lp : LpOK Try.prog impl_isRadius.C impl_isRadius.b := (LpOK.nil (by kernel_rfl))
noncomputable def impl_isRadius.t (x0 : Nat) : T Bool :=
  .leaf (impl_between x0 1031798784 1149239296)
noncomputable def impl_isRadius (x0 : Nat) : Bool := (impl_isRadius.t x0).val
def impl_isRadius.cd : Cd Nat (List V × Hp) := Cd.iso (Cd.pair (Cd.cons (Cd.fl .f32) Cd.nil) Cd.nil) (fun a => a.1.1) (fun a => ((a, ()), ())) (fun _ => rfl)
noncomputable def impl_isRadius.tr (a : Nat) : T Bool := impl_isRadius.t a
def impl_isRadius.enc : Nat → Bool → V := fun a r => .bo r
noncomputable def impl_isRadius.c : List V → Hp → T V := cdQ impl_isRadius.cd (fun a => .leaf (impl_isRadius.enc a (impl_isRadius a)))
theorem impl_isRadius.run (a : Nat) : runF impl_isRadius.C Try.f94.results.toList impl_isRadius.b (impl_isRadius.cd.enc a).1 (impl_isRadius.cd.enc a).2 = (impl_isRadius.tr a).map fun r => (impl_isRadius.enc a r, (impl_isRadius.cd.enc a).2) := by kernel_rfl
theorem impl_isRadius.cok : OKq Try.prog 94 impl_isRadius.c := con_q' impl_isRadius.cd impl_isRadius.hC Try.func94 (by kernel_rfl) (by kernel_rfl) (by kernel_rfl) impl_isRadius.lp (fun a => by kernel_rfl) impl_isRadius.run (Tells.val (tree := impl_isRadius.tr) fun a => by kernel_rfl)
/-! ### impl_ValidBelt -/
noncomputable def impl_ValidBelt.b : Code := bodyOf Try.f81
noncomputable def impl_ValidBelt.C : Ctx := { ty := tys, fn := [(94, .q impl_isRadius.c), (59, .q impl_between.c)], lp := [], n := 26, k := 0 }
theorem impl_ValidBelt.hC : CtxOK Try.prog impl_ValidBelt.C := CtxOK.of mo tys_ok (FnsOK.cons impl_isRadius.cok (FnsOK.cons impl_between.cok FnsOK.nil))
theorem impl_ValidBelt.lp : LpOK Try.prog impl_ValidBelt.C impl_ValidBelt.b := (LpOK.nil (by kernel_rfl))
noncomputable def impl_ValidBelt.t (x0 : Nat) (x1 : Nat) (x2 : Nat) (x3 : Nat) (x4 : Bool) : T Bool :=
  .br (impl_isRadius x0)
  (.br (impl_isRadius x1)
   (.br (impl_between x2 (fadd .f32 x0 x1) 1199570944)
    (.leaf (impl_between x3 0 1073741824))
    (.leaf false))
   (.leaf false))
  (.leaf false)
noncomputable def impl_ValidBelt (x0 : Nat) (x1 : Nat) (x2 : Nat) (x3 : Nat) (x4 : Bool) : Bool := (impl_ValidBelt.t x0 x1 x2 x3 x4).val
def impl_ValidBelt.cd : Cd (Nat × Nat × Nat × Nat × Bool) (List V × Hp) := Cd.iso (Cd.pair (Cd.cons (Cd.agg (Cd.cons (Cd.fl .f32) (Cd.cons (Cd.fl .f32) (Cd.cons (Cd.fl .f32) (Cd.cons (Cd.fl .f32) (Cd.cons Cd.bo Cd.nil)))))) Cd.nil) Cd.nil) (fun a => (a.1.1.1, a.1.1.2.1, a.1.1.2.2.1, a.1.1.2.2.2.1, a.1.1.2.2.2.2.1)) (fun a => (((a.1, (a.2.1, (a.2.2.1, (a.2.2.2.1, (a.2.2.2.2, ()))))), ()), ())) (fun _ => rfl)
noncomputable def impl_ValidBelt.tr (a : Nat × Nat × Nat × Nat × Bool) : T Bool := impl_ValidBelt.t a.1 a.2.1 a.2.2.1 a.2.2.2.1 a.2.2.2.2
def impl_ValidBelt.enc : (Nat × Nat × Nat × Nat × Bool) → Bool → V := fun a r => .bo r
noncomputable def impl_ValidBelt.c : List V → Hp → T V := cdQ impl_ValidBelt.cd (fun a => .leaf (impl_ValidBelt.enc a (impl_ValidBelt a.1 a.2.1 a.2.2.1 a.2.2.2.1 a.2.2.2.2)))
theorem impl_ValidBelt.run (a : Nat × Nat × Nat × Nat × Bool) : runF impl_ValidBelt.C Try.f81.results.toList impl_ValidBelt.b (impl_ValidBelt.cd.enc a).1 (impl_ValidBelt.cd.enc a).2 = (impl_ValidBelt.tr a).map fun r => (impl_ValidBelt.enc a r, (impl_ValidBelt.cd.enc a).2) := by kernel_rfl
theorem impl_ValidBelt.cok : OKq Try.prog 81 impl_ValidBelt.c := con_q' impl_ValidBelt.cd impl_ValidBelt.hC Try.func81 (by kernel_rfl) (by kernel_rfl) (by kernel_rfl) impl_ValidBelt.lp (fun a => by kernel_rfl) impl_ValidBelt.run (Tells.val (tree := impl_ValidBelt.tr) fun a => by kernel_rfl)
/-! ### impl_beltCode -/
noncomputable def impl_beltCode.b : Code := bodyOf Try.f49
noncomputable def impl_beltCode.C : Ctx := { ty := tys, fn := [(81, .q impl_ValidBelt.c)], lp := [], n := 12, k := 0 }
theorem impl_beltCode.hC : CtxOK Try.prog impl_beltCode.C := CtxOK.of mo tys_ok (FnsOK.cons impl_ValidBelt.cok FnsOK.nil)
theorem impl_beltCode.lp : LpOK Try.prog impl_beltCode.C impl_beltCode.b := (LpOK.nil (by kernel_rfl))
noncomputable def impl_beltCode.t (x0 : Nat) (x1 : Nat) (x2 : Nat) (x3 : Nat) (x4 : Bool) (x5 : Bool) : T Int :=
  .br (!(impl_ValidBelt x0 x1 x2 x3 x4))
  (.leaf (1 : Int))
  (.br (!x5)
   (.leaf (2 : Int))
   (.leaf (0 : Int)))
noncomputable def impl_beltCode (x0 : Nat) (x1 : Nat) (x2 : Nat) (x3 : Nat) (x4 : Bool) (x5 : Bool) : Int := (impl_beltCode.t x0 x1 x2 x3 x4 x5).val
def impl_beltCode.cd : Cd (Nat × Nat × Nat × Nat × Bool × Bool) (List V × Hp) := Cd.iso (Cd.pair (Cd.cons (Cd.agg (Cd.cons (Cd.fl .f32) (Cd.cons (Cd.fl .f32) (Cd.cons (Cd.fl .f32) (Cd.cons (Cd.fl .f32) (Cd.cons Cd.bo Cd.nil)))))) (Cd.cons Cd.bo Cd.nil)) Cd.nil) (fun a => (a.1.1.1, a.1.1.2.1, a.1.1.2.2.1, a.1.1.2.2.2.1, a.1.1.2.2.2.2.1, a.1.2.1)) (fun a => (((a.1, (a.2.1, (a.2.2.1, (a.2.2.2.1, (a.2.2.2.2.1, ()))))), (a.2.2.2.2.2, ())), ())) (fun _ => rfl)
noncomputable def impl_beltCode.tr (a : Nat × Nat × Nat × Nat × Bool × Bool) : T Int := impl_beltCode.t a.1 a.2.1 a.2.2.1 a.2.2.2.1 a.2.2.2.2.1 a.2.2.2.2.2
def impl_beltCode.enc : (Nat × Nat × Nat × Nat × Bool × Bool) → Int → V := fun a r => .it .i64 r
noncomputable def impl_beltCode.c : List V → Hp → T V := cdQ impl_beltCode.cd (fun a => .leaf (impl_beltCode.enc a (impl_beltCode a.1 a.2.1 a.2.2.1 a.2.2.2.1 a.2.2.2.2.1 a.2.2.2.2.2)))
theorem impl_beltCode.run (a : Nat × Nat × Nat × Nat × Bool × Bool) : runF impl_beltCode.C Try.f49.results.toList impl_beltCode.b (impl_beltCode.cd.enc a).1 (impl_beltCode.cd.enc a).2 = (impl_beltCode.tr a).map fun r => (impl_beltCode.enc a r, (impl_beltCode.cd.enc a).2) := by kernel_rfl
theorem impl_beltCode.cok : OKq Try.prog 49 impl_beltCode.c := con_q' impl_beltCode.cd impl_beltCode.hC Try.func49 (by kernel_rfl) (by kernel_rfl) (by kernel_rfl) impl_beltCode.lp (fun a => by kernel_rfl) impl_beltCode.run (Tells.val (tree := impl_beltCode.tr) fun a => by kernel_rfl)
/-! ### impl_Belt_reach -/
noncomputable def impl_Belt_reach.b : Code := bodyOf Try.f99
noncomputable def impl_Belt_reach.C : Ctx := { ty := tys, fn := [], lp := [], n := 45, k := 1 }
theorem impl_Belt_reach.hC : CtxOK Try.prog impl_Belt_reach.C := CtxOK.of mo tys_ok FnsOK.nil
theorem impl_Belt_reach.lp : LpOK Try.prog impl_Belt_reach.C impl_Belt_reach.b := (LpOK.nil (by kernel_rfl))
noncomputable def impl_Belt_reach.t (x0 : Nat) (x1 : Nat) (x2 : Nat) (x3 : Nat) (x4 : Bool) : T Nat :=
  .br x4
  (.leaf (fadd .f32 x0 x1))
  (.br (fgt .f32 x1 x0)
   (.leaf (fsub .f32 x1 x0))
   (.leaf (fsub .f32 x0 x1)))
noncomputable def impl_Belt_reach (x0 : Nat) (x1 : Nat) (x2 : Nat) (x3 : Nat) (x4 : Bool) : Nat := (impl_Belt_reach.t x0 x1 x2 x3 x4).val
def impl_Belt_reach.cd : Cd (Nat × Nat × Nat × Nat × Bool) (List V × Hp) := Cd.iso (Cd.pair (Cd.cons (Cd.pt 0 (Cd.natc 0)) Cd.nil) (Cd.cons (Cd.rw 50 5 (Cd.vs (Cd.cons (Cd.fl .f32) (Cd.cons (Cd.fl .f32) (Cd.cons (Cd.fl .f32) (Cd.cons (Cd.fl .f32) (Cd.cons Cd.bo Cd.nil))))))) Cd.nil)) (fun a => (a.2.1.1, a.2.1.2.1, a.2.1.2.2.1, a.2.1.2.2.2.1, a.2.1.2.2.2.2.1)) (fun a => (((), ()), ((a.1, (a.2.1, (a.2.2.1, (a.2.2.2.1, (a.2.2.2.2, ()))))), ()))) (fun _ => rfl)
noncomputable def impl_Belt_reach.tr (a : Nat × Nat × Nat × Nat × Bool) : T Nat := impl_Belt_reach.t a.1 a.2.1 a.2.2.1 a.2.2.2.1 a.2.2.2.2
def impl_Belt_reach.enc : (Nat × Nat × Nat × Nat × Bool) → Nat → V := fun a r => .fl .f32 r
noncomputable def impl_Belt_reach.c : List V → Hp → T V := cdQ impl_Belt_reach.cd (fun a => .leaf (impl_Belt_reach.enc a (impl_Belt_reach a.1 a.2.1 a.2.2.1 a.2.2.2.1 a.2.2.2.2)))
theorem impl_Belt_reach.run (a : Nat × Nat × Nat × Nat × Bool) : runF impl_Belt_reach.C Try.f99.results.toList impl_Belt_reach.b (impl_Belt_reach.cd.enc a).1 (impl_Belt_reach.cd.enc a).2 = (impl_Belt_reach.tr a).map fun r => (impl_Belt_reach.enc a r, (impl_Belt_reach.cd.enc a).2) := by kernel_rfl
theorem impl_Belt_reach.cok : OKq Try.prog 99 impl_Belt_reach.c := con_q' impl_Belt_reach.cd impl_Belt_reach.hC Try.func99 (by kernel_rfl) (by kernel_rfl) (by kernel_rfl) impl_Belt_reach.lp (fun a => by kernel_rfl) impl_Belt_reach.run (Tells.val (tree := impl_Belt_reach.tr) fun a => by kernel_rfl)
/-! ### impl_Belt_wrap -/
noncomputable def impl_Belt_wrap.b : Code := bodyOf Try.f98
noncomputable def impl_Belt_wrap.C : Ctx := { ty := tys, fn := [(99, .q impl_Belt_reach.c)], lp := [], n := 20, k := 1 }
theorem impl_Belt_wrap.hC : CtxOK Try.prog impl_Belt_wrap.C := CtxOK.of mo tys_ok (FnsOK.cons impl_Belt_reach.cok FnsOK.nil)
theorem impl_Belt_wrap.lp : LpOK Try.prog impl_Belt_wrap.C impl_Belt_wrap.b := (LpOK.nil (by kernel_rfl))
noncomputable def impl_Belt_wrap.t (x0 : Nat) (x1 : Nat) (x2 : Nat) (x3 : Nat) (x4 : Bool) : T Nat :=
  .br x4
  (.leaf (fadd .f32 1078525952 (fdiv .f32 (fmul .f32 1073741824 (impl_Belt_reach x0 x1 x2 x3 x4)) x2)))
  (.leaf (fsub .f32 1078525952 (fdiv .f32 (fmul .f32 1073741824 (impl_Belt_reach x0 x1 x2 x3 x4)) x2)))
noncomputable def impl_Belt_wrap (x0 : Nat) (x1 : Nat) (x2 : Nat) (x3 : Nat) (x4 : Bool) : Nat := (impl_Belt_wrap.t x0 x1 x2 x3 x4).val
def impl_Belt_wrap.cd : Cd (Nat × Nat × Nat × Nat × Bool) (List V × Hp) := Cd.iso (Cd.pair (Cd.cons (Cd.pt 0 (Cd.natc 0)) Cd.nil) (Cd.cons (Cd.rw 50 5 (Cd.vs (Cd.cons (Cd.fl .f32) (Cd.cons (Cd.fl .f32) (Cd.cons (Cd.fl .f32) (Cd.cons (Cd.fl .f32) (Cd.cons Cd.bo Cd.nil))))))) Cd.nil)) (fun a => (a.2.1.1, a.2.1.2.1, a.2.1.2.2.1, a.2.1.2.2.2.1, a.2.1.2.2.2.2.1)) (fun a => (((), ()), ((a.1, (a.2.1, (a.2.2.1, (a.2.2.2.1, (a.2.2.2.2, ()))))), ()))) (fun _ => rfl)
noncomputable def impl_Belt_wrap.tr (a : Nat × Nat × Nat × Nat × Bool) : T Nat := impl_Belt_wrap.t a.1 a.2.1 a.2.2.1 a.2.2.2.1 a.2.2.2.2
def impl_Belt_wrap.enc : (Nat × Nat × Nat × Nat × Bool) → Nat → V := fun a r => .fl .f32 r
noncomputable def impl_Belt_wrap.c : List V → Hp → T V := cdQ impl_Belt_wrap.cd (fun a => .leaf (impl_Belt_wrap.enc a (impl_Belt_wrap a.1 a.2.1 a.2.2.1 a.2.2.2.1 a.2.2.2.2)))
theorem impl_Belt_wrap.run (a : Nat × Nat × Nat × Nat × Bool) : runF impl_Belt_wrap.C Try.f98.results.toList impl_Belt_wrap.b (impl_Belt_wrap.cd.enc a).1 (impl_Belt_wrap.cd.enc a).2 = (impl_Belt_wrap.tr a).map fun r => (impl_Belt_wrap.enc a r, (impl_Belt_wrap.cd.enc a).2) := by kernel_rfl
theorem impl_Belt_wrap.cok : OKq Try.prog 98 impl_Belt_wrap.c := con_q' impl_Belt_wrap.cd impl_Belt_wrap.hC Try.func98 (by kernel_rfl) (by kernel_rfl) (by kernel_rfl) impl_Belt_wrap.lp (fun a => by kernel_rfl) impl_Belt_wrap.run (Tells.val (tree := impl_Belt_wrap.tr) fun a => by kernel_rfl)
/-! ### impl_Belt_grip -/
noncomputable def impl_Belt_grip.b : Code := bodyOf Try.f93
noncomputable def impl_Belt_grip.l3.s (x0 : Nat) (x1 : Int) (x2 : Nat) (x3 : Nat) (x4 : Nat) (x5 : Nat) (x6 : Bool) : T ((Nat × Int) ⊕ Nat) :=
  .br (decide (x1 < (4 : Int)))
  (.leaf (.inl ((fmul .f32 x0 x0), (IntKind.wrap .i64 (x1 + (1 : Int))))))
  (.leaf (.inr x0))
noncomputable def impl_Belt_grip.l3.st (p : Nat × Nat × Nat × Nat × Bool) (x : Nat × Int) : T ((Nat × Int) ⊕ Nat) := impl_Belt_grip.l3.s x.1 x.2 p.1 p.2.1 p.2.2.1 p.2.2.2.1 p.2.2.2.2
noncomputable def impl_Belt_grip.l3.r (p : Nat × Nat × Nat × Nat × Bool) (x : Nat × Int) : Option Nat := iterT (impl_Belt_grip.l3.st p) manyRounds x
def impl_Belt_grip.l3.cd : Cd ((Nat × Nat × Nat × Nat × Bool) × (Nat × Int)) (List V × Hp) := Cd.iso (Cd.pair (Cd.cons (Cd.fl .f32) (Cd.cons (Cd.it .i64) Cd.nil)) (Cd.cons (Cd.rw 50 5 (Cd.vs (Cd.cons (Cd.fl .f32) (Cd.cons (Cd.fl .f32) (Cd.cons (Cd.fl .f32) (Cd.cons (Cd.fl .f32) (Cd.cons Cd.bo Cd.nil))))))) Cd.nil)) (fun a => ((a.2.1.1, a.2.1.2.1, a.2.1.2.2.1, a.2.1.2.2.2.1, a.2.1.2.2.2.2.1), (a.1.1, a.1.2.1))) (fun a => ((a.2.1, (a.2.2, ())), ((a.1.1, (a.1.2.1, (a.1.2.2.1, (a.1.2.2.2.1, (a.1.2.2.2.2, ()))))), ()))) (fun _ => rfl)
def impl_Belt_grip.l3.out (p : Nat × Nat × Nat × Nat × Bool) : Nat → X × List V × Hp := (fun r => (.ex 0, [.fl .f32 r], [some ⟨true, 50, 5, .vs [.fl .f32 p.1, .fl .f32 p.2.1, .fl .f32 p.2.2.1, .fl .f32 p.2.2.2.1, .bo p.2.2.2.2]⟩]))
def impl_Belt_grip.l3.ex (p : Nat × Nat × Nat × Nat × Bool) : Nat → T (X × List V × Hp) := leafT (fun r => (.ex 0, [.fl .f32 r], [some ⟨true, 50, 5, .vs [.fl .f32 p.1, .fl .f32 p.2.1, .fl .f32 p.2.2.1, .fl .f32 p.2.2.2.1, .bo p.2.2.2.2]⟩]))
noncomputable def impl_Belt_grip.l3.c : List V → Hp → T (X × List V × Hp) := cdL impl_Belt_grip.l3.cd fun x => optT (impl_Belt_grip.l3.r x.1 x.2) (impl_Belt_grip.l3.ex x.1)
noncomputable def impl_Belt_grip.C : Ctx := { ty := tys, fn := [(98, .q impl_Belt_wrap.c)], lp := [(3, ⟨[3, 13], [3], impl_Belt_grip.l3.c⟩)], n := 20, k := 1 }
theorem impl_Belt_grip.hC : CtxOK Try.prog impl_Belt_grip.C := CtxOK.of mo tys_ok (FnsOK.cons impl_Belt_wrap.cok FnsOK.nil)
noncomputable def impl_Belt_grip.b3 : Code := (nthC (loopsOf impl_Belt_grip.b) 0)
theorem impl_Belt_grip.lp3 : LpOK Try.prog impl_Belt_grip.C impl_Belt_grip.b3 := (LpOK.nil (by kernel_rfl))
theorem impl_Belt_grip.l3.round (p : Nat × Nat × Nat × Nat × Bool) (s : Nat × Int) : roundL impl_Belt_grip.C [3, 13] [3] impl_Belt_grip.b3 (impl_Belt_grip.l3.cd.enc (p, s)).1 (impl_Belt_grip.l3.cd.enc (p, s)).2 = (impl_Belt_grip.l3.st p s).map (encSum (fun s => impl_Belt_grip.l3.cd.enc (p, s)) (impl_Belt_grip.l3.out p)) := by kernel_rfl
theorem impl_Belt_grip.l3.lok : LoopOK Try.prog impl_Belt_grip.C ⟨[3, 13], [3], impl_Belt_grip.l3.c⟩ impl_Belt_grip.b3 := loop_cd impl_Belt_grip.l3.cd impl_Belt_grip.hC impl_Belt_grip.lp3 impl_Belt_grip.l3.round fun p => Gets.leaf
theorem impl_Belt_grip.lp : LpOK Try.prog impl_Belt_grip.C impl_Belt_grip.b := lp_of (by kernel_rfl) (LpsOK.cons (k := 3) (by kernel_rfl) (by kernel_rfl) impl_Belt_grip.l3.lok LpsOK.nil)
noncomputable def impl_Belt_grip.t (x0 : Nat) (x1 : Nat) (x2 : Nat) (x3 : Nat) (x4 : Bool) : T Nat :=
  .br (Option.isSome (impl_Belt_grip.l3.r (x0, x1, x2, x3, x4) ((fadd .f32 1065353216 (fdiv .f32 (fmul .f32 x3 (impl_Belt_wrap x0 x1 x2 x3 x4)) 1098907648)), (0 : Int))))
  (.leaf (Option.getD (impl_Belt_grip.l3.r (x0, x1, x2, x3, x4) ((fadd .f32 1065353216 (fdiv .f32 (fmul .f32 x3 (impl_Belt_wrap x0 x1 x2 x3 x4)) 1098907648)), (0 : Int))) default))
  .bad
noncomputable def impl_Belt_grip (x0 : Nat) (x1 : Nat) (x2 : Nat) (x3 : Nat) (x4 : Bool) : Nat := (impl_Belt_grip.t x0 x1 x2 x3 x4).val
noncomputable def impl_Belt_grip.ok (x0 : Nat) (x1 : Nat) (x2 : Nat) (x3 : Nat) (x4 : Bool) : Bool := (impl_Belt_grip.t x0 x1 x2 x3 x4).ok
def impl_Belt_grip.cd : Cd (Nat × Nat × Nat × Nat × Bool) (List V × Hp) := Cd.iso (Cd.pair (Cd.cons (Cd.pt 0 (Cd.natc 0)) Cd.nil) (Cd.cons (Cd.rw 50 5 (Cd.vs (Cd.cons (Cd.fl .f32) (Cd.cons (Cd.fl .f32) (Cd.cons (Cd.fl .f32) (Cd.cons (Cd.fl .f32) (Cd.cons Cd.bo Cd.nil))))))) Cd.nil)) (fun a => (a.2.1.1, a.2.1.2.1, a.2.1.2.2.1, a.2.1.2.2.2.1, a.2.1.2.2.2.2.1)) (fun a => (((), ()), ((a.1, (a.2.1, (a.2.2.1, (a.2.2.2.1, (a.2.2.2.2, ()))))), ()))) (fun _ => rfl)
noncomputable def impl_Belt_grip.tr (a : Nat × Nat × Nat × Nat × Bool) : T Nat := impl_Belt_grip.t a.1 a.2.1 a.2.2.1 a.2.2.2.1 a.2.2.2.2
def impl_Belt_grip.enc : (Nat × Nat × Nat × Nat × Bool) → Nat → V := fun a r => .fl .f32 r
noncomputable def impl_Belt_grip.c : List V → Hp → T V := cdQ impl_Belt_grip.cd (fun a => .br (impl_Belt_grip.ok a.1 a.2.1 a.2.2.1 a.2.2.2.1 a.2.2.2.2) (.leaf (impl_Belt_grip.enc a (impl_Belt_grip a.1 a.2.1 a.2.2.1 a.2.2.2.1 a.2.2.2.2))) .bad)
theorem impl_Belt_grip.run (a : Nat × Nat × Nat × Nat × Bool) : runF impl_Belt_grip.C Try.f93.results.toList impl_Belt_grip.b (impl_Belt_grip.cd.enc a).1 (impl_Belt_grip.cd.enc a).2 = (impl_Belt_grip.tr a).map fun r => (impl_Belt_grip.enc a r, (impl_Belt_grip.cd.enc a).2) := by kernel_rfl
theorem impl_Belt_grip.cok : OKq Try.prog 93 impl_Belt_grip.c := con_q' impl_Belt_grip.cd impl_Belt_grip.hC Try.func93 (by kernel_rfl) (by kernel_rfl) (by kernel_rfl) impl_Belt_grip.lp (fun a => by kernel_rfl) impl_Belt_grip.run (Tells.ok (tree := impl_Belt_grip.tr))
/-! ### impl_Belt_pull -/
noncomputable def impl_Belt_pull.b : Code := bodyOf Try.f80
noncomputable def impl_Belt_pull.C : Ctx := { ty := tys, fn := [(93, .q impl_Belt_grip.c)], lp := [], n := 11, k := 1 }
theorem impl_Belt_pull.hC : CtxOK Try.prog impl_Belt_pull.C := CtxOK.of mo tys_ok (FnsOK.cons impl_Belt_grip.cok FnsOK.nil)
theorem impl_Belt_pull.lp : LpOK Try.prog impl_Belt_pull.C impl_Belt_pull.b := (LpOK.nil (by kernel_rfl))
noncomputable def impl_Belt_pull.t (x0 : Nat) (x1 : Nat) (x2 : Nat) (x3 : Nat) (x4 : Nat) (x5 : Bool) : T Nat :=
  .br (impl_Belt_grip.ok x1 x2 x3 x4 x5)
  (.leaf (fsub .f32 x0 (fdiv .f32 x0 (impl_Belt_grip x1 x2 x3 x4 x5))))
  .bad
noncomputable def impl_Belt_pull (x0 : Nat) (x1 : Nat) (x2 : Nat) (x3 : Nat) (x4 : Nat) (x5 : Bool) : Nat := (impl_Belt_pull.t x0 x1 x2 x3 x4 x5).val
noncomputable def impl_Belt_pull.ok (x0 : Nat) (x1 : Nat) (x2 : Nat) (x3 : Nat) (x4 : Nat) (x5 : Bool) : Bool := (impl_Belt_pull.t x0 x1 x2 x3 x4 x5).ok
def impl_Belt_pull.cd : Cd (Nat × Nat × Nat × Nat × Nat × Bool) (List V × Hp) := Cd.iso (Cd.pair (Cd.cons (Cd.pt 0 (Cd.natc 0)) (Cd.cons (Cd.fl .f32) Cd.nil)) (Cd.cons (Cd.rw 50 5 (Cd.vs (Cd.cons (Cd.fl .f32) (Cd.cons (Cd.fl .f32) (Cd.cons (Cd.fl .f32) (Cd.cons (Cd.fl .f32) (Cd.cons Cd.bo Cd.nil))))))) Cd.nil)) (fun a => (a.1.2.1, a.2.1.1, a.2.1.2.1, a.2.1.2.2.1, a.2.1.2.2.2.1, a.2.1.2.2.2.2.1)) (fun a => (((), (a.1, ())), ((a.2.1, (a.2.2.1, (a.2.2.2.1, (a.2.2.2.2.1, (a.2.2.2.2.2, ()))))), ()))) (fun _ => rfl)
noncomputable def impl_Belt_pull.tr (a : Nat × Nat × Nat × Nat × Nat × Bool) : T Nat := impl_Belt_pull.t a.1 a.2.1 a.2.2.1 a.2.2.2.1 a.2.2.2.2.1 a.2.2.2.2.2
def impl_Belt_pull.enc : (Nat × Nat × Nat × Nat × Nat × Bool) → Nat → V := fun a r => .fl .f32 r
noncomputable def impl_Belt_pull.c : List V → Hp → T V := cdQ impl_Belt_pull.cd (fun a => .br (impl_Belt_pull.ok a.1 a.2.1 a.2.2.1 a.2.2.2.1 a.2.2.2.2.1 a.2.2.2.2.2) (.leaf (impl_Belt_pull.enc a (impl_Belt_pull a.1 a.2.1 a.2.2.1 a.2.2.2.1 a.2.2.2.2.1 a.2.2.2.2.2))) .bad)
theorem impl_Belt_pull.run (a : Nat × Nat × Nat × Nat × Nat × Bool) : runF impl_Belt_pull.C Try.f80.results.toList impl_Belt_pull.b (impl_Belt_pull.cd.enc a).1 (impl_Belt_pull.cd.enc a).2 = (impl_Belt_pull.tr a).map fun r => (impl_Belt_pull.enc a r, (impl_Belt_pull.cd.enc a).2) := by kernel_rfl
theorem impl_Belt_pull.cok : OKq Try.prog 80 impl_Belt_pull.c := con_q' impl_Belt_pull.cd impl_Belt_pull.hC Try.func80 (by kernel_rfl) (by kernel_rfl) (by kernel_rfl) impl_Belt_pull.lp (fun a => by kernel_rfl) impl_Belt_pull.run (Tells.ok (tree := impl_Belt_pull.tr))
/-! ### impl_Belt_torque -/
noncomputable def impl_Belt_torque.b : Code := bodyOf Try.f48
noncomputable def impl_Belt_torque.C : Ctx := { ty := tys, fn := [(80, .q impl_Belt_pull.c)], lp := [], n := 13, k := 1 }
theorem impl_Belt_torque.hC : CtxOK Try.prog impl_Belt_torque.C := CtxOK.of mo tys_ok (FnsOK.cons impl_Belt_pull.cok FnsOK.nil)
theorem impl_Belt_torque.lp : LpOK Try.prog impl_Belt_torque.C impl_Belt_torque.b := (LpOK.nil (by kernel_rfl))
noncomputable def impl_Belt_torque.t (x0 : Nat) (x1 : Nat) (x2 : Nat) (x3 : Nat) (x4 : Nat) (x5 : Bool) : T Nat :=
  .br (impl_Belt_pull.ok x0 x1 x2 x3 x4 x5)
  (.leaf (fmul .f32 (impl_Belt_pull x0 x1 x2 x3 x4 x5) x1))
  .bad
noncomputable def impl_Belt_torque (x0 : Nat) (x1 : Nat) (x2 : Nat) (x3 : Nat) (x4 : Nat) (x5 : Bool) : Nat := (impl_Belt_torque.t x0 x1 x2 x3 x4 x5).val
noncomputable def impl_Belt_torque.ok (x0 : Nat) (x1 : Nat) (x2 : Nat) (x3 : Nat) (x4 : Nat) (x5 : Bool) : Bool := (impl_Belt_torque.t x0 x1 x2 x3 x4 x5).ok
def impl_Belt_torque.cd : Cd (Nat × Nat × Nat × Nat × Nat × Bool) (List V × Hp) := Cd.iso (Cd.pair (Cd.cons (Cd.pt 0 (Cd.natc 0)) (Cd.cons (Cd.fl .f32) Cd.nil)) (Cd.cons (Cd.rw 50 5 (Cd.vs (Cd.cons (Cd.fl .f32) (Cd.cons (Cd.fl .f32) (Cd.cons (Cd.fl .f32) (Cd.cons (Cd.fl .f32) (Cd.cons Cd.bo Cd.nil))))))) Cd.nil)) (fun a => (a.1.2.1, a.2.1.1, a.2.1.2.1, a.2.1.2.2.1, a.2.1.2.2.2.1, a.2.1.2.2.2.2.1)) (fun a => (((), (a.1, ())), ((a.2.1, (a.2.2.1, (a.2.2.2.1, (a.2.2.2.2.1, (a.2.2.2.2.2, ()))))), ()))) (fun _ => rfl)
noncomputable def impl_Belt_torque.tr (a : Nat × Nat × Nat × Nat × Nat × Bool) : T Nat := impl_Belt_torque.t a.1 a.2.1 a.2.2.1 a.2.2.2.1 a.2.2.2.2.1 a.2.2.2.2.2
def impl_Belt_torque.enc : (Nat × Nat × Nat × Nat × Nat × Bool) → Nat → V := fun a r => .fl .f32 r
noncomputable def impl_Belt_torque.c : List V → Hp → T V := cdQ impl_Belt_torque.cd (fun a => .br (impl_Belt_torque.ok a.1 a.2.1 a.2.2.1 a.2.2.2.1 a.2.2.2.2.1 a.2.2.2.2.2) (.leaf (impl_Belt_torque.enc a (impl_Belt_torque a.1 a.2.1 a.2.2.1 a.2.2.2.1 a.2.2.2.2.1 a.2.2.2.2.2))) .bad)
theorem impl_Belt_torque.run (a : Nat × Nat × Nat × Nat × Nat × Bool) : runF impl_Belt_torque.C Try.f48.results.toList impl_Belt_torque.b (impl_Belt_torque.cd.enc a).1 (impl_Belt_torque.cd.enc a).2 = (impl_Belt_torque.tr a).map fun r => (impl_Belt_torque.enc a r, (impl_Belt_torque.cd.enc a).2) := by kernel_rfl
theorem impl_Belt_torque.cok : OKq Try.prog 48 impl_Belt_torque.c := con_q' impl_Belt_torque.cd impl_Belt_torque.hC Try.func48 (by kernel_rfl) (by kernel_rfl) (by kernel_rfl) impl_Belt_torque.lp (fun a => by kernel_rfl) impl_Belt_torque.run (Tells.ok (tree := impl_Belt_torque.tr))
/-! ### impl_size -/
noncomputable def impl_size.b : Code := bodyOf Try.f53
noncomputable def impl_size.C : Ctx := { ty := tys, fn := [], lp := [], n := 8, k := 0 }
theorem impl_size.hC : CtxOK Try.prog impl_size.C := CtxOK.of mo tys_ok FnsOK.nil
theorem impl_size.lp : LpOK Try.prog impl_size.C impl_size.b := (LpOK.nil (by kernel_rfl))
noncomputable def impl_size.t (x0 : Nat) : T Nat :=
  .br (flt .f32 x0 0)
  (.leaf (fsub .f32 0 x0))
  (.leaf x0)
noncomputable def impl_size (x0 : Nat) : Nat := (impl_size.t x0).val
def impl_size.cd : Cd Nat (List V × Hp) := Cd.iso (Cd.pair (Cd.cons (Cd.fl .f32) Cd.nil) Cd.nil) (fun a => a.1.1) (fun a => ((a, ()), ())) (fun _ => rfl)
noncomputable def impl_size.tr (a : Nat) : T Nat := impl_size.t a
def impl_size.enc : Nat → Nat → V := fun a r => .fl .f32 r
noncomputable def impl_size.c : List V → Hp → T V := cdQ impl_size.cd (fun a => .leaf (impl_size.enc a (impl_size a)))
theorem impl_size.run (a : Nat) : runF impl_size.C Try.f53.results.toList impl_size.b (impl_size.cd.enc a).1 (impl_size.cd.enc a).2 = (impl_size.tr a).map fun r => (impl_size.enc a r, (impl_size.cd.enc a).2) := by kernel_rfl
theorem impl_size.cok : OKq Try.prog 53 impl_size.c := con_q' impl_size.cd impl_size.hC Try.func53 (by kernel_rfl) (by kernel_rfl) (by kernel_rfl) impl_size.lp (fun a => by kernel_rfl) impl_size.run (Tells.val (tree := impl_size.tr) fun a => by kernel_rfl)
/-! ### impl_BeltsNeeded -/
noncomputable def impl_BeltsNeeded.b : Code := bodyOf Try.f27
noncomputable def impl_BeltsNeeded.l5.s (x0 : Nat) (x1 : Nat) (x2 : Int) (x3 : Nat) (x4 : Nat) (x5 : Nat) (x6 : Nat) (x7 : Bool) : T (Int ⊕ ((Int × Int) ⊕ Unit)) :=
  .br (decide (x2 ≤ (12 : Int)))
  (.br (impl_Belt_torque.ok x0 x3 x4 x5 x6 x7)
   (.br (fge .f32 (fmul .f32 (impl_Belt_torque x0 x3 x4 x5 x6 x7) (fofint .f32 x2)) (impl_size x1))
    (.leaf (.inr (.inl (x2, (0 : Int)))))
    (.leaf (.inl (IntKind.wrap .i64 (x2 + (1 : Int))))))
   .bad)
  (.leaf (.inr (.inr ())))
noncomputable def impl_BeltsNeeded.l5.st (p : Nat × Nat × Nat × Nat × Nat × Nat × Bool) (x : Int) : T (Int ⊕ ((Int × Int) ⊕ Unit)) := impl_BeltsNeeded.l5.s p.1 p.2.1 x p.2.2.1 p.2.2.2.1 p.2.2.2.2.1 p.2.2.2.2.2.1 p.2.2.2.2.2.2
noncomputable def impl_BeltsNeeded.l5.r (p : Nat × Nat × Nat × Nat × Nat × Nat × Bool) (x : Int) : Option ((Int × Int) ⊕ Unit) := iterT (impl_BeltsNeeded.l5.st p) manyRounds x
def impl_BeltsNeeded.l5.cd : Cd ((Nat × Nat × Nat × Nat × Nat × Nat × Bool) × Int) (List V × Hp) := Cd.iso (Cd.pair (Cd.cons (Cd.fl .f32) (Cd.cons (Cd.fl .f32) (Cd.cons (Cd.pt 0 (Cd.natc 0)) (Cd.cons (Cd.it .i64) Cd.nil)))) (Cd.cons (Cd.rw 50 5 (Cd.vs (Cd.cons (Cd.fl .f32) (Cd.cons (Cd.fl .f32) (Cd.cons (Cd.fl .f32) (Cd.cons (Cd.fl .f32) (Cd.cons Cd.bo Cd.nil))))))) Cd.nil)) (fun a => ((a.1.1, a.1.2.1, a.2.1.1, a.2.1.2.1, a.2.1.2.2.1, a.2.1.2.2.2.1, a.2.1.2.2.2.2.1), a.1.2.2.2.1)) (fun a => ((a.1.1, (a.1.2.1, ((), (a.2, ())))), ((a.1.2.2.1, (a.1.2.2.2.1, (a.1.2.2.2.2.1, (a.1.2.2.2.2.2.1, (a.1.2.2.2.2.2.2, ()))))), ()))) (fun _ => rfl)
def impl_BeltsNeeded.l5.out (p : Nat × Nat × Nat × Nat × Nat × Nat × Bool) : ((Int × Int) ⊕ Unit) → X × List V × Hp := sumO (fun r => (.ret, [.it .i64 r.1, .it .i64 r.2], [])) (fun r => (.ex 0, [.unk, .unk], []))
def impl_BeltsNeeded.l5.ex (p : Nat × Nat × Nat × Nat × Nat × Nat × Bool) : ((Int × Int) ⊕ Unit) → T (X × List V × Hp) := sumT (leafT (fun r => (.ret, [.it .i64 r.1, .it .i64 r.2], []))) (leafT (fun r => (.ex 0, [.unk, .unk], [])))
noncomputable def impl_BeltsNeeded.l5.c : List V → Hp → T (X × List V × Hp) := cdL impl_BeltsNeeded.l5.cd fun x => optT (impl_BeltsNeeded.l5.r x.1 x.2) (impl_BeltsNeeded.l5.ex x.1)
noncomputable def impl_BeltsNeeded.C : Ctx := { ty := tys, fn := [(50, .q impl_isAmount.c), (52, .q impl_IsPlain.c), (49, .q impl_beltCode.c), (48, .q impl_Belt_torque.c), (53, .q impl_size.c)], lp := [(5, ⟨[1, 2, 3, 9], [6, 7], impl_BeltsNeeded.l5.c⟩)], n := 34, k := 0 }
theorem impl_BeltsNeeded.hC : CtxOK Try.prog impl_BeltsNeeded.C := CtxOK.of mo tys_ok (FnsOK.cons impl_isAmount.cok (FnsOK.cons impl_IsPlain.cok (FnsOK.cons impl_beltCode.cok (FnsOK.cons impl_Belt_torque.cok (FnsOK.cons impl_size.cok FnsOK.nil)))))
noncomputable def impl_BeltsNeeded.b5 : Code := (nthC (loopsOf impl_BeltsNeeded.b) 0)
theorem impl_BeltsNeeded.lp5 : LpOK Try.prog impl_BeltsNeeded.C impl_BeltsNeeded.b5 := (LpOK.nil (by kernel_rfl))
theorem impl_BeltsNeeded.l5.round (p : Nat × Nat × Nat × Nat × Nat × Nat × Bool) (s : Int) : roundL impl_BeltsNeeded.C [1, 2, 3, 9] [6, 7] impl_BeltsNeeded.b5 (impl_BeltsNeeded.l5.cd.enc (p, s)).1 (impl_BeltsNeeded.l5.cd.enc (p, s)).2 = (impl_BeltsNeeded.l5.st p s).map (encSum (fun s => impl_BeltsNeeded.l5.cd.enc (p, s)) (impl_BeltsNeeded.l5.out p)) := by kernel_rfl
theorem impl_BeltsNeeded.l5.lok : LoopOK Try.prog impl_BeltsNeeded.C ⟨[1, 2, 3, 9], [6, 7], impl_BeltsNeeded.l5.c⟩ impl_BeltsNeeded.b5 := loop_cd impl_BeltsNeeded.l5.cd impl_BeltsNeeded.hC impl_BeltsNeeded.lp5 impl_BeltsNeeded.l5.round fun p => (Gets.sum Gets.leaf Gets.leaf)
theorem impl_BeltsNeeded.lp : LpOK Try.prog impl_BeltsNeeded.C impl_BeltsNeeded.b := lp_of (by kernel_rfl) (LpsOK.cons (k := 5) (by kernel_rfl) (by kernel_rfl) impl_BeltsNeeded.l5.lok LpsOK.nil)
noncomputable def impl_BeltsNeeded.t (x0 : Nat) (x1 : Nat) (x2 : Nat) (x3 : Nat) (x4 : Bool) (x5 : Nat) (x6 : Nat) : T (Int × Int) :=
  .br (impl_isAmount x5)
  (.br ((impl_beltCode x0 x1 x2 x3 x4 (impl_IsPlain x6)) != (0 : Int))
   (.leaf ((0 : Int), (impl_beltCode x0 x1 x2 x3 x4 (impl_IsPlain x6))))
   (.br (Option.isSome (impl_BeltsNeeded.l5.r (x5, x6, x0, x1, x2, x3, x4) (1 : Int)))
    (.br (Sum.isLeft (Option.getD (impl_BeltsNeeded.l5.r (x5, x6, x0, x1, x2, x3, x4) (1 : Int)) default))
     (.leaf ((getLeftD (Option.getD (impl_BeltsNeeded.l5.r (x5, x6, x0, x1, x2, x3, x4) (1 : Int)) default)).1, (getLeftD (Option.getD (impl_BeltsNeeded.l5.r (x5, x6, x0, x1, x2, x3, x4) (1 : Int)) default)).2))
     (.leaf ((0 : Int), (6 : Int))))
    .bad))
  (.br ((impl_beltCode x0 x1 x2 x3 x4 false) != (0 : Int))
   (.leaf ((0 : Int), (impl_beltCode x0 x1 x2 x3 x4 false)))
   (.br (Option.isSome (impl_BeltsNeeded.l5.r (x5, x6, x0, x1, x2, x3, x4) (1 : Int)))
    (.br (Sum.isLeft (Option.getD (impl_BeltsNeeded.l5.r (x5, x6, x0, x1, x2, x3, x4) (1 : Int)) default))
     (.leaf ((getLeftD (Option.getD (impl_BeltsNeeded.l5.r (x5, x6, x0, x1, x2, x3, x4) (1 : Int)) default)).1, (getLeftD (Option.getD (impl_BeltsNeeded.l5.r (x5, x6, x0, x1, x2, x3, x4) (1 : Int)) default)).2))
     (.leaf ((0 : Int), (6 : Int))))
    .bad))
noncomputable def impl_BeltsNeeded (x0 : Nat) (x1 : Nat) (x2 : Nat) (x3 : Nat) (x4 : Bool) (x5 : Nat) (x6 : Nat) : Int × Int := (impl_BeltsNeeded.t x0 x1 x2 x3 x4 x5 x6).val
noncomputable def impl_BeltsNeeded.ok (x0 : Nat) (x1 : Nat) (x2 : Nat) (x3 : Nat) (x4 : Bool) (x5 : Nat) (x6 : Nat) : Bool := (impl_BeltsNeeded.t x0 x1 x2 x3 x4 x5 x6).ok
def impl_BeltsNeeded.cd : Cd (Nat × Nat × Nat × Nat × Bool × Nat × Nat) (List V × Hp) := Cd.iso (Cd.pair (Cd.cons (Cd.agg (Cd.cons (Cd.fl .f32) (Cd.cons (Cd.fl .f32) (Cd.cons (Cd.fl .f32) (Cd.cons (Cd.fl .f32) (Cd.cons Cd.bo Cd.nil)))))) (Cd.cons (Cd.fl .f32) (Cd.cons (Cd.fl .f32) Cd.nil))) Cd.nil) (fun a => (a.1.1.1, a.1.1.2.1, a.1.1.2.2.1, a.1.1.2.2.2.1, a.1.1.2.2.2.2.1, a.1.2.1, a.1.2.2.1)) (fun a => (((a.1, (a.2.1, (a.2.2.1, (a.2.2.2.1, (a.2.2.2.2.1, ()))))), (a.2.2.2.2.2.1, (a.2.2.2.2.2.2, ()))), ())) (fun _ => rfl)
noncomputable def impl_BeltsNeeded.tr (a : Nat × Nat × Nat × Nat × Bool × Nat × Nat) : T (Int × Int) := impl_BeltsNeeded.t a.1 a.2.1 a.2.2.1 a.2.2.2.1 a.2.2.2.2.1 a.2.2.2.2.2.1 a.2.2.2.2.2.2
def impl_BeltsNeeded.enc : (Nat × Nat × Nat × Nat × Bool × Nat × Nat) → (Int × Int) → V := fun a r => .tup [.it .i64 r.1, .it .i64 r.2]
noncomputable def impl_BeltsNeeded.c : List V → Hp → T V := cdQ impl_BeltsNeeded.cd (fun a => .br (impl_BeltsNeeded.ok a.1 a.2.1 a.2.2.1 a.2.2.2.1 a.2.2.2.2.1 a.2.2.2.2.2.1 a.2.2.2.2.2.2) (.leaf (impl_BeltsNeeded.enc a (impl_BeltsNeeded a.1 a.2.1 a.2.2.1 a.2.2.2.1 a.2.2.2.2.1 a.2.2.2.2.2.1 a.2.2.2.2.2.2))) .bad)
theorem impl_BeltsNeeded.run (a : Nat × Nat × Nat × Nat × Bool × Nat × Nat) : runF impl_BeltsNeeded.C Try.f27.results.toList impl_BeltsNeeded.b (impl_BeltsNeeded.cd.enc a).1 (impl_BeltsNeeded.cd.enc a).2 = (impl_BeltsNeeded.tr a).map fun r => (impl_BeltsNeeded.enc a r, (impl_BeltsNeeded.cd.enc a).2) := by kernel_rfl
theorem impl_BeltsNeeded.cok : OKq Try.prog 27 impl_BeltsNeeded.c := con_q' impl_BeltsNeeded.cd impl_BeltsNeeded.hC Try.func27 (by kernel_rfl) (by kernel_rfl) (by kernel_rfl) impl_BeltsNeeded.lp (fun a => by kernel_rfl) impl_BeltsNeeded.run (Tells.ok (tree := impl_BeltsNeeded.tr))
/-! ### laws_FnExactBeltsNeeded -/
noncomputable def laws_FnExactBeltsNeeded.b : Code := bodyOf Try.f6
noncomputable def laws_FnExactBeltsNeeded.C : Ctx := { ty := tys, fn := [(24, .q laws_toBelt.c), (26, .q spec_BeltsNeeded.c), (27, .q impl_BeltsNeeded.c)], lp := [], n := 35, k := 0 }
theorem laws_FnExactBeltsNeeded.hC : CtxOK Try.prog laws_FnExactBeltsNeeded.C := CtxOK.of mo tys_ok (FnsOK.cons laws_toBelt.cok (FnsOK.cons spec_BeltsNeeded.cok (FnsOK.cons impl_BeltsNeeded.cok FnsOK.nil)))
theorem laws_FnExactBeltsNeeded.lp : LpOK Try.prog laws_FnExactBeltsNeeded.C laws_FnExactBeltsNeeded.b := (LpOK.nil (by kernel_rfl))
noncomputable def laws_FnExactBeltsNeeded.t (x0 : Nat) (x1 : Nat) (x2 : Nat) (x3 : Nat) (x4 : Bool) (x5 : Nat) (x6 : Nat) : T Bool :=
  .br (spec_BeltsNeeded.ok ((laws_toBelt x0 x1 x2 x3 x4).1) ((laws_toBelt x0 x1 x2 x3 x4).2.1) ((laws_toBelt x0 x1 x2 x3 x4).2.2.1) ((laws_toBelt x0 x1 x2 x3 x4).2.2.2.1) ((laws_toBelt x0 x1 x2 x3 x4).2.2.2.2) x5 x6)
  (.br (impl_BeltsNeeded.ok ((laws_toBelt x0 x1 x2 x3 x4).1) ((laws_toBelt x0 x1 x2 x3 x4).2.1) ((laws_toBelt x0 x1 x2 x3 x4).2.2.1) ((laws_toBelt x0 x1 x2 x3 x4).2.2.2.1) ((laws_toBelt x0 x1 x2 x3 x4).2.2.2.2) x5 x6)
   (.br ((impl_BeltsNeeded ((laws_toBelt x0 x1 x2 x3 x4).1) ((laws_toBelt x0 x1 x2 x3 x4).2.1) ((laws_toBelt x0 x1 x2 x3 x4).2.2.1) ((laws_toBelt x0 x1 x2 x3 x4).2.2.2.1) ((laws_toBelt x0 x1 x2 x3 x4).2.2.2.2) x5 x6).1 != (spec_BeltsNeeded ((laws_toBelt x0 x1 x2 x3 x4).1) ((laws_toBelt x0 x1 x2 x3 x4).2.1) ((laws_toBelt x0 x1 x2 x3 x4).2.2.1) ((laws_toBelt x0 x1 x2 x3 x4).2.2.2.1) ((laws_toBelt x0 x1 x2 x3 x4).2.2.2.2) x5 x6).1)
    (.leaf false)
    (.br ((impl_BeltsNeeded ((laws_toBelt x0 x1 x2 x3 x4).1) ((laws_toBelt x0 x1 x2 x3 x4).2.1) ((laws_toBelt x0 x1 x2 x3 x4).2.2.1) ((laws_toBelt x0 x1 x2 x3 x4).2.2.2.1) ((laws_toBelt x0 x1 x2 x3 x4).2.2.2.2) x5 x6).2 != (spec_BeltsNeeded ((laws_toBelt x0 x1 x2 x3 x4).1) ((laws_toBelt x0 x1 x2 x3 x4).2.1) ((laws_toBelt x0 x1 x2 x3 x4).2.2.1) ((laws_toBelt x0 x1 x2 x3 x4).2.2.2.1) ((laws_toBelt x0 x1 x2 x3 x4).2.2.2.2) x5 x6).2)
     (.leaf false)
     (.leaf true)))
   .bad)
  .bad
noncomputable def laws_FnExactBeltsNeeded (x0 : Nat) (x1 : Nat) (x2 : Nat) (x3 : Nat) (x4 : Bool) (x5 : Nat) (x6 : Nat) : Bool := (laws_FnExactBeltsNeeded.t x0 x1 x2 x3 x4 x5 x6).val
noncomputable def laws_FnExactBeltsNeeded.ok (x0 : Nat) (x1 : Nat) (x2 : Nat) (x3 : Nat) (x4 : Bool) (x5 : Nat) (x6 : Nat) : Bool := (laws_FnExactBeltsNeeded.t x0 x1 x2 x3 x4 x5 x6).ok
def laws_FnExactBeltsNeeded.cd : Cd (Nat × Nat × Nat × Nat × Bool × Nat × Nat) (List V × Hp) := Cd.iso (Cd.pair (Cd.cons (Cd.agg (Cd.cons (Cd.fl .f32) (Cd.cons (Cd.fl .f32) (Cd.cons (Cd.fl .f32) (Cd.cons (Cd.fl .f32) (Cd.cons Cd.bo Cd.nil)))))) (Cd.cons (Cd.fl .f32) (Cd.cons (Cd.fl .f32) Cd.nil))) Cd.nil) (fun a => (a.1.1.1, a.1.1.2.1, a.1.1.2.2.1, a.1.1.2.2.2.1, a.1.1.2.2.2.2.1, a.1.2.1, a.1.2.2.1)) (fun a => (((a.1, (a.2.1, (a.2.2.1, (a.2.2.2.1, (a.2.2.2.2.1, ()))))), (a.2.2.2.2.2.1, (a.2.2.2.2.2.2, ()))), ())) (fun _ => rfl)
noncomputable def laws_FnExactBeltsNeeded.tr (a : Nat × Nat × Nat × Nat × Bool × Nat × Nat) : T Bool := laws_FnExactBeltsNeeded.t a.1 a.2.1 a.2.2.1 a.2.2.2.1 a.2.2.2.2.1 a.2.2.2.2.2.1 a.2.2.2.2.2.2
def laws_FnExactBeltsNeeded.enc : (Nat × Nat × Nat × Nat × Bool × Nat × Nat) → Bool → V := fun a r => .bo r
noncomputable def laws_FnExactBeltsNeeded.c : List V → Hp → T V := cdQ laws_FnExactBeltsNeeded.cd (fun a => .br (laws_FnExactBeltsNeeded.ok a.1 a.2.1 a.2.2.1 a.2.2.2.1 a.2.2.2.2.1 a.2.2.2.2.2.1 a.2.2.2.2.2.2) (.leaf (laws_FnExactBeltsNeeded.enc a (laws_FnExactBeltsNeeded a.1 a.2.1 a.2.2.1 a.2.2.2.1 a.2.2.2.2.1 a.2.2.2.2.2.1 a.2.2.2.2.2.2))) .bad)
theorem laws_FnExactBeltsNeeded.run (a : Nat × Nat × Nat × Nat × Bool × Nat × Nat) : runF laws_FnExactBeltsNeeded.C Try.f6.results.toList laws_FnExactBeltsNeeded.b (laws_FnExactBeltsNeeded.cd.enc a).1 (laws_FnExactBeltsNeeded.cd.enc a).2 = (laws_FnExactBeltsNeeded.tr a).map fun r => (laws_FnExactBeltsNeeded.enc a r, (laws_FnExactBeltsNeeded.cd.enc a).2) := by kernel_rfl
theorem laws_FnExactBeltsNeeded.cok : OKq Try.prog 6 laws_FnExactBeltsNeeded.c := con_q' laws_FnExactBeltsNeeded.cd laws_FnExactBeltsNeeded.hC Try.func6 (by kernel_rfl) (by kernel_rfl) (by kernel_rfl) laws_FnExactBeltsNeeded.lp (fun a => by kernel_rfl) laws_FnExactBeltsNeeded.run (Tells.ok (tree := laws_FnExactBeltsNeeded.tr))
theorem laws_FnExactBeltsNeeded.walk (a : Nat × Nat × Nat × Nat × Bool × Nat × Nat) (h : (laws_FnExactBeltsNeeded.tr a).get = some true) {ρ : Nat → Option Sx.Loc} {w : World} {vs : List Value} (hargs : V.Rs ρ (laws_FnExactBeltsNeeded.cd.enc a).1 vs) (hh : HpR ρ (laws_FnExactBeltsNeeded.cd.enc a).2 w) :
    Calls Try.prog 6 vs.toArray w fun e w' => e = .returned (.bool true) ∧ Below w.heap.size w w' :=
  law_cd laws_FnExactBeltsNeeded.cd laws_FnExactBeltsNeeded.hC Try.func6 (by kernel_rfl) (by kernel_rfl) laws_FnExactBeltsNeeded.lp (fun a => by kernel_rfl) laws_FnExactBeltsNeeded.run (fun a => by kernel_rfl) a (by kernel_rfl) h hargs hh
end Go.Proofs.Ytkfpmiggolmabaa
