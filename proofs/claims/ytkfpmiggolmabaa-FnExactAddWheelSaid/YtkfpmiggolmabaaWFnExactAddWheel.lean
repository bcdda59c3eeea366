/- The walk of FnExactAddWheel: what each function that it comes to computes, as a tree of tests. -/
import Derived.Test.YtkfpmiggolmabaaIns2
import Derived.Test.YtkfpmiggolmabaaSxP
import Derived.Test.YtkfpmiggolmabaaChecked
namespace Go.Proofs.Ytkfpmiggolmabaa
open Go Go.RowKit Sx
set_option linter.unusedVariables false
set_option maxRecDepth 100000
set_option maxHeartbeats 0
noncomputable def ti1 : TI := ⟨Try.t1.desc, 1, 8, [.nf]⟩
theorem ti1_ok : TyOK Try.prog 1 ti1 := TyOK.of (inf := Try.t1) Try.underlying1 (by kernel_rfl) (by kernel_rfl) (by kernel_rfl) (by kernel_rfl)
noncomputable def ti2 : TI := ⟨Try.t2.desc, 1, 8, [.it .i64 (0 : Int)]⟩
theorem ti2_ok : TyOK Try.prog 2 ti2 := TyOK.of (inf := Try.t2) Try.underlying2 (by kernel_rfl) (by kernel_rfl) (by kernel_rfl) (by kernel_rfl)
noncomputable def ti3 : TI := ⟨Try.t3.desc, 1, 8, [.it .i64 (0 : Int)]⟩
theorem ti3_ok : TyOK Try.prog 3 ti3 := TyOK.of (inf := Try.t3) Try.underlying3 (by kernel_rfl) (by kernel_rfl) (by kernel_rfl) (by kernel_rfl)
noncomputable def ti4 : TI := ⟨Try.t4.desc, 1, 1, [.kb false]⟩
theorem ti4_ok : TyOK Try.prog 4 ti4 := TyOK.of (inf := Try.t4) Try.underlying4 (by kernel_rfl) (by kernel_rfl) (by kernel_rfl) (by kernel_rfl)
noncomputable def ti5 : TI := ⟨Try.t5.desc, 1, 1, [.it .u8 (0 : Int)]⟩
theorem ti5_ok : TyOK Try.prog 5 ti5 := TyOK.of (inf := Try.t5) Try.underlying5 (by kernel_rfl) (by kernel_rfl) (by kernel_rfl) (by kernel_rfl)
noncomputable def ti6 : TI := ⟨Try.t5.desc, 1, 1, [.it .u8 (0 : Int)]⟩
theorem ti6_ok : TyOK Try.prog 6 ti6 := TyOK.of (inf := Try.t6) Try.underlying6 (by kernel_rfl) (by kernel_rfl) (by kernel_rfl) (by kernel_rfl)
noncomputable def ti7 : TI := ⟨Try.t7.desc, 4, 24, [.it .i64 (0 : Int), .it .i64 (0 : Int), .kb false, .it .u8 (0 : Int)]⟩
theorem ti7_ok : TyOK Try.prog 7 ti7 := TyOK.of (inf := Try.t7) Try.underlying7 (by kernel_rfl) (by kernel_rfl) (by kernel_rfl) (by kernel_rfl)
noncomputable def ti8 : TI := ⟨Try.t7.desc, 4, 24, [.it .i64 (0 : Int), .it .i64 (0 : Int), .kb false, .it .u8 (0 : Int)]⟩
theorem ti8_ok : TyOK Try.prog 8 ti8 := TyOK.of (inf := Try.t8) Try.underlying8 (by kernel_rfl) (by kernel_rfl) (by kernel_rfl) (by kernel_rfl)
noncomputable def ti9 : TI := ⟨Try.t9.desc, 1, 16, [.st (ByteArray.mk #[])]⟩
theorem ti9_ok : TyOK Try.prog 9 ti9 := TyOK.of (inf := Try.t9) Try.underlying9 (by kernel_rfl) (by kernel_rfl) (by kernel_rfl) (by kernel_rfl)
noncomputable def ti10 : TI := ⟨Try.t9.desc, 1, 16, [.st (ByteArray.mk #[])]⟩
theorem ti10_ok : TyOK Try.prog 10 ti10 := TyOK.of (inf := Try.t10) Try.underlying10 (by kernel_rfl) (by kernel_rfl) (by kernel_rfl) (by kernel_rfl)
noncomputable def ti11 : TI := ⟨Try.t9.desc, 1, 16, [.st (ByteArray.mk #[])]⟩
theorem ti11_ok : TyOK Try.prog 11 ti11 := TyOK.of (inf := Try.t11) Try.underlying11 (by kernel_rfl) (by kernel_rfl) (by kernel_rfl) (by kernel_rfl)
noncomputable def ti12 : TI := ⟨Try.t12.desc, 1, 8, [.it .u64 (0 : Int)]⟩
theorem ti12_ok : TyOK Try.prog 12 ti12 := TyOK.of (inf := Try.t12) Try.underlying12 (by kernel_rfl) (by kernel_rfl) (by kernel_rfl) (by kernel_rfl)
noncomputable def ti13 : TI := ⟨Try.t13.desc, 2, 24, [.st (ByteArray.mk #[]), .it .u64 (0 : Int)]⟩
theorem ti13_ok : TyOK Try.prog 13 ti13 := TyOK.of (inf := Try.t13) Try.underlying13 (by kernel_rfl) (by kernel_rfl) (by kernel_rfl) (by kernel_rfl)
noncomputable def ti14 : TI := ⟨Try.t13.desc, 2, 24, [.st (ByteArray.mk #[]), .it .u64 (0 : Int)]⟩
theorem ti14_ok : TyOK Try.prog 14 ti14 := TyOK.of (inf := Try.t14) Try.underlying14 (by kernel_rfl) (by kernel_rfl) (by kernel_rfl) (by kernel_rfl)
noncomputable def ti15 : TI := ⟨Try.t15.desc, 1, 8, [.pn]⟩
theorem ti15_ok : TyOK Try.prog 15 ti15 := TyOK.of (inf := Try.t15) Try.underlying15 (by kernel_rfl) (by kernel_rfl) (by kernel_rfl) (by kernel_rfl)
noncomputable def ti16 : TI := ⟨Try.t16.desc, 1, 8, [.pn]⟩
theorem ti16_ok : TyOK Try.prog 16 ti16 := TyOK.of (inf := Try.t16) Try.underlying16 (by kernel_rfl) (by kernel_rfl) (by kernel_rfl) (by kernel_rfl)
noncomputable def ti17 : TI := ⟨Try.t17.desc, 1, 8, [.pn]⟩
theorem ti17_ok : TyOK Try.prog 17 ti17 := TyOK.of (inf := Try.t17) Try.underlying17 (by kernel_rfl) (by kernel_rfl) (by kernel_rfl) (by kernel_rfl)
noncomputable def ti18 : TI := ⟨Try.t18.desc, 1, 8, [.pn]⟩
theorem ti18_ok : TyOK Try.prog 18 ti18 := TyOK.of (inf := Try.t18) Try.underlying18 (by kernel_rfl) (by kernel_rfl) (by kernel_rfl) (by kernel_rfl)
noncomputable def ti19 : TI := ⟨Try.t18.desc, 1, 8, [.pn]⟩
theorem ti19_ok : TyOK Try.prog 19 ti19 := TyOK.of (inf := Try.t19) Try.underlying19 (by kernel_rfl) (by kernel_rfl) (by kernel_rfl) (by kernel_rfl)
noncomputable def ti21 : TI := ⟨Try.t21.desc, 1, 4, [.it .i32 (0 : Int)]⟩
theorem ti21_ok : TyOK Try.prog 21 ti21 := TyOK.of (inf := Try.t21) Try.underlying21 (by kernel_rfl) (by kernel_rfl) (by kernel_rfl) (by kernel_rfl)
noncomputable def ti22 : TI := ⟨Try.t22.desc, 1, 24, [.sn]⟩
theorem ti22_ok : TyOK Try.prog 22 ti22 := TyOK.of (inf := Try.t22) Try.underlying22 (by kernel_rfl) (by kernel_rfl) (by kernel_rfl) (by kernel_rfl)
noncomputable def ti23 : TI := ⟨Try.t23.desc, 1, 4, [.fl .f32 0]⟩
theorem ti23_ok : TyOK Try.prog 23 ti23 := TyOK.of (inf := Try.t23) Try.underlying23 (by kernel_rfl) (by kernel_rfl) (by kernel_rfl) (by kernel_rfl)
noncomputable def ti25 : TI := ⟨Try.t25.desc, 1, 8, [.nf]⟩
theorem ti25_ok : TyOK Try.prog 25 ti25 := TyOK.of (inf := Try.t25) Try.underlying25 (by kernel_rfl) (by kernel_rfl) (by kernel_rfl) (by kernel_rfl)
noncomputable def ti26 : TI := ⟨Try.t26.desc, 1, 8, [.nf]⟩
theorem ti26_ok : TyOK Try.prog 26 ti26 := TyOK.of (inf := Try.t26) Try.underlying26 (by kernel_rfl) (by kernel_rfl) (by kernel_rfl) (by kernel_rfl)
noncomputable def ti27 : TI := ⟨Try.t27.desc, 1, 8, [.nf]⟩
theorem ti27_ok : TyOK Try.prog 27 ti27 := TyOK.of (inf := Try.t27) Try.underlying27 (by kernel_rfl) (by kernel_rfl) (by kernel_rfl) (by kernel_rfl)
noncomputable def ti28 : TI := ⟨Try.t28.desc, 1, 8, [.fl .f64 0]⟩
theorem ti28_ok : TyOK Try.prog 28 ti28 := TyOK.of (inf := Try.t28) Try.underlying28 (by kernel_rfl) (by kernel_rfl) (by kernel_rfl) (by kernel_rfl)
noncomputable def ti29 : TI := ⟨Try.t29.desc, 1, 8, [.nf]⟩
theorem ti29_ok : TyOK Try.prog 29 ti29 := TyOK.of (inf := Try.t29) Try.underlying29 (by kernel_rfl) (by kernel_rfl) (by kernel_rfl) (by kernel_rfl)
noncomputable def ti30 : TI := ⟨Try.t30.desc, 1, 8, [.nf]⟩
theorem ti30_ok : TyOK Try.prog 30 ti30 := TyOK.of (inf := Try.t30) Try.underlying30 (by kernel_rfl) (by kernel_rfl) (by kernel_rfl) (by kernel_rfl)
noncomputable def ti31 : TI := ⟨Try.t31.desc, 1, 24, [.sn]⟩
theorem ti31_ok : TyOK Try.prog 31 ti31 := TyOK.of (inf := Try.t31) Try.underlying31 (by kernel_rfl) (by kernel_rfl) (by kernel_rfl) (by kernel_rfl)
noncomputable def ti32 : TI := ⟨Try.t32.desc, 1, 8, [.nf]⟩
theorem ti32_ok : TyOK Try.prog 32 ti32 := TyOK.of (inf := Try.t32) Try.underlying32 (by kernel_rfl) (by kernel_rfl) (by kernel_rfl) (by kernel_rfl)
noncomputable def ti33 : TI := ⟨Try.t33.desc, 1, 8, [.nf]⟩
theorem ti33_ok : TyOK Try.prog 33 ti33 := TyOK.of (inf := Try.t33) Try.underlying33 (by kernel_rfl) (by kernel_rfl) (by kernel_rfl) (by kernel_rfl)
noncomputable def ti34 : TI := ⟨Try.t34.desc, 1, 8, [.nf]⟩
theorem ti34_ok : TyOK Try.prog 34 ti34 := TyOK.of (inf := Try.t34) Try.underlying34 (by kernel_rfl) (by kernel_rfl) (by kernel_rfl) (by kernel_rfl)
noncomputable def ti35 : TI := ⟨Try.t35.desc, 2, 16, [.it .i64 (0 : Int), .it .i64 (0 : Int)]⟩
theorem ti35_ok : TyOK Try.prog 35 ti35 := TyOK.of (inf := Try.t35) Try.underlying35 (by kernel_rfl) (by kernel_rfl) (by kernel_rfl) (by kernel_rfl)
noncomputable def ti36 : TI := ⟨Try.t35.desc, 2, 16, [.it .i64 (0 : Int), .it .i64 (0 : Int)]⟩
theorem ti36_ok : TyOK Try.prog 36 ti36 := TyOK.of (inf := Try.t36) Try.underlying36 (by kernel_rfl) (by kernel_rfl) (by kernel_rfl) (by kernel_rfl)
noncomputable def ti38 : TI := ⟨Try.t38.desc, 1, 8, [.nf]⟩
theorem ti38_ok : TyOK Try.prog 38 ti38 := TyOK.of (inf := Try.t38) Try.underlying38 (by kernel_rfl) (by kernel_rfl) (by kernel_rfl) (by kernel_rfl)
noncomputable def ti39 : TI := ⟨Try.t39.desc, 1, 24, [.sn]⟩
theorem ti39_ok : TyOK Try.prog 39 ti39 := TyOK.of (inf := Try.t39) Try.underlying39 (by kernel_rfl) (by kernel_rfl) (by kernel_rfl) (by kernel_rfl)
noncomputable def ti41 : TI := ⟨Try.t41.desc, 1, 8, [.nf]⟩
theorem ti41_ok : TyOK Try.prog 41 ti41 := TyOK.of (inf := Try.t41) Try.underlying41 (by kernel_rfl) (by kernel_rfl) (by kernel_rfl) (by kernel_rfl)
noncomputable def ti42 : TI := ⟨Try.t42.desc, 1, 8, [.nf]⟩
theorem ti42_ok : TyOK Try.prog 42 ti42 := TyOK.of (inf := Try.t42) Try.underlying42 (by kernel_rfl) (by kernel_rfl) (by kernel_rfl) (by kernel_rfl)
noncomputable def ti43 : TI := ⟨Try.t43.desc, 1, 8, [.nf]⟩
theorem ti43_ok : TyOK Try.prog 43 ti43 := TyOK.of (inf := Try.t43) Try.underlying43 (by kernel_rfl) (by kernel_rfl) (by kernel_rfl) (by kernel_rfl)
noncomputable def ti45 : TI := ⟨Try.t45.desc, 1, 8, [.nf]⟩
theorem ti45_ok : TyOK Try.prog 45 ti45 := TyOK.of (inf := Try.t45) Try.underlying45 (by kernel_rfl) (by kernel_rfl) (by kernel_rfl) (by kernel_rfl)
noncomputable def ti46 : TI := ⟨Try.t46.desc, 5, 20, [.fl .f32 0, .fl .f32 0, .fl .f32 0, .fl .f32 0, .kb false]⟩
theorem ti46_ok : TyOK Try.prog 46 ti46 := TyOK.of (inf := Try.t46) Try.underlying46 (by kernel_rfl) (by kernel_rfl) (by kernel_rfl) (by kernel_rfl)
noncomputable def ti47 : TI := ⟨Try.t46.desc, 5, 20, [.fl .f32 0, .fl .f32 0, .fl .f32 0, .fl .f32 0, .kb false]⟩
theorem ti47_ok : TyOK Try.prog 47 ti47 := TyOK.of (inf := Try.t47) Try.underlying47 (by kernel_rfl) (by kernel_rfl) (by kernel_rfl) (by kernel_rfl)
noncomputable def ti49 : TI := ⟨Try.t49.desc, 1, 8, [.nf]⟩
theorem ti49_ok : TyOK Try.prog 49 ti49 := TyOK.of (inf := Try.t49) Try.underlying49 (by kernel_rfl) (by kernel_rfl) (by kernel_rfl) (by kernel_rfl)
noncomputable def ti50 : TI := ⟨Try.t46.desc, 5, 20, [.fl .f32 0, .fl .f32 0, .fl .f32 0, .fl .f32 0, .kb false]⟩
theorem ti50_ok : TyOK Try.prog 50 ti50 := TyOK.of (inf := Try.t50) Try.underlying50 (by kernel_rfl) (by kernel_rfl) (by kernel_rfl) (by kernel_rfl)
noncomputable def ti51 : TI := ⟨Try.t51.desc, 1, 8, [.nf]⟩
theorem ti51_ok : TyOK Try.prog 51 ti51 := TyOK.of (inf := Try.t51) Try.underlying51 (by kernel_rfl) (by kernel_rfl) (by kernel_rfl) (by kernel_rfl)
noncomputable def ti52 : TI := ⟨Try.t52.desc, 1, 8, [.nf]⟩
theorem ti52_ok : TyOK Try.prog 52 ti52 := TyOK.of (inf := Try.t52) Try.underlying52 (by kernel_rfl) (by kernel_rfl) (by kernel_rfl) (by kernel_rfl)
noncomputable def ti53 : TI := ⟨Try.t53.desc, 1, 8, [.nf]⟩
theorem ti53_ok : TyOK Try.prog 53 ti53 := TyOK.of (inf := Try.t53) Try.underlying53 (by kernel_rfl) (by kernel_rfl) (by kernel_rfl) (by kernel_rfl)
noncomputable def ti54 : TI := ⟨Try.t54.desc, 1, 8, [.nf]⟩
theorem ti54_ok : TyOK Try.prog 54 ti54 := TyOK.of (inf := Try.t54) Try.underlying54 (by kernel_rfl) (by kernel_rfl) (by kernel_rfl) (by kernel_rfl)
noncomputable def ti55 : TI := ⟨Try.t55.desc, 1, 8, [.nf]⟩
theorem ti55_ok : TyOK Try.prog 55 ti55 := TyOK.of (inf := Try.t55) Try.underlying55 (by kernel_rfl) (by kernel_rfl) (by kernel_rfl) (by kernel_rfl)
noncomputable def ti56 : TI := ⟨Try.t56.desc, 1, 2, [.it .i16 (0 : Int)]⟩
theorem ti56_ok : TyOK Try.prog 56 ti56 := TyOK.of (inf := Try.t56) Try.underlying56 (by kernel_rfl) (by kernel_rfl) (by kernel_rfl) (by kernel_rfl)
noncomputable def ti58 : TI := ⟨Try.t58.desc, 1, 8, [.nf]⟩
theorem ti58_ok : TyOK Try.prog 58 ti58 := TyOK.of (inf := Try.t58) Try.underlying58 (by kernel_rfl) (by kernel_rfl) (by kernel_rfl) (by kernel_rfl)
noncomputable def ti59 : TI := ⟨Try.t59.desc, 1, 8, [.nf]⟩
theorem ti59_ok : TyOK Try.prog 59 ti59 := TyOK.of (inf := Try.t59) Try.underlying59 (by kernel_rfl) (by kernel_rfl) (by kernel_rfl) (by kernel_rfl)
noncomputable def ti60 : TI := ⟨Try.t60.desc, 1, 8, [.nf]⟩
theorem ti60_ok : TyOK Try.prog 60 ti60 := TyOK.of (inf := Try.t60) Try.underlying60 (by kernel_rfl) (by kernel_rfl) (by kernel_rfl) (by kernel_rfl)
noncomputable def ti62 : TI := ⟨Try.t62.desc, 1, 8, [.nf]⟩
theorem ti62_ok : TyOK Try.prog 62 ti62 := TyOK.of (inf := Try.t62) Try.underlying62 (by kernel_rfl) (by kernel_rfl) (by kernel_rfl) (by kernel_rfl)
noncomputable def ti64 : TI := ⟨Try.t64.desc, 1, 8, [.nf]⟩
theorem ti64_ok : TyOK Try.prog 64 ti64 := TyOK.of (inf := Try.t64) Try.underlying64 (by kernel_rfl) (by kernel_rfl) (by kernel_rfl) (by kernel_rfl)
noncomputable def ti65 : TI := ⟨Try.t65.desc, 1, 8, [.nf]⟩
theorem ti65_ok : TyOK Try.prog 65 ti65 := TyOK.of (inf := Try.t65) Try.underlying65 (by kernel_rfl) (by kernel_rfl) (by kernel_rfl) (by kernel_rfl)
noncomputable def ti66 : TI := ⟨Try.t66.desc, 1, 8, [.nf]⟩
theorem ti66_ok : TyOK Try.prog 66 ti66 := TyOK.of (inf := Try.t66) Try.underlying66 (by kernel_rfl) (by kernel_rfl) (by kernel_rfl) (by kernel_rfl)
noncomputable def ti67 : TI := ⟨Try.t67.desc, 1, 8, [.pn]⟩
theorem ti67_ok : TyOK Try.prog 67 ti67 := TyOK.of (inf := Try.t67) Try.underlying67 (by kernel_rfl) (by kernel_rfl) (by kernel_rfl) (by kernel_rfl)
noncomputable def ti68 : TI := ⟨Try.t68.desc, 1, 8, [.nf]⟩
theorem ti68_ok : TyOK Try.prog 68 ti68 := TyOK.of (inf := Try.t68) Try.underlying68 (by kernel_rfl) (by kernel_rfl) (by kernel_rfl) (by kernel_rfl)
noncomputable def ti69 : TI := ⟨Try.t69.desc, 1, 8, [.nf]⟩
theorem ti69_ok : TyOK Try.prog 69 ti69 := TyOK.of (inf := Try.t69) Try.underlying69 (by kernel_rfl) (by kernel_rfl) (by kernel_rfl) (by kernel_rfl)
noncomputable def ti70 : TI := ⟨Try.t70.desc, 1, 8, [.nf]⟩
theorem ti70_ok : TyOK Try.prog 70 ti70 := TyOK.of (inf := Try.t70) Try.underlying70 (by kernel_rfl) (by kernel_rfl) (by kernel_rfl) (by kernel_rfl)
noncomputable def ti71 : TI := ⟨Try.t71.desc, 1, 8, [.nf]⟩
theorem ti71_ok : TyOK Try.prog 71 ti71 := TyOK.of (inf := Try.t71) Try.underlying71 (by kernel_rfl) (by kernel_rfl) (by kernel_rfl) (by kernel_rfl)
noncomputable def ti72 : TI := ⟨Try.t72.desc, 1, 8, [.nf]⟩
theorem ti72_ok : TyOK Try.prog 72 ti72 := TyOK.of (inf := Try.t72) Try.underlying72 (by kernel_rfl) (by kernel_rfl) (by kernel_rfl) (by kernel_rfl)
noncomputable def ti73 : TI := ⟨Try.t73.desc, 1, 8, [.nf]⟩
theorem ti73_ok : TyOK Try.prog 73 ti73 := TyOK.of (inf := Try.t73) Try.underlying73 (by kernel_rfl) (by kernel_rfl) (by kernel_rfl) (by kernel_rfl)
noncomputable def ti74 : TI := ⟨Try.t74.desc, 1, 8, [.nf]⟩
theorem ti74_ok : TyOK Try.prog 74 ti74 := TyOK.of (inf := Try.t74) Try.underlying74 (by kernel_rfl) (by kernel_rfl) (by kernel_rfl) (by kernel_rfl)
noncomputable def ti75 : TI := ⟨Try.t75.desc, 1, 8, [.pn]⟩
theorem ti75_ok : TyOK Try.prog 75 ti75 := TyOK.of (inf := Try.t75) Try.underlying75 (by kernel_rfl) (by kernel_rfl) (by kernel_rfl) (by kernel_rfl)
noncomputable def ti76 : TI := ⟨Try.t76.desc, 1, 8, [.nf]⟩
theorem ti76_ok : TyOK Try.prog 76 ti76 := TyOK.of (inf := Try.t76) Try.underlying76 (by kernel_rfl) (by kernel_rfl) (by kernel_rfl) (by kernel_rfl)
noncomputable def ti77 : TI := ⟨Try.t77.desc, 1, 8, [.nf]⟩
theorem ti77_ok : TyOK Try.prog 77 ti77 := TyOK.of (inf := Try.t77) Try.underlying77 (by kernel_rfl) (by kernel_rfl) (by kernel_rfl) (by kernel_rfl)
noncomputable def ti78 : TI := ⟨Try.t78.desc, 1, 8, [.nf]⟩
theorem ti78_ok : TyOK Try.prog 78 ti78 := TyOK.of (inf := Try.t78) Try.underlying78 (by kernel_rfl) (by kernel_rfl) (by kernel_rfl) (by kernel_rfl)
noncomputable def ti79 : TI := ⟨Try.t79.desc, 1, 8, [.nf]⟩
theorem ti79_ok : TyOK Try.prog 79 ti79 := TyOK.of (inf := Try.t79) Try.underlying79 (by kernel_rfl) (by kernel_rfl) (by kernel_rfl) (by kernel_rfl)
noncomputable def ti80 : TI := ⟨Try.t80.desc, 1, 8, [.nf]⟩
theorem ti80_ok : TyOK Try.prog 80 ti80 := TyOK.of (inf := Try.t80) Try.underlying80 (by kernel_rfl) (by kernel_rfl) (by kernel_rfl) (by kernel_rfl)
noncomputable def ti81 : TI := ⟨Try.t81.desc, 1, 8, [.nf]⟩
theorem ti81_ok : TyOK Try.prog 81 ti81 := TyOK.of (inf := Try.t81) Try.underlying81 (by kernel_rfl) (by kernel_rfl) (by kernel_rfl) (by kernel_rfl)
noncomputable def ti82 : TI := ⟨Try.t82.desc, 1, 8, [.nf]⟩
theorem ti82_ok : TyOK Try.prog 82 ti82 := TyOK.of (inf := Try.t82) Try.underlying82 (by kernel_rfl) (by kernel_rfl) (by kernel_rfl) (by kernel_rfl)
noncomputable def ti83 : TI := ⟨Try.t83.desc, 1, 8, [.nf]⟩
theorem ti83_ok : TyOK Try.prog 83 ti83 := TyOK.of (inf := Try.t83) Try.underlying83 (by kernel_rfl) (by kernel_rfl) (by kernel_rfl) (by kernel_rfl)
noncomputable def ti84 : TI := ⟨Try.t84.desc, 1, 8, [.it .u64 (0 : Int)]⟩
theorem ti84_ok : TyOK Try.prog 84 ti84 := TyOK.of (inf := Try.t84) Try.underlying84 (by kernel_rfl) (by kernel_rfl) (by kernel_rfl) (by kernel_rfl)
noncomputable def ti85 : TI := ⟨Try.t85.desc, 1, 8, [.nf]⟩
theorem ti85_ok : TyOK Try.prog 85 ti85 := TyOK.of (inf := Try.t85) Try.underlying85 (by kernel_rfl) (by kernel_rfl) (by kernel_rfl) (by kernel_rfl)
noncomputable def ti86 : TI := ⟨Try.t86.desc, 1, 8, [.nf]⟩
theorem ti86_ok : TyOK Try.prog 86 ti86 := TyOK.of (inf := Try.t86) Try.underlying86 (by kernel_rfl) (by kernel_rfl) (by kernel_rfl) (by kernel_rfl)
noncomputable def ti87 : TI := ⟨Try.t87.desc, 1, 8, [.nf]⟩
theorem ti87_ok : TyOK Try.prog 87 ti87 := TyOK.of (inf := Try.t87) Try.underlying87 (by kernel_rfl) (by kernel_rfl) (by kernel_rfl) (by kernel_rfl)
noncomputable def ti88 : TI := ⟨Try.t88.desc, 1, 8, [.nf]⟩
theorem ti88_ok : TyOK Try.prog 88 ti88 := TyOK.of (inf := Try.t88) Try.underlying88 (by kernel_rfl) (by kernel_rfl) (by kernel_rfl) (by kernel_rfl)
noncomputable def ti89 : TI := ⟨Try.t89.desc, 1, 8, [.nf]⟩
theorem ti89_ok : TyOK Try.prog 89 ti89 := TyOK.of (inf := Try.t89) Try.underlying89 (by kernel_rfl) (by kernel_rfl) (by kernel_rfl) (by kernel_rfl)
noncomputable def ti90 : TI := ⟨Try.t90.desc, 1, 8, [.nf]⟩
theorem ti90_ok : TyOK Try.prog 90 ti90 := TyOK.of (inf := Try.t90) Try.underlying90 (by kernel_rfl) (by kernel_rfl) (by kernel_rfl) (by kernel_rfl)
noncomputable def ti91 : TI := ⟨Try.t91.desc, 1, 8, [.nf]⟩
theorem ti91_ok : TyOK Try.prog 91 ti91 := TyOK.of (inf := Try.t91) Try.underlying91 (by kernel_rfl) (by kernel_rfl) (by kernel_rfl) (by kernel_rfl)
noncomputable def ti92 : TI := ⟨Try.t92.desc, 1, 8, [.nf]⟩
theorem ti92_ok : TyOK Try.prog 92 ti92 := TyOK.of (inf := Try.t92) Try.underlying92 (by kernel_rfl) (by kernel_rfl) (by kernel_rfl) (by kernel_rfl)
noncomputable def ti93 : TI := ⟨Try.t93.desc, 1, 4, [.it .u32 (0 : Int)]⟩
theorem ti93_ok : TyOK Try.prog 93 ti93 := TyOK.of (inf := Try.t93) Try.underlying93 (by kernel_rfl) (by kernel_rfl) (by kernel_rfl) (by kernel_rfl)
noncomputable def ti94 : TI := ⟨Try.t94.desc, 1, 8, [.nf]⟩
theorem ti94_ok : TyOK Try.prog 94 ti94 := TyOK.of (inf := Try.t94) Try.underlying94 (by kernel_rfl) (by kernel_rfl) (by kernel_rfl) (by kernel_rfl)
noncomputable def ti95 : TI := ⟨Try.t95.desc, 1, 24, [.sn]⟩
theorem ti95_ok : TyOK Try.prog 95 ti95 := TyOK.of (inf := Try.t95) Try.underlying95 (by kernel_rfl) (by kernel_rfl) (by kernel_rfl) (by kernel_rfl)
noncomputable def ti96 : TI := ⟨Try.t96.desc, 1, 8, [.it .u64 (0 : Int)]⟩
theorem ti96_ok : TyOK Try.prog 96 ti96 := TyOK.of (inf := Try.t96) Try.underlying96 (by kernel_rfl) (by kernel_rfl) (by kernel_rfl) (by kernel_rfl)
noncomputable def ti97 : TI := ⟨Try.t97.desc, 3, 40, [.sn, .it .i64 (0 : Int), .it .u64 (0 : Int)]⟩
theorem ti97_ok : TyOK Try.prog 97 ti97 := TyOK.of (inf := Try.t97) Try.underlying97 (by kernel_rfl) (by kernel_rfl) (by kernel_rfl) (by kernel_rfl)
noncomputable def ti98 : TI := ⟨Try.t97.desc, 3, 40, [.sn, .it .i64 (0 : Int), .it .u64 (0 : Int)]⟩
theorem ti98_ok : TyOK Try.prog 98 ti98 := TyOK.of (inf := Try.t98) Try.underlying98 (by kernel_rfl) (by kernel_rfl) (by kernel_rfl) (by kernel_rfl)
noncomputable def ti99 : TI := ⟨Try.t99.desc, 1, 8, [.nf]⟩
theorem ti99_ok : TyOK Try.prog 99 ti99 := TyOK.of (inf := Try.t99) Try.underlying99 (by kernel_rfl) (by kernel_rfl) (by kernel_rfl) (by kernel_rfl)
noncomputable def ti100 : TI := ⟨Try.t100.desc, 1, 8, [.nf]⟩
theorem ti100_ok : TyOK Try.prog 100 ti100 := TyOK.of (inf := Try.t100) Try.underlying100 (by kernel_rfl) (by kernel_rfl) (by kernel_rfl) (by kernel_rfl)
noncomputable def ti101 : TI := ⟨Try.t101.desc, 1, 8, [.nf]⟩
theorem ti101_ok : TyOK Try.prog 101 ti101 := TyOK.of (inf := Try.t101) Try.underlying101 (by kernel_rfl) (by kernel_rfl) (by kernel_rfl) (by kernel_rfl)
noncomputable def ti102 : TI := ⟨Try.t102.desc, 1, 8, [.nf]⟩
theorem ti102_ok : TyOK Try.prog 102 ti102 := TyOK.of (inf := Try.t102) Try.underlying102 (by kernel_rfl) (by kernel_rfl) (by kernel_rfl) (by kernel_rfl)
noncomputable def ti103 : TI := ⟨Try.t103.desc, 1, 8, [.nf]⟩
theorem ti103_ok : TyOK Try.prog 103 ti103 := TyOK.of (inf := Try.t103) Try.underlying103 (by kernel_rfl) (by kernel_rfl) (by kernel_rfl) (by kernel_rfl)
noncomputable def ti104 : TI := ⟨Try.t104.desc, 1, 8, [.nf]⟩
theorem ti104_ok : TyOK Try.prog 104 ti104 := TyOK.of (inf := Try.t104) Try.underlying104 (by kernel_rfl) (by kernel_rfl) (by kernel_rfl) (by kernel_rfl)
noncomputable def ti105 : TI := ⟨Try.t105.desc, 1, 8, [.nf]⟩
theorem ti105_ok : TyOK Try.prog 105 ti105 := TyOK.of (inf := Try.t105) Try.underlying105 (by kernel_rfl) (by kernel_rfl) (by kernel_rfl) (by kernel_rfl)
noncomputable def ti106 : TI := ⟨Try.t106.desc, 1, 8, [.nf]⟩
theorem ti106_ok : TyOK Try.prog 106 ti106 := TyOK.of (inf := Try.t106) Try.underlying106 (by kernel_rfl) (by kernel_rfl) (by kernel_rfl) (by kernel_rfl)
noncomputable def ti107 : TI := ⟨Try.t107.desc, 1, 8, [.nf]⟩
theorem ti107_ok : TyOK Try.prog 107 ti107 := TyOK.of (inf := Try.t107) Try.underlying107 (by kernel_rfl) (by kernel_rfl) (by kernel_rfl) (by kernel_rfl)
noncomputable def ti108 : TI := ⟨Try.t108.desc, 1, 8, [.nf]⟩
theorem ti108_ok : TyOK Try.prog 108 ti108 := TyOK.of (inf := Try.t108) Try.underlying108 (by kernel_rfl) (by kernel_rfl) (by kernel_rfl) (by kernel_rfl)
noncomputable def ti109 : TI := ⟨Try.t109.desc, 1, 8, [.nf]⟩
theorem ti109_ok : TyOK Try.prog 109 ti109 := TyOK.of (inf := Try.t109) Try.underlying109 (by kernel_rfl) (by kernel_rfl) (by kernel_rfl) (by kernel_rfl)
noncomputable def ti110 : TI := ⟨Try.t110.desc, 1, 8, [.nf]⟩
theorem ti110_ok : TyOK Try.prog 110 ti110 := TyOK.of (inf := Try.t110) Try.underlying110 (by kernel_rfl) (by kernel_rfl) (by kernel_rfl) (by kernel_rfl)
noncomputable def ti111 : TI := ⟨Try.t111.desc, 4, 40, [.pn, .pn, .pn, .st (ByteArray.mk #[])]⟩
theorem ti111_ok : TyOK Try.prog 111 ti111 := TyOK.of (inf := Try.t111) Try.underlying111 (by kernel_rfl) (by kernel_rfl) (by kernel_rfl) (by kernel_rfl)
noncomputable def ti112 : TI := ⟨Try.t111.desc, 4, 40, [.pn, .pn, .pn, .st (ByteArray.mk #[])]⟩
theorem ti112_ok : TyOK Try.prog 112 ti112 := TyOK.of (inf := Try.t112) Try.underlying112 (by kernel_rfl) (by kernel_rfl) (by kernel_rfl) (by kernel_rfl)
noncomputable def ti113 : TI := ⟨Try.t113.desc, 0, 0, []⟩
theorem ti113_ok : TyOK Try.prog 113 ti113 := TyOK.of (inf := Try.t113) Try.underlying113 (by kernel_rfl) (by kernel_rfl) (by kernel_rfl) (by kernel_rfl)
noncomputable def ti114 : TI := ⟨Try.t114.desc, 0, 0, []⟩
theorem ti114_ok : TyOK Try.prog 114 ti114 := TyOK.of (inf := Try.t114) Try.underlying114 (by kernel_rfl) (by kernel_rfl) (by kernel_rfl) (by kernel_rfl)
noncomputable def ti115 : TI := ⟨Try.t114.desc, 0, 0, []⟩
theorem ti115_ok : TyOK Try.prog 115 ti115 := TyOK.of (inf := Try.t115) Try.underlying115 (by kernel_rfl) (by kernel_rfl) (by kernel_rfl) (by kernel_rfl)
noncomputable def ti116 : TI := ⟨Try.t116.desc, 1, 8, [.nf]⟩
theorem ti116_ok : TyOK Try.prog 116 ti116 := TyOK.of (inf := Try.t116) Try.underlying116 (by kernel_rfl) (by kernel_rfl) (by kernel_rfl) (by kernel_rfl)
noncomputable def ti117 : TI := ⟨Try.t5.desc, 1, 1, [.it .u8 (0 : Int)]⟩
theorem ti117_ok : TyOK Try.prog 117 ti117 := TyOK.of (inf := Try.t117) Try.underlying117 (by kernel_rfl) (by kernel_rfl) (by kernel_rfl) (by kernel_rfl)
noncomputable def ti118 : TI := ⟨Try.t5.desc, 1, 1, [.it .u8 (0 : Int)]⟩
theorem ti118_ok : TyOK Try.prog 118 ti118 := TyOK.of (inf := Try.t118) Try.underlying118 (by kernel_rfl) (by kernel_rfl) (by kernel_rfl) (by kernel_rfl)
noncomputable def ti119 : TI := ⟨Try.t119.desc, 1, 8, [.nf]⟩
theorem ti119_ok : TyOK Try.prog 119 ti119 := TyOK.of (inf := Try.t119) Try.underlying119 (by kernel_rfl) (by kernel_rfl) (by kernel_rfl) (by kernel_rfl)
noncomputable def ti120 : TI := ⟨Try.t120.desc, 1, 8, [.pn]⟩
theorem ti120_ok : TyOK Try.prog 120 ti120 := TyOK.of (inf := Try.t120) Try.underlying120 (by kernel_rfl) (by kernel_rfl) (by kernel_rfl) (by kernel_rfl)
noncomputable def ti121 : TI := ⟨Try.t21.desc, 1, 4, [.it .i32 (0 : Int)]⟩
theorem ti121_ok : TyOK Try.prog 121 ti121 := TyOK.of (inf := Try.t121) Try.underlying121 (by kernel_rfl) (by kernel_rfl) (by kernel_rfl) (by kernel_rfl)
noncomputable def ti122 : TI := ⟨Try.t21.desc, 1, 4, [.it .i32 (0 : Int)]⟩
theorem ti122_ok : TyOK Try.prog 122 ti122 := TyOK.of (inf := Try.t122) Try.underlying122 (by kernel_rfl) (by kernel_rfl) (by kernel_rfl) (by kernel_rfl)
noncomputable def ti123 : TI := ⟨Try.t123.desc, 11, 48, [.it .u64 (0 : Int), .it .u64 (0 : Int), .it .u32 (0 : Int), .it .u8 (0 : Int), .it .u8 (0 : Int), .it .u8 (0 : Int), .it .u8 (0 : Int), .nf, .pn, .it .i32 (0 : Int), .it .i32 (0 : Int)]⟩
theorem ti123_ok : TyOK Try.prog 123 ti123 := TyOK.of (inf := Try.t123) Try.underlying123 (by kernel_rfl) (by kernel_rfl) (by kernel_rfl) (by kernel_rfl)
noncomputable def ti124 : TI := ⟨Try.t123.desc, 11, 48, [.it .u64 (0 : Int), .it .u64 (0 : Int), .it .u32 (0 : Int), .it .u8 (0 : Int), .it .u8 (0 : Int), .it .u8 (0 : Int), .it .u8 (0 : Int), .nf, .pn, .it .i32 (0 : Int), .it .i32 (0 : Int)]⟩
theorem ti124_ok : TyOK Try.prog 124 ti124 := TyOK.of (inf := Try.t124) Try.underlying124 (by kernel_rfl) (by kernel_rfl) (by kernel_rfl) (by kernel_rfl)
noncomputable def ti125 : TI := ⟨Try.t125.desc, 1, 8, [.pn]⟩
theorem ti125_ok : TyOK Try.prog 125 ti125 := TyOK.of (inf := Try.t125) Try.underlying125 (by kernel_rfl) (by kernel_rfl) (by kernel_rfl) (by kernel_rfl)
noncomputable def tys : List (Nat × TI) := [(1, ti1), (2, ti2), (3, ti3), (4, ti4), (5, ti5), (6, ti6), (7, ti7), (8, ti8), (9, ti9), (10, ti10), (11, ti11), (12, ti12), (13, ti13), (14, ti14), (15, ti15), (16, ti16), (17, ti17), (18, ti18), (19, ti19), (21, ti21), (22, ti22), (23, ti23), (25, ti25), (26, ti26), (27, ti27), (28, ti28), (29, ti29), (30, ti30), (31, ti31), (32, ti32), (33, ti33), (34, ti34), (35, ti35), (36, ti36), (38, ti38), (39, ti39), (41, ti41), (42, ti42), (43, ti43), (45, ti45), (46, ti46), (47, ti47), (49, ti49), (50, ti50), (51, ti51), (52, ti52), (53, ti53), (54, ti54), (55, ti55), (56, ti56), (58, ti58), (59, ti59), (60, ti60), (62, ti62), (64, ti64), (65, ti65), (66, ti66), (67, ti67), (68, ti68), (69, ti69), (70, ti70), (71, ti71), (72, ti72), (73, ti73), (74, ti74), (75, ti75), (76, ti76), (77, ti77), (78, ti78), (79, ti79), (80, ti80), (81, ti81), (82, ti82), (83, ti83), (84, ti84), (85, ti85), (86, ti86), (87, ti87), (88, ti88), (89, ti89), (90, ti90), (91, ti91), (92, ti92), (93, ti93), (94, ti94), (95, ti95), (96, ti96), (97, ti97), (98, ti98), (99, ti99), (100, ti100), (101, ti101), (102, ti102), (103, ti103), (104, ti104), (105, ti105), (106, ti106), (107, ti107), (108, ti108), (109, ti109), (110, ti110), (111, ti111), (112, ti112), (113, ti113), (114, ti114), (115, ti115), (116, ti116), (117, ti117), (118, ti118), (119, ti119), (120, ti120), (121, ti121), (122, ti122), (123, ti123), (124, ti124), (125, ti125)]
theorem mo : Try.prog.follows .mixedOrders = true := by kernel_rfl
theorem tys_ok : TysOK Try.prog tys := (TysOK.cons ti1_ok (TysOK.cons ti2_ok (TysOK.cons ti3_ok (TysOK.cons ti4_ok (TysOK.cons ti5_ok (TysOK.cons ti6_ok (TysOK.cons ti7_ok (TysOK.cons ti8_ok (TysOK.cons ti9_ok (TysOK.cons ti10_ok (TysOK.cons ti11_ok (TysOK.cons ti12_ok (TysOK.cons ti13_ok (TysOK.cons ti14_ok (TysOK.cons ti15_ok (TysOK.cons ti16_ok (TysOK.cons ti17_ok (TysOK.cons ti18_ok (TysOK.cons ti19_ok (TysOK.cons ti21_ok (TysOK.cons ti22_ok (TysOK.cons ti23_ok (TysOK.cons ti25_ok (TysOK.cons ti26_ok (TysOK.cons ti27_ok (TysOK.cons ti28_ok (TysOK.cons ti29_ok (TysOK.cons ti30_ok (TysOK.cons ti31_ok (TysOK.cons ti32_ok (TysOK.cons ti33_ok (TysOK.cons ti34_ok (TysOK.cons ti35_ok (TysOK.cons ti36_ok (TysOK.cons ti38_ok (TysOK.cons ti39_ok (TysOK.cons ti41_ok (TysOK.cons ti42_ok (TysOK.cons ti43_ok (TysOK.cons ti45_ok (TysOK.cons ti46_ok (TysOK.cons ti47_ok (TysOK.cons ti49_ok (TysOK.cons ti50_ok (TysOK.cons ti51_ok (TysOK.cons ti52_ok (TysOK.cons ti53_ok (TysOK.cons ti54_ok (TysOK.cons ti55_ok (TysOK.cons ti56_ok (TysOK.cons ti58_ok (TysOK.cons ti59_ok (TysOK.cons ti60_ok (TysOK.cons ti62_ok (TysOK.cons ti64_ok (TysOK.cons ti65_ok (TysOK.cons ti66_ok (TysOK.cons ti67_ok (TysOK.cons ti68_ok (TysOK.cons ti69_ok (TysOK.cons ti70_ok (TysOK.cons ti71_ok (TysOK.cons ti72_ok (TysOK.cons ti73_ok (TysOK.cons ti74_ok (TysOK.cons ti75_ok (TysOK.cons ti76_ok (TysOK.cons ti77_ok (TysOK.cons ti78_ok (TysOK.cons ti79_ok (TysOK.cons ti80_ok (TysOK.cons ti81_ok (TysOK.cons ti82_ok (TysOK.cons ti83_ok (TysOK.cons ti84_ok (TysOK.cons ti85_ok (TysOK.cons ti86_ok (TysOK.cons ti87_ok (TysOK.cons ti88_ok (TysOK.cons ti89_ok (TysOK.cons ti90_ok (TysOK.cons ti91_ok (TysOK.cons ti92_ok (TysOK.cons ti93_ok (TysOK.cons ti94_ok (TysOK.cons ti95_ok (TysOK.cons ti96_ok (TysOK.cons ti97_ok (TysOK.cons ti98_ok (TysOK.cons ti99_ok (TysOK.cons ti100_ok (TysOK.cons ti101_ok (TysOK.cons ti102_ok (TysOK.cons ti103_ok (TysOK.cons ti104_ok (TysOK.cons ti105_ok (TysOK.cons ti106_ok (TysOK.cons ti107_ok (TysOK.cons ti108_ok (TysOK.cons ti109_ok (TysOK.cons ti110_ok (TysOK.cons ti111_ok (TysOK.cons ti112_ok (TysOK.cons ti113_ok (TysOK.cons ti114_ok (TysOK.cons ti115_ok (TysOK.cons ti116_ok (TysOK.cons ti117_ok (TysOK.cons ti118_ok (TysOK.cons ti119_ok (TysOK.cons ti120_ok (TysOK.cons ti121_ok (TysOK.cons ti122_ok (TysOK.cons ti123_ok (TysOK.cons ti124_ok (TysOK.cons ti125_ok TysOK.nil))))))))))))))))))))))))))))))))))))))))))))))))))))))))))))))))))))))))))))))))))))))))))))))))))))))))))))))))))))
/-! ### laws_toInt16S -/
noncomputable def laws_toInt16S.b : Code := bodyOf Try.f8
noncomputable def laws_toInt16S.l3.s (x0 : Nat) (x1 : Nat) (x2 : Int) (x3 : List Int) (x4 : List Int) : T ((Int × List Int) ⊕ (List Int)) :=
  .br (decide (x2 < ((x0 : Nat) : Int)))
  (.br (bounds x2 x0)
   (.br (Nat.ble ((0 + (Int.toNat x2 * 1)) + 1) (List.length x3))
    (.br (bounds x2 x1)
     (.br (Nat.ble ((Int.toNat x2 * 1) + 1) (List.length x4))
      (.leaf (.inl ((IntKind.wrap .i64 (x2 + (1 : Int))), (List.set x4 (Int.toNat x2 * 1) (List.getD x3 (0 + (Int.toNat x2 * 1)) 0)))))
      .bad)
     .bad)
    .bad)
   .bad)
  (.leaf (.inr x4))
noncomputable def laws_toInt16S.l3.st (p : Nat × Nat × List Int) (x : Int × List Int) : T ((Int × List Int) ⊕ (List Int)) := laws_toInt16S.l3.s p.1 p.2.1 x.1 p.2.2 x.2
noncomputable def laws_toInt16S.l3.r (p : Nat × Nat × List Int) (x : Int × List Int) : Option (List Int) := iterT (laws_toInt16S.l3.st p) manyRounds x
def laws_toInt16S.l3.cd : Cd ((Nat × Nat × List Int) × (Int × List Int)) (List V × Hp) := Cd.iso (Cd.pair (Cd.cons (Cd.sl 0 (Cd.natc 0)) (Cd.cons (Cd.own 1) (Cd.cons (Cd.it .i64) Cd.nil))) (Cd.cons (Cd.ro 0 0 (Cd.is .i16)) (Cd.cons (Cd.rw 56 1 (Cd.is .i16)) Cd.nil))) (fun a => ((a.1.1.2, a.1.2.1, a.2.1), (a.1.2.2.1, a.2.2.1))) (fun a => ((((), a.1.1), (a.1.2.1, (a.2.1, ()))), (a.1.2.2, (a.2.2, ())))) (fun _ => rfl)
def laws_toInt16S.l3.out (p : Nat × Nat × List Int) : (List Int) → X × List V × Hp := (fun r => (.ex 0, [.own 1 p.2.1], [some ⟨false, 0, 0, .is .i16 p.2.2⟩, some ⟨true, 56, 1, .is .i16 r⟩]))
def laws_toInt16S.l3.ex (p : Nat × Nat × List Int) : (List Int) → T (X × List V × Hp) := leafT (fun r => (.ex 0, [.own 1 p.2.1], [some ⟨false, 0, 0, .is .i16 p.2.2⟩, some ⟨true, 56, 1, .is .i16 r⟩]))
noncomputable def laws_toInt16S.l3.c : List V → Hp → T (X × List V × Hp) := cdL laws_toInt16S.l3.cd fun x => optT (laws_toInt16S.l3.r x.1 x.2) (laws_toInt16S.l3.ex x.1)
noncomputable def laws_toInt16S.C : Ctx := { ty := tys, fn := [], lp := [(3, ⟨[0, 3, 4], [3], laws_toInt16S.l3.c⟩)], n := 22, k := 1 }
theorem laws_toInt16S.hC : CtxOK Try.prog laws_toInt16S.C := CtxOK.of mo tys_ok FnsOK.nil
noncomputable def laws_toInt16S.b3 : Code := (nthC (loopsOf laws_toInt16S.b) 0)
theorem laws_toInt16S.lp3 : LpOK Try.prog laws_toInt16S.C laws_toInt16S.b3 := (LpOK.nil (by kernel_rfl))
theorem laws_toInt16S.l3.round (p : Nat × Nat × List Int) (s : Int × List Int) : roundL laws_toInt16S.C [0, 3, 4] [3] laws_toInt16S.b3 (laws_toInt16S.l3.cd.enc (p, s)).1 (laws_toInt16S.l3.cd.enc (p, s)).2 = (laws_toInt16S.l3.st p s).map (encSum (fun s => laws_toInt16S.l3.cd.enc (p, s)) (laws_toInt16S.l3.out p)) := by kernel_rfl
theorem laws_toInt16S.l3.lok : LoopOK Try.prog laws_toInt16S.C ⟨[0, 3, 4], [3], laws_toInt16S.l3.c⟩ laws_toInt16S.b3 := loop_cd laws_toInt16S.l3.cd laws_toInt16S.hC laws_toInt16S.lp3 laws_toInt16S.l3.round fun p => Gets.leaf
theorem laws_toInt16S.lp : LpOK Try.prog laws_toInt16S.C laws_toInt16S.b := lp_of (by kernel_rfl) (LpsOK.cons (k := 3) (by kernel_rfl) (by kernel_rfl) laws_toInt16S.l3.lok LpsOK.nil)
noncomputable def laws_toInt16S.t (x0 : Nat) (x1 : List Int) : T (Nat × List Int) :=
  .br (decide (0 ≤ ((x0 : Nat) : Int)) && decide (((x0 : Nat) : Int) ≤ ((x0 : Nat) : Int)) && decide (((x0 : Nat) : Int) ≤ 35184372088832) && decide (((2 : Nat) : Int) * ((x0 : Nat) : Int) ≤ 35184372088832))
  (.br (Option.isSome (laws_toInt16S.l3.r (x0, (Int.toNat ((x0 : Nat) : Int)), x1) ((0 : Int), (List.replicate ((Int.toNat ((x0 : Nat) : Int)) * 1) 0))))
   (.leaf ((Int.toNat ((x0 : Nat) : Int)), (Option.getD (laws_toInt16S.l3.r (x0, (Int.toNat ((x0 : Nat) : Int)), x1) ((0 : Int), (List.replicate ((Int.toNat ((x0 : Nat) : Int)) * 1) 0))) default)))
   .bad)
  .bad
noncomputable def laws_toInt16S (x0 : Nat) (x1 : List Int) : Nat × List Int := (laws_toInt16S.t x0 x1).val
noncomputable def laws_toInt16S.ok (x0 : Nat) (x1 : List Int) : Bool := (laws_toInt16S.t x0 x1).ok
def laws_toInt16S.cd : Cd (Nat × List Int) (List V × Hp) := Cd.iso (Cd.pair (Cd.cons (Cd.sl 0 (Cd.natc 0)) Cd.nil) (Cd.cons (Cd.ro 0 0 (Cd.is .i16)) Cd.nil)) (fun a => (a.1.1.2, a.2.1)) (fun a => ((((), a.1), ()), (a.2, ()))) (fun _ => rfl)
noncomputable def laws_toInt16S.tr (a : Nat × List Int) : T (Nat × List Int) := laws_toInt16S.t a.1 a.2
def laws_toInt16S.enc : (Nat × List Int) → (Nat × List Int) → V × Hp := fun a r => (.own 1 r.1, [some ⟨false, 0, 0, .is .i16 a.2⟩, some ⟨true, 56, 1, .is .i16 r.2⟩])
noncomputable def laws_toInt16S.c : List V → Hp → T (V × Hp) := cdE laws_toInt16S.cd (fun a => .br (laws_toInt16S.ok a.1 a.2) (.leaf (laws_toInt16S.enc a (laws_toInt16S a.1 a.2))) .bad)
theorem laws_toInt16S.run (a : Nat × List Int) : runF laws_toInt16S.C Try.f8.results.toList laws_toInt16S.b (laws_toInt16S.cd.enc a).1 (laws_toInt16S.cd.enc a).2 = (laws_toInt16S.tr a).map (laws_toInt16S.enc a) := by kernel_rfl
theorem laws_toInt16S.cok : OKe Try.prog 8 laws_toInt16S.c := con_e' laws_toInt16S.cd laws_toInt16S.hC Try.func8 (by kernel_rfl) (by kernel_rfl) (by kernel_rfl) laws_toInt16S.lp (fun a => by kernel_rfl) laws_toInt16S.run (Tells.ok (tree := laws_toInt16S.tr))
/-! ### spec_l00In -/
noncomputable def spec_l00In.b : Code := bodyOf Try.f74
noncomputable def spec_l00In.C : Ctx := { ty := tys, fn := [], lp := [], n := 15, k := 0 }
theorem spec_l00In.hC : CtxOK Try.prog spec_l00In.C := CtxOK.of mo tys_ok FnsOK.nil
theorem spec_l00In.lp : LpOK Try.prog spec_l00In.C spec_l00In.b := (LpOK.nil (by kernel_rfl))
noncomputable def spec_l00In.t (x0 : Int) (x1 : Int) (x2 : Int) : T Bool :=
  .br (decide (x0 ≥ x1))
  (.leaf (decide (x0 ≤ x2)))
  (.leaf false)
noncomputable def spec_l00In (x0 : Int) (x1 : Int) (x2 : Int) : Bool := (spec_l00In.t x0 x1 x2).val
def spec_l00In.cd : Cd (Int × Int × Int) (List V × Hp) := Cd.iso (Cd.pair (Cd.cons (Cd.it .i64) (Cd.cons (Cd.it .i64) (Cd.cons (Cd.it .i64) Cd.nil))) Cd.nil) (fun a => (a.1.1, a.1.2.1, a.1.2.2.1)) (fun a => ((a.1, (a.2.1, (a.2.2, ()))), ())) (fun _ => rfl)
noncomputable def spec_l00In.tr (a : Int × Int × Int) : T Bool := spec_l00In.t a.1 a.2.1 a.2.2
def spec_l00In.enc : (Int × Int × Int) → Bool → V := fun a r => .bo r
noncomputable def spec_l00In.c : List V → Hp → T V := cdQ spec_l00In.cd (fun a => .leaf (spec_l00In.enc a (spec_l00In a.1 a.2.1 a.2.2)))
theorem spec_l00In.run (a : Int × Int × Int) : runF spec_l00In.C Try.f74.results.toList spec_l00In.b (spec_l00In.cd.enc a).1 (spec_l00In.cd.enc a).2 = (spec_l00In.tr a).map fun r => (spec_l00In.enc a r, (spec_l00In.cd.enc a).2) := by kernel_rfl
theorem spec_l00In.cok : OKq Try.prog 74 spec_l00In.c := con_q' spec_l00In.cd spec_l00In.hC Try.func74 (by kernel_rfl) (by kernel_rfl) (by kernel_rfl) spec_l00In.lp (fun a => by kernel_rfl) spec_l00In.run (Tells.val (tree := spec_l00In.tr) fun a => by kernel_rfl)
/-! ### spec_l01Teeth -/
noncomputable def spec_l01Teeth.b : Code := bodyOf Try.f82
noncomputable def spec_l01Teeth.C : Ctx := { ty := tys, fn := [(74, .q spec_l00In.c)], lp := [], n := 5, k := 0 }
theorem spec_l01Teeth.hC : CtxOK Try.prog spec_l01Teeth.C := CtxOK.of mo tys_ok (FnsOK.cons spec_l00In.cok FnsOK.nil)
theorem spec_l01Teeth.lp : LpOK Try.prog spec_l01Teeth.C spec_l01Teeth.b := (LpOK.nil (by kernel_rfl))
noncomputable def spec_l01Teeth.t (x0 : Int) : T Bool :=
  .leaf (spec_l00In x0 (6 : Int) (200 : Int))
noncomputable def spec_l01Teeth (x0 : Int) : Bool := (spec_l01Teeth.t x0).val
def spec_l01Teeth.cd : Cd Int (List V × Hp) := Cd.iso (Cd.pair (Cd.cons (Cd.it .i64) Cd.nil) Cd.nil) (fun a => a.1.1) (fun a => ((a, ()), ())) (fun _ => rfl)
noncomputable def spec_l01Teeth.tr (a : Int) : T Bool := spec_l01Teeth.t a
def spec_l01Teeth.enc : Int → Bool → V := fun a r => .bo r
noncomputable def spec_l01Teeth.c : List V → Hp → T V := cdQ spec_l01Teeth.cd (fun a => .leaf (spec_l01Teeth.enc a (spec_l01Teeth a)))
theorem spec_l01Teeth.run (a : Int) : runF spec_l01Teeth.C Try.f82.results.toList spec_l01Teeth.b (spec_l01Teeth.cd.enc a).1 (spec_l01Teeth.cd.enc a).2 = (spec_l01Teeth.tr a).map fun r => (spec_l01Teeth.enc a r, (spec_l01Teeth.cd.enc a).2) := by kernel_rfl
theorem spec_l01Teeth.cok : OKq Try.prog 82 spec_l01Teeth.c := con_q' spec_l01Teeth.cd spec_l01Teeth.hC Try.func82 (by kernel_rfl) (by kernel_rfl) (by kernel_rfl) spec_l01Teeth.lp (fun a => by kernel_rfl) spec_l01Teeth.run (Tells.val (tree := spec_l01Teeth.tr) fun a => by kernel_rfl)
/-! ### spec_l05Ok -/
noncomputable def spec_l05Ok.b : Code := bodyOf Try.f54
noncomputable def spec_l05Ok.l2.s (x0 : Nat) (x1 : Int) (x2 : List Int) : T (Int ⊕ (Bool ⊕ Unit)) :=
  .br (decide (x1 < ((x0 : Nat) : Int)))
  (.br (bounds x1 x0)
   (.br (Nat.ble ((Int.toNat x1 * 1) + 1) (List.length x2))
    (.br (!(spec_l01Teeth (IntKind.wrap .i64 (List.getD x2 (Int.toNat x1 * 1) 0))))
     (.leaf (.inr (.inl false)))
     (.br (decide (x1 > (0 : Int)))
      (.br (bounds x1 x0)
       (.br (Nat.ble ((Int.toNat x1 * 1) + 1) (List.length x2))
        (.br (bounds (IntKind.wrap .i64 (x1 - (1 : Int))) x0)
         (.br (Nat.ble ((Int.toNat (IntKind.wrap .i64 (x1 - (1 : Int))) * 1) + 1) (List.length x2))
          (.br (decide ((List.getD x2 (Int.toNat x1 * 1) 0) ≤ (List.getD x2 (Int.toNat (IntKind.wrap .i64 (x1 - (1 : Int))) * 1) 0)))
           (.leaf (.inr (.inl false)))
           (.leaf (.inl (IntKind.wrap .i64 (x1 + (1 : Int))))))
          .bad)
         .bad)
        .bad)
       .bad)
      (.leaf (.inl (IntKind.wrap .i64 (x1 + (1 : Int)))))))
    .bad)
   .bad)
  (.leaf (.inr (.inr ())))
noncomputable def spec_l05Ok.l2.st (p : Nat × List Int) (x : Int) : T (Int ⊕ (Bool ⊕ Unit)) := spec_l05Ok.l2.s p.1 x p.2
noncomputable def spec_l05Ok.l2.r (p : Nat × List Int) (x : Int) : Option (Bool ⊕ Unit) := iterT (spec_l05Ok.l2.st p) manyRounds x
def spec_l05Ok.l2.cd : Cd ((Nat × List Int) × Int) (List V × Hp) := Cd.iso (Cd.pair (Cd.cons (Cd.own 0) (Cd.cons (Cd.it .i64) Cd.nil)) (Cd.cons (Cd.rw 56 1 (Cd.is .i16)) Cd.nil)) (fun a => ((a.1.1, a.2.1), a.1.2.1)) (fun a => ((a.1.1, (a.2, ())), (a.1.2, ()))) (fun _ => rfl)
def spec_l05Ok.l2.out (p : Nat × List Int) : (Bool ⊕ Unit) → X × List V × Hp := sumO (fun r => (.ret, [.own 0 p.1, .bo r], [some ⟨true, 56, 1, .is .i16 p.2⟩])) (fun r => (.ex 0, [.own 0 p.1, .unk], [some ⟨true, 56, 1, .is .i16 p.2⟩]))
def spec_l05Ok.l2.ex (p : Nat × List Int) : (Bool ⊕ Unit) → T (X × List V × Hp) := sumT (leafT (fun r => (.ret, [.own 0 p.1, .bo r], [some ⟨true, 56, 1, .is .i16 p.2⟩]))) (leafT (fun r => (.ex 0, [.own 0 p.1, .unk], [some ⟨true, 56, 1, .is .i16 p.2⟩])))
noncomputable def spec_l05Ok.l2.c : List V → Hp → T (X × List V × Hp) := cdL spec_l05Ok.l2.cd fun x => optT (spec_l05Ok.l2.r x.1 x.2) (spec_l05Ok.l2.ex x.1)
noncomputable def spec_l05Ok.C : Ctx := { ty := tys, fn := [(82, .q spec_l01Teeth.c), (74, .q spec_l00In.c)], lp := [(2, ⟨[0, 3], [0, 2], spec_l05Ok.l2.c⟩)], n := 36, k := 1 }
theorem spec_l05Ok.hC : CtxOK Try.prog spec_l05Ok.C := CtxOK.of mo tys_ok (FnsOK.cons spec_l01Teeth.cok (FnsOK.cons spec_l00In.cok FnsOK.nil))
noncomputable def spec_l05Ok.b2 : Code := (nthC (loopsOf spec_l05Ok.b) 0)
theorem spec_l05Ok.lp2 : LpOK Try.prog spec_l05Ok.C spec_l05Ok.b2 := (LpOK.nil (by kernel_rfl))
theorem spec_l05Ok.l2.round (p : Nat × List Int) (s : Int) : roundL spec_l05Ok.C [0, 3] [0, 2] spec_l05Ok.b2 (spec_l05Ok.l2.cd.enc (p, s)).1 (spec_l05Ok.l2.cd.enc (p, s)).2 = (spec_l05Ok.l2.st p s).map (encSum (fun s => spec_l05Ok.l2.cd.enc (p, s)) (spec_l05Ok.l2.out p)) := by kernel_rfl
theorem spec_l05Ok.l2.lok : LoopOK Try.prog spec_l05Ok.C ⟨[0, 3], [0, 2], spec_l05Ok.l2.c⟩ spec_l05Ok.b2 := loop_cd spec_l05Ok.l2.cd spec_l05Ok.hC spec_l05Ok.lp2 spec_l05Ok.l2.round fun p => (Gets.sum Gets.leaf Gets.leaf)
theorem spec_l05Ok.lp : LpOK Try.prog spec_l05Ok.C spec_l05Ok.b := lp_of (by kernel_rfl) (LpsOK.cons (k := 2) (by kernel_rfl) (by kernel_rfl) spec_l05Ok.l2.lok LpsOK.nil)
noncomputable def spec_l05Ok.t (x0 : Nat) (x1 : List Int) : T Bool :=
  .br (Option.isSome (spec_l05Ok.l2.r (x0, x1) (0 : Int)))
  (.br (Sum.isLeft (Option.getD (spec_l05Ok.l2.r (x0, x1) (0 : Int)) default))
   (.leaf (getLeftD (Option.getD (spec_l05Ok.l2.r (x0, x1) (0 : Int)) default)))
   (.leaf (spec_l00In ((x0 : Nat) : Int) (2 : Int) (24 : Int))))
  .bad
noncomputable def spec_l05Ok (x0 : Nat) (x1 : List Int) : Bool := (spec_l05Ok.t x0 x1).val
noncomputable def spec_l05Ok.ok (x0 : Nat) (x1 : List Int) : Bool := (spec_l05Ok.t x0 x1).ok
def spec_l05Ok.cd : Cd (Nat × List Int) (List V × Hp) := Cd.iso (Cd.pair (Cd.cons (Cd.own 0) Cd.nil) (Cd.cons (Cd.rw 56 1 (Cd.is .i16)) Cd.nil)) (fun a => (a.1.1, a.2.1)) (fun a => ((a.1, ()), (a.2, ()))) (fun _ => rfl)
noncomputable def spec_l05Ok.tr (a : Nat × List Int) : T Bool := spec_l05Ok.t a.1 a.2
def spec_l05Ok.enc : (Nat × List Int) → Bool → V := fun a r => .bo r
noncomputable def spec_l05Ok.c : List V → Hp → T V := cdQ spec_l05Ok.cd (fun a => .br (spec_l05Ok.ok a.1 a.2) (.leaf (spec_l05Ok.enc a (spec_l05Ok a.1 a.2))) .bad)
theorem spec_l05Ok.run (a : Nat × List Int) : runF spec_l05Ok.C Try.f54.results.toList spec_l05Ok.b (spec_l05Ok.cd.enc a).1 (spec_l05Ok.cd.enc a).2 = (spec_l05Ok.tr a).map fun r => (spec_l05Ok.enc a r, (spec_l05Ok.cd.enc a).2) := by kernel_rfl
theorem spec_l05Ok.cok : OKq Try.prog 54 spec_l05Ok.c := con_q' spec_l05Ok.cd spec_l05Ok.hC Try.func54 (by kernel_rfl) (by kernel_rfl) (by kernel_rfl) spec_l05Ok.lp (fun a => by kernel_rfl) spec_l05Ok.run (Tells.ok (tree := spec_l05Ok.tr))
/-! ### spec_l05Target -/
noncomputable def spec_l05Target.b : Code := bodyOf Try.f38
noncomputable def spec_l05Target.C : Ctx := { ty := tys, fn := [], lp := [], n := 9, k := 0 }
theorem spec_l05Target.hC : CtxOK Try.prog spec_l05Target.C := CtxOK.of mo tys_ok FnsOK.nil
theorem spec_l05Target.lp : LpOK Try.prog spec_l05Target.C spec_l05Target.b := (LpOK.nil (by kernel_rfl))
noncomputable def spec_l05Target.t (x0 : Nat) : T Bool :=
  .br (fge .f32 x0 981467136)
  (.leaf (fle .f32 x0 1149239296))
  (.leaf false)
noncomputable def spec_l05Target (x0 : Nat) : Bool := (spec_l05Target.t x0).val
def spec_l05Target.cd : Cd Nat (List V × Hp) := Cd.iso (Cd.pair (Cd.cons (Cd.fl .f32) Cd.nil) Cd.nil) (fun a => a.1.1) (fun a => ((a, ()), ())) (fun _ => rfl)
noncomputable def spec_l05Target.tr (a : Nat) : T Bool := spec_l05Target.t a
def spec_l05Target.enc : Nat → Bool → V := fun a r => .bo r
noncomputable def spec_l05Target.c : List V → Hp → T V := cdQ spec_l05Target.cd (fun a => .leaf (spec_l05Target.enc a (spec_l05Target a)))
theorem spec_l05Target.run (a : Nat) : runF spec_l05Target.C Try.f38.results.toList spec_l05Target.b (spec_l05Target.cd.enc a).1 (spec_l05Target.cd.enc a).2 = (spec_l05Target.tr a).map fun r => (spec_l05Target.enc a r, (spec_l05Target.cd.enc a).2) := by kernel_rfl
theorem spec_l05Target.cok : OKq Try.prog 38 spec_l05Target.c := con_q' spec_l05Target.cd spec_l05Target.hC Try.func38 (by kernel_rfl) (by kernel_rfl) (by kernel_rfl) spec_l05Target.lp (fun a => by kernel_rfl) spec_l05Target.run (Tells.val (tree := spec_l05Target.tr) fun a => by kernel_rfl)
/-! ### spec_l01Part -/
noncomputable def spec_l01Part.b : Code := bodyOf Try.f55
noncomputable def spec_l01Part.C : Ctx := { ty := tys, fn := [], lp := [], n := 9, k := 0 }
theorem spec_l01Part.hC : CtxOK Try.prog spec_l01Part.C := CtxOK.of mo tys_ok FnsOK.nil
theorem spec_l01Part.lp : LpOK Try.prog spec_l01Part.C spec_l01Part.b := (LpOK.nil (by kernel_rfl))
noncomputable def spec_l01Part.t (x0 : Nat) : T Bool :=
  .br (fge .f32 x0 0)
  (.leaf (fle .f32 x0 1065353216))
  (.leaf false)
noncomputable def spec_l01Part (x0 : Nat) : Bool := (spec_l01Part.t x0).val
def spec_l01Part.cd : Cd Nat (List V × Hp) := Cd.iso (Cd.pair (Cd.cons (Cd.fl .f32) Cd.nil) Cd.nil) (fun a => a.1.1) (fun a => ((a, ()), ())) (fun _ => rfl)
noncomputable def spec_l01Part.tr (a : Nat) : T Bool := spec_l01Part.t a
def spec_l01Part.enc : Nat → Bool → V := fun a r => .bo r
noncomputable def spec_l01Part.c : List V → Hp → T V := cdQ spec_l01Part.cd (fun a => .leaf (spec_l01Part.enc a (spec_l01Part a)))
theorem spec_l01Part.run (a : Nat) : runF spec_l01Part.C Try.f55.results.toList spec_l01Part.b (spec_l01Part.cd.enc a).1 (spec_l01Part.cd.enc a).2 = (spec_l01Part.tr a).map fun r => (spec_l01Part.enc a r, (spec_l01Part.cd.enc a).2) := by kernel_rfl
theorem spec_l01Part.cok : OKq Try.prog 55 spec_l01Part.c := con_q' spec_l01Part.cd spec_l01Part.hC Try.func55 (by kernel_rfl) (by kernel_rfl) (by kernel_rfl) spec_l01Part.lp (fun a => by kernel_rfl) spec_l01Part.run (Tells.val (tree := spec_l01Part.tr) fun a => by kernel_rfl)
/-! ### spec_l05Asked -/
noncomputable def spec_l05Asked.b : Code := bodyOf Try.f28
noncomputable def spec_l05Asked.C : Ctx := { ty := tys, fn := [(54, .q spec_l05Ok.c), (38, .q spec_l05Target.c), (55, .q spec_l01Part.c)], lp := [], n := 18, k := 1 }
theorem spec_l05Asked.hC : CtxOK Try.prog spec_l05Asked.C := CtxOK.of mo tys_ok (FnsOK.cons spec_l05Ok.cok (FnsOK.cons spec_l05Target.cok (FnsOK.cons spec_l01Part.cok FnsOK.nil)))
theorem spec_l05Asked.lp : LpOK Try.prog spec_l05Asked.C spec_l05Asked.b := (LpOK.nil (by kernel_rfl))
noncomputable def spec_l05Asked.t (x0 : Nat) (x1 : Nat) (x2 : Nat) (x3 : List Int) : T Int :=
  .br (spec_l05Ok.ok x0 x3)
  (.br (!(spec_l05Ok x0 x3))
   (.leaf (1 : Int))
   (.br (!(spec_l05Target x1))
    (.leaf (2 : Int))
    (.br (!(spec_l01Part x2))
     (.leaf (2 : Int))
     (.leaf (0 : Int)))))
  .bad
noncomputable def spec_l05Asked (x0 : Nat) (x1 : Nat) (x2 : Nat) (x3 : List Int) : Int := (spec_l05Asked.t x0 x1 x2 x3).val
noncomputable def spec_l05Asked.ok (x0 : Nat) (x1 : Nat) (x2 : Nat) (x3 : List Int) : Bool := (spec_l05Asked.t x0 x1 x2 x3).ok
def spec_l05Asked.cd : Cd (Nat × Nat × Nat × List Int) (List V × Hp) := Cd.iso (Cd.pair (Cd.cons (Cd.own 0) (Cd.cons (Cd.fl .f32) (Cd.cons (Cd.fl .f32) Cd.nil))) (Cd.cons (Cd.rw 56 1 (Cd.is .i16)) Cd.nil)) (fun a => (a.1.1, a.1.2.1, a.1.2.2.1, a.2.1)) (fun a => ((a.1, (a.2.1, (a.2.2.1, ()))), (a.2.2.2, ()))) (fun _ => rfl)
noncomputable def spec_l05Asked.tr (a : Nat × Nat × Nat × List Int) : T Int := spec_l05Asked.t a.1 a.2.1 a.2.2.1 a.2.2.2
def spec_l05Asked.enc : (Nat × Nat × Nat × List Int) → Int → V := fun a r => .it .i64 r
noncomputable def spec_l05Asked.c : List V → Hp → T V := cdQ spec_l05Asked.cd (fun a => .br (spec_l05Asked.ok a.1 a.2.1 a.2.2.1 a.2.2.2) (.leaf (spec_l05Asked.enc a (spec_l05Asked a.1 a.2.1 a.2.2.1 a.2.2.2))) .bad)
theorem spec_l05Asked.run (a : Nat × Nat × Nat × List Int) : runF spec_l05Asked.C Try.f28.results.toList spec_l05Asked.b (spec_l05Asked.cd.enc a).1 (spec_l05Asked.cd.enc a).2 = (spec_l05Asked.tr a).map fun r => (spec_l05Asked.enc a r, (spec_l05Asked.cd.enc a).2) := by kernel_rfl
theorem spec_l05Asked.cok : OKq Try.prog 28 spec_l05Asked.c := con_q' spec_l05Asked.cd spec_l05Asked.hC Try.func28 (by kernel_rfl) (by kernel_rfl) (by kernel_rfl) spec_l05Asked.lp (fun a => by kernel_rfl) spec_l05Asked.run (Tells.ok (tree := spec_l05Asked.tr))
/-! ### spec_l01Quotient -/
noncomputable def spec_l01Quotient.b : Code := bodyOf Try.f57
noncomputable def spec_l01Quotient.C : Ctx := { ty := tys, fn := [], lp := [], n := 10, k := 0 }
theorem spec_l01Quotient.hC : CtxOK Try.prog spec_l01Quotient.C := CtxOK.of mo tys_ok FnsOK.nil
theorem spec_l01Quotient.lp : LpOK Try.prog spec_l01Quotient.C spec_l01Quotient.b := (LpOK.nil (by kernel_rfl))
noncomputable def spec_l01Quotient.t (x0 : Int) (x1 : Int) : T Nat :=
  .leaf (fdiv .f32 (fofint .f32 x0) (fofint .f32 x1))
noncomputable def spec_l01Quotient (x0 : Int) (x1 : Int) : Nat := (spec_l01Quotient.t x0 x1).val
def spec_l01Quotient.cd : Cd (Int × Int) (List V × Hp) := Cd.iso (Cd.pair (Cd.cons (Cd.it .i16) (Cd.cons (Cd.it .i16) Cd.nil)) Cd.nil) (fun a => (a.1.1, a.1.2.1)) (fun a => ((a.1, (a.2, ())), ())) (fun _ => rfl)
noncomputable def spec_l01Quotient.tr (a : Int × Int) : T Nat := spec_l01Quotient.t a.1 a.2
def spec_l01Quotient.enc : (Int × Int) → Nat → V := fun a r => .fl .f32 r
noncomputable def spec_l01Quotient.c : List V → Hp → T V := cdQ spec_l01Quotient.cd (fun a => .leaf (spec_l01Quotient.enc a (spec_l01Quotient a.1 a.2)))
theorem spec_l01Quotient.run (a : Int × Int) : runF spec_l01Quotient.C Try.f57.results.toList spec_l01Quotient.b (spec_l01Quotient.cd.enc a).1 (spec_l01Quotient.cd.enc a).2 = (spec_l01Quotient.tr a).map fun r => (spec_l01Quotient.enc a r, (spec_l01Quotient.cd.enc a).2) := by kernel_rfl
theorem spec_l01Quotient.cok : OKq Try.prog 57 spec_l01Quotient.c := con_q' spec_l01Quotient.cd spec_l01Quotient.hC Try.func57 (by kernel_rfl) (by kernel_rfl) (by kernel_rfl) spec_l01Quotient.lp (fun a => by kernel_rfl) spec_l01Quotient.run (Tells.val (tree := spec_l01Quotient.tr) fun a => by kernel_rfl)
/-! ### spec_l01Size -/
noncomputable def spec_l01Size.b : Code := bodyOf Try.f51
noncomputable def spec_l01Size.C : Ctx := { ty := tys, fn := [], lp := [], n := 8, k := 0 }
theorem spec_l01Size.hC : CtxOK Try.prog spec_l01Size.C := CtxOK.of mo tys_ok FnsOK.nil
theorem spec_l01Size.lp : LpOK Try.prog spec_l01Size.C spec_l01Size.b := (LpOK.nil (by kernel_rfl))
noncomputable def spec_l01Size.t (x0 : Nat) : T Nat :=
  .br (flt .f32 x0 0)
  (.leaf (fneg .f32 x0))
  (.leaf x0)
noncomputable def spec_l01Size (x0 : Nat) : Nat := (spec_l01Size.t x0).val
def spec_l01Size.cd : Cd Nat (List V × Hp) := Cd.iso (Cd.pair (Cd.cons (Cd.fl .f32) Cd.nil) Cd.nil) (fun a => a.1.1) (fun a => ((a, ()), ())) (fun _ => rfl)
noncomputable def spec_l01Size.tr (a : Nat) : T Nat := spec_l01Size.t a
def spec_l01Size.enc : Nat → Nat → V := fun a r => .fl .f32 r
noncomputable def spec_l01Size.c : List V → Hp → T V := cdQ spec_l01Size.cd (fun a => .leaf (spec_l01Size.enc a (spec_l01Size a)))
theorem spec_l01Size.run (a : Nat) : runF spec_l01Size.C Try.f51.results.toList spec_l01Size.b (spec_l01Size.cd.enc a).1 (spec_l01Size.cd.enc a).2 = (spec_l01Size.tr a).map fun r => (spec_l01Size.enc a r, (spec_l01Size.cd.enc a).2) := by kernel_rfl
theorem spec_l01Size.cok : OKq Try.prog 51 spec_l01Size.c := con_q' spec_l01Size.cd spec_l01Size.hC Try.func51 (by kernel_rfl) (by kernel_rfl) (by kernel_rfl) spec_l01Size.lp (fun a => by kernel_rfl) spec_l01Size.run (Tells.val (tree := spec_l01Size.tr) fun a => by kernel_rfl)
/-! ### spec_l05Off -/
noncomputable def spec_l05Off.b : Code := bodyOf Try.f56
noncomputable def spec_l05Off.C : Ctx := { ty := tys, fn := [(51, .q spec_l01Size.c)], lp := [], n := 11, k := 0 }
theorem spec_l05Off.hC : CtxOK Try.prog spec_l05Off.C := CtxOK.of mo tys_ok (FnsOK.cons spec_l01Size.cok FnsOK.nil)
theorem spec_l05Off.lp : LpOK Try.prog spec_l05Off.C spec_l05Off.b := (LpOK.nil (by kernel_rfl))
noncomputable def spec_l05Off.t (x0 : Nat) (x1 : Nat) : T Nat :=
  .leaf (fdiv .f32 (spec_l01Size (fsub .f32 x0 x1)) x1)
noncomputable def spec_l05Off (x0 : Nat) (x1 : Nat) : Nat := (spec_l05Off.t x0 x1).val
def spec_l05Off.cd : Cd (Nat × Nat) (List V × Hp) := Cd.iso (Cd.pair (Cd.cons (Cd.fl .f32) (Cd.cons (Cd.fl .f32) Cd.nil)) Cd.nil) (fun a => (a.1.1, a.1.2.1)) (fun a => ((a.1, (a.2, ())), ())) (fun _ => rfl)
noncomputable def spec_l05Off.tr (a : Nat × Nat) : T Nat := spec_l05Off.t a.1 a.2
def spec_l05Off.enc : (Nat × Nat) → Nat → V := fun a r => .fl .f32 r
noncomputable def spec_l05Off.c : List V → Hp → T V := cdQ spec_l05Off.cd (fun a => .leaf (spec_l05Off.enc a (spec_l05Off a.1 a.2)))
theorem spec_l05Off.run (a : Nat × Nat) : runF spec_l05Off.C Try.f56.results.toList spec_l05Off.b (spec_l05Off.cd.enc a).1 (spec_l05Off.cd.enc a).2 = (spec_l05Off.tr a).map fun r => (spec_l05Off.enc a r, (spec_l05Off.cd.enc a).2) := by kernel_rfl
theorem spec_l05Off.cok : OKq Try.prog 56 spec_l05Off.c := con_q' spec_l05Off.cd spec_l05Off.hC Try.func56 (by kernel_rfl) (by kernel_rfl) (by kernel_rfl) spec_l05Off.lp (fun a => by kernel_rfl) spec_l05Off.run (Tells.val (tree := spec_l05Off.tr) fun a => by kernel_rfl)
/-! ### spec_l05Best -/
noncomputable def spec_l05Best.b : Code := bodyOf Try.f29
noncomputable def spec_l05Best.l8.s (x0 : Nat) (x1 : Nat) (x2 : Int) (x3 : Int) (x4 : Nat) (x5 : Int) (x6 : Int) (x7 : List Int) : T ((Int × Int × Nat × Int) ⊕ (Int × Int × Nat)) :=
  .br (decide (x6 < ((x0 : Nat) : Int)))
  (.br (x5 == x6)
   (.leaf (.inl (x2, x3, x4, (IntKind.wrap .i64 (x6 + (1 : Int))))))
   (.br (bounds x5 x0)
    (.br (Nat.ble ((Int.toNat x5 * 1) + 1) (List.length x7))
     (.br (bounds x6 x0)
      (.br (Nat.ble ((Int.toNat x6 * 1) + 1) (List.length x7))
       (.br (flt .f32 (spec_l05Off (spec_l01Quotient (List.getD x7 (Int.toNat x5 * 1) 0) (List.getD x7 (Int.toNat x6 * 1) 0)) x1) x4)
        (.leaf (.inl (x5, x6, (spec_l05Off (spec_l01Quotient (List.getD x7 (Int.toNat x5 * 1) 0) (List.getD x7 (Int.toNat x6 * 1) 0)) x1), (IntKind.wrap .i64 (x6 + (1 : Int))))))
        (.leaf (.inl (x2, x3, x4, (IntKind.wrap .i64 (x6 + (1 : Int)))))))
       .bad)
      .bad)
     .bad)
    .bad))
  (.leaf (.inr (x2, x3, x4)))
noncomputable def spec_l05Best.l8.st (p : Nat × Nat × Int × List Int) (x : Int × Int × Nat × Int) : T ((Int × Int × Nat × Int) ⊕ (Int × Int × Nat)) := spec_l05Best.l8.s p.1 p.2.1 x.1 x.2.1 x.2.2.1 p.2.2.1 x.2.2.2 p.2.2.2
noncomputable def spec_l05Best.l8.r (p : Nat × Nat × Int × List Int) (x : Int × Int × Nat × Int) : Option (Int × Int × Nat) := iterT (spec_l05Best.l8.st p) manyRounds x
def spec_l05Best.l8.cd : Cd ((Nat × Nat × Int × List Int) × (Int × Int × Nat × Int)) (List V × Hp) := Cd.iso (Cd.pair (Cd.cons (Cd.own 0) (Cd.cons (Cd.fl .f32) (Cd.cons (Cd.it .i64) (Cd.cons (Cd.it .i64) (Cd.cons (Cd.fl .f32) (Cd.cons (Cd.it .i64) (Cd.cons (Cd.it .i64) Cd.nil))))))) (Cd.cons (Cd.rw 56 1 (Cd.is .i16)) Cd.nil)) (fun a => ((a.1.1, a.1.2.1, a.1.2.2.2.2.2.1, a.2.1), (a.1.2.2.1, a.1.2.2.2.1, a.1.2.2.2.2.1, a.1.2.2.2.2.2.2.1))) (fun a => ((a.1.1, (a.1.2.1, (a.2.1, (a.2.2.1, (a.2.2.2.1, (a.1.2.2.1, (a.2.2.2.2, ()))))))), (a.1.2.2.2, ()))) (fun _ => rfl)
def spec_l05Best.l8.out (p : Nat × Nat × Int × List Int) : (Int × Int × Nat) → X × List V × Hp := (fun r => (.ex 2, [.own 0 p.1, .fl .f32 p.2.1, .it .i64 r.1, .it .i64 r.2.1, .fl .f32 r.2.2, .it .i64 p.2.2.1], [some ⟨true, 56, 1, .is .i16 p.2.2.2⟩]))
def spec_l05Best.l8.ex (p : Nat × Nat × Int × List Int) : (Int × Int × Nat) → T (X × List V × Hp) := leafT (fun r => (.ex 2, [.own 0 p.1, .fl .f32 p.2.1, .it .i64 r.1, .it .i64 r.2.1, .fl .f32 r.2.2, .it .i64 p.2.2.1], [some ⟨true, 56, 1, .is .i16 p.2.2.2⟩]))
noncomputable def spec_l05Best.l8.c : List V → Hp → T (X × List V × Hp) := cdL spec_l05Best.l8.cd fun x => optT (spec_l05Best.l8.r x.1 x.2) (spec_l05Best.l8.ex x.1)
noncomputable def spec_l05Best.l5.s (x0 : Nat) (x1 : Nat) (x2 : Int) (x3 : Int) (x4 : Nat) (x5 : Int) (x6 : List Int) : T ((Int × Int × Nat × Int) ⊕ (Int × Int × Nat)) :=
  .br (decide (x5 < ((x0 : Nat) : Int)))
  (.br (Option.isSome (spec_l05Best.l8.r (x0, x1, x5, x6) (x2, x3, x4, (0 : Int))))
   (.leaf (.inl ((Option.getD (spec_l05Best.l8.r (x0, x1, x5, x6) (x2, x3, x4, (0 : Int))) default).1, (Option.getD (spec_l05Best.l8.r (x0, x1, x5, x6) (x2, x3, x4, (0 : Int))) default).2.1, (Option.getD (spec_l05Best.l8.r (x0, x1, x5, x6) (x2, x3, x4, (0 : Int))) default).2.2, (IntKind.wrap .i64 (x5 + (1 : Int))))))
   .bad)
  (.leaf (.inr (x2, x3, x4)))
noncomputable def spec_l05Best.l5.st (p : Nat × Nat × List Int) (x : Int × Int × Nat × Int) : T ((Int × Int × Nat × Int) ⊕ (Int × Int × Nat)) := spec_l05Best.l5.s p.1 p.2.1 x.1 x.2.1 x.2.2.1 x.2.2.2 p.2.2
noncomputable def spec_l05Best.l5.r (p : Nat × Nat × List Int) (x : Int × Int × Nat × Int) : Option (Int × Int × Nat) := iterT (spec_l05Best.l5.st p) manyRounds x
def spec_l05Best.l5.cd : Cd ((Nat × Nat × List Int) × (Int × Int × Nat × Int)) (List V × Hp) := Cd.iso (Cd.pair (Cd.cons (Cd.own 0) (Cd.cons (Cd.fl .f32) (Cd.cons (Cd.it .i64) (Cd.cons (Cd.it .i64) (Cd.cons (Cd.fl .f32) (Cd.cons (Cd.it .i64) Cd.nil)))))) (Cd.cons (Cd.rw 56 1 (Cd.is .i16)) Cd.nil)) (fun a => ((a.1.1, a.1.2.1, a.2.1), (a.1.2.2.1, a.1.2.2.2.1, a.1.2.2.2.2.1, a.1.2.2.2.2.2.1))) (fun a => ((a.1.1, (a.1.2.1, (a.2.1, (a.2.2.1, (a.2.2.2.1, (a.2.2.2.2, ())))))), (a.1.2.2, ()))) (fun _ => rfl)
def spec_l05Best.l5.out (p : Nat × Nat × List Int) : (Int × Int × Nat) → X × List V × Hp := (fun r => (.ex 0, [.it .i64 r.1, .it .i64 r.2.1, .fl .f32 r.2.2], [some ⟨true, 56, 1, .is .i16 p.2.2⟩]))
def spec_l05Best.l5.ex (p : Nat × Nat × List Int) : (Int × Int × Nat) → T (X × List V × Hp) := leafT (fun r => (.ex 0, [.it .i64 r.1, .it .i64 r.2.1, .fl .f32 r.2.2], [some ⟨true, 56, 1, .is .i16 p.2.2⟩]))
noncomputable def spec_l05Best.l5.c : List V → Hp → T (X × List V × Hp) := cdL spec_l05Best.l5.cd fun x => optT (spec_l05Best.l5.r x.1 x.2) (spec_l05Best.l5.ex x.1)
noncomputable def spec_l05Best.C : Ctx := { ty := tys, fn := [(57, .q spec_l01Quotient.c), (56, .q spec_l05Off.c)], lp := [(5, ⟨[0, 1, 7, 8, 9, 10], [7, 8, 9], spec_l05Best.l5.c⟩), (8, ⟨[0, 1, 7, 8, 9, 10, 11], [0, 1, 7, 8, 9, 10], spec_l05Best.l8.c⟩)], n := 57, k := 1 }
theorem spec_l05Best.hC : CtxOK Try.prog spec_l05Best.C := CtxOK.of mo tys_ok (FnsOK.cons spec_l01Quotient.cok (FnsOK.cons spec_l05Off.cok FnsOK.nil))
noncomputable def spec_l05Best.b8 : Code := (nthC (loopsOf (nthC (loopsOf spec_l05Best.b) 0)) 0)
theorem spec_l05Best.lp8 : LpOK Try.prog spec_l05Best.C spec_l05Best.b8 := (LpOK.nil (by kernel_rfl))
theorem spec_l05Best.l8.round (p : Nat × Nat × Int × List Int) (s : Int × Int × Nat × Int) : roundL spec_l05Best.C [0, 1, 7, 8, 9, 10, 11] [0, 1, 7, 8, 9, 10] spec_l05Best.b8 (spec_l05Best.l8.cd.enc (p, s)).1 (spec_l05Best.l8.cd.enc (p, s)).2 = (spec_l05Best.l8.st p s).map (encSum (fun s => spec_l05Best.l8.cd.enc (p, s)) (spec_l05Best.l8.out p)) := by kernel_rfl
theorem spec_l05Best.l8.lok : LoopOK Try.prog spec_l05Best.C ⟨[0, 1, 7, 8, 9, 10, 11], [0, 1, 7, 8, 9, 10], spec_l05Best.l8.c⟩ spec_l05Best.b8 := loop_cd spec_l05Best.l8.cd spec_l05Best.hC spec_l05Best.lp8 spec_l05Best.l8.round fun p => Gets.leaf
noncomputable def spec_l05Best.b5 : Code := (nthC (loopsOf spec_l05Best.b) 0)
theorem spec_l05Best.lp5 : LpOK Try.prog spec_l05Best.C spec_l05Best.b5 := lp_of (by kernel_rfl) (LpsOK.cons (k := 8) (by kernel_rfl) (by kernel_rfl) spec_l05Best.l8.lok LpsOK.nil)
theorem spec_l05Best.l5.round (p : Nat × Nat × List Int) (s : Int × Int × Nat × Int) : roundL spec_l05Best.C [0, 1, 7, 8, 9, 10] [7, 8, 9] spec_l05Best.b5 (spec_l05Best.l5.cd.enc (p, s)).1 (spec_l05Best.l5.cd.enc (p, s)).2 = (spec_l05Best.l5.st p s).map (encSum (fun s => spec_l05Best.l5.cd.enc (p, s)) (spec_l05Best.l5.out p)) := by kernel_rfl
theorem spec_l05Best.l5.lok : LoopOK Try.prog spec_l05Best.C ⟨[0, 1, 7, 8, 9, 10], [7, 8, 9], spec_l05Best.l5.c⟩ spec_l05Best.b5 := loop_cd spec_l05Best.l5.cd spec_l05Best.hC spec_l05Best.lp5 spec_l05Best.l5.round fun p => Gets.leaf
theorem spec_l05Best.lp : LpOK Try.prog spec_l05Best.C spec_l05Best.b := lp_of (by kernel_rfl) (LpsOK.cons (k := 5) (by kernel_rfl) (by kernel_rfl) spec_l05Best.l5.lok LpsOK.nil)
noncomputable def spec_l05Best.t (x0 : Nat) (x1 : Nat) (x2 : List Int) : T (Int × Int × Nat) :=
  .br (bounds (0 : Int) x0)
  (.br (Nat.ble 1 (List.length x2))
   (.br (bounds (1 : Int) x0)
    (.br (Nat.ble 2 (List.length x2))
     (.br (Option.isSome (spec_l05Best.l5.r (x0, x1, x2) ((0 : Int), (1 : Int), (spec_l05Off (spec_l01Quotient (List.getD x2 0 0) (List.getD x2 1 0)) x1), (0 : Int))))
      (.leaf ((Option.getD (spec_l05Best.l5.r (x0, x1, x2) ((0 : Int), (1 : Int), (spec_l05Off (spec_l01Quotient (List.getD x2 0 0) (List.getD x2 1 0)) x1), (0 : Int))) default).1, (Option.getD (spec_l05Best.l5.r (x0, x1, x2) ((0 : Int), (1 : Int), (spec_l05Off (spec_l01Quotient (List.getD x2 0 0) (List.getD x2 1 0)) x1), (0 : Int))) default).2.1, (Option.getD (spec_l05Best.l5.r (x0, x1, x2) ((0 : Int), (1 : Int), (spec_l05Off (spec_l01Quotient (List.getD x2 0 0) (List.getD x2 1 0)) x1), (0 : Int))) default).2.2))
      .bad)
     .bad)
    .bad)
   .bad)
  .bad
noncomputable def spec_l05Best (x0 : Nat) (x1 : Nat) (x2 : List Int) : Int × Int × Nat := (spec_l05Best.t x0 x1 x2).val
noncomputable def spec_l05Best.ok (x0 : Nat) (x1 : Nat) (x2 : List Int) : Bool := (spec_l05Best.t x0 x1 x2).ok
def spec_l05Best.cd : Cd (Nat × Nat × List Int) (List V × Hp) := Cd.iso (Cd.pair (Cd.cons (Cd.own 0) (Cd.cons (Cd.fl .f32) Cd.nil)) (Cd.cons (Cd.rw 56 1 (Cd.is .i16)) Cd.nil)) (fun a => (a.1.1, a.1.2.1, a.2.1)) (fun a => ((a.1, (a.2.1, ())), (a.2.2, ()))) (fun _ => rfl)
noncomputable def spec_l05Best.tr (a : Nat × Nat × List Int) : T (Int × Int × Nat) := spec_l05Best.t a.1 a.2.1 a.2.2
def spec_l05Best.enc : (Nat × Nat × List Int) → (Int × Int × Nat) → V := fun a r => .tup [.it .i64 r.1, .it .i64 r.2.1, .fl .f32 r.2.2]
noncomputable def spec_l05Best.c : List V → Hp → T V := cdQ spec_l05Best.cd (fun a => .br (spec_l05Best.ok a.1 a.2.1 a.2.2) (.leaf (spec_l05Best.enc a (spec_l05Best a.1 a.2.1 a.2.2))) .bad)
theorem spec_l05Best.run (a : Nat × Nat × List Int) : runF spec_l05Best.C Try.f29.results.toList spec_l05Best.b (spec_l05Best.cd.enc a).1 (spec_l05Best.cd.enc a).2 = (spec_l05Best.tr a).map fun r => (spec_l05Best.enc a r, (spec_l05Best.cd.enc a).2) := by kernel_rfl
theorem spec_l05Best.cok : OKq Try.prog 29 spec_l05Best.c := con_q' spec_l05Best.cd spec_l05Best.hC Try.func29 (by kernel_rfl) (by kernel_rfl) (by kernel_rfl) spec_l05Best.lp (fun a => by kernel_rfl) spec_l05Best.run (Tells.ok (tree := spec_l05Best.tr))
/-! ### spec_AddWheel -/
noncomputable def spec_AddWheel.b : Code := bodyOf Try.f7
noncomputable def spec_AddWheel.l12.s (x0 : Nat) (x1 : Nat) (x2 : Int) (x3 : Nat) (x4 : Int) (x5 : Int) (x6 : List Int) : T (Int ⊕ Int) :=
  .br (decide (x5 < ((x0 : Nat) : Int)))
  (.br (bounds x5 x0)
   (.br (Nat.ble ((Int.toNat x5 * 1) + 1) (List.length x6))
    (.br (decide ((List.getD x6 (Int.toNat x5 * 1) 0) < x4))
     (.leaf (.inl (IntKind.wrap .i64 (x5 + (1 : Int)))))
     (.leaf (.inr x5)))
    .bad)
   .bad)
  (.leaf (.inr x5))
noncomputable def spec_AddWheel.l12.st (p : Nat × Nat × Int × Nat × Int × List Int) (x : Int) : T (Int ⊕ Int) := spec_AddWheel.l12.s p.1 p.2.1 p.2.2.1 p.2.2.2.1 p.2.2.2.2.1 x p.2.2.2.2.2
noncomputable def spec_AddWheel.l12.r (p : Nat × Nat × Int × Nat × Int × List Int) (x : Int) : Option Int := iterT (spec_AddWheel.l12.st p) manyRounds x
def spec_AddWheel.l12.cd : Cd ((Nat × Nat × Int × Nat × Int × List Int) × Int) (List V × Hp) := Cd.iso (Cd.pair (Cd.cons (Cd.own 0) (Cd.cons (Cd.fl .f32) (Cd.cons (Cd.it .i64) (Cd.cons (Cd.fl .f32) (Cd.cons (Cd.it .i16) (Cd.cons (Cd.it .i64) Cd.nil)))))) (Cd.cons (Cd.rw 56 1 (Cd.is .i16)) Cd.nil)) (fun a => ((a.1.1, a.1.2.1, a.1.2.2.1, a.1.2.2.2.1, a.1.2.2.2.2.1, a.2.1), a.1.2.2.2.2.2.1)) (fun a => ((a.1.1, (a.1.2.1, (a.1.2.2.1, (a.1.2.2.2.1, (a.1.2.2.2.2.1, (a.2, ())))))), (a.1.2.2.2.2.2, ()))) (fun _ => rfl)
def spec_AddWheel.l12.out (p : Nat × Nat × Int × Nat × Int × List Int) : Int → X × List V × Hp := (fun r => (.ex 2, [.own 0 p.1, .fl .f32 p.2.1, .it .i64 p.2.2.1, .fl .f32 p.2.2.2.1, .it .i16 p.2.2.2.2.1, .it .i64 r], [some ⟨true, 56, 1, .is .i16 p.2.2.2.2.2⟩]))
def spec_AddWheel.l12.ex (p : Nat × Nat × Int × Nat × Int × List Int) : Int → T (X × List V × Hp) := leafT (fun r => (.ex 2, [.own 0 p.1, .fl .f32 p.2.1, .it .i64 p.2.2.1, .fl .f32 p.2.2.2.1, .it .i16 p.2.2.2.2.1, .it .i64 r], [some ⟨true, 56, 1, .is .i16 p.2.2.2.2.2⟩]))
noncomputable def spec_AddWheel.l12.c : List V → Hp → T (X × List V × Hp) := cdL spec_AddWheel.l12.cd fun x => optT (spec_AddWheel.l12.r x.1 x.2) (spec_AddWheel.l12.ex x.1)
noncomputable def spec_AddWheel.l9.s (x0 : Nat) (x1 : Nat) (x2 : Int) (x3 : Nat) (x4 : Int) (x5 : List Int) : T ((Int × Nat × Int) ⊕ (Int × Nat)) :=
  .br (decide (x4 ≤ (200 : Int)))
  (.br (Option.isSome (spec_AddWheel.l12.r (x0, x1, x2, x3, x4, x5) (0 : Int)))
   (.br (decide ((Option.getD (spec_AddWheel.l12.r (x0, x1, x2, x3, x4, x5) (0 : Int)) default) < ((x0 : Nat) : Int)))
    (.br (bounds (Option.getD (spec_AddWheel.l12.r (x0, x1, x2, x3, x4, x5) (0 : Int)) default) x0)
     (.br (Nat.ble ((Int.toNat (Option.getD (spec_AddWheel.l12.r (x0, x1, x2, x3, x4, x5) (0 : Int)) default) * 1) + 1) (List.length x5))
      (.br ((List.getD x5 (Int.toNat (Option.getD (spec_AddWheel.l12.r (x0, x1, x2, x3, x4, x5) (0 : Int)) default) * 1) 0) == x4)
       (.leaf (.inl (x2, x3, (IntKind.wrap .i16 (x4 + (1 : Int))))))
       (.br (decide (0 ≤ (0 : Int)) && decide ((0 : Int) ≤ (Option.getD (spec_AddWheel.l12.r (x0, x1, x2, x3, x4, x5) (0 : Int)) default)) && decide ((Option.getD (spec_AddWheel.l12.r (x0, x1, x2, x3, x4, x5) (0 : Int)) default) ≤ ((x0 : Nat) : Int)))
        (.br ((Nat.ble (0 + ((Int.toNat (Option.getD (spec_AddWheel.l12.r (x0, x1, x2, x3, x4, x5) (0 : Int)) default) - Int.toNat (0 : Int)) * 1)) (List.length x5)) && (Nat.beq (List.length ([] : List Int)) 0 && Nat.ble ((0 + (Int.toNat (Option.getD (spec_AddWheel.l12.r (x0, x1, x2, x3, x4, x5) (0 : Int)) default) - Int.toNat (0 : Int))) * 2) 35184372088832 && Nat.ble (0 + (Int.toNat (Option.getD (spec_AddWheel.l12.r (x0, x1, x2, x3, x4, x5) (0 : Int)) default) - Int.toNat (0 : Int))) 35184372088832))
         (.br ((Nat.ble 1 (List.length [x4])) && (Nat.beq (List.length ([] ++ (List.take ((Int.toNat (Option.getD (spec_AddWheel.l12.r (x0, x1, x2, x3, x4, x5) (0 : Int)) default) - Int.toNat (0 : Int)) * 1) (List.drop 0 x5)))) ((0 + (Int.toNat (Option.getD (spec_AddWheel.l12.r (x0, x1, x2, x3, x4, x5) (0 : Int)) default) - Int.toNat (0 : Int))) * 1) && Nat.ble (((0 + (Int.toNat (Option.getD (spec_AddWheel.l12.r (x0, x1, x2, x3, x4, x5) (0 : Int)) default) - Int.toNat (0 : Int))) + 1) * 2) 35184372088832 && Nat.ble ((0 + (Int.toNat (Option.getD (spec_AddWheel.l12.r (x0, x1, x2, x3, x4, x5) (0 : Int)) default) - Int.toNat (0 : Int))) + 1) 35184372088832))
          (.br (decide (0 ≤ (Option.getD (spec_AddWheel.l12.r (x0, x1, x2, x3, x4, x5) (0 : Int)) default)) && decide ((Option.getD (spec_AddWheel.l12.r (x0, x1, x2, x3, x4, x5) (0 : Int)) default) ≤ ((x0 : Nat) : Int)) && decide (((x0 : Nat) : Int) ≤ ((x0 : Nat) : Int)))
           (.br ((Nat.ble ((Int.toNat (Option.getD (spec_AddWheel.l12.r (x0, x1, x2, x3, x4, x5) (0 : Int)) default) * 1) + ((Int.toNat ((x0 : Nat) : Int) - Int.toNat (Option.getD (spec_AddWheel.l12.r (x0, x1, x2, x3, x4, x5) (0 : Int)) default)) * 1)) (List.length x5)) && (Nat.beq (List.length (([] ++ (List.take ((Int.toNat (Option.getD (spec_AddWheel.l12.r (x0, x1, x2, x3, x4, x5) (0 : Int)) default) - Int.toNat (0 : Int)) * 1) (List.drop 0 x5))) ++ (List.take 1 (List.drop 0 [x4])))) (((0 + (Int.toNat (Option.getD (spec_AddWheel.l12.r (x0, x1, x2, x3, x4, x5) (0 : Int)) default) - Int.toNat (0 : Int))) + 1) * 1) && Nat.ble ((((0 + (Int.toNat (Option.getD (spec_AddWheel.l12.r (x0, x1, x2, x3, x4, x5) (0 : Int)) default) - Int.toNat (0 : Int))) + 1) + (Int.toNat ((x0 : Nat) : Int) - Int.toNat (Option.getD (spec_AddWheel.l12.r (x0, x1, x2, x3, x4, x5) (0 : Int)) default))) * 2) 35184372088832 && Nat.ble (((0 + (Int.toNat (Option.getD (spec_AddWheel.l12.r (x0, x1, x2, x3, x4, x5) (0 : Int)) default) - Int.toNat (0 : Int))) + 1) + (Int.toNat ((x0 : Nat) : Int) - Int.toNat (Option.getD (spec_AddWheel.l12.r (x0, x1, x2, x3, x4, x5) (0 : Int)) default))) 35184372088832))
            (.br (spec_l05Best.ok (((0 + (Int.toNat (Option.getD (spec_AddWheel.l12.r (x0, x1, x2, x3, x4, x5) (0 : Int)) default) - Int.toNat (0 : Int))) + 1) + (Int.toNat ((x0 : Nat) : Int) - Int.toNat (Option.getD (spec_AddWheel.l12.r (x0, x1, x2, x3, x4, x5) (0 : Int)) default))) x1 ((([] ++ (List.take ((Int.toNat (Option.getD (spec_AddWheel.l12.r (x0, x1, x2, x3, x4, x5) (0 : Int)) default) - Int.toNat (0 : Int)) * 1) (List.drop 0 x5))) ++ (List.take 1 (List.drop 0 [x4]))) ++ (List.take ((Int.toNat ((x0 : Nat) : Int) - Int.toNat (Option.getD (spec_AddWheel.l12.r (x0, x1, x2, x3, x4, x5) (0 : Int)) default)) * 1) (List.drop (Int.toNat (Option.getD (spec_AddWheel.l12.r (x0, x1, x2, x3, x4, x5) (0 : Int)) default) * 1) x5))))
             (.br (decide (x2 < (0 : Int)))
              (.leaf (.inl ((IntKind.wrap .i64 x4), (spec_l05Best (((0 + (Int.toNat (Option.getD (spec_AddWheel.l12.r (x0, x1, x2, x3, x4, x5) (0 : Int)) default) - Int.toNat (0 : Int))) + 1) + (Int.toNat ((x0 : Nat) : Int) - Int.toNat (Option.getD (spec_AddWheel.l12.r (x0, x1, x2, x3, x4, x5) (0 : Int)) default))) x1 ((([] ++ (List.take ((Int.toNat (Option.getD (spec_AddWheel.l12.r (x0, x1, x2, x3, x4, x5) (0 : Int)) default) - Int.toNat (0 : Int)) * 1) (List.drop 0 x5))) ++ (List.take 1 (List.drop 0 [x4]))) ++ (List.take ((Int.toNat ((x0 : Nat) : Int) - Int.toNat (Option.getD (spec_AddWheel.l12.r (x0, x1, x2, x3, x4, x5) (0 : Int)) default)) * 1) (List.drop (Int.toNat (Option.getD (spec_AddWheel.l12.r (x0, x1, x2, x3, x4, x5) (0 : Int)) default) * 1) x5)))).2.2, (IntKind.wrap .i16 (x4 + (1 : Int))))))
              (.br (flt .f32 (spec_l05Best (((0 + (Int.toNat (Option.getD (spec_AddWheel.l12.r (x0, x1, x2, x3, x4, x5) (0 : Int)) default) - Int.toNat (0 : Int))) + 1) + (Int.toNat ((x0 : Nat) : Int) - Int.toNat (Option.getD (spec_AddWheel.l12.r (x0, x1, x2, x3, x4, x5) (0 : Int)) default))) x1 ((([] ++ (List.take ((Int.toNat (Option.getD (spec_AddWheel.l12.r (x0, x1, x2, x3, x4, x5) (0 : Int)) default) - Int.toNat (0 : Int)) * 1) (List.drop 0 x5))) ++ (List.take 1 (List.drop 0 [x4]))) ++ (List.take ((Int.toNat ((x0 : Nat) : Int) - Int.toNat (Option.getD (spec_AddWheel.l12.r (x0, x1, x2, x3, x4, x5) (0 : Int)) default)) * 1) (List.drop (Int.toNat (Option.getD (spec_AddWheel.l12.r (x0, x1, x2, x3, x4, x5) (0 : Int)) default) * 1) x5)))).2.2 x3)
               (.leaf (.inl ((IntKind.wrap .i64 x4), (spec_l05Best (((0 + (Int.toNat (Option.getD (spec_AddWheel.l12.r (x0, x1, x2, x3, x4, x5) (0 : Int)) default) - Int.toNat (0 : Int))) + 1) + (Int.toNat ((x0 : Nat) : Int) - Int.toNat (Option.getD (spec_AddWheel.l12.r (x0, x1, x2, x3, x4, x5) (0 : Int)) default))) x1 ((([] ++ (List.take ((Int.toNat (Option.getD (spec_AddWheel.l12.r (x0, x1, x2, x3, x4, x5) (0 : Int)) default) - Int.toNat (0 : Int)) * 1) (List.drop 0 x5))) ++ (List.take 1 (List.drop 0 [x4]))) ++ (List.take ((Int.toNat ((x0 : Nat) : Int) - Int.toNat (Option.getD (spec_AddWheel.l12.r (x0, x1, x2, x3, x4, x5) (0 : Int)) default)) * 1) (List.drop (Int.toNat (Option.getD (spec_AddWheel.l12.r (x0, x1, x2, x3, x4, x5) (0 : Int)) default) * 1) x5)))).2.2, (IntKind.wrap .i16 (x4 + (1 : Int))))))
               (.leaf (.inl (x2, x3, (IntKind.wrap .i16 (x4 + (1 : Int))))))))
             .bad)
            .bad)
           .bad)
          .bad)
         .bad)
        .bad))
      .bad)
     .bad)
    (.br (decide (0 ≤ (0 : Int)) && decide ((0 : Int) ≤ (Option.getD (spec_AddWheel.l12.r (x0, x1, x2, x3, x4, x5) (0 : Int)) default)) && decide ((Option.getD (spec_AddWheel.l12.r (x0, x1, x2, x3, x4, x5) (0 : Int)) default) ≤ ((x0 : Nat) : Int)))
     (.br ((Nat.ble (0 + ((Int.toNat (Option.getD (spec_AddWheel.l12.r (x0, x1, x2, x3, x4, x5) (0 : Int)) default) - Int.toNat (0 : Int)) * 1)) (List.length x5)) && (Nat.beq (List.length ([] : List Int)) 0 && Nat.ble ((0 + (Int.toNat (Option.getD (spec_AddWheel.l12.r (x0, x1, x2, x3, x4, x5) (0 : Int)) default) - Int.toNat (0 : Int))) * 2) 35184372088832 && Nat.ble (0 + (Int.toNat (Option.getD (spec_AddWheel.l12.r (x0, x1, x2, x3, x4, x5) (0 : Int)) default) - Int.toNat (0 : Int))) 35184372088832))
      (.br ((Nat.ble 1 (List.length [x4])) && (Nat.beq (List.length ([] ++ (List.take ((Int.toNat (Option.getD (spec_AddWheel.l12.r (x0, x1, x2, x3, x4, x5) (0 : Int)) default) - Int.toNat (0 : Int)) * 1) (List.drop 0 x5)))) ((0 + (Int.toNat (Option.getD (spec_AddWheel.l12.r (x0, x1, x2, x3, x4, x5) (0 : Int)) default) - Int.toNat (0 : Int))) * 1) && Nat.ble (((0 + (Int.toNat (Option.getD (spec_AddWheel.l12.r (x0, x1, x2, x3, x4, x5) (0 : Int)) default) - Int.toNat (0 : Int))) + 1) * 2) 35184372088832 && Nat.ble ((0 + (Int.toNat (Option.getD (spec_AddWheel.l12.r (x0, x1, x2, x3, x4, x5) (0 : Int)) default) - Int.toNat (0 : Int))) + 1) 35184372088832))
       (.br (decide (0 ≤ (Option.getD (spec_AddWheel.l12.r (x0, x1, x2, x3, x4, x5) (0 : Int)) default)) && decide ((Option.getD (spec_AddWheel.l12.r (x0, x1, x2, x3, x4, x5) (0 : Int)) default) ≤ ((x0 : Nat) : Int)) && decide (((x0 : Nat) : Int) ≤ ((x0 : Nat) : Int)))
        (.br ((Nat.ble ((Int.toNat (Option.getD (spec_AddWheel.l12.r (x0, x1, x2, x3, x4, x5) (0 : Int)) default) * 1) + ((Int.toNat ((x0 : Nat) : Int) - Int.toNat (Option.getD (spec_AddWheel.l12.r (x0, x1, x2, x3, x4, x5) (0 : Int)) default)) * 1)) (List.length x5)) && (Nat.beq (List.length (([] ++ (List.take ((Int.toNat (Option.getD (spec_AddWheel.l12.r (x0, x1, x2, x3, x4, x5) (0 : Int)) default) - Int.toNat (0 : Int)) * 1) (List.drop 0 x5))) ++ (List.take 1 (List.drop 0 [x4])))) (((0 + (Int.toNat (Option.getD (spec_AddWheel.l12.r (x0, x1, x2, x3, x4, x5) (0 : Int)) default) - Int.toNat (0 : Int))) + 1) * 1) && Nat.ble ((((0 + (Int.toNat (Option.getD (spec_AddWheel.l12.r (x0, x1, x2, x3, x4, x5) (0 : Int)) default) - Int.toNat (0 : Int))) + 1) + (Int.toNat ((x0 : Nat) : Int) - Int.toNat (Option.getD (spec_AddWheel.l12.r (x0, x1, x2, x3, x4, x5) (0 : Int)) default))) * 2) 35184372088832 && Nat.ble (((0 + (Int.toNat (Option.getD (spec_AddWheel.l12.r (x0, x1, x2, x3, x4, x5) (0 : Int)) default) - Int.toNat (0 : Int))) + 1) + (Int.toNat ((x0 : Nat) : Int) - Int.toNat (Option.getD (spec_AddWheel.l12.r (x0, x1, x2, x3, x4, x5) (0 : Int)) default))) 35184372088832))
         (.br (spec_l05Best.ok (((0 + (Int.toNat (Option.getD (spec_AddWheel.l12.r (x0, x1, x2, x3, x4, x5) (0 : Int)) default) - Int.toNat (0 : Int))) + 1) + (Int.toNat ((x0 : Nat) : Int) - Int.toNat (Option.getD (spec_AddWheel.l12.r (x0, x1, x2, x3, x4, x5) (0 : Int)) default))) x1 ((([] ++ (List.take ((Int.toNat (Option.getD (spec_AddWheel.l12.r (x0, x1, x2, x3, x4, x5) (0 : Int)) default) - Int.toNat (0 : Int)) * 1) (List.drop 0 x5))) ++ (List.take 1 (List.drop 0 [x4]))) ++ (List.take ((Int.toNat ((x0 : Nat) : Int) - Int.toNat (Option.getD (spec_AddWheel.l12.r (x0, x1, x2, x3, x4, x5) (0 : Int)) default)) * 1) (List.drop (Int.toNat (Option.getD (spec_AddWheel.l12.r (x0, x1, x2, x3, x4, x5) (0 : Int)) default) * 1) x5))))
          (.br (decide (x2 < (0 : Int)))
           (.leaf (.inl ((IntKind.wrap .i64 x4), (spec_l05Best (((0 + (Int.toNat (Option.getD (spec_AddWheel.l12.r (x0, x1, x2, x3, x4, x5) (0 : Int)) default) - Int.toNat (0 : Int))) + 1) + (Int.toNat ((x0 : Nat) : Int) - Int.toNat (Option.getD (spec_AddWheel.l12.r (x0, x1, x2, x3, x4, x5) (0 : Int)) default))) x1 ((([] ++ (List.take ((Int.toNat (Option.getD (spec_AddWheel.l12.r (x0, x1, x2, x3, x4, x5) (0 : Int)) default) - Int.toNat (0 : Int)) * 1) (List.drop 0 x5))) ++ (List.take 1 (List.drop 0 [x4]))) ++ (List.take ((Int.toNat ((x0 : Nat) : Int) - Int.toNat (Option.getD (spec_AddWheel.l12.r (x0, x1, x2, x3, x4, x5) (0 : Int)) default)) * 1) (List.drop (Int.toNat (Option.getD (spec_AddWheel.l12.r (x0, x1, x2, x3, x4, x5) (0 : Int)) default) * 1) x5)))).2.2, (IntKind.wrap .i16 (x4 + (1 : Int))))))
           (.br (flt .f32 (spec_l05Best (((0 + (Int.toNat (Option.getD (spec_AddWheel.l12.r (x0, x1, x2, x3, x4, x5) (0 : Int)) default) - Int.toNat (0 : Int))) + 1) + (Int.toNat ((x0 : Nat) : Int) - Int.toNat (Option.getD (spec_AddWheel.l12.r (x0, x1, x2, x3, x4, x5) (0 : Int)) default))) x1 ((([] ++ (List.take ((Int.toNat (Option.getD (spec_AddWheel.l12.r (x0, x1, x2, x3, x4, x5) (0 : Int)) default) - Int.toNat (0 : Int)) * 1) (List.drop 0 x5))) ++ (List.take 1 (List.drop 0 [x4]))) ++ (List.take ((Int.toNat ((x0 : Nat) : Int) - Int.toNat (Option.getD (spec_AddWheel.l12.r (x0, x1, x2, x3, x4, x5) (0 : Int)) default)) * 1) (List.drop (Int.toNat (Option.getD (spec_AddWheel.l12.r (x0, x1, x2, x3, x4, x5) (0 : Int)) default) * 1) x5)))).2.2 x3)
            (.leaf (.inl ((IntKind.wrap .i64 x4), (spec_l05Best (((0 + (Int.toNat (Option.getD (spec_AddWheel.l12.r (x0, x1, x2, x3, x4, x5) (0 : Int)) default) - Int.toNat (0 : Int))) + 1) + (Int.toNat ((x0 : Nat) : Int) - Int.toNat (Option.getD (spec_AddWheel.l12.r (x0, x1, x2, x3, x4, x5) (0 : Int)) default))) x1 ((([] ++ (List.take ((Int.toNat (Option.getD (spec_AddWheel.l12.r (x0, x1, x2, x3, x4, x5) (0 : Int)) default) - Int.toNat (0 : Int)) * 1) (List.drop 0 x5))) ++ (List.take 1 (List.drop 0 [x4]))) ++ (List.take ((Int.toNat ((x0 : Nat) : Int) - Int.toNat (Option.getD (spec_AddWheel.l12.r (x0, x1, x2, x3, x4, x5) (0 : Int)) default)) * 1) (List.drop (Int.toNat (Option.getD (spec_AddWheel.l12.r (x0, x1, x2, x3, x4, x5) (0 : Int)) default) * 1) x5)))).2.2, (IntKind.wrap .i16 (x4 + (1 : Int))))))
            (.leaf (.inl (x2, x3, (IntKind.wrap .i16 (x4 + (1 : Int))))))))
          .bad)
         .bad)
        .bad)
       .bad)
      .bad)
     .bad))
   .bad)
  (.leaf (.inr (x2, x3)))
noncomputable def spec_AddWheel.l9.st (p : Nat × Nat × List Int) (x : Int × Nat × Int) : T ((Int × Nat × Int) ⊕ (Int × Nat)) := spec_AddWheel.l9.s p.1 p.2.1 x.1 x.2.1 x.2.2 p.2.2
noncomputable def spec_AddWheel.l9.r (p : Nat × Nat × List Int) (x : Int × Nat × Int) : Option (Int × Nat) := iterT (spec_AddWheel.l9.st p) manyRounds x
def spec_AddWheel.l9.cd : Cd ((Nat × Nat × List Int) × (Int × Nat × Int)) (List V × Hp) := Cd.iso (Cd.pair (Cd.cons (Cd.own 0) (Cd.cons (Cd.fl .f32) (Cd.cons (Cd.it .i64) (Cd.cons (Cd.fl .f32) (Cd.cons (Cd.it .i16) Cd.nil))))) (Cd.cons (Cd.rw 56 1 (Cd.is .i16)) Cd.nil)) (fun a => ((a.1.1, a.1.2.1, a.2.1), (a.1.2.2.1, a.1.2.2.2.1, a.1.2.2.2.2.1))) (fun a => ((a.1.1, (a.1.2.1, (a.2.1, (a.2.2.1, (a.2.2.2, ()))))), (a.1.2.2, ()))) (fun _ => rfl)
def spec_AddWheel.l9.out (p : Nat × Nat × List Int) : (Int × Nat) → X × List V × Hp := (fun r => (.ex 0, [.it .i64 r.1, .fl .f32 r.2], [some ⟨true, 56, 1, .is .i16 p.2.2⟩]))
def spec_AddWheel.l9.ex (p : Nat × Nat × List Int) : (Int × Nat) → T (X × List V × Hp) := leafT (fun r => (.ex 0, [.it .i64 r.1, .fl .f32 r.2], [some ⟨true, 56, 1, .is .i16 p.2.2⟩]))
noncomputable def spec_AddWheel.l9.c : List V → Hp → T (X × List V × Hp) := cdL spec_AddWheel.l9.cd fun x => optT (spec_AddWheel.l9.r x.1 x.2) (spec_AddWheel.l9.ex x.1)
noncomputable def spec_AddWheel.C : Ctx := { ty := tys, fn := [(28, .q spec_l05Asked.c), (29, .q spec_l05Best.c)], lp := [(9, ⟨[0, 1, 8, 9, 10], [8, 9], spec_AddWheel.l9.c⟩), (12, ⟨[0, 1, 8, 9, 10, 11], [0, 1, 8, 9, 10, 11], spec_AddWheel.l12.c⟩)], n := 86, k := 1 }
theorem spec_AddWheel.hC : CtxOK Try.prog spec_AddWheel.C := CtxOK.of mo tys_ok (FnsOK.cons spec_l05Asked.cok (FnsOK.cons spec_l05Best.cok FnsOK.nil))
noncomputable def spec_AddWheel.b12 : Code := (nthC (loopsOf (nthC (loopsOf spec_AddWheel.b) 0)) 0)
theorem spec_AddWheel.lp12 : LpOK Try.prog spec_AddWheel.C spec_AddWheel.b12 := (LpOK.nil (by kernel_rfl))
theorem spec_AddWheel.l12.round (p : Nat × Nat × Int × Nat × Int × List Int) (s : Int) : roundL spec_AddWheel.C [0, 1, 8, 9, 10, 11] [0, 1, 8, 9, 10, 11] spec_AddWheel.b12 (spec_AddWheel.l12.cd.enc (p, s)).1 (spec_AddWheel.l12.cd.enc (p, s)).2 = (spec_AddWheel.l12.st p s).map (encSum (fun s => spec_AddWheel.l12.cd.enc (p, s)) (spec_AddWheel.l12.out p)) := by kernel_rfl
theorem spec_AddWheel.l12.lok : LoopOK Try.prog spec_AddWheel.C ⟨[0, 1, 8, 9, 10, 11], [0, 1, 8, 9, 10, 11], spec_AddWheel.l12.c⟩ spec_AddWheel.b12 := loop_cd spec_AddWheel.l12.cd spec_AddWheel.hC spec_AddWheel.lp12 spec_AddWheel.l12.round fun p => Gets.leaf
noncomputable def spec_AddWheel.b9 : Code := (nthC (loopsOf spec_AddWheel.b) 0)
theorem spec_AddWheel.lp9 : LpOK Try.prog spec_AddWheel.C spec_AddWheel.b9 := lp_of (by kernel_rfl) (LpsOK.cons (k := 12) (by kernel_rfl) (by kernel_rfl) spec_AddWheel.l12.lok LpsOK.nil)
theorem spec_AddWheel.l9.round (p : Nat × Nat × List Int) (s : Int × Nat × Int) : roundL spec_AddWheel.C [0, 1, 8, 9, 10] [8, 9] spec_AddWheel.b9 (spec_AddWheel.l9.cd.enc (p, s)).1 (spec_AddWheel.l9.cd.enc (p, s)).2 = (spec_AddWheel.l9.st p s).map (encSum (fun s => spec_AddWheel.l9.cd.enc (p, s)) (spec_AddWheel.l9.out p)) := by kernel_rfl
theorem spec_AddWheel.l9.lok : LoopOK Try.prog spec_AddWheel.C ⟨[0, 1, 8, 9, 10], [8, 9], spec_AddWheel.l9.c⟩ spec_AddWheel.b9 := loop_cd spec_AddWheel.l9.cd spec_AddWheel.hC spec_AddWheel.lp9 spec_AddWheel.l9.round fun p => Gets.leaf
theorem spec_AddWheel.lp : LpOK Try.prog spec_AddWheel.C spec_AddWheel.b := lp_of (by kernel_rfl) (LpsOK.cons (k := 9) (by kernel_rfl) (by kernel_rfl) spec_AddWheel.l9.lok LpsOK.nil)
noncomputable def spec_AddWheel.t (x0 : Nat) (x1 : Nat) (x2 : List Int) : T (Int × Nat × Int) :=
  .br (spec_l05Asked.ok x0 x1 0 x2)
  (.br ((spec_l05Asked x0 x1 0 x2) != (0 : Int))
   (.leaf ((0 : Int), 0, (spec_l05Asked x0 x1 0 x2)))
   (.br (((x0 : Nat) : Int) == (24 : Int))
    (.leaf ((0 : Int), 0, (3 : Int)))
    (.br (Option.isSome (spec_AddWheel.l9.r (x0, x1, x2) ((-1 : Int), 0, (6 : Int))))
     (.leaf ((Option.getD (spec_AddWheel.l9.r (x0, x1, x2) ((-1 : Int), 0, (6 : Int))) default).1, (Option.getD (spec_AddWheel.l9.r (x0, x1, x2) ((-1 : Int), 0, (6 : Int))) default).2, (0 : Int)))
     .bad)))
  .bad
noncomputable def spec_AddWheel (x0 : Nat) (x1 : Nat) (x2 : List Int) : Int × Nat × Int := (spec_AddWheel.t x0 x1 x2).val
noncomputable def spec_AddWheel.ok (x0 : Nat) (x1 : Nat) (x2 : List Int) : Bool := (spec_AddWheel.t x0 x1 x2).ok
def spec_AddWheel.cd : Cd (Nat × Nat × List Int) (List V × Hp) := Cd.iso (Cd.pair (Cd.cons (Cd.own 0) (Cd.cons (Cd.fl .f32) Cd.nil)) (Cd.cons (Cd.rw 56 1 (Cd.is .i16)) Cd.nil)) (fun a => (a.1.1, a.1.2.1, a.2.1)) (fun a => ((a.1, (a.2.1, ())), (a.2.2, ()))) (fun _ => rfl)
noncomputable def spec_AddWheel.tr (a : Nat × Nat × List Int) : T (Int × Nat × Int) := spec_AddWheel.t a.1 a.2.1 a.2.2
def spec_AddWheel.enc : (Nat × Nat × List Int) → (Int × Nat × Int) → V := fun a r => .tup [.it .i64 r.1, .fl .f32 r.2.1, .it .i64 r.2.2]
noncomputable def spec_AddWheel.c : List V → Hp → T V := cdQ spec_AddWheel.cd (fun a => .br (spec_AddWheel.ok a.1 a.2.1 a.2.2) (.leaf (spec_AddWheel.enc a (spec_AddWheel a.1 a.2.1 a.2.2))) .bad)
theorem spec_AddWheel.run (a : Nat × Nat × List Int) : runF spec_AddWheel.C Try.f7.results.toList spec_AddWheel.b (spec_AddWheel.cd.enc a).1 (spec_AddWheel.cd.enc a).2 = (spec_AddWheel.tr a).map fun r => (spec_AddWheel.enc a r, (spec_AddWheel.cd.enc a).2) := by kernel_rfl
theorem spec_AddWheel.cok : OKq Try.prog 7 spec_AddWheel.c := con_q' spec_AddWheel.cd spec_AddWheel.hC Try.func7 (by kernel_rfl) (by kernel_rfl) (by kernel_rfl) spec_AddWheel.lp (fun a => by kernel_rfl) spec_AddWheel.run (Tells.ok (tree := spec_AddWheel.tr))
/-! ### impl_between -/
noncomputable def impl_between.b : Code := bodyOf Try.f59
noncomputable def impl_between.C : Ctx := { ty := tys, fn := [], lp := [], n := 15, k := 0 }
theorem impl_between.hC : CtxOK Try.prog impl_between.C := CtxOK.of mo tys_ok FnsOK.nil
theorem impl_between.lp : LpOK Try.prog impl_between.C impl_between.b := (LpOK.nil (by kernel_rfl))
noncomputable def impl_between.t (x0 : Nat) (x1 : Nat) (x2 : Nat) : T Bool :=
  .br (fle .f32 x1 x0)
  (.leaf (fle .f32 x0 x2))
  (.leaf false)
noncomputable def impl_between (x0 : Nat) (x1 : Nat) (x2 : Nat) : Bool := (impl_between.t x0 x1 x2).val
def impl_between.cd : Cd (Nat × Nat × Nat) (List V × Hp) := Cd.iso (Cd.pair (Cd.cons (Cd.fl .f32) (Cd.cons (Cd.fl .f32) (Cd.cons (Cd.fl .f32) Cd.nil))) Cd.nil) (fun a => (a.1.1, a.1.2.1, a.1.2.2.1)) (fun a => ((a.1, (a.2.1, (a.2.2, ()))), ())) (fun _ => rfl)
noncomputable def impl_between.tr (a : Nat × Nat × Nat) : T Bool := impl_between.t a.1 a.2.1 a.2.2
def impl_between.enc : (Nat × Nat × Nat) → Bool → V := fun a r => .bo r
noncomputable def impl_between.c : List V → Hp → T V := cdQ impl_between.cd (fun a => .leaf (impl_between.enc a (impl_between a.1 a.2.1 a.2.2)))
theorem impl_between.run (a : Nat × Nat × Nat) : runF impl_between.C Try.f59.results.toList impl_between.b (impl_between.cd.enc a).1 (impl_between.cd.enc a).2 = (impl_between.tr a).map fun r => (impl_between.enc a r, (impl_between.cd.enc a).2) := by kernel_rfl
theorem impl_between.cok : OKq Try.prog 59 impl_between.c := con_q' impl_between.cd impl_between.hC Try.func59 (by kernel_rfl) (by kernel_rfl) (by kernel_rfl) impl_between.lp (fun a => by kernel_rfl) impl_between.run (Tells.val (tree := impl_between.tr) fun a => by kernel_rfl)
/-! ### impl_isTarget -/
noncomputable def impl_isTarget.b : Code := bodyOf Try.f31
noncomputable def impl_isTarget.C : Ctx := { ty := tys, fn := [(59, .q impl_between.c)], lp := [], n := 5, k := 0 }
theorem impl_isTarget.hC : CtxOK Try.prog impl_isTarget.C := CtxOK.of mo tys_ok (FnsOK.cons impl_between.cok FnsOK.nil)
theorem impl_isTarget.lp : LpOK Try.prog impl_isTarget.C impl_isTarget.b := (LpOK.nil (by kernel_rfl))
noncomputable def impl_isTarget.t (x0 : Nat) : T Bool :=
  .leaf (impl_between x0 981467136 1149239296)
noncomputable def impl_isTarget (x0 : Nat) : Bool := (impl_isTarget.t x0).val
def impl_isTarget.cd : Cd Nat (List V × Hp) := Cd.iso (Cd.pair (Cd.cons (Cd.fl .f32) Cd.nil) Cd.nil) (fun a => a.1.1) (fun a => ((a, ()), ())) (fun _ => rfl)
noncomputable def impl_isTarget.tr (a : Nat) : T Bool := impl_isTarget.t a
def impl_isTarget.enc : Nat → Bool → V := fun a r => .bo r
noncomputable def impl_isTarget.c : List V → Hp → T V := cdQ impl_isTarget.cd (fun a => .leaf (impl_isTarget.enc a (impl_isTarget a)))
theorem impl_isTarget.run (a : Nat) : runF impl_isTarget.C Try.f31.results.toList impl_isTarget.b (impl_isTarget.cd.enc a).1 (impl_isTarget.cd.enc a).2 = (impl_isTarget.tr a).map fun r => (impl_isTarget.enc a r, (impl_isTarget.cd.enc a).2) := by kernel_rfl
theorem impl_isTarget.cok : OKq Try.prog 31 impl_isTarget.c := con_q' impl_isTarget.cd impl_isTarget.hC Try.func31 (by kernel_rfl) (by kernel_rfl) (by kernel_rfl) impl_isTarget.lp (fun a => by kernel_rfl) impl_isTarget.run (Tells.val (tree := impl_isTarget.tr) fun a => by kernel_rfl)
/-! ### impl_within -/
noncomputable def impl_within.b : Code := bodyOf Try.f41
noncomputable def impl_within.C : Ctx := { ty := tys, fn := [], lp := [], n := 15, k := 0 }
theorem impl_within.hC : CtxOK Try.prog impl_within.C := CtxOK.of mo tys_ok FnsOK.nil
theorem impl_within.lp : LpOK Try.prog impl_within.C impl_within.b := (LpOK.nil (by kernel_rfl))
noncomputable def impl_within.t (x0 : Int) (x1 : Int) (x2 : Int) : T Bool :=
  .br (decide (x1 ≤ x0))
  (.leaf (decide (x0 ≤ x2)))
  (.leaf false)
noncomputable def impl_within (x0 : Int) (x1 : Int) (x2 : Int) : Bool := (impl_within.t x0 x1 x2).val
def impl_within.cd : Cd (Int × Int × Int) (List V × Hp) := Cd.iso (Cd.pair (Cd.cons (Cd.it .i64) (Cd.cons (Cd.it .i64) (Cd.cons (Cd.it .i64) Cd.nil))) Cd.nil) (fun a => (a.1.1, a.1.2.1, a.1.2.2.1)) (fun a => ((a.1, (a.2.1, (a.2.2, ()))), ())) (fun _ => rfl)
noncomputable def impl_within.tr (a : Int × Int × Int) : T Bool := impl_within.t a.1 a.2.1 a.2.2
def impl_within.enc : (Int × Int × Int) → Bool → V := fun a r => .bo r
noncomputable def impl_within.c : List V → Hp → T V := cdQ impl_within.cd (fun a => .leaf (impl_within.enc a (impl_within a.1 a.2.1 a.2.2)))
theorem impl_within.run (a : Int × Int × Int) : runF impl_within.C Try.f41.results.toList impl_within.b (impl_within.cd.enc a).1 (impl_within.cd.enc a).2 = (impl_within.tr a).map fun r => (impl_within.enc a r, (impl_within.cd.enc a).2) := by kernel_rfl
theorem impl_within.cok : OKq Try.prog 41 impl_within.c := con_q' impl_within.cd impl_within.hC Try.func41 (by kernel_rfl) (by kernel_rfl) (by kernel_rfl) impl_within.lp (fun a => by kernel_rfl) impl_within.run (Tells.val (tree := impl_within.tr) fun a => by kernel_rfl)
/-! ### impl_areTeeth -/
noncomputable def impl_areTeeth.b : Code := bodyOf Try.f83
noncomputable def impl_areTeeth.C : Ctx := { ty := tys, fn := [(41, .q impl_within.c)], lp := [], n := 5, k := 0 }
theorem impl_areTeeth.hC : CtxOK Try.prog impl_areTeeth.C := CtxOK.of mo tys_ok (FnsOK.cons impl_within.cok FnsOK.nil)
theorem impl_areTeeth.lp : LpOK Try.prog impl_areTeeth.C impl_areTeeth.b := (LpOK.nil (by kernel_rfl))
noncomputable def impl_areTeeth.t (x0 : Int) : T Bool :=
  .leaf (impl_within x0 (6 : Int) (200 : Int))
noncomputable def impl_areTeeth (x0 : Int) : Bool := (impl_areTeeth.t x0).val
def impl_areTeeth.cd : Cd Int (List V × Hp) := Cd.iso (Cd.pair (Cd.cons (Cd.it .i64) Cd.nil) Cd.nil) (fun a => a.1.1) (fun a => ((a, ()), ())) (fun _ => rfl)
noncomputable def impl_areTeeth.tr (a : Int) : T Bool := impl_areTeeth.t a
def impl_areTeeth.enc : Int → Bool → V := fun a r => .bo r
noncomputable def impl_areTeeth.c : List V → Hp → T V := cdQ impl_areTeeth.cd (fun a => .leaf (impl_areTeeth.enc a (impl_areTeeth a)))
theorem impl_areTeeth.run (a : Int) : runF impl_areTeeth.C Try.f83.results.toList impl_areTeeth.b (impl_areTeeth.cd.enc a).1 (impl_areTeeth.cd.enc a).2 = (impl_areTeeth.tr a).map fun r => (impl_areTeeth.enc a r, (impl_areTeeth.cd.enc a).2) := by kernel_rfl
theorem impl_areTeeth.cok : OKq Try.prog 83 impl_areTeeth.c := con_q' impl_areTeeth.cd impl_areTeeth.hC Try.func83 (by kernel_rfl) (by kernel_rfl) (by kernel_rfl) impl_areTeeth.lp (fun a => by kernel_rfl) impl_areTeeth.run (Tells.val (tree := impl_areTeeth.tr) fun a => by kernel_rfl)
/-! ### impl_ValidBox -/
noncomputable def impl_ValidBox.b : Code := bodyOf Try.f58
noncomputable def impl_ValidBox.l2.s (x0 : Nat) (x1 : Nat) (x2 : Int) (x3 : Int) (x4 : List Int) : T (Int ⊕ (Bool ⊕ Unit)) :=
  .br (decide (x3 < x2))
  (.br (bounds x3 x1)
   (.br (Nat.ble ((Int.toNat x3 * 1) + 1) (List.length x4))
    (.br (!(impl_areTeeth (IntKind.wrap .i64 (List.getD x4 (Int.toNat x3 * 1) 0))))
     (.leaf (.inr (.inl false)))
     (.br (decide (x3 > (0 : Int)))
      (.br (bounds (IntKind.wrap .i64 (x3 - (1 : Int))) x0)
       (.br (Nat.ble ((Int.toNat (IntKind.wrap .i64 (x3 - (1 : Int))) * 1) + 1) (List.length x4))
        (.br (decide ((List.getD x4 (Int.toNat x3 * 1) 0) ≤ (List.getD x4 (Int.toNat (IntKind.wrap .i64 (x3 - (1 : Int))) * 1) 0)))
         (.leaf (.inr (.inl false)))
         (.leaf (.inl (IntKind.wrap .i64 (x3 + (1 : Int))))))
        .bad)
       .bad)
      (.leaf (.inl (IntKind.wrap .i64 (x3 + (1 : Int)))))))
    .bad)
   .bad)
  (.leaf (.inr (.inr ())))
noncomputable def impl_ValidBox.l2.st (p : Nat × Nat × Int × List Int) (x : Int) : T (Int ⊕ (Bool ⊕ Unit)) := impl_ValidBox.l2.s p.1 p.2.1 p.2.2.1 x p.2.2.2
noncomputable def impl_ValidBox.l2.r (p : Nat × Nat × Int × List Int) (x : Int) : Option (Bool ⊕ Unit) := iterT (impl_ValidBox.l2.st p) manyRounds x
def impl_ValidBox.l2.cd : Cd ((Nat × Nat × Int × List Int) × Int) (List V × Hp) := Cd.iso (Cd.pair (Cd.cons (Cd.own 0) (Cd.cons (Cd.own 0) (Cd.cons (Cd.it .i64) (Cd.cons (Cd.it .i64) Cd.nil)))) (Cd.cons (Cd.rw 56 1 (Cd.is .i16)) Cd.nil)) (fun a => ((a.1.1, a.1.2.1, a.1.2.2.1, a.2.1), a.1.2.2.2.1)) (fun a => ((a.1.1, (a.1.2.1, (a.1.2.2.1, (a.2, ())))), (a.1.2.2.2, ()))) (fun _ => rfl)
def impl_ValidBox.l2.out (p : Nat × Nat × Int × List Int) : (Bool ⊕ Unit) → X × List V × Hp := sumO (fun r => (.ret, [.own 0 p.1, .bo r], [some ⟨true, 56, 1, .is .i16 p.2.2.2⟩])) (fun r => (.ex 0, [.own 0 p.1, .unk], [some ⟨true, 56, 1, .is .i16 p.2.2.2⟩]))
def impl_ValidBox.l2.ex (p : Nat × Nat × Int × List Int) : (Bool ⊕ Unit) → T (X × List V × Hp) := sumT (leafT (fun r => (.ret, [.own 0 p.1, .bo r], [some ⟨true, 56, 1, .is .i16 p.2.2.2⟩]))) (leafT (fun r => (.ex 0, [.own 0 p.1, .unk], [some ⟨true, 56, 1, .is .i16 p.2.2.2⟩])))
noncomputable def impl_ValidBox.l2.c : List V → Hp → T (X × List V × Hp) := cdL impl_ValidBox.l2.cd fun x => optT (impl_ValidBox.l2.r x.1 x.2) (impl_ValidBox.l2.ex x.1)
noncomputable def impl_ValidBox.C : Ctx := { ty := tys, fn := [(83, .q impl_areTeeth.c), (41, .q impl_within.c)], lp := [(2, ⟨[0, 5, 6, 7], [0, 2], impl_ValidBox.l2.c⟩)], n := 33, k := 1 }
theorem impl_ValidBox.hC : CtxOK Try.prog impl_ValidBox.C := CtxOK.of mo tys_ok (FnsOK.cons impl_areTeeth.cok (FnsOK.cons impl_within.cok FnsOK.nil))
noncomputable def impl_ValidBox.b2 : Code := (nthC (loopsOf impl_ValidBox.b) 0)
theorem impl_ValidBox.lp2 : LpOK Try.prog impl_ValidBox.C impl_ValidBox.b2 := (LpOK.nil (by kernel_rfl))
theorem impl_ValidBox.l2.round (p : Nat × Nat × Int × List Int) (s : Int) : roundL impl_ValidBox.C [0, 5, 6, 7] [0, 2] impl_ValidBox.b2 (impl_ValidBox.l2.cd.enc (p, s)).1 (impl_ValidBox.l2.cd.enc (p, s)).2 = (impl_ValidBox.l2.st p s).map (encSum (fun s => impl_ValidBox.l2.cd.enc (p, s)) (impl_ValidBox.l2.out p)) := by kernel_rfl
theorem impl_ValidBox.l2.lok : LoopOK Try.prog impl_ValidBox.C ⟨[0, 5, 6, 7], [0, 2], impl_ValidBox.l2.c⟩ impl_ValidBox.b2 := loop_cd impl_ValidBox.l2.cd impl_ValidBox.hC impl_ValidBox.lp2 impl_ValidBox.l2.round fun p => (Gets.sum Gets.leaf Gets.leaf)
theorem impl_ValidBox.lp : LpOK Try.prog impl_ValidBox.C impl_ValidBox.b := lp_of (by kernel_rfl) (LpsOK.cons (k := 2) (by kernel_rfl) (by kernel_rfl) impl_ValidBox.l2.lok LpsOK.nil)
noncomputable def impl_ValidBox.t (x0 : Nat) (x1 : List Int) : T Bool :=
  .br (Option.isSome (impl_ValidBox.l2.r (x0, x0, ((x0 : Nat) : Int), x1) (0 : Int)))
  (.br (Sum.isLeft (Option.getD (impl_ValidBox.l2.r (x0, x0, ((x0 : Nat) : Int), x1) (0 : Int)) default))
   (.leaf (getLeftD (Option.getD (impl_ValidBox.l2.r (x0, x0, ((x0 : Nat) : Int), x1) (0 : Int)) default)))
   (.leaf (impl_within ((x0 : Nat) : Int) (2 : Int) (24 : Int))))
  .bad
noncomputable def impl_ValidBox (x0 : Nat) (x1 : List Int) : Bool := (impl_ValidBox.t x0 x1).val
noncomputable def impl_ValidBox.ok (x0 : Nat) (x1 : List Int) : Bool := (impl_ValidBox.t x0 x1).ok
def impl_ValidBox.cd : Cd (Nat × List Int) (List V × Hp) := Cd.iso (Cd.pair (Cd.cons (Cd.own 0) Cd.nil) (Cd.cons (Cd.rw 56 1 (Cd.is .i16)) Cd.nil)) (fun a => (a.1.1, a.2.1)) (fun a => ((a.1, ()), (a.2, ()))) (fun _ => rfl)
noncomputable def impl_ValidBox.tr (a : Nat × List Int) : T Bool := impl_ValidBox.t a.1 a.2
def impl_ValidBox.enc : (Nat × List Int) → Bool → V := fun a r => .bo r
noncomputable def impl_ValidBox.c : List V → Hp → T V := cdQ impl_ValidBox.cd (fun a => .br (impl_ValidBox.ok a.1 a.2) (.leaf (impl_ValidBox.enc a (impl_ValidBox a.1 a.2))) .bad)
theorem impl_ValidBox.run (a : Nat × List Int) : runF impl_ValidBox.C Try.f58.results.toList impl_ValidBox.b (impl_ValidBox.cd.enc a).1 (impl_ValidBox.cd.enc a).2 = (impl_ValidBox.tr a).map fun r => (impl_ValidBox.enc a r, (impl_ValidBox.cd.enc a).2) := by kernel_rfl
theorem impl_ValidBox.cok : OKq Try.prog 58 impl_ValidBox.c := con_q' impl_ValidBox.cd impl_ValidBox.hC Try.func58 (by kernel_rfl) (by kernel_rfl) (by kernel_rfl) impl_ValidBox.lp (fun a => by kernel_rfl) impl_ValidBox.run (Tells.ok (tree := impl_ValidBox.tr))
/-! ### impl_boxCode -/
noncomputable def impl_boxCode.b : Code := bodyOf Try.f30
noncomputable def impl_boxCode.C : Ctx := { ty := tys, fn := [(58, .q impl_ValidBox.c)], lp := [], n := 12, k := 1 }
theorem impl_boxCode.hC : CtxOK Try.prog impl_boxCode.C := CtxOK.of mo tys_ok (FnsOK.cons impl_ValidBox.cok FnsOK.nil)
theorem impl_boxCode.lp : LpOK Try.prog impl_boxCode.C impl_boxCode.b := (LpOK.nil (by kernel_rfl))
noncomputable def impl_boxCode.t (x0 : Nat) (x1 : Bool) (x2 : List Int) : T Int :=
  .br (impl_ValidBox.ok x0 x2)
  (.br (!(impl_ValidBox x0 x2))
   (.leaf (1 : Int))
   (.br (!x1)
    (.leaf (2 : Int))
    (.leaf (0 : Int))))
  .bad
noncomputable def impl_boxCode (x0 : Nat) (x1 : Bool) (x2 : List Int) : Int := (impl_boxCode.t x0 x1 x2).val
noncomputable def impl_boxCode.ok (x0 : Nat) (x1 : Bool) (x2 : List Int) : Bool := (impl_boxCode.t x0 x1 x2).ok
def impl_boxCode.cd : Cd (Nat × Bool × List Int) (List V × Hp) := Cd.iso (Cd.pair (Cd.cons (Cd.own 0) (Cd.cons Cd.bo Cd.nil)) (Cd.cons (Cd.rw 56 1 (Cd.is .i16)) Cd.nil)) (fun a => (a.1.1, a.1.2.1, a.2.1)) (fun a => ((a.1, (a.2.1, ())), (a.2.2, ()))) (fun _ => rfl)
noncomputable def impl_boxCode.tr (a : Nat × Bool × List Int) : T Int := impl_boxCode.t a.1 a.2.1 a.2.2
def impl_boxCode.enc : (Nat × Bool × List Int) → Int → V := fun a r => .it .i64 r
noncomputable def impl_boxCode.c : List V → Hp → T V := cdQ impl_boxCode.cd (fun a => .br (impl_boxCode.ok a.1 a.2.1 a.2.2) (.leaf (impl_boxCode.enc a (impl_boxCode a.1 a.2.1 a.2.2))) .bad)
theorem impl_boxCode.run (a : Nat × Bool × List Int) : runF impl_boxCode.C Try.f30.results.toList impl_boxCode.b (impl_boxCode.cd.enc a).1 (impl_boxCode.cd.enc a).2 = (impl_boxCode.tr a).map fun r => (impl_boxCode.enc a r, (impl_boxCode.cd.enc a).2) := by kernel_rfl
theorem impl_boxCode.cok : OKq Try.prog 30 impl_boxCode.c := con_q' impl_boxCode.cd impl_boxCode.hC Try.func30 (by kernel_rfl) (by kernel_rfl) (by kernel_rfl) impl_boxCode.lp (fun a => by kernel_rfl) impl_boxCode.run (Tells.ok (tree := impl_boxCode.tr))
/-! ### cmp_isNaN_int16 -/
noncomputable def cmp_isNaN_int16.b : Code := bodyOf Try.f84
noncomputable def cmp_isNaN_int16.C : Ctx := { ty := tys, fn := [], lp := [], n := 6, k := 0 }
theorem cmp_isNaN_int16.hC : CtxOK Try.prog cmp_isNaN_int16.C := CtxOK.of mo tys_ok FnsOK.nil
theorem cmp_isNaN_int16.lp : LpOK Try.prog cmp_isNaN_int16.C cmp_isNaN_int16.b := (LpOK.nil (by kernel_rfl))
noncomputable def cmp_isNaN_int16.t (x0 : Int) : T Bool :=
  .leaf (x0 != x0)
noncomputable def cmp_isNaN_int16 (x0 : Int) : Bool := (cmp_isNaN_int16.t x0).val
def cmp_isNaN_int16.cd : Cd Int (List V × Hp) := Cd.iso (Cd.pair (Cd.cons (Cd.it .i16) Cd.nil) Cd.nil) (fun a => a.1.1) (fun a => ((a, ()), ())) (fun _ => rfl)
noncomputable def cmp_isNaN_int16.tr (a : Int) : T Bool := cmp_isNaN_int16.t a
def cmp_isNaN_int16.enc : Int → Bool → V := fun a r => .bo r
noncomputable def cmp_isNaN_int16.c : List V → Hp → T V := cdQ cmp_isNaN_int16.cd (fun a => .leaf (cmp_isNaN_int16.enc a (cmp_isNaN_int16 a)))
theorem cmp_isNaN_int16.run (a : Int) : runF cmp_isNaN_int16.C Try.f84.results.toList cmp_isNaN_int16.b (cmp_isNaN_int16.cd.enc a).1 (cmp_isNaN_int16.cd.enc a).2 = (cmp_isNaN_int16.tr a).map fun r => (cmp_isNaN_int16.enc a r, (cmp_isNaN_int16.cd.enc a).2) := by kernel_rfl
theorem cmp_isNaN_int16.cok : OKq Try.prog 84 cmp_isNaN_int16.c := con_q' cmp_isNaN_int16.cd cmp_isNaN_int16.hC Try.func84 (by kernel_rfl) (by kernel_rfl) (by kernel_rfl) cmp_isNaN_int16.lp (fun a => by kernel_rfl) cmp_isNaN_int16.run (Tells.val (tree := cmp_isNaN_int16.tr) fun a => by kernel_rfl)
/-! ### cmp_Less_int16 -/
noncomputable def cmp_Less_int16.b : Code := bodyOf Try.f60
noncomputable def cmp_Less_int16.C : Ctx := { ty := tys, fn := [(84, .q cmp_isNaN_int16.c)], lp := [], n := 17, k := 0 }
theorem cmp_Less_int16.hC : CtxOK Try.prog cmp_Less_int16.C := CtxOK.of mo tys_ok (FnsOK.cons cmp_isNaN_int16.cok FnsOK.nil)
theorem cmp_Less_int16.lp : LpOK Try.prog cmp_Less_int16.C cmp_Less_int16.b := (LpOK.nil (by kernel_rfl))
noncomputable def cmp_Less_int16.t (x0 : Int) (x1 : Int) : T Bool :=
  .br (cmp_isNaN_int16 x0)
  (.br (!(cmp_isNaN_int16 x1))
   (.leaf true)
   (.leaf (decide (x0 < x1))))
  (.leaf (decide (x0 < x1)))
noncomputable def cmp_Less_int16 (x0 : Int) (x1 : Int) : Bool := (cmp_Less_int16.t x0 x1).val
def cmp_Less_int16.cd : Cd (Int × Int) (List V × Hp) := Cd.iso (Cd.pair (Cd.cons (Cd.it .i16) (Cd.cons (Cd.it .i16) Cd.nil)) Cd.nil) (fun a => (a.1.1, a.1.2.1)) (fun a => ((a.1, (a.2, ())), ())) (fun _ => rfl)
noncomputable def cmp_Less_int16.tr (a : Int × Int) : T Bool := cmp_Less_int16.t a.1 a.2
def cmp_Less_int16.enc : (Int × Int) → Bool → V := fun a r => .bo r
noncomputable def cmp_Less_int16.c : List V → Hp → T V := cdQ cmp_Less_int16.cd (fun a => .leaf (cmp_Less_int16.enc a (cmp_Less_int16 a.1 a.2)))
theorem cmp_Less_int16.run (a : Int × Int) : runF cmp_Less_int16.C Try.f60.results.toList cmp_Less_int16.b (cmp_Less_int16.cd.enc a).1 (cmp_Less_int16.cd.enc a).2 = (cmp_Less_int16.tr a).map fun r => (cmp_Less_int16.enc a r, (cmp_Less_int16.cd.enc a).2) := by kernel_rfl
theorem cmp_Less_int16.cok : OKq Try.prog 60 cmp_Less_int16.c := con_q' cmp_Less_int16.cd cmp_Less_int16.hC Try.func60 (by kernel_rfl) (by kernel_rfl) (by kernel_rfl) cmp_Less_int16.lp (fun a => by kernel_rfl) cmp_Less_int16.run (Tells.val (tree := cmp_Less_int16.tr) fun a => by kernel_rfl)
/-! ### slices_isNaN_int16 -/
noncomputable def slices_isNaN_int16.b : Code := bodyOf Try.f61
noncomputable def slices_isNaN_int16.C : Ctx := { ty := tys, fn := [], lp := [], n := 6, k := 0 }
theorem slices_isNaN_int16.hC : CtxOK Try.prog slices_isNaN_int16.C := CtxOK.of mo tys_ok FnsOK.nil
theorem slices_isNaN_int16.lp : LpOK Try.prog slices_isNaN_int16.C slices_isNaN_int16.b := (LpOK.nil (by kernel_rfl))
noncomputable def slices_isNaN_int16.t (x0 : Int) : T Bool :=
  .leaf (x0 != x0)
noncomputable def slices_isNaN_int16 (x0 : Int) : Bool := (slices_isNaN_int16.t x0).val
def slices_isNaN_int16.cd : Cd Int (List V × Hp) := Cd.iso (Cd.pair (Cd.cons (Cd.it .i16) Cd.nil) Cd.nil) (fun a => a.1.1) (fun a => ((a, ()), ())) (fun _ => rfl)
noncomputable def slices_isNaN_int16.tr (a : Int) : T Bool := slices_isNaN_int16.t a
def slices_isNaN_int16.enc : Int → Bool → V := fun a r => .bo r
noncomputable def slices_isNaN_int16.c : List V → Hp → T V := cdQ slices_isNaN_int16.cd (fun a => .leaf (slices_isNaN_int16.enc a (slices_isNaN_int16 a)))
theorem slices_isNaN_int16.run (a : Int) : runF slices_isNaN_int16.C Try.f61.results.toList slices_isNaN_int16.b (slices_isNaN_int16.cd.enc a).1 (slices_isNaN_int16.cd.enc a).2 = (slices_isNaN_int16.tr a).map fun r => (slices_isNaN_int16.enc a r, (slices_isNaN_int16.cd.enc a).2) := by kernel_rfl
theorem slices_isNaN_int16.cok : OKq Try.prog 61 slices_isNaN_int16.c := con_q' slices_isNaN_int16.cd slices_isNaN_int16.hC Try.func61 (by kernel_rfl) (by kernel_rfl) (by kernel_rfl) slices_isNaN_int16.lp (fun a => by kernel_rfl) slices_isNaN_int16.run (Tells.val (tree := slices_isNaN_int16.tr) fun a => by kernel_rfl)
/-! ### slices_BinarySearch_int16_int16 -/
noncomputable def slices_BinarySearch_int16_int16.b : Code := bodyOf Try.f32
noncomputable def slices_BinarySearch_int16_int16.l3.s (x0 : Nat) (x1 : Int) (x2 : Int) (x3 : Int) (x4 : Int) (x5 : List Int) : T ((Int × Int) ⊕ Int) :=
  .br (decide (x3 < x4))
  (.br (bounds (IntKind.wrap .i64 (Int.fdiv (IntKind.wrap .u64 (IntKind.wrap .i64 (x3 + x4))) (2 ^ min (Int.toNat (1 : Int)) 64))) x0)
   (.br (Nat.ble ((Int.toNat (IntKind.wrap .i64 (Int.fdiv (IntKind.wrap .u64 (IntKind.wrap .i64 (x3 + x4))) (2 ^ min (Int.toNat (1 : Int)) 64))) * 1) + 1) (List.length x5))
    (.br (cmp_Less_int16 (List.getD x5 (Int.toNat (IntKind.wrap .i64 (Int.fdiv (IntKind.wrap .u64 (IntKind.wrap .i64 (x3 + x4))) (2 ^ min (Int.toNat (1 : Int)) 64))) * 1) 0) x1)
     (.leaf (.inl ((IntKind.wrap .i64 ((IntKind.wrap .i64 (Int.fdiv (IntKind.wrap .u64 (IntKind.wrap .i64 (x3 + x4))) (2 ^ min (Int.toNat (1 : Int)) 64))) + (1 : Int))), x4)))
     (.leaf (.inl (x3, (IntKind.wrap .i64 (Int.fdiv (IntKind.wrap .u64 (IntKind.wrap .i64 (x3 + x4))) (2 ^ min (Int.toNat (1 : Int)) 64)))))))
    .bad)
   .bad)
  (.leaf (.inr x3))
noncomputable def slices_BinarySearch_int16_int16.l3.st (p : Nat × Int × Int × List Int) (x : Int × Int) : T ((Int × Int) ⊕ Int) := slices_BinarySearch_int16_int16.l3.s p.1 p.2.1 p.2.2.1 x.1 x.2 p.2.2.2
noncomputable def slices_BinarySearch_int16_int16.l3.r (p : Nat × Int × Int × List Int) (x : Int × Int) : Option Int := iterT (slices_BinarySearch_int16_int16.l3.st p) manyRounds x
def slices_BinarySearch_int16_int16.l3.cd : Cd ((Nat × Int × Int × List Int) × (Int × Int)) (List V × Hp) := Cd.iso (Cd.pair (Cd.cons (Cd.own 0) (Cd.cons (Cd.it .i16) (Cd.cons (Cd.it .i64) (Cd.cons (Cd.it .i64) (Cd.cons (Cd.it .i64) Cd.nil))))) (Cd.cons (Cd.rw 56 1 (Cd.is .i16)) Cd.nil)) (fun a => ((a.1.1, a.1.2.1, a.1.2.2.1, a.2.1), (a.1.2.2.2.1, a.1.2.2.2.2.1))) (fun a => ((a.1.1, (a.1.2.1, (a.1.2.2.1, (a.2.1, (a.2.2, ()))))), (a.1.2.2.2, ()))) (fun _ => rfl)
def slices_BinarySearch_int16_int16.l3.out (p : Nat × Int × Int × List Int) : Int → X × List V × Hp := (fun r => (.ex 0, [.own 0 p.1, .it .i16 p.2.1, .it .i64 p.2.2.1, .it .i64 r], [some ⟨true, 56, 1, .is .i16 p.2.2.2⟩]))
def slices_BinarySearch_int16_int16.l3.ex (p : Nat × Int × Int × List Int) : Int → T (X × List V × Hp) := leafT (fun r => (.ex 0, [.own 0 p.1, .it .i16 p.2.1, .it .i64 p.2.2.1, .it .i64 r], [some ⟨true, 56, 1, .is .i16 p.2.2.2⟩]))
noncomputable def slices_BinarySearch_int16_int16.l3.c : List V → Hp → T (X × List V × Hp) := cdL slices_BinarySearch_int16_int16.l3.cd fun x => optT (slices_BinarySearch_int16_int16.l3.r x.1 x.2) (slices_BinarySearch_int16_int16.l3.ex x.1)
noncomputable def slices_BinarySearch_int16_int16.C : Ctx := { ty := tys, fn := [(60, .q cmp_Less_int16.c), (61, .q slices_isNaN_int16.c)], lp := [(3, ⟨[0, 1, 6, 7, 8], [0, 1, 6, 7], slices_BinarySearch_int16_int16.l3.c⟩)], n := 54, k := 1 }
theorem slices_BinarySearch_int16_int16.hC : CtxOK Try.prog slices_BinarySearch_int16_int16.C := CtxOK.of mo tys_ok (FnsOK.cons cmp_Less_int16.cok (FnsOK.cons slices_isNaN_int16.cok FnsOK.nil))
noncomputable def slices_BinarySearch_int16_int16.b3 : Code := (nthC (loopsOf slices_BinarySearch_int16_int16.b) 0)
theorem slices_BinarySearch_int16_int16.lp3 : LpOK Try.prog slices_BinarySearch_int16_int16.C slices_BinarySearch_int16_int16.b3 := (LpOK.nil (by kernel_rfl))
theorem slices_BinarySearch_int16_int16.l3.round (p : Nat × Int × Int × List Int) (s : Int × Int) : roundL slices_BinarySearch_int16_int16.C [0, 1, 6, 7, 8] [0, 1, 6, 7] slices_BinarySearch_int16_int16.b3 (slices_BinarySearch_int16_int16.l3.cd.enc (p, s)).1 (slices_BinarySearch_int16_int16.l3.cd.enc (p, s)).2 = (slices_BinarySearch_int16_int16.l3.st p s).map (encSum (fun s => slices_BinarySearch_int16_int16.l3.cd.enc (p, s)) (slices_BinarySearch_int16_int16.l3.out p)) := by kernel_rfl
theorem slices_BinarySearch_int16_int16.l3.lok : LoopOK Try.prog slices_BinarySearch_int16_int16.C ⟨[0, 1, 6, 7, 8], [0, 1, 6, 7], slices_BinarySearch_int16_int16.l3.c⟩ slices_BinarySearch_int16_int16.b3 := loop_cd slices_BinarySearch_int16_int16.l3.cd slices_BinarySearch_int16_int16.hC slices_BinarySearch_int16_int16.lp3 slices_BinarySearch_int16_int16.l3.round fun p => Gets.leaf
theorem slices_BinarySearch_int16_int16.lp : LpOK Try.prog slices_BinarySearch_int16_int16.C slices_BinarySearch_int16_int16.b := lp_of (by kernel_rfl) (LpsOK.cons (k := 3) (by kernel_rfl) (by kernel_rfl) slices_BinarySearch_int16_int16.l3.lok LpsOK.nil)
noncomputable def slices_BinarySearch_int16_int16.t (x0 : Nat) (x1 : Int) (x2 : List Int) : T (Int × Bool) :=
  .br (Option.isSome (slices_BinarySearch_int16_int16.l3.r (x0, x1, ((x0 : Nat) : Int), x2) ((0 : Int), ((x0 : Nat) : Int))))
  (.br (decide ((Option.getD (slices_BinarySearch_int16_int16.l3.r (x0, x1, ((x0 : Nat) : Int), x2) ((0 : Int), ((x0 : Nat) : Int))) default) < ((x0 : Nat) : Int)))
   (.br (bounds (Option.getD (slices_BinarySearch_int16_int16.l3.r (x0, x1, ((x0 : Nat) : Int), x2) ((0 : Int), ((x0 : Nat) : Int))) default) x0)
    (.br (Nat.ble ((Int.toNat (Option.getD (slices_BinarySearch_int16_int16.l3.r (x0, x1, ((x0 : Nat) : Int), x2) ((0 : Int), ((x0 : Nat) : Int))) default) * 1) + 1) (List.length x2))
     (.br ((List.getD x2 (Int.toNat (Option.getD (slices_BinarySearch_int16_int16.l3.r (x0, x1, ((x0 : Nat) : Int), x2) ((0 : Int), ((x0 : Nat) : Int))) default) * 1) 0) == x1)
      (.leaf ((Option.getD (slices_BinarySearch_int16_int16.l3.r (x0, x1, ((x0 : Nat) : Int), x2) ((0 : Int), ((x0 : Nat) : Int))) default), true))
      (.br (bounds (Option.getD (slices_BinarySearch_int16_int16.l3.r (x0, x1, ((x0 : Nat) : Int), x2) ((0 : Int), ((x0 : Nat) : Int))) default) x0)
       (.br (Nat.ble ((Int.toNat (Option.getD (slices_BinarySearch_int16_int16.l3.r (x0, x1, ((x0 : Nat) : Int), x2) ((0 : Int), ((x0 : Nat) : Int))) default) * 1) + 1) (List.length x2))
        (.br (slices_isNaN_int16 (List.getD x2 (Int.toNat (Option.getD (slices_BinarySearch_int16_int16.l3.r (x0, x1, ((x0 : Nat) : Int), x2) ((0 : Int), ((x0 : Nat) : Int))) default) * 1) 0))
         (.leaf ((Option.getD (slices_BinarySearch_int16_int16.l3.r (x0, x1, ((x0 : Nat) : Int), x2) ((0 : Int), ((x0 : Nat) : Int))) default), (slices_isNaN_int16 x1)))
         (.leaf ((Option.getD (slices_BinarySearch_int16_int16.l3.r (x0, x1, ((x0 : Nat) : Int), x2) ((0 : Int), ((x0 : Nat) : Int))) default), false)))
        .bad)
       .bad))
     .bad)
    .bad)
   (.leaf ((Option.getD (slices_BinarySearch_int16_int16.l3.r (x0, x1, ((x0 : Nat) : Int), x2) ((0 : Int), ((x0 : Nat) : Int))) default), false)))
  .bad
noncomputable def slices_BinarySearch_int16_int16 (x0 : Nat) (x1 : Int) (x2 : List Int) : Int × Bool := (slices_BinarySearch_int16_int16.t x0 x1 x2).val
noncomputable def slices_BinarySearch_int16_int16.ok (x0 : Nat) (x1 : Int) (x2 : List Int) : Bool := (slices_BinarySearch_int16_int16.t x0 x1 x2).ok
def slices_BinarySearch_int16_int16.cd : Cd (Nat × Int × List Int) (List V × Hp) := Cd.iso (Cd.pair (Cd.cons (Cd.own 0) (Cd.cons (Cd.it .i16) Cd.nil)) (Cd.cons (Cd.rw 56 1 (Cd.is .i16)) Cd.nil)) (fun a => (a.1.1, a.1.2.1, a.2.1)) (fun a => ((a.1, (a.2.1, ())), (a.2.2, ()))) (fun _ => rfl)
noncomputable def slices_BinarySearch_int16_int16.tr (a : Nat × Int × List Int) : T (Int × Bool) := slices_BinarySearch_int16_int16.t a.1 a.2.1 a.2.2
def slices_BinarySearch_int16_int16.enc : (Nat × Int × List Int) → (Int × Bool) → V := fun a r => .tup [.it .i64 r.1, .bo r.2]
noncomputable def slices_BinarySearch_int16_int16.c : List V → Hp → T V := cdQ slices_BinarySearch_int16_int16.cd (fun a => .br (slices_BinarySearch_int16_int16.ok a.1 a.2.1 a.2.2) (.leaf (slices_BinarySearch_int16_int16.enc a (slices_BinarySearch_int16_int16 a.1 a.2.1 a.2.2))) .bad)
theorem slices_BinarySearch_int16_int16.run (a : Nat × Int × List Int) : runF slices_BinarySearch_int16_int16.C Try.f32.results.toList slices_BinarySearch_int16_int16.b (slices_BinarySearch_int16_int16.cd.enc a).1 (slices_BinarySearch_int16_int16.cd.enc a).2 = (slices_BinarySearch_int16_int16.tr a).map fun r => (slices_BinarySearch_int16_int16.enc a r, (slices_BinarySearch_int16_int16.cd.enc a).2) := by kernel_rfl
theorem slices_BinarySearch_int16_int16.cok : OKq Try.prog 32 slices_BinarySearch_int16_int16.c := con_q' slices_BinarySearch_int16_int16.cd slices_BinarySearch_int16_int16.hC Try.func32 (by kernel_rfl) (by kernel_rfl) (by kernel_rfl) slices_BinarySearch_int16_int16.lp (fun a => by kernel_rfl) slices_BinarySearch_int16_int16.run (Tells.ok (tree := slices_BinarySearch_int16_int16.tr))
/-! ### impl_quotient -/
noncomputable def impl_quotient.b : Code := bodyOf Try.f85
noncomputable def impl_quotient.C : Ctx := { ty := tys, fn := [], lp := [], n := 10, k := 0 }
theorem impl_quotient.hC : CtxOK Try.prog impl_quotient.C := CtxOK.of mo tys_ok FnsOK.nil
theorem impl_quotient.lp : LpOK Try.prog impl_quotient.C impl_quotient.b := (LpOK.nil (by kernel_rfl))
noncomputable def impl_quotient.t (x0 : Int) (x1 : Int) : T Nat :=
  .leaf (fdiv .f32 (fofint .f32 x0) (fofint .f32 x1))
noncomputable def impl_quotient (x0 : Int) (x1 : Int) : Nat := (impl_quotient.t x0 x1).val
def impl_quotient.cd : Cd (Int × Int) (List V × Hp) := Cd.iso (Cd.pair (Cd.cons (Cd.it .i16) (Cd.cons (Cd.it .i16) Cd.nil)) Cd.nil) (fun a => (a.1.1, a.1.2.1)) (fun a => ((a.1, (a.2, ())), ())) (fun _ => rfl)
noncomputable def impl_quotient.tr (a : Int × Int) : T Nat := impl_quotient.t a.1 a.2
def impl_quotient.enc : (Int × Int) → Nat → V := fun a r => .fl .f32 r
noncomputable def impl_quotient.c : List V → Hp → T V := cdQ impl_quotient.cd (fun a => .leaf (impl_quotient.enc a (impl_quotient a.1 a.2)))
theorem impl_quotient.run (a : Int × Int) : runF impl_quotient.C Try.f85.results.toList impl_quotient.b (impl_quotient.cd.enc a).1 (impl_quotient.cd.enc a).2 = (impl_quotient.tr a).map fun r => (impl_quotient.enc a r, (impl_quotient.cd.enc a).2) := by kernel_rfl
theorem impl_quotient.cok : OKq Try.prog 85 impl_quotient.c := con_q' impl_quotient.cd impl_quotient.hC Try.func85 (by kernel_rfl) (by kernel_rfl) (by kernel_rfl) impl_quotient.lp (fun a => by kernel_rfl) impl_quotient.run (Tells.val (tree := impl_quotient.tr) fun a => by kernel_rfl)
/-! ### impl_size -/
noncomputable def impl_size.b : Code := bodyOf Try.f53
noncomputable def impl_size.C : Ctx := { ty := tys, fn := [], lp := [], n := 8, k := 0 }
theorem impl_size.hC : CtxOK Try.prog impl_size.C := CtxOK.of mo tys_ok FnsOK.nil
theorem impl_size.lp : LpOK Try.prog impl_size.C impl_size.b := (LpOK.nil (by kernel_rfl))
noncomputable def impl_size.t (x0 : Nat) : T Nat :=
  .br (flt .f32 x0 0)
  (.leaf (fsub .f32 0 x0))
  (.leaf x0)
noncomputable def impl_size (x0 : Nat) : Nat := (impl_size.t x0).val
def impl_size.cd : Cd Nat (List V × Hp) := Cd.iso (Cd.pair (Cd.cons (Cd.fl .f32) Cd.nil) Cd.nil) (fun a => a.1.1) (fun a => ((a, ()), ())) (fun _ => rfl)
noncomputable def impl_size.tr (a : Nat) : T Nat := impl_size.t a
def impl_size.enc : Nat → Nat → V := fun a r => .fl .f32 r
noncomputable def impl_size.c : List V → Hp → T V := cdQ impl_size.cd (fun a => .leaf (impl_size.enc a (impl_size a)))
theorem impl_size.run (a : Nat) : runF impl_size.C Try.f53.results.toList impl_size.b (impl_size.cd.enc a).1 (impl_size.cd.enc a).2 = (impl_size.tr a).map fun r => (impl_size.enc a r, (impl_size.cd.enc a).2) := by kernel_rfl
theorem impl_size.cok : OKq Try.prog 53 impl_size.c := con_q' impl_size.cd impl_size.hC Try.func53 (by kernel_rfl) (by kernel_rfl) (by kernel_rfl) impl_size.lp (fun a => by kernel_rfl) impl_size.run (Tells.val (tree := impl_size.tr) fun a => by kernel_rfl)
/-! ### impl_offBy -/
noncomputable def impl_offBy.b : Code := bodyOf Try.f64
noncomputable def impl_offBy.C : Ctx := { ty := tys, fn := [(53, .q impl_size.c)], lp := [], n := 11, k := 0 }
theorem impl_offBy.hC : CtxOK Try.prog impl_offBy.C := CtxOK.of mo tys_ok (FnsOK.cons impl_size.cok FnsOK.nil)
theorem impl_offBy.lp : LpOK Try.prog impl_offBy.C impl_offBy.b := (LpOK.nil (by kernel_rfl))
noncomputable def impl_offBy.t (x0 : Nat) (x1 : Nat) : T Nat :=
  .leaf (fdiv .f32 (impl_size (fsub .f32 x0 x1)) x1)
noncomputable def impl_offBy (x0 : Nat) (x1 : Nat) : Nat := (impl_offBy.t x0 x1).val
def impl_offBy.cd : Cd (Nat × Nat) (List V × Hp) := Cd.iso (Cd.pair (Cd.cons (Cd.fl .f32) (Cd.cons (Cd.fl .f32) Cd.nil)) Cd.nil) (fun a => (a.1.1, a.1.2.1)) (fun a => ((a.1, (a.2, ())), ())) (fun _ => rfl)
noncomputable def impl_offBy.tr (a : Nat × Nat) : T Nat := impl_offBy.t a.1 a.2
def impl_offBy.enc : (Nat × Nat) → Nat → V := fun a r => .fl .f32 r
noncomputable def impl_offBy.c : List V → Hp → T V := cdQ impl_offBy.cd (fun a => .leaf (impl_offBy.enc a (impl_offBy a.1 a.2)))
theorem impl_offBy.run (a : Nat × Nat) : runF impl_offBy.C Try.f64.results.toList impl_offBy.b (impl_offBy.cd.enc a).1 (impl_offBy.cd.enc a).2 = (impl_offBy.tr a).map fun r => (impl_offBy.enc a r, (impl_offBy.cd.enc a).2) := by kernel_rfl
theorem impl_offBy.cok : OKq Try.prog 64 impl_offBy.c := con_q' impl_offBy.cd impl_offBy.hC Try.func64 (by kernel_rfl) (by kernel_rfl) (by kernel_rfl) impl_offBy.lp (fun a => by kernel_rfl) impl_offBy.run (Tells.val (tree := impl_offBy.tr) fun a => by kernel_rfl)
/-! ### impl_bestPair_1 -/
noncomputable def impl_bestPair_1.b : Code := bodyOf Try.f63
noncomputable def impl_bestPair_1.C : Ctx := { ty := tys, fn := [(64, .q impl_offBy.c)], lp := [], n := 25, k := 5 }
theorem impl_bestPair_1.hC : CtxOK Try.prog impl_bestPair_1.C := CtxOK.of mo tys_ok (FnsOK.cons impl_offBy.cok FnsOK.nil)
theorem impl_bestPair_1.lp : LpOK Try.prog impl_bestPair_1.C impl_bestPair_1.b := (LpOK.nil (by kernel_rfl))
noncomputable def impl_bestPair_1.t (x0 : Int) (x1 : Int) (x2 : Nat) (x3 : Nat) (x4 : Bool) (x5 : Nat) (x6 : Int) (x7 : Int) : T (Bool × Nat × Int × Int) :=
  .br (!x4)
  (.leaf (true, (impl_offBy x2 x3), x0, x1))
  (.br (flt .f32 (impl_offBy x2 x3) x5)
   (.leaf (true, (impl_offBy x2 x3), x0, x1))
   (.leaf (x4, x5, x6, x7)))
noncomputable def impl_bestPair_1 (x0 : Int) (x1 : Int) (x2 : Nat) (x3 : Nat) (x4 : Bool) (x5 : Nat) (x6 : Int) (x7 : Int) : Bool × Nat × Int × Int := (impl_bestPair_1.t x0 x1 x2 x3 x4 x5 x6 x7).val
def impl_bestPair_1.cd : Cd (Int × Int × Nat × Nat × Bool × Nat × Int × Int) (List V × Hp) := Cd.iso (Cd.pair (Cd.cons (Cd.it .i64) (Cd.cons (Cd.it .i64) (Cd.cons (Cd.fl .f32) (Cd.cons (Cd.pt 0 (Cd.natc 0)) (Cd.cons (Cd.pt 1 (Cd.natc 0)) (Cd.cons (Cd.pt 2 (Cd.natc 0)) (Cd.cons (Cd.pt 3 (Cd.natc 0)) (Cd.cons (Cd.pt 4 (Cd.natc 0)) Cd.nil)))))))) (Cd.cons (Cd.rw 23 1 (Cd.vs (Cd.cons (Cd.fl .f32) Cd.nil))) (Cd.cons (Cd.rw 4 1 (Cd.vs (Cd.cons Cd.bo Cd.nil))) (Cd.cons (Cd.rw 23 1 (Cd.vs (Cd.cons (Cd.fl .f32) Cd.nil))) (Cd.cons (Cd.rw 2 1 (Cd.vs (Cd.cons (Cd.it .i64) Cd.nil))) (Cd.cons (Cd.rw 2 1 (Cd.vs (Cd.cons (Cd.it .i64) Cd.nil))) Cd.nil)))))) (fun a => (a.1.1, a.1.2.1, a.1.2.2.1, a.2.1.1, a.2.2.1.1, a.2.2.2.1.1, a.2.2.2.2.1.1, a.2.2.2.2.2.1.1)) (fun a => ((a.1, (a.2.1, (a.2.2.1, ((), ((), ((), ((), ((), ())))))))), ((a.2.2.2.1, ()), ((a.2.2.2.2.1, ()), ((a.2.2.2.2.2.1, ()), ((a.2.2.2.2.2.2.1, ()), ((a.2.2.2.2.2.2.2, ()), ()))))))) (fun _ => rfl)
noncomputable def impl_bestPair_1.tr (a : Int × Int × Nat × Nat × Bool × Nat × Int × Int) : T (Bool × Nat × Int × Int) := impl_bestPair_1.t a.1 a.2.1 a.2.2.1 a.2.2.2.1 a.2.2.2.2.1 a.2.2.2.2.2.1 a.2.2.2.2.2.2.1 a.2.2.2.2.2.2.2
def impl_bestPair_1.enc : (Int × Int × Nat × Nat × Bool × Nat × Int × Int) → (Bool × Nat × Int × Int) → V × Hp := fun a r => (.tup [], [some ⟨true, 23, 1, .vs [.fl .f32 a.2.2.2.1]⟩, some ⟨true, 4, 1, .vs [.bo r.1]⟩, some ⟨true, 23, 1, .vs [.fl .f32 r.2.1]⟩, some ⟨true, 2, 1, .vs [.it .i64 r.2.2.1]⟩, some ⟨true, 2, 1, .vs [.it .i64 r.2.2.2]⟩])
noncomputable def impl_bestPair_1.c : List V → Hp → T (V × Hp) := cdE impl_bestPair_1.cd (fun a => .leaf (impl_bestPair_1.enc a (impl_bestPair_1 a.1 a.2.1 a.2.2.1 a.2.2.2.1 a.2.2.2.2.1 a.2.2.2.2.2.1 a.2.2.2.2.2.2.1 a.2.2.2.2.2.2.2)))
theorem impl_bestPair_1.run (a : Int × Int × Nat × Nat × Bool × Nat × Int × Int) : runF impl_bestPair_1.C Try.f63.results.toList impl_bestPair_1.b (impl_bestPair_1.cd.enc a).1 (impl_bestPair_1.cd.enc a).2 = (impl_bestPair_1.tr a).map (impl_bestPair_1.enc a) := by kernel_rfl
theorem impl_bestPair_1.cok : OKe Try.prog 63 impl_bestPair_1.c := con_e' impl_bestPair_1.cd impl_bestPair_1.hC Try.func63 (by kernel_rfl) (by kernel_rfl) (by kernel_rfl) impl_bestPair_1.lp (fun a => by kernel_rfl) impl_bestPair_1.run (Tells.val (tree := impl_bestPair_1.tr) fun a => by kernel_rfl)
/-! ### impl_pairs -/
noncomputable def impl_pairs.b : Code := bodyOf Try.f62
noncomputable def impl_pairs.l4.s (x0 : Nat) (x1 : Int) (x2 : Int) (x3 : Int) (x4 : Int) (x5 : Int) (x6 : List Int) (x7 : Nat) (x8 : Bool) (x9 : Nat) (x10 : Int) (x11 : Int) : T ((Int × Bool × Nat × Int × Int) ⊕ (Bool × Nat × Int × Int)) :=
  .br (decide (x5 < x4))
  (.br (x1 != x5)
   (.br (bounds x1 x0)
    (.br (Nat.ble ((Int.toNat x1 * 1) + 1) (List.length x6))
     (.br (bounds x5 x0)
      (.br (Nat.ble ((Int.toNat x5 * 1) + 1) (List.length x6))
       (.leaf (.inl ((IntKind.wrap .i64 (x5 + (1 : Int))), (impl_bestPair_1 x1 x5 (impl_quotient (List.getD x6 (Int.toNat x1 * 1) 0) (List.getD x6 (Int.toNat x5 * 1) 0)) x7 x8 x9 x10 x11).1, (impl_bestPair_1 x1 x5 (impl_quotient (List.getD x6 (Int.toNat x1 * 1) 0) (List.getD x6 (Int.toNat x5 * 1) 0)) x7 x8 x9 x10 x11).2.1, (impl_bestPair_1 x1 x5 (impl_quotient (List.getD x6 (Int.toNat x1 * 1) 0) (List.getD x6 (Int.toNat x5 * 1) 0)) x7 x8 x9 x10 x11).2.2.1, (impl_bestPair_1 x1 x5 (impl_quotient (List.getD x6 (Int.toNat x1 * 1) 0) (List.getD x6 (Int.toNat x5 * 1) 0)) x7 x8 x9 x10 x11).2.2.2)))
       .bad)
      .bad)
     .bad)
    .bad)
   (.leaf (.inl ((IntKind.wrap .i64 (x5 + (1 : Int))), x8, x9, x10, x11))))
  (.leaf (.inr (x8, x9, x10, x11)))
noncomputable def impl_pairs.l4.st (p : Nat × Int × Int × Int × Int × List Int × Nat) (x : Int × Bool × Nat × Int × Int) : T ((Int × Bool × Nat × Int × Int) ⊕ (Bool × Nat × Int × Int)) := impl_pairs.l4.s p.1 p.2.1 p.2.2.1 p.2.2.2.1 p.2.2.2.2.1 x.1 p.2.2.2.2.2.1 p.2.2.2.2.2.2 x.2.1 x.2.2.1 x.2.2.2.1 x.2.2.2.2
noncomputable def impl_pairs.l4.r (p : Nat × Int × Int × Int × Int × List Int × Nat) (x : Int × Bool × Nat × Int × Int) : Option (Bool × Nat × Int × Int) := iterT (impl_pairs.l4.st p) manyRounds x
def impl_pairs.l4.cd : Cd ((Nat × Int × Int × Int × Int × List Int × Nat) × (Int × Bool × Nat × Int × Int)) (List V × Hp) := Cd.iso (Cd.pair (Cd.cons (Cd.own 0) (Cd.cons (Cd.fu 63 (Cd.cons (Cd.pt 1 (Cd.natc 0)) (Cd.cons (Cd.pt 2 (Cd.natc 0)) (Cd.cons (Cd.pt 3 (Cd.natc 0)) (Cd.cons (Cd.pt 4 (Cd.natc 0)) (Cd.cons (Cd.pt 5 (Cd.natc 0)) Cd.nil)))))) (Cd.cons (Cd.it .i64) (Cd.cons (Cd.it .i64) (Cd.cons (Cd.it .i64) (Cd.cons (Cd.it .i64) (Cd.cons (Cd.it .i64) Cd.nil))))))) (Cd.cons (Cd.rw 56 1 (Cd.is .i16)) (Cd.cons (Cd.rw 23 1 (Cd.vs (Cd.cons (Cd.fl .f32) Cd.nil))) (Cd.cons (Cd.rw 4 1 (Cd.vs (Cd.cons Cd.bo Cd.nil))) (Cd.cons (Cd.rw 23 1 (Cd.vs (Cd.cons (Cd.fl .f32) Cd.nil))) (Cd.cons (Cd.rw 2 1 (Cd.vs (Cd.cons (Cd.it .i64) Cd.nil))) (Cd.cons (Cd.rw 2 1 (Cd.vs (Cd.cons (Cd.it .i64) Cd.nil))) Cd.nil))))))) (fun a => ((a.1.1, a.1.2.2.1, a.1.2.2.2.1, a.1.2.2.2.2.1, a.1.2.2.2.2.2.1, a.2.1, a.2.2.1.1), (a.1.2.2.2.2.2.2.1, a.2.2.2.1.1, a.2.2.2.2.1.1, a.2.2.2.2.2.1.1, a.2.2.2.2.2.2.1.1))) (fun a => ((a.1.1, (((), ((), ((), ((), ((), ()))))), (a.1.2.1, (a.1.2.2.1, (a.1.2.2.2.1, (a.1.2.2.2.2.1, (a.2.1, ()))))))), (a.1.2.2.2.2.2.1, ((a.1.2.2.2.2.2.2, ()), ((a.2.2.1, ()), ((a.2.2.2.1, ()), ((a.2.2.2.2.1, ()), ((a.2.2.2.2.2, ()), ())))))))) (fun _ => rfl)
def impl_pairs.l4.out (p : Nat × Int × Int × Int × Int × List Int × Nat) : (Bool × Nat × Int × Int) → X × List V × Hp := (fun r => (.ex 2, [.own 0 p.1, .fu 63 [.pt 1 0, .pt 2 0, .pt 3 0, .pt 4 0, .pt 5 0], .it .i64 p.2.2.1, .it .i64 p.2.2.2.1], [some ⟨true, 56, 1, .is .i16 p.2.2.2.2.2.1⟩, some ⟨true, 23, 1, .vs [.fl .f32 p.2.2.2.2.2.2]⟩, some ⟨true, 4, 1, .vs [.bo r.1]⟩, some ⟨true, 23, 1, .vs [.fl .f32 r.2.1]⟩, some ⟨true, 2, 1, .vs [.it .i64 r.2.2.1]⟩, some ⟨true, 2, 1, .vs [.it .i64 r.2.2.2]⟩]))
def impl_pairs.l4.ex (p : Nat × Int × Int × Int × Int × List Int × Nat) : (Bool × Nat × Int × Int) → T (X × List V × Hp) := leafT (fun r => (.ex 2, [.own 0 p.1, .fu 63 [.pt 1 0, .pt 2 0, .pt 3 0, .pt 4 0, .pt 5 0], .it .i64 p.2.2.1, .it .i64 p.2.2.2.1], [some ⟨true, 56, 1, .is .i16 p.2.2.2.2.2.1⟩, some ⟨true, 23, 1, .vs [.fl .f32 p.2.2.2.2.2.2]⟩, some ⟨true, 4, 1, .vs [.bo r.1]⟩, some ⟨true, 23, 1, .vs [.fl .f32 r.2.1]⟩, some ⟨true, 2, 1, .vs [.it .i64 r.2.2.1]⟩, some ⟨true, 2, 1, .vs [.it .i64 r.2.2.2]⟩]))
noncomputable def impl_pairs.l4.c : List V → Hp → T (X × List V × Hp) := cdL impl_pairs.l4.cd fun x => optT (impl_pairs.l4.r x.1 x.2) (impl_pairs.l4.ex x.1)
noncomputable def impl_pairs.l1.s (x0 : Nat) (x1 : Int) (x2 : Int) (x3 : List Int) (x4 : Nat) (x5 : Bool) (x6 : Nat) (x7 : Int) (x8 : Int) : T ((Int × Bool × Nat × Int × Int) ⊕ (Bool × Nat × Int × Int)) :=
  .br (decide (x2 < x1))
  (.br (Option.isSome (impl_pairs.l4.r (x0, x2, x1, x2, ((x0 : Nat) : Int), x3, x4) ((0 : Int), x5, x6, x7, x8)))
   (.leaf (.inl ((IntKind.wrap .i64 (x2 + (1 : Int))), (Option.getD (impl_pairs.l4.r (x0, x2, x1, x2, ((x0 : Nat) : Int), x3, x4) ((0 : Int), x5, x6, x7, x8)) default).1, (Option.getD (impl_pairs.l4.r (x0, x2, x1, x2, ((x0 : Nat) : Int), x3, x4) ((0 : Int), x5, x6, x7, x8)) default).2.1, (Option.getD (impl_pairs.l4.r (x0, x2, x1, x2, ((x0 : Nat) : Int), x3, x4) ((0 : Int), x5, x6, x7, x8)) default).2.2.1, (Option.getD (impl_pairs.l4.r (x0, x2, x1, x2, ((x0 : Nat) : Int), x3, x4) ((0 : Int), x5, x6, x7, x8)) default).2.2.2)))
   .bad)
  (.leaf (.inr (x5, x6, x7, x8)))
noncomputable def impl_pairs.l1.st (p : Nat × Int × List Int × Nat) (x : Int × Bool × Nat × Int × Int) : T ((Int × Bool × Nat × Int × Int) ⊕ (Bool × Nat × Int × Int)) := impl_pairs.l1.s p.1 p.2.1 x.1 p.2.2.1 p.2.2.2 x.2.1 x.2.2.1 x.2.2.2.1 x.2.2.2.2
noncomputable def impl_pairs.l1.r (p : Nat × Int × List Int × Nat) (x : Int × Bool × Nat × Int × Int) : Option (Bool × Nat × Int × Int) := iterT (impl_pairs.l1.st p) manyRounds x
def impl_pairs.l1.cd : Cd ((Nat × Int × List Int × Nat) × (Int × Bool × Nat × Int × Int)) (List V × Hp) := Cd.iso (Cd.pair (Cd.cons (Cd.own 0) (Cd.cons (Cd.fu 63 (Cd.cons (Cd.pt 1 (Cd.natc 0)) (Cd.cons (Cd.pt 2 (Cd.natc 0)) (Cd.cons (Cd.pt 3 (Cd.natc 0)) (Cd.cons (Cd.pt 4 (Cd.natc 0)) (Cd.cons (Cd.pt 5 (Cd.natc 0)) Cd.nil)))))) (Cd.cons (Cd.it .i64) (Cd.cons (Cd.it .i64) Cd.nil)))) (Cd.cons (Cd.rw 56 1 (Cd.is .i16)) (Cd.cons (Cd.rw 23 1 (Cd.vs (Cd.cons (Cd.fl .f32) Cd.nil))) (Cd.cons (Cd.rw 4 1 (Cd.vs (Cd.cons Cd.bo Cd.nil))) (Cd.cons (Cd.rw 23 1 (Cd.vs (Cd.cons (Cd.fl .f32) Cd.nil))) (Cd.cons (Cd.rw 2 1 (Cd.vs (Cd.cons (Cd.it .i64) Cd.nil))) (Cd.cons (Cd.rw 2 1 (Cd.vs (Cd.cons (Cd.it .i64) Cd.nil))) Cd.nil))))))) (fun a => ((a.1.1, a.1.2.2.1, a.2.1, a.2.2.1.1), (a.1.2.2.2.1, a.2.2.2.1.1, a.2.2.2.2.1.1, a.2.2.2.2.2.1.1, a.2.2.2.2.2.2.1.1))) (fun a => ((a.1.1, (((), ((), ((), ((), ((), ()))))), (a.1.2.1, (a.2.1, ())))), (a.1.2.2.1, ((a.1.2.2.2, ()), ((a.2.2.1, ()), ((a.2.2.2.1, ()), ((a.2.2.2.2.1, ()), ((a.2.2.2.2.2, ()), ())))))))) (fun _ => rfl)
def impl_pairs.l1.out (p : Nat × Int × List Int × Nat) : (Bool × Nat × Int × Int) → X × List V × Hp := (fun r => (.ex 0, [], [some ⟨true, 56, 1, .is .i16 p.2.2.1⟩, some ⟨true, 23, 1, .vs [.fl .f32 p.2.2.2]⟩, some ⟨true, 4, 1, .vs [.bo r.1]⟩, some ⟨true, 23, 1, .vs [.fl .f32 r.2.1]⟩, some ⟨true, 2, 1, .vs [.it .i64 r.2.2.1]⟩, some ⟨true, 2, 1, .vs [.it .i64 r.2.2.2]⟩]))
def impl_pairs.l1.ex (p : Nat × Int × List Int × Nat) : (Bool × Nat × Int × Int) → T (X × List V × Hp) := leafT (fun r => (.ex 0, [], [some ⟨true, 56, 1, .is .i16 p.2.2.1⟩, some ⟨true, 23, 1, .vs [.fl .f32 p.2.2.2]⟩, some ⟨true, 4, 1, .vs [.bo r.1]⟩, some ⟨true, 23, 1, .vs [.fl .f32 r.2.1]⟩, some ⟨true, 2, 1, .vs [.it .i64 r.2.2.1]⟩, some ⟨true, 2, 1, .vs [.it .i64 r.2.2.2]⟩]))
noncomputable def impl_pairs.l1.c : List V → Hp → T (X × List V × Hp) := cdL impl_pairs.l1.cd fun x => optT (impl_pairs.l1.r x.1 x.2) (impl_pairs.l1.ex x.1)
noncomputable def impl_pairs.C : Ctx := { ty := tys, fn := [(85, .q impl_quotient.c), (63, .e impl_bestPair_1.c)], lp := [(1, ⟨[0, 1, 7, 8], [], impl_pairs.l1.c⟩), (4, ⟨[0, 1, 4, 7, 8, 12, 13], [0, 1, 7, 8], impl_pairs.l4.c⟩)], n := 34, k := 6 }
theorem impl_pairs.hC : CtxOK Try.prog impl_pairs.C := CtxOK.of mo tys_ok (FnsOK.cons impl_quotient.cok (FnsOK.cons impl_bestPair_1.cok FnsOK.nil))
noncomputable def impl_pairs.b4 : Code := (nthC (loopsOf (nthC (loopsOf impl_pairs.b) 0)) 0)
theorem impl_pairs.lp4 : LpOK Try.prog impl_pairs.C impl_pairs.b4 := (LpOK.nil (by kernel_rfl))
theorem impl_pairs.l4.round (p : Nat × Int × Int × Int × Int × List Int × Nat) (s : Int × Bool × Nat × Int × Int) : roundL impl_pairs.C [0, 1, 4, 7, 8, 12, 13] [0, 1, 7, 8] impl_pairs.b4 (impl_pairs.l4.cd.enc (p, s)).1 (impl_pairs.l4.cd.enc (p, s)).2 = (impl_pairs.l4.st p s).map (encSum (fun s => impl_pairs.l4.cd.enc (p, s)) (impl_pairs.l4.out p)) := by kernel_rfl
theorem impl_pairs.l4.lok : LoopOK Try.prog impl_pairs.C ⟨[0, 1, 4, 7, 8, 12, 13], [0, 1, 7, 8], impl_pairs.l4.c⟩ impl_pairs.b4 := loop_cd impl_pairs.l4.cd impl_pairs.hC impl_pairs.lp4 impl_pairs.l4.round fun p => Gets.leaf
noncomputable def impl_pairs.b1 : Code := (nthC (loopsOf impl_pairs.b) 0)
theorem impl_pairs.lp1 : LpOK Try.prog impl_pairs.C impl_pairs.b1 := lp_of (by kernel_rfl) (LpsOK.cons (k := 4) (by kernel_rfl) (by kernel_rfl) impl_pairs.l4.lok LpsOK.nil)
theorem impl_pairs.l1.round (p : Nat × Int × List Int × Nat) (s : Int × Bool × Nat × Int × Int) : roundL impl_pairs.C [0, 1, 7, 8] [] impl_pairs.b1 (impl_pairs.l1.cd.enc (p, s)).1 (impl_pairs.l1.cd.enc (p, s)).2 = (impl_pairs.l1.st p s).map (encSum (fun s => impl_pairs.l1.cd.enc (p, s)) (impl_pairs.l1.out p)) := by kernel_rfl
theorem impl_pairs.l1.lok : LoopOK Try.prog impl_pairs.C ⟨[0, 1, 7, 8], [], impl_pairs.l1.c⟩ impl_pairs.b1 := loop_cd impl_pairs.l1.cd impl_pairs.hC impl_pairs.lp1 impl_pairs.l1.round fun p => Gets.leaf
theorem impl_pairs.lp : LpOK Try.prog impl_pairs.C impl_pairs.b := lp_of (by kernel_rfl) (LpsOK.cons (k := 1) (by kernel_rfl) (by kernel_rfl) impl_pairs.l1.lok LpsOK.nil)
noncomputable def impl_pairs.t (x0 : Nat) (x1 : List Int) (x2 : Nat) (x3 : Bool) (x4 : Nat) (x5 : Int) (x6 : Int) : T (Bool × Nat × Int × Int) :=
  .br (Option.isSome (impl_pairs.l1.r (x0, ((x0 : Nat) : Int), x1, x2) ((0 : Int), x3, x4, x5, x6)))
  (.leaf ((Option.getD (impl_pairs.l1.r (x0, ((x0 : Nat) : Int), x1, x2) ((0 : Int), x3, x4, x5, x6)) default).1, (Option.getD (impl_pairs.l1.r (x0, ((x0 : Nat) : Int), x1, x2) ((0 : Int), x3, x4, x5, x6)) default).2.1, (Option.getD (impl_pairs.l1.r (x0, ((x0 : Nat) : Int), x1, x2) ((0 : Int), x3, x4, x5, x6)) default).2.2.1, (Option.getD (impl_pairs.l1.r (x0, ((x0 : Nat) : Int), x1, x2) ((0 : Int), x3, x4, x5, x6)) default).2.2.2))
  .bad
noncomputable def impl_pairs (x0 : Nat) (x1 : List Int) (x2 : Nat) (x3 : Bool) (x4 : Nat) (x5 : Int) (x6 : Int) : Bool × Nat × Int × Int := (impl_pairs.t x0 x1 x2 x3 x4 x5 x6).val
noncomputable def impl_pairs.ok (x0 : Nat) (x1 : List Int) (x2 : Nat) (x3 : Bool) (x4 : Nat) (x5 : Int) (x6 : Int) : Bool := (impl_pairs.t x0 x1 x2 x3 x4 x5 x6).ok
def impl_pairs.cd : Cd (Nat × List Int × Nat × Bool × Nat × Int × Int) (List V × Hp) := Cd.iso (Cd.pair (Cd.cons (Cd.own 0) (Cd.cons (Cd.fu 63 (Cd.cons (Cd.pt 1 (Cd.natc 0)) (Cd.cons (Cd.pt 2 (Cd.natc 0)) (Cd.cons (Cd.pt 3 (Cd.natc 0)) (Cd.cons (Cd.pt 4 (Cd.natc 0)) (Cd.cons (Cd.pt 5 (Cd.natc 0)) Cd.nil)))))) Cd.nil)) (Cd.cons (Cd.rw 56 1 (Cd.is .i16)) (Cd.cons (Cd.rw 23 1 (Cd.vs (Cd.cons (Cd.fl .f32) Cd.nil))) (Cd.cons (Cd.rw 4 1 (Cd.vs (Cd.cons Cd.bo Cd.nil))) (Cd.cons (Cd.rw 23 1 (Cd.vs (Cd.cons (Cd.fl .f32) Cd.nil))) (Cd.cons (Cd.rw 2 1 (Cd.vs (Cd.cons (Cd.it .i64) Cd.nil))) (Cd.cons (Cd.rw 2 1 (Cd.vs (Cd.cons (Cd.it .i64) Cd.nil))) Cd.nil))))))) (fun a => (a.1.1, a.2.1, a.2.2.1.1, a.2.2.2.1.1, a.2.2.2.2.1.1, a.2.2.2.2.2.1.1, a.2.2.2.2.2.2.1.1)) (fun a => ((a.1, (((), ((), ((), ((), ((), ()))))), ())), (a.2.1, ((a.2.2.1, ()), ((a.2.2.2.1, ()), ((a.2.2.2.2.1, ()), ((a.2.2.2.2.2.1, ()), ((a.2.2.2.2.2.2, ()), ())))))))) (fun _ => rfl)
noncomputable def impl_pairs.tr (a : Nat × List Int × Nat × Bool × Nat × Int × Int) : T (Bool × Nat × Int × Int) := impl_pairs.t a.1 a.2.1 a.2.2.1 a.2.2.2.1 a.2.2.2.2.1 a.2.2.2.2.2.1 a.2.2.2.2.2.2
def impl_pairs.enc : (Nat × List Int × Nat × Bool × Nat × Int × Int) → (Bool × Nat × Int × Int) → V × Hp := fun a r => (.tup [], [some ⟨true, 56, 1, .is .i16 a.2.1⟩, some ⟨true, 23, 1, .vs [.fl .f32 a.2.2.1]⟩, some ⟨true, 4, 1, .vs [.bo r.1]⟩, some ⟨true, 23, 1, .vs [.fl .f32 r.2.1]⟩, some ⟨true, 2, 1, .vs [.it .i64 r.2.2.1]⟩, some ⟨true, 2, 1, .vs [.it .i64 r.2.2.2]⟩])
noncomputable def impl_pairs.c : List V → Hp → T (V × Hp) := cdE impl_pairs.cd (fun a => .br (impl_pairs.ok a.1 a.2.1 a.2.2.1 a.2.2.2.1 a.2.2.2.2.1 a.2.2.2.2.2.1 a.2.2.2.2.2.2) (.leaf (impl_pairs.enc a (impl_pairs a.1 a.2.1 a.2.2.1 a.2.2.2.1 a.2.2.2.2.1 a.2.2.2.2.2.1 a.2.2.2.2.2.2))) .bad)
theorem impl_pairs.run (a : Nat × List Int × Nat × Bool × Nat × Int × Int) : runF impl_pairs.C Try.f62.results.toList impl_pairs.b (impl_pairs.cd.enc a).1 (impl_pairs.cd.enc a).2 = (impl_pairs.tr a).map (impl_pairs.enc a) := by kernel_rfl
theorem impl_pairs.cok : OKe Try.prog 62 impl_pairs.c := con_e' impl_pairs.cd impl_pairs.hC Try.func62 (by kernel_rfl) (by kernel_rfl) (by kernel_rfl) impl_pairs.lp (fun a => by kernel_rfl) impl_pairs.run (Tells.ok (tree := impl_pairs.tr))
/-! ### impl_bestPair -/
noncomputable def impl_bestPair.b : Code := bodyOf Try.f33
noncomputable def impl_bestPair.C : Ctx := { ty := tys, fn := [(62, .e impl_pairs.c)], lp := [], n := 17, k := 1 }
theorem impl_bestPair.hC : CtxOK Try.prog impl_bestPair.C := CtxOK.of mo tys_ok (FnsOK.cons impl_pairs.cok FnsOK.nil)
theorem impl_bestPair.lp : LpOK Try.prog impl_bestPair.C impl_bestPair.b := (LpOK.nil (by kernel_rfl))
noncomputable def impl_bestPair.t (x0 : Nat) (x1 : Nat) (x2 : List Int) : T (Int × Int × Nat) :=
  .br (impl_pairs.ok x0 x2 x1 false 0 (0 : Int) (0 : Int))
  (.leaf ((impl_pairs x0 x2 x1 false 0 (0 : Int) (0 : Int)).2.2.1, (impl_pairs x0 x2 x1 false 0 (0 : Int) (0 : Int)).2.2.2, (impl_pairs x0 x2 x1 false 0 (0 : Int) (0 : Int)).2.1))
  .bad
noncomputable def impl_bestPair (x0 : Nat) (x1 : Nat) (x2 : List Int) : Int × Int × Nat := (impl_bestPair.t x0 x1 x2).val
noncomputable def impl_bestPair.ok (x0 : Nat) (x1 : Nat) (x2 : List Int) : Bool := (impl_bestPair.t x0 x1 x2).ok
def impl_bestPair.cd : Cd (Nat × Nat × List Int) (List V × Hp) := Cd.iso (Cd.pair (Cd.cons (Cd.own 0) (Cd.cons (Cd.fl .f32) Cd.nil)) (Cd.cons (Cd.rw 56 1 (Cd.is .i16)) Cd.nil)) (fun a => (a.1.1, a.1.2.1, a.2.1)) (fun a => ((a.1, (a.2.1, ())), (a.2.2, ()))) (fun _ => rfl)
noncomputable def impl_bestPair.tr (a : Nat × Nat × List Int) : T (Int × Int × Nat) := impl_bestPair.t a.1 a.2.1 a.2.2
def impl_bestPair.enc : (Nat × Nat × List Int) → (Int × Int × Nat) → V := fun a r => .tup [.it .i64 r.1, .it .i64 r.2.1, .fl .f32 r.2.2]
noncomputable def impl_bestPair.c : List V → Hp → T V := cdQ impl_bestPair.cd (fun a => .br (impl_bestPair.ok a.1 a.2.1 a.2.2) (.leaf (impl_bestPair.enc a (impl_bestPair a.1 a.2.1 a.2.2))) .bad)
theorem impl_bestPair.run (a : Nat × Nat × List Int) : runF impl_bestPair.C Try.f33.results.toList impl_bestPair.b (impl_bestPair.cd.enc a).1 (impl_bestPair.cd.enc a).2 = (impl_bestPair.tr a).map fun r => (impl_bestPair.enc a r, (impl_bestPair.cd.enc a).2) := by kernel_rfl
theorem impl_bestPair.cok : OKq Try.prog 33 impl_bestPair.c := con_q' impl_bestPair.cd impl_bestPair.hC Try.func33 (by kernel_rfl) (by kernel_rfl) (by kernel_rfl) impl_bestPair.lp (fun a => by kernel_rfl) impl_bestPair.run (Tells.ok (tree := impl_bestPair.tr))
/-! ### impl_AddWheel -/
noncomputable def impl_AddWheel.b : Code := bodyOf Try.f9
noncomputable def impl_AddWheel.l8.s (x0 : Nat) (x1 : Nat) (x2 : Int) (x3 : Nat) (x4 : Int) (x5 : List Int) : T ((Int × Nat × Int) ⊕ (Int × Nat)) :=
  .br (decide (x4 ≤ (200 : Int)))
  (.br (slices_BinarySearch_int16_int16.ok x0 x4 x5)
   (.br ((slices_BinarySearch_int16_int16 x0 x4 x5).2)
    (.leaf (.inl (x2, x3, (IntKind.wrap .i16 (x4 + (1 : Int))))))
    (.br (Nat.ble 1 x0 && (Nat.ble x0 1048576 && Nat.ble (0 + x0) (List.length x5)))
     (.br (Nat.beq x0 (List.length (List.take x0 (List.drop 0 x5))) && (Nat.ble x0 1048576 && (decide (0 ≤ (slices_BinarySearch_int16_int16 x0 x4 x5).1) && (Nat.ble (Int.toNat ((slices_BinarySearch_int16_int16 x0 x4 x5).1)) x0 && (Nat.beq 1 1 && Nat.beq (List.length [x4]) 1)))))
      (.br (impl_bestPair.ok (x0 + 1) x1 (insI (List.take x0 (List.drop 0 x5)) (Int.toNat ((slices_BinarySearch_int16_int16 x0 x4 x5).1)) [x4]))
       (.br (x2 == (0 : Int))
        (.leaf (.inl ((IntKind.wrap .i64 x4), (impl_bestPair (x0 + 1) x1 (insI (List.take x0 (List.drop 0 x5)) (Int.toNat ((slices_BinarySearch_int16_int16 x0 x4 x5).1)) [x4])).2.2, (IntKind.wrap .i16 (x4 + (1 : Int))))))
        (.br (flt .f32 (impl_bestPair (x0 + 1) x1 (insI (List.take x0 (List.drop 0 x5)) (Int.toNat ((slices_BinarySearch_int16_int16 x0 x4 x5).1)) [x4])).2.2 x3)
         (.leaf (.inl ((IntKind.wrap .i64 x4), (impl_bestPair (x0 + 1) x1 (insI (List.take x0 (List.drop 0 x5)) (Int.toNat ((slices_BinarySearch_int16_int16 x0 x4 x5).1)) [x4])).2.2, (IntKind.wrap .i16 (x4 + (1 : Int))))))
         (.leaf (.inl (x2, x3, (IntKind.wrap .i16 (x4 + (1 : Int))))))))
       .bad)
      .bad)
     .bad))
   .bad)
  (.leaf (.inr (x2, x3)))
noncomputable def impl_AddWheel.l8.st (p : Nat × Nat × List Int) (x : Int × Nat × Int) : T ((Int × Nat × Int) ⊕ (Int × Nat)) := impl_AddWheel.l8.s p.1 p.2.1 x.1 x.2.1 x.2.2 p.2.2
noncomputable def impl_AddWheel.l8.r (p : Nat × Nat × List Int) (x : Int × Nat × Int) : Option (Int × Nat) := iterT (impl_AddWheel.l8.st p) manyRounds x
def impl_AddWheel.l8.cd : Cd ((Nat × Nat × List Int) × (Int × Nat × Int)) (List V × Hp) := Cd.iso (Cd.pair (Cd.cons (Cd.own 0) (Cd.cons (Cd.fl .f32) (Cd.cons (Cd.it .i64) (Cd.cons (Cd.fl .f32) (Cd.cons (Cd.it .i16) Cd.nil))))) (Cd.cons (Cd.rw 56 1 (Cd.is .i16)) Cd.nil)) (fun a => ((a.1.1, a.1.2.1, a.2.1), (a.1.2.2.1, a.1.2.2.2.1, a.1.2.2.2.2.1))) (fun a => ((a.1.1, (a.1.2.1, (a.2.1, (a.2.2.1, (a.2.2.2, ()))))), (a.1.2.2, ()))) (fun _ => rfl)
def impl_AddWheel.l8.out (p : Nat × Nat × List Int) : (Int × Nat) → X × List V × Hp := (fun r => (.ex 1, [.it .i64 r.1, .fl .f32 r.2], [some ⟨true, 56, 1, .is .i16 p.2.2⟩]))
def impl_AddWheel.l8.ex (p : Nat × Nat × List Int) : (Int × Nat) → T (X × List V × Hp) := leafT (fun r => (.ex 1, [.it .i64 r.1, .fl .f32 r.2], [some ⟨true, 56, 1, .is .i16 p.2.2⟩]))
noncomputable def impl_AddWheel.l8.c : List V → Hp → T (X × List V × Hp) := cdL impl_AddWheel.l8.cd fun x => optT (impl_AddWheel.l8.r x.1 x.2) (impl_AddWheel.l8.ex x.1)
noncomputable def impl_AddWheel.C : Ctx := { ty := tys, fn := [(31, .q impl_isTarget.c), (30, .q impl_boxCode.c), (32, .q slices_BinarySearch_int16_int16.c), (35, .e (cloneC 56)), (34, .e (insertC 56)), (33, .q impl_bestPair.c)], lp := [(8, ⟨[0, 1, 8, 9, 10], [8, 9], impl_AddWheel.l8.c⟩)], n := 63, k := 1 }
theorem impl_AddWheel.hC : CtxOK Try.prog impl_AddWheel.C := CtxOK.of mo tys_ok (FnsOK.cons impl_isTarget.cok (FnsOK.cons impl_boxCode.cok (FnsOK.cons slices_BinarySearch_int16_int16.cok (FnsOK.cons (clone_ok Try.func35 (by kernel_rfl) (by kernel_rfl)) (FnsOK.cons (insert_ok Try.func34 (by kernel_rfl) (by kernel_rfl)) (FnsOK.cons impl_bestPair.cok FnsOK.nil))))))
noncomputable def impl_AddWheel.b8 : Code := (nthC (loopsOf impl_AddWheel.b) 0)
theorem impl_AddWheel.lp8 : LpOK Try.prog impl_AddWheel.C impl_AddWheel.b8 := (LpOK.nil (by kernel_rfl))
theorem impl_AddWheel.l8.round (p : Nat × Nat × List Int) (s : Int × Nat × Int) : roundL impl_AddWheel.C [0, 1, 8, 9, 10] [8, 9] impl_AddWheel.b8 (impl_AddWheel.l8.cd.enc (p, s)).1 (impl_AddWheel.l8.cd.enc (p, s)).2 = (impl_AddWheel.l8.st p s).map (encSum (fun s => impl_AddWheel.l8.cd.enc (p, s)) (impl_AddWheel.l8.out p)) := by kernel_rfl
theorem impl_AddWheel.l8.lok : LoopOK Try.prog impl_AddWheel.C ⟨[0, 1, 8, 9, 10], [8, 9], impl_AddWheel.l8.c⟩ impl_AddWheel.b8 := loop_cd impl_AddWheel.l8.cd impl_AddWheel.hC impl_AddWheel.lp8 impl_AddWheel.l8.round fun p => Gets.leaf
theorem impl_AddWheel.lp : LpOK Try.prog impl_AddWheel.C impl_AddWheel.b := lp_of (by kernel_rfl) (LpsOK.cons (k := 8) (by kernel_rfl) (by kernel_rfl) impl_AddWheel.l8.lok LpsOK.nil)
noncomputable def impl_AddWheel.t (x0 : Nat) (x1 : Nat) (x2 : List Int) : T (Int × Nat × Int) :=
  .br (impl_boxCode.ok x0 (impl_isTarget x1) x2)
  (.br ((impl_boxCode x0 (impl_isTarget x1) x2) != (0 : Int))
   (.leaf ((0 : Int), 0, (impl_boxCode x0 (impl_isTarget x1) x2)))
   (.br (((x0 : Nat) : Int) == (24 : Int))
    (.leaf ((0 : Int), 0, (3 : Int)))
    (.br (Option.isSome (impl_AddWheel.l8.r (x0, x1, x2) ((0 : Int), 0, (6 : Int))))
     (.leaf ((Option.getD (impl_AddWheel.l8.r (x0, x1, x2) ((0 : Int), 0, (6 : Int))) default).1, (Option.getD (impl_AddWheel.l8.r (x0, x1, x2) ((0 : Int), 0, (6 : Int))) default).2, (0 : Int)))
     .bad)))
  .bad
noncomputable def impl_AddWheel (x0 : Nat) (x1 : Nat) (x2 : List Int) : Int × Nat × Int := (impl_AddWheel.t x0 x1 x2).val
noncomputable def impl_AddWheel.ok (x0 : Nat) (x1 : Nat) (x2 : List Int) : Bool := (impl_AddWheel.t x0 x1 x2).ok
def impl_AddWheel.cd : Cd (Nat × Nat × List Int) (List V × Hp) := Cd.iso (Cd.pair (Cd.cons (Cd.own 0) (Cd.cons (Cd.fl .f32) Cd.nil)) (Cd.cons (Cd.rw 56 1 (Cd.is .i16)) Cd.nil)) (fun a => (a.1.1, a.1.2.1, a.2.1)) (fun a => ((a.1, (a.2.1, ())), (a.2.2, ()))) (fun _ => rfl)
noncomputable def impl_AddWheel.tr (a : Nat × Nat × List Int) : T (Int × Nat × Int) := impl_AddWheel.t a.1 a.2.1 a.2.2
def impl_AddWheel.enc : (Nat × Nat × List Int) → (Int × Nat × Int) → V := fun a r => .tup [.it .i64 r.1, .fl .f32 r.2.1, .it .i64 r.2.2]
noncomputable def impl_AddWheel.c : List V → Hp → T V := cdQ impl_AddWheel.cd (fun a => .br (impl_AddWheel.ok a.1 a.2.1 a.2.2) (.leaf (impl_AddWheel.enc a (impl_AddWheel a.1 a.2.1 a.2.2))) .bad)
theorem impl_AddWheel.run (a : Nat × Nat × List Int) : runF impl_AddWheel.C Try.f9.results.toList impl_AddWheel.b (impl_AddWheel.cd.enc a).1 (impl_AddWheel.cd.enc a).2 = (impl_AddWheel.tr a).map fun r => (impl_AddWheel.enc a r, (impl_AddWheel.cd.enc a).2) := by kernel_rfl
theorem impl_AddWheel.cok : OKq Try.prog 9 impl_AddWheel.c := con_q' impl_AddWheel.cd impl_AddWheel.hC Try.func9 (by kernel_rfl) (by kernel_rfl) (by kernel_rfl) impl_AddWheel.lp (fun a => by kernel_rfl) impl_AddWheel.run (Tells.ok (tree := impl_AddWheel.tr))
/-! ### laws_sameFloat -/
noncomputable def laws_sameFloat.b : Code := bodyOf Try.f10
noncomputable def laws_sameFloat.C : Ctx := { ty := tys, fn := [], lp := [], n := 37, k := 0 }
theorem laws_sameFloat.hC : CtxOK Try.prog laws_sameFloat.C := CtxOK.of mo tys_ok FnsOK.nil
theorem laws_sameFloat.lp : LpOK Try.prog laws_sameFloat.C laws_sameFloat.b := (LpOK.nil (by kernel_rfl))
noncomputable def laws_sameFloat.t (x0 : Nat) (x1 : Nat) : T Bool :=
  .br (fne .f64 x0 x0)
  (.br (fne .f64 x0 x0)
   (.leaf (fne .f64 x1 x1))
   (.leaf false))
  (.br (fne .f64 x1 x1)
   (.br (fne .f64 x0 x0)
    (.leaf (fne .f64 x1 x1))
    (.leaf false))
   (.br (feq .f64 x0 0)
    (.br (feq .f64 x1 0)
     (.leaf ((fgt .f64 (fdiv .f64 4607182418800017408 x0) 0) == (fgt .f64 (fdiv .f64 4607182418800017408 x1) 0)))
     (.leaf (feq .f64 x0 x1)))
    (.leaf (feq .f64 x0 x1))))
noncomputable def laws_sameFloat (x0 : Nat) (x1 : Nat) : Bool := (laws_sameFloat.t x0 x1).val
def laws_sameFloat.cd : Cd (Nat × Nat) (List V × Hp) := Cd.iso (Cd.pair (Cd.cons (Cd.fl .f64) (Cd.cons (Cd.fl .f64) Cd.nil)) Cd.nil) (fun a => (a.1.1, a.1.2.1)) (fun a => ((a.1, (a.2, ())), ())) (fun _ => rfl)
noncomputable def laws_sameFloat.tr (a : Nat × Nat) : T Bool := laws_sameFloat.t a.1 a.2
def laws_sameFloat.enc : (Nat × Nat) → Bool → V := fun a r => .bo r
noncomputable def laws_sameFloat.c : List V → Hp → T V := cdQ laws_sameFloat.cd (fun a => .leaf (laws_sameFloat.enc a (laws_sameFloat a.1 a.2)))
theorem laws_sameFloat.run (a : Nat × Nat) : runF laws_sameFloat.C Try.f10.results.toList laws_sameFloat.b (laws_sameFloat.cd.enc a).1 (laws_sameFloat.cd.enc a).2 = (laws_sameFloat.tr a).map fun r => (laws_sameFloat.enc a r, (laws_sameFloat.cd.enc a).2) := by kernel_rfl
theorem laws_sameFloat.cok : OKq Try.prog 10 laws_sameFloat.c := con_q' laws_sameFloat.cd laws_sameFloat.hC Try.func10 (by kernel_rfl) (by kernel_rfl) (by kernel_rfl) laws_sameFloat.lp (fun a => by kernel_rfl) laws_sameFloat.run (Tells.val (tree := laws_sameFloat.tr) fun a => by kernel_rfl)
/-! ### laws_eqInt16S -/
noncomputable def laws_eqInt16S.b : Code := bodyOf Try.f11
noncomputable def laws_eqInt16S.l4.s (x0 : Nat) (x1 : Nat) (x2 : Int) (x3 : List Int) (x4 : List Int) : T (Int ⊕ (Bool ⊕ Unit)) :=
  .br (decide (x2 < ((x0 : Nat) : Int)))
  (.br (bounds x2 x0)
   (.br (Nat.ble ((Int.toNat x2 * 1) + 1) (List.length x3))
    (.br (bounds x2 x1)
     (.br (Nat.ble ((Int.toNat x2 * 1) + 1) (List.length x4))
      (.br ((List.getD x3 (Int.toNat x2 * 1) 0) != (List.getD x4 (Int.toNat x2 * 1) 0))
       (.leaf (.inr (.inl false)))
       (.leaf (.inl (IntKind.wrap .i64 (x2 + (1 : Int))))))
      .bad)
     .bad)
    .bad)
   .bad)
  (.leaf (.inr (.inr ())))
noncomputable def laws_eqInt16S.l4.st (p : Nat × Nat × List Int × List Int) (x : Int) : T (Int ⊕ (Bool ⊕ Unit)) := laws_eqInt16S.l4.s p.1 p.2.1 x p.2.2.1 p.2.2.2
noncomputable def laws_eqInt16S.l4.r (p : Nat × Nat × List Int × List Int) (x : Int) : Option (Bool ⊕ Unit) := iterT (laws_eqInt16S.l4.st p) manyRounds x
def laws_eqInt16S.l4.cd : Cd ((Nat × Nat × List Int × List Int) × Int) (List V × Hp) := Cd.iso (Cd.pair (Cd.cons (Cd.own 0) (Cd.cons (Cd.own 1) (Cd.cons (Cd.it .i64) Cd.nil))) (Cd.cons (Cd.rw 56 1 (Cd.is .i16)) (Cd.cons (Cd.rw 56 1 (Cd.is .i16)) Cd.nil))) (fun a => ((a.1.1, a.1.2.1, a.2.1, a.2.2.1), a.1.2.2.1)) (fun a => ((a.1.1, (a.1.2.1, (a.2, ()))), (a.1.2.2.1, (a.1.2.2.2, ())))) (fun _ => rfl)
def laws_eqInt16S.l4.out (p : Nat × Nat × List Int × List Int) : (Bool ⊕ Unit) → X × List V × Hp := sumO (fun r => (.ret, [.bo r], [some ⟨true, 56, 1, .is .i16 p.2.2.1⟩, some ⟨true, 56, 1, .is .i16 p.2.2.2⟩])) (fun r => (.ex 0, [.unk], [some ⟨true, 56, 1, .is .i16 p.2.2.1⟩, some ⟨true, 56, 1, .is .i16 p.2.2.2⟩]))
def laws_eqInt16S.l4.ex (p : Nat × Nat × List Int × List Int) : (Bool ⊕ Unit) → T (X × List V × Hp) := sumT (leafT (fun r => (.ret, [.bo r], [some ⟨true, 56, 1, .is .i16 p.2.2.1⟩, some ⟨true, 56, 1, .is .i16 p.2.2.2⟩]))) (leafT (fun r => (.ex 0, [.unk], [some ⟨true, 56, 1, .is .i16 p.2.2.1⟩, some ⟨true, 56, 1, .is .i16 p.2.2.2⟩])))
noncomputable def laws_eqInt16S.l4.c : List V → Hp → T (X × List V × Hp) := cdL laws_eqInt16S.l4.cd fun x => optT (laws_eqInt16S.l4.r x.1 x.2) (laws_eqInt16S.l4.ex x.1)
noncomputable def laws_eqInt16S.C : Ctx := { ty := tys, fn := [], lp := [(4, ⟨[0, 1, 5], [4], laws_eqInt16S.l4.c⟩)], n := 26, k := 2 }
theorem laws_eqInt16S.hC : CtxOK Try.prog laws_eqInt16S.C := CtxOK.of mo tys_ok FnsOK.nil
noncomputable def laws_eqInt16S.b4 : Code := (nthC (loopsOf laws_eqInt16S.b) 0)
theorem laws_eqInt16S.lp4 : LpOK Try.prog laws_eqInt16S.C laws_eqInt16S.b4 := (LpOK.nil (by kernel_rfl))
theorem laws_eqInt16S.l4.round (p : Nat × Nat × List Int × List Int) (s : Int) : roundL laws_eqInt16S.C [0, 1, 5] [4] laws_eqInt16S.b4 (laws_eqInt16S.l4.cd.enc (p, s)).1 (laws_eqInt16S.l4.cd.enc (p, s)).2 = (laws_eqInt16S.l4.st p s).map (encSum (fun s => laws_eqInt16S.l4.cd.enc (p, s)) (laws_eqInt16S.l4.out p)) := by kernel_rfl
theorem laws_eqInt16S.l4.lok : LoopOK Try.prog laws_eqInt16S.C ⟨[0, 1, 5], [4], laws_eqInt16S.l4.c⟩ laws_eqInt16S.b4 := loop_cd laws_eqInt16S.l4.cd laws_eqInt16S.hC laws_eqInt16S.lp4 laws_eqInt16S.l4.round fun p => (Gets.sum Gets.leaf Gets.leaf)
theorem laws_eqInt16S.lp : LpOK Try.prog laws_eqInt16S.C laws_eqInt16S.b := lp_of (by kernel_rfl) (LpsOK.cons (k := 4) (by kernel_rfl) (by kernel_rfl) laws_eqInt16S.l4.lok LpsOK.nil)
noncomputable def laws_eqInt16S.t (x0 : Nat) (x1 : Nat) (x2 : List Int) (x3 : List Int) : T Bool :=
  .br (((x0 : Nat) : Int) != ((x1 : Nat) : Int))
  (.leaf false)
  (.br (Option.isSome (laws_eqInt16S.l4.r (x0, x1, x2, x3) (0 : Int)))
   (.br (Sum.isLeft (Option.getD (laws_eqInt16S.l4.r (x0, x1, x2, x3) (0 : Int)) default))
    (.leaf (getLeftD (Option.getD (laws_eqInt16S.l4.r (x0, x1, x2, x3) (0 : Int)) default)))
    (.leaf true))
   .bad)
noncomputable def laws_eqInt16S (x0 : Nat) (x1 : Nat) (x2 : List Int) (x3 : List Int) : Bool := (laws_eqInt16S.t x0 x1 x2 x3).val
noncomputable def laws_eqInt16S.ok (x0 : Nat) (x1 : Nat) (x2 : List Int) (x3 : List Int) : Bool := (laws_eqInt16S.t x0 x1 x2 x3).ok
def laws_eqInt16S.cd : Cd (Nat × Nat × List Int × List Int) (List V × Hp) := Cd.iso (Cd.pair (Cd.cons (Cd.own 0) (Cd.cons (Cd.own 1) Cd.nil)) (Cd.cons (Cd.rw 56 1 (Cd.is .i16)) (Cd.cons (Cd.rw 56 1 (Cd.is .i16)) Cd.nil))) (fun a => (a.1.1, a.1.2.1, a.2.1, a.2.2.1)) (fun a => ((a.1, (a.2.1, ())), (a.2.2.1, (a.2.2.2, ())))) (fun _ => rfl)
noncomputable def laws_eqInt16S.tr (a : Nat × Nat × List Int × List Int) : T Bool := laws_eqInt16S.t a.1 a.2.1 a.2.2.1 a.2.2.2
def laws_eqInt16S.enc : (Nat × Nat × List Int × List Int) → Bool → V := fun a r => .bo r
noncomputable def laws_eqInt16S.c : List V → Hp → T V := cdQ laws_eqInt16S.cd (fun a => .br (laws_eqInt16S.ok a.1 a.2.1 a.2.2.1 a.2.2.2) (.leaf (laws_eqInt16S.enc a (laws_eqInt16S a.1 a.2.1 a.2.2.1 a.2.2.2))) .bad)
theorem laws_eqInt16S.run (a : Nat × Nat × List Int × List Int) : runF laws_eqInt16S.C Try.f11.results.toList laws_eqInt16S.b (laws_eqInt16S.cd.enc a).1 (laws_eqInt16S.cd.enc a).2 = (laws_eqInt16S.tr a).map fun r => (laws_eqInt16S.enc a r, (laws_eqInt16S.cd.enc a).2) := by kernel_rfl
theorem laws_eqInt16S.cok : OKq Try.prog 11 laws_eqInt16S.c := con_q' laws_eqInt16S.cd laws_eqInt16S.hC Try.func11 (by kernel_rfl) (by kernel_rfl) (by kernel_rfl) laws_eqInt16S.lp (fun a => by kernel_rfl) laws_eqInt16S.run (Tells.ok (tree := laws_eqInt16S.tr))
/-! ### laws_FnExactAddWheel -/
noncomputable def laws_FnExactAddWheel.b : Code := bodyOf Try.f3
noncomputable def laws_FnExactAddWheel.C : Ctx := { ty := tys, fn := [(8, .e laws_toInt16S.c), (7, .q spec_AddWheel.c), (9, .q impl_AddWheel.c), (10, .q laws_sameFloat.c), (11, .q laws_eqInt16S.c)], lp := [], n := 53, k := 1 }
theorem laws_FnExactAddWheel.hC : CtxOK Try.prog laws_FnExactAddWheel.C := CtxOK.of mo tys_ok (FnsOK.cons laws_toInt16S.cok (FnsOK.cons spec_AddWheel.cok (FnsOK.cons impl_AddWheel.cok (FnsOK.cons laws_sameFloat.cok (FnsOK.cons laws_eqInt16S.cok FnsOK.nil)))))
theorem laws_FnExactAddWheel.lp : LpOK Try.prog laws_FnExactAddWheel.C laws_FnExactAddWheel.b := (LpOK.nil (by kernel_rfl))
noncomputable def laws_FnExactAddWheel.t (x0 : Nat) (x1 : Nat) (x2 : List Int) : T Bool :=
  .br (decide (((x0 : Nat) : Int) > (1048576 : Int)))
  (.leaf true)
  (.br (laws_toInt16S.ok x0 x2)
   (.br (spec_AddWheel.ok ((laws_toInt16S x0 x2).1) x1 ((laws_toInt16S x0 x2).2))
    (.br (laws_toInt16S.ok x0 x2)
     (.br (impl_AddWheel.ok ((laws_toInt16S x0 x2).1) x1 ((laws_toInt16S x0 x2).2))
      (.br ((impl_AddWheel ((laws_toInt16S x0 x2).1) x1 ((laws_toInt16S x0 x2).2)).1 != (spec_AddWheel ((laws_toInt16S x0 x2).1) x1 ((laws_toInt16S x0 x2).2)).1)
       (.leaf false)
       (.br (fcvOpen .f32 .f64 (impl_AddWheel ((laws_toInt16S x0 x2).1) x1 ((laws_toInt16S x0 x2).2)).2.1)
        .bad
        (.br (fcvOpen .f32 .f64 (spec_AddWheel ((laws_toInt16S x0 x2).1) x1 ((laws_toInt16S x0 x2).2)).2.1)
         .bad
         (.br (!(laws_sameFloat (fcv .f32 .f64 (impl_AddWheel ((laws_toInt16S x0 x2).1) x1 ((laws_toInt16S x0 x2).2)).2.1) (fcv .f32 .f64 (spec_AddWheel ((laws_toInt16S x0 x2).1) x1 ((laws_toInt16S x0 x2).2)).2.1)))
          (.leaf false)
          (.br ((impl_AddWheel ((laws_toInt16S x0 x2).1) x1 ((laws_toInt16S x0 x2).2)).2.2 != (spec_AddWheel ((laws_toInt16S x0 x2).1) x1 ((laws_toInt16S x0 x2).2)).2.2)
           (.leaf false)
           (.br (laws_toInt16S.ok x0 x2)
            (.br (laws_eqInt16S.ok ((laws_toInt16S x0 x2).1) ((laws_toInt16S x0 x2).1) ((laws_toInt16S x0 x2).2) ((laws_toInt16S x0 x2).2))
             (.br (!(laws_eqInt16S ((laws_toInt16S x0 x2).1) ((laws_toInt16S x0 x2).1) ((laws_toInt16S x0 x2).2) ((laws_toInt16S x0 x2).2)))
              (.leaf false)
              (.leaf true))
             .bad)
            .bad))))))
      .bad)
     .bad)
    .bad)
   .bad)
noncomputable def laws_FnExactAddWheel (x0 : Nat) (x1 : Nat) (x2 : List Int) : Bool := (laws_FnExactAddWheel.t x0 x1 x2).val
noncomputable def laws_FnExactAddWheel.ok (x0 : Nat) (x1 : Nat) (x2 : List Int) : Bool := (laws_FnExactAddWheel.t x0 x1 x2).ok
def laws_FnExactAddWheel.cd : Cd (Nat × Nat × List Int) (List V × Hp) := Cd.iso (Cd.pair (Cd.cons (Cd.sl 0 (Cd.natc 0)) (Cd.cons (Cd.fl .f32) Cd.nil)) (Cd.cons (Cd.ro 0 0 (Cd.is .i16)) Cd.nil)) (fun a => (a.1.1.2, a.1.2.1, a.2.1)) (fun a => ((((), a.1), (a.2.1, ())), (a.2.2, ()))) (fun _ => rfl)
noncomputable def laws_FnExactAddWheel.tr (a : Nat × Nat × List Int) : T Bool := laws_FnExactAddWheel.t a.1 a.2.1 a.2.2
def laws_FnExactAddWheel.enc : (Nat × Nat × List Int) → Bool → V := fun a r => .bo r
noncomputable def laws_FnExactAddWheel.c : List V → Hp → T V := cdQ laws_FnExactAddWheel.cd (fun a => .br (laws_FnExactAddWheel.ok a.1 a.2.1 a.2.2) (.leaf (laws_FnExactAddWheel.enc a (laws_FnExactAddWheel a.1 a.2.1 a.2.2))) .bad)
theorem laws_FnExactAddWheel.run (a : Nat × Nat × List Int) : runF laws_FnExactAddWheel.C Try.f3.results.toList laws_FnExactAddWheel.b (laws_FnExactAddWheel.cd.enc a).1 (laws_FnExactAddWheel.cd.enc a).2 = (laws_FnExactAddWheel.tr a).map fun r => (laws_FnExactAddWheel.enc a r, (laws_FnExactAddWheel.cd.enc a).2) := by kernel_rfl
theorem laws_FnExactAddWheel.cok : OKq Try.prog 3 laws_FnExactAddWheel.c := con_q' laws_FnExactAddWheel.cd laws_FnExactAddWheel.hC Try.func3 (by kernel_rfl) (by kernel_rfl) (by kernel_rfl) laws_FnExactAddWheel.lp (fun a => by kernel_rfl) laws_FnExactAddWheel.run (Tells.ok (tree := laws_FnExactAddWheel.tr))
theorem laws_FnExactAddWheel.walk (a : Nat × Nat × List Int) (h : (laws_FnExactAddWheel.tr a).get = some true) {ρ : Nat → Option Sx.Loc} {w : World} {vs : List Value} (hargs : V.Rs ρ (laws_FnExactAddWheel.cd.enc a).1 vs) (hh : HpR ρ (laws_FnExactAddWheel.cd.enc a).2 w) :
    Calls Try.prog 3 vs.toArray w fun e w' => e = .returned (.bool true) ∧ Below w.heap.size w w' :=
  law_cd laws_FnExactAddWheel.cd laws_FnExactAddWheel.hC Try.func3 (by kernel_rfl) (by kernel_rfl) laws_FnExactAddWheel.lp (fun a => by kernel_rfl) laws_FnExactAddWheel.run (fun a => by kernel_rfl) a (by kernel_rfl) h hargs hh
end Go.Proofs.Ytkfpmiggolmabaa
