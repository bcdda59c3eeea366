/- The walk of FnExactConvergentsOf: what each function that it comes to computes, as a tree of tests. -/
import Derived.Test.YthllapodgemlfaaSxP
import Derived.Test.YthllapodgemlfaaChecked
namespace Go.Proofs.Ythllapodgemlfaa
open Go Go.RowKit Sx
set_option linter.unusedVariables false
set_option maxRecDepth 100000
set_option maxHeartbeats 0
noncomputable def ti1 : TI := ⟨Try.t1.desc, 1, 8, [.nf]⟩
theorem ti1_ok : TyOK Try.prog 1 ti1 := TyOK.of (inf := Try.t1) Try.underlying1 (by kernel_rfl) (by kernel_rfl) (by kernel_rfl) (by kernel_rfl)
noncomputable def ti2 : TI := ⟨Try.t2.desc, 1, 8, [.it .i64 (0 : Int)]⟩
theorem ti2_ok : TyOK Try.prog 2 ti2 := TyOK.of (inf := Try.t2) Try.underlying2 (by kernel_rfl) (by kernel_rfl) (by kernel_rfl) (by kernel_rfl)
noncomputable def ti3 : TI := ⟨Try.t3.desc, 1, 8, [.it .i64 (0 : Int)]⟩
theorem ti3_ok : TyOK Try.prog 3 ti3 := TyOK.of (inf := Try.t3) Try.underlying3 (by kernel_rfl) (by kernel_rfl) (by kernel_rfl) (by kernel_rfl)
noncomputable def ti4 : TI := ⟨Try.t4.desc, 1, 1, [.kb false]⟩
theorem ti4_ok : TyOK Try.prog 4 ti4 := TyOK.of (inf := Try.t4) Try.underlying4 (by kernel_rfl) (by kernel_rfl) (by kernel_rfl) (by kernel_rfl)
noncomputable def ti5 : TI := ⟨Try.t5.desc, 1, 1, [.it .u8 (0 : Int)]⟩
theorem ti5_ok : TyOK Try.prog 5 ti5 := TyOK.of (inf := Try.t5) Try.underlying5 (by kernel_rfl) (by kernel_rfl) (by kernel_rfl) (by kernel_rfl)
noncomputable def ti6 : TI := ⟨Try.t5.desc, 1, 1, [.it .u8 (0 : Int)]⟩
theorem ti6_ok : TyOK Try.prog 6 ti6 := TyOK.of (inf := Try.t6) Try.underlying6 (by kernel_rfl) (by kernel_rfl) (by kernel_rfl) (by kernel_rfl)
noncomputable def ti7 : TI := ⟨Try.t7.desc, 4, 24, [.it .i64 (0 : Int), .it .i64 (0 : Int), .kb false, .it .u8 (0 : Int)]⟩
theorem ti7_ok : TyOK Try.prog 7 ti7 := TyOK.of (inf := Try.t7) Try.underlying7 (by kernel_rfl) (by kernel_rfl) (by kernel_rfl) (by kernel_rfl)
noncomputable def ti8 : TI := ⟨Try.t7.desc, 4, 24, [.it .i64 (0 : Int), .it .i64 (0 : Int), .kb false, .it .u8 (0 : Int)]⟩
theorem ti8_ok : TyOK Try.prog 8 ti8 := TyOK.of (inf := Try.t8) Try.underlying8 (by kernel_rfl) (by kernel_rfl) (by kernel_rfl) (by kernel_rfl)
noncomputable def ti9 : TI := ⟨Try.t9.desc, 1, 16, [.st (ByteArray.mk #[])]⟩
theorem ti9_ok : TyOK Try.prog 9 ti9 := TyOK.of (inf := Try.t9) Try.underlying9 (by kernel_rfl) (by kernel_rfl) (by kernel_rfl) (by kernel_rfl)
noncomputable def ti10 : TI := ⟨Try.t9.desc, 1, 16, [.st (ByteArray.mk #[])]⟩
theorem ti10_ok : TyOK Try.prog 10 ti10 := TyOK.of (inf := Try.t10) Try.underlying10 (by kernel_rfl) (by kernel_rfl) (by kernel_rfl) (by kernel_rfl)
noncomputable def ti11 : TI := ⟨Try.t9.desc, 1, 16, [.st (ByteArray.mk #[])]⟩
theorem ti11_ok : TyOK Try.prog 11 ti11 := TyOK.of (inf := Try.t11) Try.underlying11 (by kernel_rfl) (by kernel_rfl) (by kernel_rfl) (by kernel_rfl)
noncomputable def ti12 : TI := ⟨Try.t12.desc, 1, 8, [.it .u64 (0 : Int)]⟩
theorem ti12_ok : TyOK Try.prog 12 ti12 := TyOK.of (inf := Try.t12) Try.underlying12 (by kernel_rfl) (by kernel_rfl) (by kernel_rfl) (by kernel_rfl)
noncomputable def ti13 : TI := ⟨Try.t13.desc, 2, 24, [.st (ByteArray.mk #[]), .it .u64 (0 : Int)]⟩
theorem ti13_ok : TyOK Try.prog 13 ti13 := TyOK.of (inf := Try.t13) Try.underlying13 (by kernel_rfl) (by kernel_rfl) (by kernel_rfl) (by kernel_rfl)
noncomputable def ti14 : TI := ⟨Try.t13.desc, 2, 24, [.st (ByteArray.mk #[]), .it .u64 (0 : Int)]⟩
theorem ti14_ok : TyOK Try.prog 14 ti14 := TyOK.of (inf := Try.t14) Try.underlying14 (by kernel_rfl) (by kernel_rfl) (by kernel_rfl) (by kernel_rfl)
noncomputable def ti15 : TI := ⟨Try.t15.desc, 1, 8, [.pn]⟩
theorem ti15_ok : TyOK Try.prog 15 ti15 := TyOK.of (inf := Try.t15) Try.underlying15 (by kernel_rfl) (by kernel_rfl) (by kernel_rfl) (by kernel_rfl)
noncomputable def ti16 : TI := ⟨Try.t16.desc, 1, 8, [.pn]⟩
theorem ti16_ok : TyOK Try.prog 16 ti16 := TyOK.of (inf := Try.t16) Try.underlying16 (by kernel_rfl) (by kernel_rfl) (by kernel_rfl) (by kernel_rfl)
noncomputable def ti17 : TI := ⟨Try.t17.desc, 1, 8, [.pn]⟩
theorem ti17_ok : TyOK Try.prog 17 ti17 := TyOK.of (inf := Try.t17) Try.underlying17 (by kernel_rfl) (by kernel_rfl) (by kernel_rfl) (by kernel_rfl)
noncomputable def ti18 : TI := ⟨Try.t18.desc, 1, 8, [.pn]⟩
theorem ti18_ok : TyOK Try.prog 18 ti18 := TyOK.of (inf := Try.t18) Try.underlying18 (by kernel_rfl) (by kernel_rfl) (by kernel_rfl) (by kernel_rfl)
noncomputable def ti19 : TI := ⟨Try.t18.desc, 1, 8, [.pn]⟩
theorem ti19_ok : TyOK Try.prog 19 ti19 := TyOK.of (inf := Try.t19) Try.underlying19 (by kernel_rfl) (by kernel_rfl) (by kernel_rfl) (by kernel_rfl)
noncomputable def ti21 : TI := ⟨Try.t21.desc, 1, 4, [.it .i32 (0 : Int)]⟩
theorem ti21_ok : TyOK Try.prog 21 ti21 := TyOK.of (inf := Try.t21) Try.underlying21 (by kernel_rfl) (by kernel_rfl) (by kernel_rfl) (by kernel_rfl)
noncomputable def ti22 : TI := ⟨Try.t22.desc, 1, 24, [.sn]⟩
theorem ti22_ok : TyOK Try.prog 22 ti22 := TyOK.of (inf := Try.t22) Try.underlying22 (by kernel_rfl) (by kernel_rfl) (by kernel_rfl) (by kernel_rfl)
noncomputable def ti23 : TI := ⟨Try.t23.desc, 1, 8, [.nf]⟩
theorem ti23_ok : TyOK Try.prog 23 ti23 := TyOK.of (inf := Try.t23) Try.underlying23 (by kernel_rfl) (by kernel_rfl) (by kernel_rfl) (by kernel_rfl)
noncomputable def ti24 : TI := ⟨Try.t24.desc, 1, 8, [.nf]⟩
theorem ti24_ok : TyOK Try.prog 24 ti24 := TyOK.of (inf := Try.t24) Try.underlying24 (by kernel_rfl) (by kernel_rfl) (by kernel_rfl) (by kernel_rfl)
noncomputable def ti25 : TI := ⟨Try.t25.desc, 1, 8, [.nf]⟩
theorem ti25_ok : TyOK Try.prog 25 ti25 := TyOK.of (inf := Try.t25) Try.underlying25 (by kernel_rfl) (by kernel_rfl) (by kernel_rfl) (by kernel_rfl)
noncomputable def ti26 : TI := ⟨Try.t26.desc, 1, 4, [.fl .f32 0]⟩
theorem ti26_ok : TyOK Try.prog 26 ti26 := TyOK.of (inf := Try.t26) Try.underlying26 (by kernel_rfl) (by kernel_rfl) (by kernel_rfl) (by kernel_rfl)
noncomputable def ti28 : TI := ⟨Try.t28.desc, 1, 8, [.nf]⟩
theorem ti28_ok : TyOK Try.prog 28 ti28 := TyOK.of (inf := Try.t28) Try.underlying28 (by kernel_rfl) (by kernel_rfl) (by kernel_rfl) (by kernel_rfl)
noncomputable def ti29 : TI := ⟨Try.t29.desc, 1, 8, [.nf]⟩
theorem ti29_ok : TyOK Try.prog 29 ti29 := TyOK.of (inf := Try.t29) Try.underlying29 (by kernel_rfl) (by kernel_rfl) (by kernel_rfl) (by kernel_rfl)
noncomputable def ti30 : TI := ⟨Try.t30.desc, 1, 8, [.fl .f64 0]⟩
theorem ti30_ok : TyOK Try.prog 30 ti30 := TyOK.of (inf := Try.t30) Try.underlying30 (by kernel_rfl) (by kernel_rfl) (by kernel_rfl) (by kernel_rfl)
noncomputable def ti31 : TI := ⟨Try.t31.desc, 1, 8, [.nf]⟩
theorem ti31_ok : TyOK Try.prog 31 ti31 := TyOK.of (inf := Try.t31) Try.underlying31 (by kernel_rfl) (by kernel_rfl) (by kernel_rfl) (by kernel_rfl)
noncomputable def ti32 : TI := ⟨Try.t32.desc, 2, 16, [.it .i64 (0 : Int), .it .i64 (0 : Int)]⟩
theorem ti32_ok : TyOK Try.prog 32 ti32 := TyOK.of (inf := Try.t32) Try.underlying32 (by kernel_rfl) (by kernel_rfl) (by kernel_rfl) (by kernel_rfl)
noncomputable def ti33 : TI := ⟨Try.t32.desc, 2, 16, [.it .i64 (0 : Int), .it .i64 (0 : Int)]⟩
theorem ti33_ok : TyOK Try.prog 33 ti33 := TyOK.of (inf := Try.t33) Try.underlying33 (by kernel_rfl) (by kernel_rfl) (by kernel_rfl) (by kernel_rfl)
noncomputable def ti35 : TI := ⟨Try.t35.desc, 1, 8, [.nf]⟩
theorem ti35_ok : TyOK Try.prog 35 ti35 := TyOK.of (inf := Try.t35) Try.underlying35 (by kernel_rfl) (by kernel_rfl) (by kernel_rfl) (by kernel_rfl)
noncomputable def ti36 : TI := ⟨Try.t36.desc, 1, 8, [.nf]⟩
theorem ti36_ok : TyOK Try.prog 36 ti36 := TyOK.of (inf := Try.t36) Try.underlying36 (by kernel_rfl) (by kernel_rfl) (by kernel_rfl) (by kernel_rfl)
noncomputable def ti37 : TI := ⟨Try.t37.desc, 1, 8, [.nf]⟩
theorem ti37_ok : TyOK Try.prog 37 ti37 := TyOK.of (inf := Try.t37) Try.underlying37 (by kernel_rfl) (by kernel_rfl) (by kernel_rfl) (by kernel_rfl)
noncomputable def ti38 : TI := ⟨Try.t38.desc, 1, 8, [.nf]⟩
theorem ti38_ok : TyOK Try.prog 38 ti38 := TyOK.of (inf := Try.t38) Try.underlying38 (by kernel_rfl) (by kernel_rfl) (by kernel_rfl) (by kernel_rfl)
noncomputable def ti39 : TI := ⟨Try.t39.desc, 1, 8, [.nf]⟩
theorem ti39_ok : TyOK Try.prog 39 ti39 := TyOK.of (inf := Try.t39) Try.underlying39 (by kernel_rfl) (by kernel_rfl) (by kernel_rfl) (by kernel_rfl)
noncomputable def ti40 : TI := ⟨Try.t40.desc, 1, 8, [.nf]⟩
theorem ti40_ok : TyOK Try.prog 40 ti40 := TyOK.of (inf := Try.t40) Try.underlying40 (by kernel_rfl) (by kernel_rfl) (by kernel_rfl) (by kernel_rfl)
noncomputable def ti41 : TI := ⟨Try.t41.desc, 1, 8, [.nf]⟩
theorem ti41_ok : TyOK Try.prog 41 ti41 := TyOK.of (inf := Try.t41) Try.underlying41 (by kernel_rfl) (by kernel_rfl) (by kernel_rfl) (by kernel_rfl)
noncomputable def ti42 : TI := ⟨Try.t42.desc, 1, 24, [.sn]⟩
theorem ti42_ok : TyOK Try.prog 42 ti42 := TyOK.of (inf := Try.t42) Try.underlying42 (by kernel_rfl) (by kernel_rfl) (by kernel_rfl) (by kernel_rfl)
noncomputable def ti44 : TI := ⟨Try.t44.desc, 1, 8, [.nf]⟩
theorem ti44_ok : TyOK Try.prog 44 ti44 := TyOK.of (inf := Try.t44) Try.underlying44 (by kernel_rfl) (by kernel_rfl) (by kernel_rfl) (by kernel_rfl)
noncomputable def ti45 : TI := ⟨Try.t45.desc, 1, 8, [.nf]⟩
theorem ti45_ok : TyOK Try.prog 45 ti45 := TyOK.of (inf := Try.t45) Try.underlying45 (by kernel_rfl) (by kernel_rfl) (by kernel_rfl) (by kernel_rfl)
noncomputable def ti46 : TI := ⟨Try.t46.desc, 1, 8, [.nf]⟩
theorem ti46_ok : TyOK Try.prog 46 ti46 := TyOK.of (inf := Try.t46) Try.underlying46 (by kernel_rfl) (by kernel_rfl) (by kernel_rfl) (by kernel_rfl)
noncomputable def ti47 : TI := ⟨Try.t47.desc, 1, 2, [.it .i16 (0 : Int)]⟩
theorem ti47_ok : TyOK Try.prog 47 ti47 := TyOK.of (inf := Try.t47) Try.underlying47 (by kernel_rfl) (by kernel_rfl) (by kernel_rfl) (by kernel_rfl)
noncomputable def ti48 : TI := ⟨Try.t48.desc, 4, 8, [.it .i16 (0 : Int), .it .i16 (0 : Int), .it .i16 (0 : Int), .it .i16 (0 : Int)]⟩
theorem ti48_ok : TyOK Try.prog 48 ti48 := TyOK.of (inf := Try.t48) Try.underlying48 (by kernel_rfl) (by kernel_rfl) (by kernel_rfl) (by kernel_rfl)
noncomputable def ti49 : TI := ⟨Try.t48.desc, 4, 8, [.it .i16 (0 : Int), .it .i16 (0 : Int), .it .i16 (0 : Int), .it .i16 (0 : Int)]⟩
theorem ti49_ok : TyOK Try.prog 49 ti49 := TyOK.of (inf := Try.t49) Try.underlying49 (by kernel_rfl) (by kernel_rfl) (by kernel_rfl) (by kernel_rfl)
noncomputable def ti50 : TI := ⟨Try.t50.desc, 1, 8, [.nf]⟩
theorem ti50_ok : TyOK Try.prog 50 ti50 := TyOK.of (inf := Try.t50) Try.underlying50 (by kernel_rfl) (by kernel_rfl) (by kernel_rfl) (by kernel_rfl)
noncomputable def ti51 : TI := ⟨Try.t48.desc, 4, 8, [.it .i16 (0 : Int), .it .i16 (0 : Int), .it .i16 (0 : Int), .it .i16 (0 : Int)]⟩
theorem ti51_ok : TyOK Try.prog 51 ti51 := TyOK.of (inf := Try.t51) Try.underlying51 (by kernel_rfl) (by kernel_rfl) (by kernel_rfl) (by kernel_rfl)
noncomputable def ti52 : TI := ⟨Try.t52.desc, 1, 8, [.nf]⟩
theorem ti52_ok : TyOK Try.prog 52 ti52 := TyOK.of (inf := Try.t52) Try.underlying52 (by kernel_rfl) (by kernel_rfl) (by kernel_rfl) (by kernel_rfl)
noncomputable def ti53 : TI := ⟨Try.t53.desc, 1, 8, [.nf]⟩
theorem ti53_ok : TyOK Try.prog 53 ti53 := TyOK.of (inf := Try.t53) Try.underlying53 (by kernel_rfl) (by kernel_rfl) (by kernel_rfl) (by kernel_rfl)
noncomputable def ti55 : TI := ⟨Try.t55.desc, 1, 8, [.nf]⟩
theorem ti55_ok : TyOK Try.prog 55 ti55 := TyOK.of (inf := Try.t55) Try.underlying55 (by kernel_rfl) (by kernel_rfl) (by kernel_rfl) (by kernel_rfl)
noncomputable def ti56 : TI := ⟨Try.t56.desc, 1, 8, [.nf]⟩
theorem ti56_ok : TyOK Try.prog 56 ti56 := TyOK.of (inf := Try.t56) Try.underlying56 (by kernel_rfl) (by kernel_rfl) (by kernel_rfl) (by kernel_rfl)
noncomputable def ti58 : TI := ⟨Try.t58.desc, 1, 8, [.nf]⟩
theorem ti58_ok : TyOK Try.prog 58 ti58 := TyOK.of (inf := Try.t58) Try.underlying58 (by kernel_rfl) (by kernel_rfl) (by kernel_rfl) (by kernel_rfl)
noncomputable def ti59 : TI := ⟨Try.t59.desc, 1, 8, [.nf]⟩
theorem ti59_ok : TyOK Try.prog 59 ti59 := TyOK.of (inf := Try.t59) Try.underlying59 (by kernel_rfl) (by kernel_rfl) (by kernel_rfl) (by kernel_rfl)
noncomputable def ti60 : TI := ⟨Try.t60.desc, 1, 24, [.sn]⟩
theorem ti60_ok : TyOK Try.prog 60 ti60 := TyOK.of (inf := Try.t60) Try.underlying60 (by kernel_rfl) (by kernel_rfl) (by kernel_rfl) (by kernel_rfl)
noncomputable def ti62 : TI := ⟨Try.t62.desc, 1, 8, [.nf]⟩
theorem ti62_ok : TyOK Try.prog 62 ti62 := TyOK.of (inf := Try.t62) Try.underlying62 (by kernel_rfl) (by kernel_rfl) (by kernel_rfl) (by kernel_rfl)
noncomputable def ti63 : TI := ⟨Try.t63.desc, 1, 8, [.nf]⟩
theorem ti63_ok : TyOK Try.prog 63 ti63 := TyOK.of (inf := Try.t63) Try.underlying63 (by kernel_rfl) (by kernel_rfl) (by kernel_rfl) (by kernel_rfl)
noncomputable def ti64 : TI := ⟨Try.t64.desc, 1, 8, [.nf]⟩
theorem ti64_ok : TyOK Try.prog 64 ti64 := TyOK.of (inf := Try.t64) Try.underlying64 (by kernel_rfl) (by kernel_rfl) (by kernel_rfl) (by kernel_rfl)
noncomputable def ti65 : TI := ⟨Try.t65.desc, 1, 8, [.nf]⟩
theorem ti65_ok : TyOK Try.prog 65 ti65 := TyOK.of (inf := Try.t65) Try.underlying65 (by kernel_rfl) (by kernel_rfl) (by kernel_rfl) (by kernel_rfl)
noncomputable def ti67 : TI := ⟨Try.t67.desc, 1, 8, [.nf]⟩
theorem ti67_ok : TyOK Try.prog 67 ti67 := TyOK.of (inf := Try.t67) Try.underlying67 (by kernel_rfl) (by kernel_rfl) (by kernel_rfl) (by kernel_rfl)
noncomputable def ti68 : TI := ⟨Try.t68.desc, 1, 8, [.nf]⟩
theorem ti68_ok : TyOK Try.prog 68 ti68 := TyOK.of (inf := Try.t68) Try.underlying68 (by kernel_rfl) (by kernel_rfl) (by kernel_rfl) (by kernel_rfl)
noncomputable def ti69 : TI := ⟨Try.t69.desc, 1, 24, [.sn]⟩
theorem ti69_ok : TyOK Try.prog 69 ti69 := TyOK.of (inf := Try.t69) Try.underlying69 (by kernel_rfl) (by kernel_rfl) (by kernel_rfl) (by kernel_rfl)
noncomputable def ti70 : TI := ⟨Try.t69.desc, 1, 24, [.sn]⟩
theorem ti70_ok : TyOK Try.prog 70 ti70 := TyOK.of (inf := Try.t70) Try.underlying70 (by kernel_rfl) (by kernel_rfl) (by kernel_rfl) (by kernel_rfl)
noncomputable def ti72 : TI := ⟨Try.t72.desc, 1, 8, [.nf]⟩
theorem ti72_ok : TyOK Try.prog 72 ti72 := TyOK.of (inf := Try.t72) Try.underlying72 (by kernel_rfl) (by kernel_rfl) (by kernel_rfl) (by kernel_rfl)
noncomputable def ti73 : TI := ⟨Try.t73.desc, 1, 8, [.nf]⟩
theorem ti73_ok : TyOK Try.prog 73 ti73 := TyOK.of (inf := Try.t73) Try.underlying73 (by kernel_rfl) (by kernel_rfl) (by kernel_rfl) (by kernel_rfl)
noncomputable def ti74 : TI := ⟨Try.t74.desc, 1, 8, [.nf]⟩
theorem ti74_ok : TyOK Try.prog 74 ti74 := TyOK.of (inf := Try.t74) Try.underlying74 (by kernel_rfl) (by kernel_rfl) (by kernel_rfl) (by kernel_rfl)
noncomputable def ti75 : TI := ⟨Try.t75.desc, 1, 8, [.nf]⟩
theorem ti75_ok : TyOK Try.prog 75 ti75 := TyOK.of (inf := Try.t75) Try.underlying75 (by kernel_rfl) (by kernel_rfl) (by kernel_rfl) (by kernel_rfl)
noncomputable def ti76 : TI := ⟨Try.t76.desc, 1, 8, [.nf]⟩
theorem ti76_ok : TyOK Try.prog 76 ti76 := TyOK.of (inf := Try.t76) Try.underlying76 (by kernel_rfl) (by kernel_rfl) (by kernel_rfl) (by kernel_rfl)
noncomputable def ti77 : TI := ⟨Try.t77.desc, 1, 8, [.nf]⟩
theorem ti77_ok : TyOK Try.prog 77 ti77 := TyOK.of (inf := Try.t77) Try.underlying77 (by kernel_rfl) (by kernel_rfl) (by kernel_rfl) (by kernel_rfl)
noncomputable def ti78 : TI := ⟨Try.t78.desc, 1, 8, [.nf]⟩
theorem ti78_ok : TyOK Try.prog 78 ti78 := TyOK.of (inf := Try.t78) Try.underlying78 (by kernel_rfl) (by kernel_rfl) (by kernel_rfl) (by kernel_rfl)
noncomputable def ti79 : TI := ⟨Try.t79.desc, 1, 8, [.nf]⟩
theorem ti79_ok : TyOK Try.prog 79 ti79 := TyOK.of (inf := Try.t79) Try.underlying79 (by kernel_rfl) (by kernel_rfl) (by kernel_rfl) (by kernel_rfl)
noncomputable def ti80 : TI := ⟨Try.t80.desc, 1, 8, [.nf]⟩
theorem ti80_ok : TyOK Try.prog 80 ti80 := TyOK.of (inf := Try.t80) Try.underlying80 (by kernel_rfl) (by kernel_rfl) (by kernel_rfl) (by kernel_rfl)
noncomputable def ti81 : TI := ⟨Try.t81.desc, 1, 8, [.nf]⟩
theorem ti81_ok : TyOK Try.prog 81 ti81 := TyOK.of (inf := Try.t81) Try.underlying81 (by kernel_rfl) (by kernel_rfl) (by kernel_rfl) (by kernel_rfl)
noncomputable def ti82 : TI := ⟨Try.t82.desc, 1, 8, [.nf]⟩
theorem ti82_ok : TyOK Try.prog 82 ti82 := TyOK.of (inf := Try.t82) Try.underlying82 (by kernel_rfl) (by kernel_rfl) (by kernel_rfl) (by kernel_rfl)
noncomputable def ti83 : TI := ⟨Try.t83.desc, 1, 8, [.nf]⟩
theorem ti83_ok : TyOK Try.prog 83 ti83 := TyOK.of (inf := Try.t83) Try.underlying83 (by kernel_rfl) (by kernel_rfl) (by kernel_rfl) (by kernel_rfl)
noncomputable def ti84 : TI := ⟨Try.t84.desc, 1, 8, [.nf]⟩
theorem ti84_ok : TyOK Try.prog 84 ti84 := TyOK.of (inf := Try.t84) Try.underlying84 (by kernel_rfl) (by kernel_rfl) (by kernel_rfl) (by kernel_rfl)
noncomputable def ti85 : TI := ⟨Try.t85.desc, 1, 8, [.nf]⟩
theorem ti85_ok : TyOK Try.prog 85 ti85 := TyOK.of (inf := Try.t85) Try.underlying85 (by kernel_rfl) (by kernel_rfl) (by kernel_rfl) (by kernel_rfl)
noncomputable def ti86 : TI := ⟨Try.t86.desc, 1, 8, [.nf]⟩
theorem ti86_ok : TyOK Try.prog 86 ti86 := TyOK.of (inf := Try.t86) Try.underlying86 (by kernel_rfl) (by kernel_rfl) (by kernel_rfl) (by kernel_rfl)
noncomputable def ti87 : TI := ⟨Try.t87.desc, 1, 8, [.nf]⟩
theorem ti87_ok : TyOK Try.prog 87 ti87 := TyOK.of (inf := Try.t87) Try.underlying87 (by kernel_rfl) (by kernel_rfl) (by kernel_rfl) (by kernel_rfl)
noncomputable def ti88 : TI := ⟨Try.t88.desc, 1, 8, [.nf]⟩
theorem ti88_ok : TyOK Try.prog 88 ti88 := TyOK.of (inf := Try.t88) Try.underlying88 (by kernel_rfl) (by kernel_rfl) (by kernel_rfl) (by kernel_rfl)
noncomputable def ti90 : TI := ⟨Try.t90.desc, 1, 8, [.nf]⟩
theorem ti90_ok : TyOK Try.prog 90 ti90 := TyOK.of (inf := Try.t90) Try.underlying90 (by kernel_rfl) (by kernel_rfl) (by kernel_rfl) (by kernel_rfl)
noncomputable def ti91 : TI := ⟨Try.t91.desc, 1, 8, [.nf]⟩
theorem ti91_ok : TyOK Try.prog 91 ti91 := TyOK.of (inf := Try.t91) Try.underlying91 (by kernel_rfl) (by kernel_rfl) (by kernel_rfl) (by kernel_rfl)
noncomputable def ti93 : TI := ⟨Try.t93.desc, 1, 8, [.nf]⟩
theorem ti93_ok : TyOK Try.prog 93 ti93 := TyOK.of (inf := Try.t93) Try.underlying93 (by kernel_rfl) (by kernel_rfl) (by kernel_rfl) (by kernel_rfl)
noncomputable def ti94 : TI := ⟨Try.t94.desc, 1, 24, [.sn]⟩
theorem ti94_ok : TyOK Try.prog 94 ti94 := TyOK.of (inf := Try.t94) Try.underlying94 (by kernel_rfl) (by kernel_rfl) (by kernel_rfl) (by kernel_rfl)
noncomputable def ti95 : TI := ⟨Try.t95.desc, 1, 8, [.nf]⟩
theorem ti95_ok : TyOK Try.prog 95 ti95 := TyOK.of (inf := Try.t95) Try.underlying95 (by kernel_rfl) (by kernel_rfl) (by kernel_rfl) (by kernel_rfl)
noncomputable def ti96 : TI := ⟨Try.t96.desc, 1, 8, [.nf]⟩
theorem ti96_ok : TyOK Try.prog 96 ti96 := TyOK.of (inf := Try.t96) Try.underlying96 (by kernel_rfl) (by kernel_rfl) (by kernel_rfl) (by kernel_rfl)
noncomputable def ti97 : TI := ⟨Try.t97.desc, 1, 8, [.nf]⟩
theorem ti97_ok : TyOK Try.prog 97 ti97 := TyOK.of (inf := Try.t97) Try.underlying97 (by kernel_rfl) (by kernel_rfl) (by kernel_rfl) (by kernel_rfl)
noncomputable def ti98 : TI := ⟨Try.t98.desc, 2, 16, [.it .i64 (0 : Int), .it .i64 (0 : Int)]⟩
theorem ti98_ok : TyOK Try.prog 98 ti98 := TyOK.of (inf := Try.t98) Try.underlying98 (by kernel_rfl) (by kernel_rfl) (by kernel_rfl) (by kernel_rfl)
noncomputable def ti99 : TI := ⟨Try.t99.desc, 1, 8, [.nf]⟩
theorem ti99_ok : TyOK Try.prog 99 ti99 := TyOK.of (inf := Try.t99) Try.underlying99 (by kernel_rfl) (by kernel_rfl) (by kernel_rfl) (by kernel_rfl)
noncomputable def ti100 : TI := ⟨Try.t100.desc, 1, 8, [.nf]⟩
theorem ti100_ok : TyOK Try.prog 100 ti100 := TyOK.of (inf := Try.t100) Try.underlying100 (by kernel_rfl) (by kernel_rfl) (by kernel_rfl) (by kernel_rfl)
noncomputable def ti101 : TI := ⟨Try.t101.desc, 1, 8, [.nf]⟩
theorem ti101_ok : TyOK Try.prog 101 ti101 := TyOK.of (inf := Try.t101) Try.underlying101 (by kernel_rfl) (by kernel_rfl) (by kernel_rfl) (by kernel_rfl)
noncomputable def ti102 : TI := ⟨Try.t102.desc, 3, 8, [.it .i16 (0 : Int), .it .i16 (0 : Int), .fl .f32 0]⟩
theorem ti102_ok : TyOK Try.prog 102 ti102 := TyOK.of (inf := Try.t102) Try.underlying102 (by kernel_rfl) (by kernel_rfl) (by kernel_rfl) (by kernel_rfl)
noncomputable def ti103 : TI := ⟨Try.t102.desc, 3, 8, [.it .i16 (0 : Int), .it .i16 (0 : Int), .fl .f32 0]⟩
theorem ti103_ok : TyOK Try.prog 103 ti103 := TyOK.of (inf := Try.t103) Try.underlying103 (by kernel_rfl) (by kernel_rfl) (by kernel_rfl) (by kernel_rfl)
noncomputable def ti104 : TI := ⟨Try.t104.desc, 1, 8, [.nf]⟩
theorem ti104_ok : TyOK Try.prog 104 ti104 := TyOK.of (inf := Try.t104) Try.underlying104 (by kernel_rfl) (by kernel_rfl) (by kernel_rfl) (by kernel_rfl)
noncomputable def ti105 : TI := ⟨Try.t105.desc, 1, 8, [.nf]⟩
theorem ti105_ok : TyOK Try.prog 105 ti105 := TyOK.of (inf := Try.t105) Try.underlying105 (by kernel_rfl) (by kernel_rfl) (by kernel_rfl) (by kernel_rfl)
noncomputable def ti106 : TI := ⟨Try.t106.desc, 1, 8, [.nf]⟩
theorem ti106_ok : TyOK Try.prog 106 ti106 := TyOK.of (inf := Try.t106) Try.underlying106 (by kernel_rfl) (by kernel_rfl) (by kernel_rfl) (by kernel_rfl)
noncomputable def ti107 : TI := ⟨Try.t107.desc, 1, 4, [.it .u32 (0 : Int)]⟩
theorem ti107_ok : TyOK Try.prog 107 ti107 := TyOK.of (inf := Try.t107) Try.underlying107 (by kernel_rfl) (by kernel_rfl) (by kernel_rfl) (by kernel_rfl)
noncomputable def ti108 : TI := ⟨Try.t108.desc, 1, 8, [.nf]⟩
theorem ti108_ok : TyOK Try.prog 108 ti108 := TyOK.of (inf := Try.t108) Try.underlying108 (by kernel_rfl) (by kernel_rfl) (by kernel_rfl) (by kernel_rfl)
noncomputable def ti109 : TI := ⟨Try.t109.desc, 1, 8, [.nf]⟩
theorem ti109_ok : TyOK Try.prog 109 ti109 := TyOK.of (inf := Try.t109) Try.underlying109 (by kernel_rfl) (by kernel_rfl) (by kernel_rfl) (by kernel_rfl)
noncomputable def ti110 : TI := ⟨Try.t110.desc, 1, 24, [.sn]⟩
theorem ti110_ok : TyOK Try.prog 110 ti110 := TyOK.of (inf := Try.t110) Try.underlying110 (by kernel_rfl) (by kernel_rfl) (by kernel_rfl) (by kernel_rfl)
noncomputable def ti111 : TI := ⟨Try.t111.desc, 1, 8, [.nf]⟩
theorem ti111_ok : TyOK Try.prog 111 ti111 := TyOK.of (inf := Try.t111) Try.underlying111 (by kernel_rfl) (by kernel_rfl) (by kernel_rfl) (by kernel_rfl)
noncomputable def ti112 : TI := ⟨Try.t112.desc, 1, 8, [.nf]⟩
theorem ti112_ok : TyOK Try.prog 112 ti112 := TyOK.of (inf := Try.t112) Try.underlying112 (by kernel_rfl) (by kernel_rfl) (by kernel_rfl) (by kernel_rfl)
noncomputable def ti113 : TI := ⟨Try.t113.desc, 1, 8, [.pn]⟩
theorem ti113_ok : TyOK Try.prog 113 ti113 := TyOK.of (inf := Try.t113) Try.underlying113 (by kernel_rfl) (by kernel_rfl) (by kernel_rfl) (by kernel_rfl)
noncomputable def ti114 : TI := ⟨Try.t114.desc, 1, 8, [.nf]⟩
theorem ti114_ok : TyOK Try.prog 114 ti114 := TyOK.of (inf := Try.t114) Try.underlying114 (by kernel_rfl) (by kernel_rfl) (by kernel_rfl) (by kernel_rfl)
noncomputable def ti115 : TI := ⟨Try.t115.desc, 1, 8, [.nf]⟩
theorem ti115_ok : TyOK Try.prog 115 ti115 := TyOK.of (inf := Try.t115) Try.underlying115 (by kernel_rfl) (by kernel_rfl) (by kernel_rfl) (by kernel_rfl)
noncomputable def ti116 : TI := ⟨Try.t116.desc, 1, 8, [.nf]⟩
theorem ti116_ok : TyOK Try.prog 116 ti116 := TyOK.of (inf := Try.t116) Try.underlying116 (by kernel_rfl) (by kernel_rfl) (by kernel_rfl) (by kernel_rfl)
noncomputable def ti117 : TI := ⟨Try.t117.desc, 4, 40, [.pn, .pn, .pn, .st (ByteArray.mk #[])]⟩
theorem ti117_ok : TyOK Try.prog 117 ti117 := TyOK.of (inf := Try.t117) Try.underlying117 (by kernel_rfl) (by kernel_rfl) (by kernel_rfl) (by kernel_rfl)
noncomputable def ti118 : TI := ⟨Try.t117.desc, 4, 40, [.pn, .pn, .pn, .st (ByteArray.mk #[])]⟩
theorem ti118_ok : TyOK Try.prog 118 ti118 := TyOK.of (inf := Try.t118) Try.underlying118 (by kernel_rfl) (by kernel_rfl) (by kernel_rfl) (by kernel_rfl)
noncomputable def ti119 : TI := ⟨Try.t119.desc, 0, 0, []⟩
theorem ti119_ok : TyOK Try.prog 119 ti119 := TyOK.of (inf := Try.t119) Try.underlying119 (by kernel_rfl) (by kernel_rfl) (by kernel_rfl) (by kernel_rfl)
noncomputable def ti120 : TI := ⟨Try.t120.desc, 0, 0, []⟩
theorem ti120_ok : TyOK Try.prog 120 ti120 := TyOK.of (inf := Try.t120) Try.underlying120 (by kernel_rfl) (by kernel_rfl) (by kernel_rfl) (by kernel_rfl)
noncomputable def ti121 : TI := ⟨Try.t120.desc, 0, 0, []⟩
theorem ti121_ok : TyOK Try.prog 121 ti121 := TyOK.of (inf := Try.t121) Try.underlying121 (by kernel_rfl) (by kernel_rfl) (by kernel_rfl) (by kernel_rfl)
noncomputable def ti122 : TI := ⟨Try.t122.desc, 1, 8, [.nf]⟩
theorem ti122_ok : TyOK Try.prog 122 ti122 := TyOK.of (inf := Try.t122) Try.underlying122 (by kernel_rfl) (by kernel_rfl) (by kernel_rfl) (by kernel_rfl)
noncomputable def ti123 : TI := ⟨Try.t5.desc, 1, 1, [.it .u8 (0 : Int)]⟩
theorem ti123_ok : TyOK Try.prog 123 ti123 := TyOK.of (inf := Try.t123) Try.underlying123 (by kernel_rfl) (by kernel_rfl) (by kernel_rfl) (by kernel_rfl)
noncomputable def ti124 : TI := ⟨Try.t5.desc, 1, 1, [.it .u8 (0 : Int)]⟩
theorem ti124_ok : TyOK Try.prog 124 ti124 := TyOK.of (inf := Try.t124) Try.underlying124 (by kernel_rfl) (by kernel_rfl) (by kernel_rfl) (by kernel_rfl)
noncomputable def ti125 : TI := ⟨Try.t125.desc, 1, 8, [.nf]⟩
theorem ti125_ok : TyOK Try.prog 125 ti125 := TyOK.of (inf := Try.t125) Try.underlying125 (by kernel_rfl) (by kernel_rfl) (by kernel_rfl) (by kernel_rfl)
noncomputable def ti126 : TI := ⟨Try.t126.desc, 1, 8, [.pn]⟩
theorem ti126_ok : TyOK Try.prog 126 ti126 := TyOK.of (inf := Try.t126) Try.underlying126 (by kernel_rfl) (by kernel_rfl) (by kernel_rfl) (by kernel_rfl)
noncomputable def ti127 : TI := ⟨Try.t21.desc, 1, 4, [.it .i32 (0 : Int)]⟩
theorem ti127_ok : TyOK Try.prog 127 ti127 := TyOK.of (inf := Try.t127) Try.underlying127 (by kernel_rfl) (by kernel_rfl) (by kernel_rfl) (by kernel_rfl)
noncomputable def ti128 : TI := ⟨Try.t21.desc, 1, 4, [.it .i32 (0 : Int)]⟩
theorem ti128_ok : TyOK Try.prog 128 ti128 := TyOK.of (inf := Try.t128) Try.underlying128 (by kernel_rfl) (by kernel_rfl) (by kernel_rfl) (by kernel_rfl)
noncomputable def ti129 : TI := ⟨Try.t129.desc, 11, 48, [.it .u64 (0 : Int), .it .u64 (0 : Int), .it .u32 (0 : Int), .it .u8 (0 : Int), .it .u8 (0 : Int), .it .u8 (0 : Int), .it .u8 (0 : Int), .nf, .pn, .it .i32 (0 : Int), .it .i32 (0 : Int)]⟩
theorem ti129_ok : TyOK Try.prog 129 ti129 := TyOK.of (inf := Try.t129) Try.underlying129 (by kernel_rfl) (by kernel_rfl) (by kernel_rfl) (by kernel_rfl)
noncomputable def ti130 : TI := ⟨Try.t129.desc, 11, 48, [.it .u64 (0 : Int), .it .u64 (0 : Int), .it .u32 (0 : Int), .it .u8 (0 : Int), .it .u8 (0 : Int), .it .u8 (0 : Int), .it .u8 (0 : Int), .nf, .pn, .it .i32 (0 : Int), .it .i32 (0 : Int)]⟩
theorem ti130_ok : TyOK Try.prog 130 ti130 := TyOK.of (inf := Try.t130) Try.underlying130 (by kernel_rfl) (by kernel_rfl) (by kernel_rfl) (by kernel_rfl)
noncomputable def ti131 : TI := ⟨Try.t131.desc, 1, 8, [.pn]⟩
theorem ti131_ok : TyOK Try.prog 131 ti131 := TyOK.of (inf := Try.t131) Try.underlying131 (by kernel_rfl) (by kernel_rfl) (by kernel_rfl) (by kernel_rfl)
noncomputable def tys : List (Nat × TI) := [(1, ti1), (2, ti2), (3, ti3), (4, ti4), (5, ti5), (6, ti6), (7, ti7), (8, ti8), (9, ti9), (10, ti10), (11, ti11), (12, ti12), (13, ti13), (14, ti14), (15, ti15), (16, ti16), (17, ti17), (18, ti18), (19, ti19), (21, ti21), (22, ti22), (23, ti23), (24, ti24), (25, ti25), (26, ti26), (28, ti28), (29, ti29), (30, ti30), (31, ti31), (32, ti32), (33, ti33), (35, ti35), (36, ti36), (37, ti37), (38, ti38), (39, ti39), (40, ti40), (41, ti41), (42, ti42), (44, ti44), (45, ti45), (46, ti46), (47, ti47), (48, ti48), (49, ti49), (50, ti50), (51, ti51), (52, ti52), (53, ti53), (55, ti55), (56, ti56), (58, ti58), (59, ti59), (60, ti60), (62, ti62), (63, ti63), (64, ti64), (65, ti65), (67, ti67), (68, ti68), (69, ti69), (70, ti70), (72, ti72), (73, ti73), (74, ti74), (75, ti75), (76, ti76), (77, ti77), (78, ti78), (79, ti79), (80, ti80), (81, ti81), (82, ti82), (83, ti83), (84, ti84), (85, ti85), (86, ti86), (87, ti87), (88, ti88), (90, ti90), (91, ti91), (93, ti93), (94, ti94), (95, ti95), (96, ti96), (97, ti97), (98, ti98), (99, ti99), (100, ti100), (101, ti101), (102, ti102), (103, ti103), (104, ti104), (105, ti105), (106, ti106), (107, ti107), (108, ti108), (109, ti109), (110, ti110), (111, ti111), (112, ti112), (113, ti113), (114, ti114), (115, ti115), (116, ti116), (117, ti117), (118, ti118), (119, ti119), (120, ti120), (121, ti121), (122, ti122), (123, ti123), (124, ti124), (125, ti125), (126, ti126), (127, ti127), (128, ti128), (129, ti129), (130, ti130), (131, ti131)]
theorem mo : Try.prog.follows .mixedOrders = true := by kernel_rfl
theorem tys_ok : TysOK Try.prog tys := (TysOK.cons ti1_ok (TysOK.cons ti2_ok (TysOK.cons ti3_ok (TysOK.cons ti4_ok (TysOK.cons ti5_ok (TysOK.cons ti6_ok (TysOK.cons ti7_ok (TysOK.cons ti8_ok (TysOK.cons ti9_ok (TysOK.cons ti10_ok (TysOK.cons ti11_ok (TysOK.cons ti12_ok (TysOK.cons ti13_ok (TysOK.cons ti14_ok (TysOK.cons ti15_ok (TysOK.cons ti16_ok (TysOK.cons ti17_ok (TysOK.cons ti18_ok (TysOK.cons ti19_ok (TysOK.cons ti21_ok (TysOK.cons ti22_ok (TysOK.cons ti23_ok (TysOK.cons ti24_ok (TysOK.cons ti25_ok (TysOK.cons ti26_ok (TysOK.cons ti28_ok (TysOK.cons ti29_ok (TysOK.cons ti30_ok (TysOK.cons ti31_ok (TysOK.cons ti32_ok (TysOK.cons ti33_ok (TysOK.cons ti35_ok (TysOK.cons ti36_ok (TysOK.cons ti37_ok (TysOK.cons ti38_ok (TysOK.cons ti39_ok (TysOK.cons ti40_ok (TysOK.cons ti41_ok (TysOK.cons ti42_ok (TysOK.cons ti44_ok (TysOK.cons ti45_ok (TysOK.cons ti46_ok (TysOK.cons ti47_ok (TysOK.cons ti48_ok (TysOK.cons ti49_ok (TysOK.cons ti50_ok (TysOK.cons ti51_ok (TysOK.cons ti52_ok (TysOK.cons ti53_ok (TysOK.cons ti55_ok (TysOK.cons ti56_ok (TysOK.cons ti58_ok (TysOK.cons ti59_ok (TysOK.cons ti60_ok (TysOK.cons ti62_ok (TysOK.cons ti63_ok (TysOK.cons ti64_ok (TysOK.cons ti65_ok (TysOK.cons ti67_ok (TysOK.cons ti68_ok (TysOK.cons ti69_ok (TysOK.cons ti70_ok (TysOK.cons ti72_ok (TysOK.cons ti73_ok (TysOK.cons ti74_ok (TysOK.cons ti75_ok (TysOK.cons ti76_ok (TysOK.cons ti77_ok (TysOK.cons ti78_ok (TysOK.cons ti79_ok (TysOK.cons ti80_ok (TysOK.cons ti81_ok (TysOK.cons ti82_ok (TysOK.cons ti83_ok (TysOK.cons ti84_ok (TysOK.cons ti85_ok (TysOK.cons ti86_ok (TysOK.cons ti87_ok (TysOK.cons ti88_ok (TysOK.cons ti90_ok (TysOK.cons ti91_ok (TysOK.cons ti93_ok (TysOK.cons ti94_ok (TysOK.cons ti95_ok (TysOK.cons ti96_ok (TysOK.cons ti97_ok (TysOK.cons ti98_ok (TysOK.cons ti99_ok (TysOK.cons ti100_ok (TysOK.cons ti101_ok (TysOK.cons ti102_ok (TysOK.cons ti103_ok (TysOK.cons ti104_ok (TysOK.cons ti105_ok (TysOK.cons ti106_ok (TysOK.cons ti107_ok (TysOK.cons ti108_ok (TysOK.cons ti109_ok (TysOK.cons ti110_ok (TysOK.cons ti111_ok (TysOK.cons ti112_ok (TysOK.cons ti113_ok (TysOK.cons ti114_ok (TysOK.cons ti115_ok (TysOK.cons ti116_ok (TysOK.cons ti117_ok (TysOK.cons ti118_ok (TysOK.cons ti119_ok (TysOK.cons ti120_ok (TysOK.cons ti121_ok (TysOK.cons ti122_ok (TysOK.cons ti123_ok (TysOK.cons ti124_ok (TysOK.cons ti125_ok (TysOK.cons ti126_ok (TysOK.cons ti127_ok (TysOK.cons ti128_ok (TysOK.cons ti129_ok (TysOK.cons ti130_ok (TysOK.cons ti131_ok TysOK.nil))))))))))))))))))))))))))))))))))))))))))))))))))))))))))))))))))))))))))))))))))))))))))))))))))))))))))))))))))))))))
/-! ### spec_l05Target -/
noncomputable def spec_l05Target.b : Code := bodyOf Try.f58
noncomputable def spec_l05Target.C : Ctx := { ty := tys, fn := [], lp := [], n := 9, k := 0 }
theorem spec_l05Target.hC : CtxOK Try.prog spec_l05Target.C := CtxOK.of mo tys_ok FnsOK.nil
theorem spec_l05Target.lp : LpOK Try.prog spec_l05Target.C spec_l05Target.b := (LpOK.nil (by kernel_rfl))
noncomputable def spec_l05Target.t (x0 : Nat) : T Bool :=
  .br (fge .f32 x0 981467136)
  (.leaf (fle .f32 x0 1149239296))
  (.leaf false)
noncomputable def spec_l05Target (x0 : Nat) : Bool := (spec_l05Target.t x0).val
def spec_l05Target.cd : Cd Nat (List V × Hp) := Cd.iso (Cd.pair (Cd.cons (Cd.fl .f32) Cd.nil) Cd.nil) (fun a => a.1.1) (fun a => ((a, ()), ())) (fun _ => rfl)
noncomputable def spec_l05Target.tr (a : Nat) : T Bool := spec_l05Target.t a
def spec_l05Target.enc : Nat → Bool → V := fun a r => .bo r
noncomputable def spec_l05Target.c : List V → Hp → T V := cdQ spec_l05Target.cd (fun a => .leaf (spec_l05Target.enc a (spec_l05Target a)))
theorem spec_l05Target.run (a : Nat) : runF spec_l05Target.C Try.f58.results.toList spec_l05Target.b (spec_l05Target.cd.enc a).1 (spec_l05Target.cd.enc a).2 = (spec_l05Target.tr a).map fun r => (spec_l05Target.enc a r, (spec_l05Target.cd.enc a).2) := by kernel_rfl
theorem spec_l05Target.cok : OKq Try.prog 58 spec_l05Target.c := con_q' spec_l05Target.cd spec_l05Target.hC Try.func58 (by kernel_rfl) (by kernel_rfl) (by kernel_rfl) spec_l05Target.lp (fun a => by kernel_rfl) spec_l05Target.run (Tells.val (tree := spec_l05Target.tr) fun a => by kernel_rfl)
/-! ### spec_l00In -/
noncomputable def spec_l00In.b : Code := bodyOf Try.f91
noncomputable def spec_l00In.C : Ctx := { ty := tys, fn := [], lp := [], n := 15, k := 0 }
theorem spec_l00In.hC : CtxOK Try.prog spec_l00In.C := CtxOK.of mo tys_ok FnsOK.nil
theorem spec_l00In.lp : LpOK Try.prog spec_l00In.C spec_l00In.b := (LpOK.nil (by kernel_rfl))
noncomputable def spec_l00In.t (x0 : Int) (x1 : Int) (x2 : Int) : T Bool :=
  .br (decide (x0 ≥ x1))
  (.leaf (decide (x0 ≤ x2)))
  (.leaf false)
noncomputable def spec_l00In (x0 : Int) (x1 : Int) (x2 : Int) : Bool := (spec_l00In.t x0 x1 x2).val
def spec_l00In.cd : Cd (Int × Int × Int) (List V × Hp) := Cd.iso (Cd.pair (Cd.cons (Cd.it .i64) (Cd.cons (Cd.it .i64) (Cd.cons (Cd.it .i64) Cd.nil))) Cd.nil) (fun a => (a.1.1, a.1.2.1, a.1.2.2.1)) (fun a => ((a.1, (a.2.1, (a.2.2, ()))), ())) (fun _ => rfl)
noncomputable def spec_l00In.tr (a : Int × Int × Int) : T Bool := spec_l00In.t a.1 a.2.1 a.2.2
def spec_l00In.enc : (Int × Int × Int) → Bool → V := fun a r => .bo r
noncomputable def spec_l00In.c : List V → Hp → T V := cdQ spec_l00In.cd (fun a => .leaf (spec_l00In.enc a (spec_l00In a.1 a.2.1 a.2.2)))
theorem spec_l00In.run (a : Int × Int × Int) : runF spec_l00In.C Try.f91.results.toList spec_l00In.b (spec_l00In.cd.enc a).1 (spec_l00In.cd.enc a).2 = (spec_l00In.tr a).map fun r => (spec_l00In.enc a r, (spec_l00In.cd.enc a).2) := by kernel_rfl
theorem spec_l00In.cok : OKq Try.prog 91 spec_l00In.c := con_q' spec_l00In.cd spec_l00In.hC Try.func91 (by kernel_rfl) (by kernel_rfl) (by kernel_rfl) spec_l00In.lp (fun a => by kernel_rfl) spec_l00In.run (Tells.val (tree := spec_l00In.tr) fun a => by kernel_rfl)
/-! ### spec_l05Most -/
noncomputable def spec_l05Most.b : Code := bodyOf Try.f66
noncomputable def spec_l05Most.C : Ctx := { ty := tys, fn := [(58, .q spec_l05Target.c), (91, .q spec_l00In.c)], lp := [], n := 13, k := 0 }
theorem spec_l05Most.hC : CtxOK Try.prog spec_l05Most.C := CtxOK.of mo tys_ok (FnsOK.cons spec_l05Target.cok (FnsOK.cons spec_l00In.cok FnsOK.nil))
theorem spec_l05Most.lp : LpOK Try.prog spec_l05Most.C spec_l05Most.b := (LpOK.nil (by kernel_rfl))
noncomputable def spec_l05Most.t (x0 : Nat) (x1 : Int) : T Int :=
  .br (!(spec_l05Target x0))
  (.leaf (2 : Int))
  (.br (!(spec_l00In x1 (1 : Int) (1000000 : Int)))
   (.leaf (2 : Int))
   (.leaf (0 : Int)))
noncomputable def spec_l05Most (x0 : Nat) (x1 : Int) : Int := (spec_l05Most.t x0 x1).val
def spec_l05Most.cd : Cd (Nat × Int) (List V × Hp) := Cd.iso (Cd.pair (Cd.cons (Cd.fl .f32) (Cd.cons (Cd.it .i64) Cd.nil)) Cd.nil) (fun a => (a.1.1, a.1.2.1)) (fun a => ((a.1, (a.2, ())), ())) (fun _ => rfl)
noncomputable def spec_l05Most.tr (a : Nat × Int) : T Int := spec_l05Most.t a.1 a.2
def spec_l05Most.enc : (Nat × Int) → Int → V := fun a r => .it .i64 r
noncomputable def spec_l05Most.c : List V → Hp → T V := cdQ spec_l05Most.cd (fun a => .leaf (spec_l05Most.enc a (spec_l05Most a.1 a.2)))
theorem spec_l05Most.run (a : Nat × Int) : runF spec_l05Most.C Try.f66.results.toList spec_l05Most.b (spec_l05Most.cd.enc a).1 (spec_l05Most.cd.enc a).2 = (spec_l05Most.tr a).map fun r => (spec_l05Most.enc a r, (spec_l05Most.cd.enc a).2) := by kernel_rfl
theorem spec_l05Most.cok : OKq Try.prog 66 spec_l05Most.c := con_q' spec_l05Most.cd spec_l05Most.hC Try.func66 (by kernel_rfl) (by kernel_rfl) (by kernel_rfl) spec_l05Most.lp (fun a => by kernel_rfl) spec_l05Most.run (Tells.val (tree := spec_l05Most.tr) fun a => by kernel_rfl)
/-! ### spec_l01Common -/
noncomputable def spec_l01Common.b : Code := bodyOf Try.f96
noncomputable def spec_l01Common.l1.s (x0 : Int) (x1 : Int) : T ((Int × Int) ⊕ Int) :=
  .br (decide (x1 > (0 : Int)))
  (.br (x1 == 0)
   .bad
   (.leaf (.inl (x1, (Int.tmod x0 x1)))))
  (.leaf (.inr x0))
noncomputable def spec_l01Common.l1.st (p : Unit) (x : Int × Int) : T ((Int × Int) ⊕ Int) := spec_l01Common.l1.s x.1 x.2
noncomputable def spec_l01Common.l1.r (p : Unit) (x : Int × Int) : Option Int := iterT (spec_l01Common.l1.st p) manyRounds x
def spec_l01Common.l1.cd : Cd (Unit × (Int × Int)) (List V × Hp) := Cd.iso (Cd.pair (Cd.cons (Cd.it .i64) (Cd.cons (Cd.it .i64) Cd.nil)) Cd.nil) (fun a => ((), (a.1.1, a.1.2.1))) (fun a => ((a.2.1, (a.2.2, ())), ())) (fun _ => rfl)
def spec_l01Common.l1.out (p : Unit) : Int → X × List V × Hp := (fun r => (.ex 0, [.it .i64 r], []))
def spec_l01Common.l1.ex (p : Unit) : Int → T (X × List V × Hp) := leafT (fun r => (.ex 0, [.it .i64 r], []))
noncomputable def spec_l01Common.l1.c : List V → Hp → T (X × List V × Hp) := cdL spec_l01Common.l1.cd fun x => optT (spec_l01Common.l1.r x.1 x.2) (spec_l01Common.l1.ex x.1)
noncomputable def spec_l01Common.C : Ctx := { ty := tys, fn := [], lp := [(1, ⟨[0, 1], [0], spec_l01Common.l1.c⟩)], n := 14, k := 0 }
theorem spec_l01Common.hC : CtxOK Try.prog spec_l01Common.C := CtxOK.of mo tys_ok FnsOK.nil
noncomputable def spec_l01Common.b1 : Code := (nthC (loopsOf spec_l01Common.b) 0)
theorem spec_l01Common.lp1 : LpOK Try.prog spec_l01Common.C spec_l01Common.b1 := (LpOK.nil (by kernel_rfl))
theorem spec_l01Common.l1.round (p : Unit) (s : Int × Int) : roundL spec_l01Common.C [0, 1] [0] spec_l01Common.b1 (spec_l01Common.l1.cd.enc (p, s)).1 (spec_l01Common.l1.cd.enc (p, s)).2 = (spec_l01Common.l1.st p s).map (encSum (fun s => spec_l01Common.l1.cd.enc (p, s)) (spec_l01Common.l1.out p)) := by kernel_rfl
theorem spec_l01Common.l1.lok : LoopOK Try.prog spec_l01Common.C ⟨[0, 1], [0], spec_l01Common.l1.c⟩ spec_l01Common.b1 := loop_cd spec_l01Common.l1.cd spec_l01Common.hC spec_l01Common.lp1 spec_l01Common.l1.round fun p => Gets.leaf
theorem spec_l01Common.lp : LpOK Try.prog spec_l01Common.C spec_l01Common.b := lp_of (by kernel_rfl) (LpsOK.cons (k := 1) (by kernel_rfl) (by kernel_rfl) spec_l01Common.l1.lok LpsOK.nil)
noncomputable def spec_l01Common.t (x0 : Int) (x1 : Int) : T Int :=
  .br (Option.isSome (spec_l01Common.l1.r () (x0, x1)))
  (.leaf (Option.getD (spec_l01Common.l1.r () (x0, x1)) default))
  .bad
noncomputable def spec_l01Common (x0 : Int) (x1 : Int) : Int := (spec_l01Common.t x0 x1).val
noncomputable def spec_l01Common.ok (x0 : Int) (x1 : Int) : Bool := (spec_l01Common.t x0 x1).ok
def spec_l01Common.cd : Cd (Int × Int) (List V × Hp) := Cd.iso (Cd.pair (Cd.cons (Cd.it .i64) (Cd.cons (Cd.it .i64) Cd.nil)) Cd.nil) (fun a => (a.1.1, a.1.2.1)) (fun a => ((a.1, (a.2, ())), ())) (fun _ => rfl)
noncomputable def spec_l01Common.tr (a : Int × Int) : T Int := spec_l01Common.t a.1 a.2
def spec_l01Common.enc : (Int × Int) → Int → V := fun a r => .it .i64 r
noncomputable def spec_l01Common.c : List V → Hp → T V := cdQ spec_l01Common.cd (fun a => .br (spec_l01Common.ok a.1 a.2) (.leaf (spec_l01Common.enc a (spec_l01Common a.1 a.2))) .bad)
theorem spec_l01Common.run (a : Int × Int) : runF spec_l01Common.C Try.f96.results.toList spec_l01Common.b (spec_l01Common.cd.enc a).1 (spec_l01Common.cd.enc a).2 = (spec_l01Common.tr a).map fun r => (spec_l01Common.enc a r, (spec_l01Common.cd.enc a).2) := by kernel_rfl
theorem spec_l01Common.cok : OKq Try.prog 96 spec_l01Common.c := con_q' spec_l01Common.cd spec_l01Common.hC Try.func96 (by kernel_rfl) (by kernel_rfl) (by kernel_rfl) spec_l01Common.lp (fun a => by kernel_rfl) spec_l01Common.run (Tells.ok (tree := spec_l01Common.tr))
/-! ### spec_l05Exact -/
noncomputable def spec_l05Exact.b : Code := bodyOf Try.f64
noncomputable def spec_l05Exact.l5.s (x0 : Int) (x1 : Int) (x2 : Int) (x3 : Int) (x4 : Int) : T ((Int × Int) ⊕ Int) :=
  .br (decide (x2 < (150 : Int)))
  (.leaf (.inl ((IntKind.wrap .i64 (x1 * (2 : Int))), (IntKind.wrap .i64 (x2 + (1 : Int))))))
  (.leaf (.inr x1))
noncomputable def spec_l05Exact.l5.st (p : Int × Int × Int) (x : Int × Int) : T ((Int × Int) ⊕ Int) := spec_l05Exact.l5.s p.1 x.1 x.2 p.2.1 p.2.2
noncomputable def spec_l05Exact.l5.r (p : Int × Int × Int) (x : Int × Int) : Option Int := iterT (spec_l05Exact.l5.st p) manyRounds x
def spec_l05Exact.l5.cd : Cd ((Int × Int × Int) × (Int × Int)) (List V × Hp) := Cd.iso (Cd.pair (Cd.cons (Cd.pt 0 (Cd.natc 0)) (Cd.cons (Cd.it .i64) (Cd.cons (Cd.it .i64) (Cd.cons (Cd.it .i64) Cd.nil)))) (Cd.cons (Cd.rw 33 2 (Cd.vs (Cd.cons (Cd.it .i64) (Cd.cons (Cd.it .i64) Cd.nil)))) Cd.nil)) (fun a => ((a.1.2.1, a.2.1.1, a.2.1.2.1), (a.1.2.2.1, a.1.2.2.2.1))) (fun a => (((), (a.1.1, (a.2.1, (a.2.2, ())))), ((a.1.2.1, (a.1.2.2, ())), ()))) (fun _ => rfl)
def spec_l05Exact.l5.out (p : Int × Int × Int) : Int → X × List V × Hp := (fun r => (.ex 0, [.pt 0 0, .it .i64 p.1, .it .i64 r], [some ⟨true, 33, 2, .vs [.it .i64 p.2.1, .it .i64 p.2.2]⟩]))
def spec_l05Exact.l5.ex (p : Int × Int × Int) : Int → T (X × List V × Hp) := leafT (fun r => (.ex 0, [.pt 0 0, .it .i64 p.1, .it .i64 r], [some ⟨true, 33, 2, .vs [.it .i64 p.2.1, .it .i64 p.2.2]⟩]))
noncomputable def spec_l05Exact.l5.c : List V → Hp → T (X × List V × Hp) := cdL spec_l05Exact.l5.cd fun x => optT (spec_l05Exact.l5.r x.1 x.2) (spec_l05Exact.l5.ex x.1)
noncomputable def spec_l05Exact.C : Ctx := { ty := tys, fn := [(95, .q f32bitsC), (96, .q spec_l01Common.c)], lp := [(5, ⟨[2, 4, 5, 6], [2, 4, 5], spec_l05Exact.l5.c⟩)], n := 32, k := 0 }
theorem spec_l05Exact.hC : CtxOK Try.prog spec_l05Exact.C := CtxOK.of mo tys_ok (FnsOK.cons (f32bits_ok Try.func95 (by kernel_rfl) (by kernel_rfl) (by kernel_rfl) (by kernel_rfl)) (FnsOK.cons spec_l01Common.cok FnsOK.nil))
noncomputable def spec_l05Exact.b5 : Code := (nthC (loopsOf spec_l05Exact.b) 0)
theorem spec_l05Exact.lp5 : LpOK Try.prog spec_l05Exact.C spec_l05Exact.b5 := (LpOK.nil (by kernel_rfl))
theorem spec_l05Exact.l5.round (p : Int × Int × Int) (s : Int × Int) : roundL spec_l05Exact.C [2, 4, 5, 6] [2, 4, 5] spec_l05Exact.b5 (spec_l05Exact.l5.cd.enc (p, s)).1 (spec_l05Exact.l5.cd.enc (p, s)).2 = (spec_l05Exact.l5.st p s).map (encSum (fun s => spec_l05Exact.l5.cd.enc (p, s)) (spec_l05Exact.l5.out p)) := by kernel_rfl
theorem spec_l05Exact.l5.lok : LoopOK Try.prog spec_l05Exact.C ⟨[2, 4, 5, 6], [2, 4, 5], spec_l05Exact.l5.c⟩ spec_l05Exact.b5 := loop_cd spec_l05Exact.l5.cd spec_l05Exact.hC spec_l05Exact.lp5 spec_l05Exact.l5.round fun p => Gets.leaf
theorem spec_l05Exact.lp : LpOK Try.prog spec_l05Exact.C spec_l05Exact.b := lp_of (by kernel_rfl) (LpsOK.cons (k := 5) (by kernel_rfl) (by kernel_rfl) spec_l05Exact.l5.lok LpsOK.nil)
noncomputable def spec_l05Exact.t (x0 : Nat) : T (Int × Int) :=
  .br (isNaN .f32 x0)
  .bad
  (.br (Option.isSome (spec_l05Exact.l5.r ((IntKind.wrap .i64 ((Int.tmod (IntKind.wrap .i64 ((x0 : Nat) : Int)) (8388608 : Int)) + (8388608 : Int))), (0 : Int), (0 : Int)) ((1 : Int), (IntKind.wrap .i64 (Int.tdiv (IntKind.wrap .i64 ((x0 : Nat) : Int)) (8388608 : Int))))))
   (.br (spec_l01Common.ok (IntKind.wrap .i64 ((Int.tmod (IntKind.wrap .i64 ((x0 : Nat) : Int)) (8388608 : Int)) + (8388608 : Int))) (Option.getD (spec_l05Exact.l5.r ((IntKind.wrap .i64 ((Int.tmod (IntKind.wrap .i64 ((x0 : Nat) : Int)) (8388608 : Int)) + (8388608 : Int))), (0 : Int), (0 : Int)) ((1 : Int), (IntKind.wrap .i64 (Int.tdiv (IntKind.wrap .i64 ((x0 : Nat) : Int)) (8388608 : Int))))) default))
    (.br ((spec_l01Common (IntKind.wrap .i64 ((Int.tmod (IntKind.wrap .i64 ((x0 : Nat) : Int)) (8388608 : Int)) + (8388608 : Int))) (Option.getD (spec_l05Exact.l5.r ((IntKind.wrap .i64 ((Int.tmod (IntKind.wrap .i64 ((x0 : Nat) : Int)) (8388608 : Int)) + (8388608 : Int))), (0 : Int), (0 : Int)) ((1 : Int), (IntKind.wrap .i64 (Int.tdiv (IntKind.wrap .i64 ((x0 : Nat) : Int)) (8388608 : Int))))) default)) == 0)
     .bad
     (.br ((spec_l01Common (IntKind.wrap .i64 ((Int.tmod (IntKind.wrap .i64 ((x0 : Nat) : Int)) (8388608 : Int)) + (8388608 : Int))) (Option.getD (spec_l05Exact.l5.r ((IntKind.wrap .i64 ((Int.tmod (IntKind.wrap .i64 ((x0 : Nat) : Int)) (8388608 : Int)) + (8388608 : Int))), (0 : Int), (0 : Int)) ((1 : Int), (IntKind.wrap .i64 (Int.tdiv (IntKind.wrap .i64 ((x0 : Nat) : Int)) (8388608 : Int))))) default)) == 0)
      .bad
      (.leaf ((IntKind.wrap .i64 (Int.tdiv (IntKind.wrap .i64 ((Int.tmod (IntKind.wrap .i64 ((x0 : Nat) : Int)) (8388608 : Int)) + (8388608 : Int))) (spec_l01Common (IntKind.wrap .i64 ((Int.tmod (IntKind.wrap .i64 ((x0 : Nat) : Int)) (8388608 : Int)) + (8388608 : Int))) (Option.getD (spec_l05Exact.l5.r ((IntKind.wrap .i64 ((Int.tmod (IntKind.wrap .i64 ((x0 : Nat) : Int)) (8388608 : Int)) + (8388608 : Int))), (0 : Int), (0 : Int)) ((1 : Int), (IntKind.wrap .i64 (Int.tdiv (IntKind.wrap .i64 ((x0 : Nat) : Int)) (8388608 : Int))))) default)))), (IntKind.wrap .i64 (Int.tdiv (Option.getD (spec_l05Exact.l5.r ((IntKind.wrap .i64 ((Int.tmod (IntKind.wrap .i64 ((x0 : Nat) : Int)) (8388608 : Int)) + (8388608 : Int))), (0 : Int), (0 : Int)) ((1 : Int), (IntKind.wrap .i64 (Int.tdiv (IntKind.wrap .i64 ((x0 : Nat) : Int)) (8388608 : Int))))) default) (spec_l01Common (IntKind.wrap .i64 ((Int.tmod (IntKind.wrap .i64 ((x0 : Nat) : Int)) (8388608 : Int)) + (8388608 : Int))) (Option.getD (spec_l05Exact.l5.r ((IntKind.wrap .i64 ((Int.tmod (IntKind.wrap .i64 ((x0 : Nat) : Int)) (8388608 : Int)) + (8388608 : Int))), (0 : Int), (0 : Int)) ((1 : Int), (IntKind.wrap .i64 (Int.tdiv (IntKind.wrap .i64 ((x0 : Nat) : Int)) (8388608 : Int))))) default))))))))
    .bad)
   .bad)
noncomputable def spec_l05Exact (x0 : Nat) : Int × Int := (spec_l05Exact.t x0).val
noncomputable def spec_l05Exact.ok (x0 : Nat) : Bool := (spec_l05Exact.t x0).ok
def spec_l05Exact.cd : Cd Nat (List V × Hp) := Cd.iso (Cd.pair (Cd.cons (Cd.fl .f32) Cd.nil) Cd.nil) (fun a => a.1.1) (fun a => ((a, ()), ())) (fun _ => rfl)
noncomputable def spec_l05Exact.tr (a : Nat) : T (Int × Int) := spec_l05Exact.t a
def spec_l05Exact.enc : Nat → (Int × Int) → V := fun a r => .agg [.it .i64 r.1, .it .i64 r.2]
noncomputable def spec_l05Exact.c : List V → Hp → T V := cdQ spec_l05Exact.cd (fun a => .br (spec_l05Exact.ok a) (.leaf (spec_l05Exact.enc a (spec_l05Exact a))) .bad)
theorem spec_l05Exact.run (a : Nat) : runF spec_l05Exact.C Try.f64.results.toList spec_l05Exact.b (spec_l05Exact.cd.enc a).1 (spec_l05Exact.cd.enc a).2 = (spec_l05Exact.tr a).map fun r => (spec_l05Exact.enc a r, (spec_l05Exact.cd.enc a).2) := by kernel_rfl
theorem spec_l05Exact.cok : OKq Try.prog 64 spec_l05Exact.c := con_q' spec_l05Exact.cd spec_l05Exact.hC Try.func64 (by kernel_rfl) (by kernel_rfl) (by kernel_rfl) spec_l05Exact.lp (fun a => by kernel_rfl) spec_l05Exact.run (Tells.ok (tree := spec_l05Exact.tr))
/-! ### spec_l05Convergents -/
noncomputable def spec_l05Convergents.b : Code := bodyOf Try.f72
noncomputable def spec_l05Convergents.l7.s (x0 : Int) (x1 : Int) (x2 : Int) (x3 : Nat) (x4 : Int) (x5 : Int) (x6 : Int) (x7 : Int) (x8 : List Int) : T ((Int × Int × Nat × Int × Int × Int × Int × List Int) ⊕ (Nat × List Int)) :=
  .br (decide (x2 > (0 : Int)))
  (.br (decide (((x3 : Nat) : Int) < (40 : Int)))
   (.br (x2 == 0)
    .bad
    (.br (decide ((IntKind.wrap .i64 ((IntKind.wrap .i64 ((IntKind.wrap .i64 (Int.tdiv x1 x2)) * x7)) + x5)) > x0))
     (.leaf (.inr (x3, x8)))
     (.br ((Nat.ble 2 (List.length [(IntKind.wrap .i64 ((IntKind.wrap .i64 ((IntKind.wrap .i64 (Int.tdiv x1 x2)) * x6)) + x4)), (IntKind.wrap .i64 ((IntKind.wrap .i64 ((IntKind.wrap .i64 (Int.tdiv x1 x2)) * x7)) + x5))])) && (Nat.beq (List.length x8) (x3 * 2) && Nat.ble ((x3 + 1) * 16) 35184372088832 && Nat.ble (x3 + 1) 35184372088832))
      (.leaf (.inl (x2, (IntKind.wrap .i64 (x1 - (IntKind.wrap .i64 ((IntKind.wrap .i64 (Int.tdiv x1 x2)) * x2)))), (x3 + 1), x6, x7, (IntKind.wrap .i64 ((IntKind.wrap .i64 ((IntKind.wrap .i64 (Int.tdiv x1 x2)) * x6)) + x4)), (IntKind.wrap .i64 ((IntKind.wrap .i64 ((IntKind.wrap .i64 (Int.tdiv x1 x2)) * x7)) + x5)), (x8 ++ (List.take 2 (List.drop 0 [(IntKind.wrap .i64 ((IntKind.wrap .i64 ((IntKind.wrap .i64 (Int.tdiv x1 x2)) * x6)) + x4)), (IntKind.wrap .i64 ((IntKind.wrap .i64 ((IntKind.wrap .i64 (Int.tdiv x1 x2)) * x7)) + x5))]))))))
      .bad)))
   (.leaf (.inr (x3, x8))))
  (.leaf (.inr (x3, x8)))
noncomputable def spec_l05Convergents.l7.st (p : Int) (x : Int × Int × Nat × Int × Int × Int × Int × List Int) : T ((Int × Int × Nat × Int × Int × Int × Int × List Int) ⊕ (Nat × List Int)) := spec_l05Convergents.l7.s p x.1 x.2.1 x.2.2.1 x.2.2.2.1 x.2.2.2.2.1 x.2.2.2.2.2.1 x.2.2.2.2.2.2.1 x.2.2.2.2.2.2.2
noncomputable def spec_l05Convergents.l7.r (p : Int) (x : Int × Int × Nat × Int × Int × Int × Int × List Int) : Option (Nat × List Int) := iterT (spec_l05Convergents.l7.st p) manyRounds x
def spec_l05Convergents.l7.cd : Cd (Int × (Int × Int × Nat × Int × Int × Int × Int × List Int)) (List V × Hp) := Cd.iso (Cd.pair (Cd.cons (Cd.it .i64) (Cd.cons (Cd.it .i64) (Cd.cons (Cd.it .i64) (Cd.cons (Cd.pt 0 (Cd.natc 0)) (Cd.cons (Cd.pt 1 (Cd.natc 0)) (Cd.cons (Cd.own 2) Cd.nil)))))) (Cd.cons (Cd.rw 33 2 (Cd.vs (Cd.cons (Cd.it .i64) (Cd.cons (Cd.it .i64) Cd.nil)))) (Cd.cons (Cd.rw 33 2 (Cd.vs (Cd.cons (Cd.it .i64) (Cd.cons (Cd.it .i64) Cd.nil)))) (Cd.cons (Cd.rw 33 2 (Cd.is .i64)) Cd.nil)))) (fun a => (a.1.1, (a.1.2.1, a.1.2.2.1, a.1.2.2.2.2.2.1, a.2.1.1, a.2.1.2.1, a.2.2.1.1, a.2.2.1.2.1, a.2.2.2.1))) (fun a => ((a.1, (a.2.1, (a.2.2.1, ((), ((), (a.2.2.2.1, ())))))), ((a.2.2.2.2.1, (a.2.2.2.2.2.1, ())), ((a.2.2.2.2.2.2.1, (a.2.2.2.2.2.2.2.1, ())), (a.2.2.2.2.2.2.2.2, ()))))) (fun _ => rfl)
def spec_l05Convergents.l7.out (p : Int) : (Nat × List Int) → X × List V × Hp := (fun r => (.ex 0, [.own 0 r.1], [some ⟨true, 33, 2, .is .i64 r.2⟩]))
def spec_l05Convergents.l7.ex (p : Int) : (Nat × List Int) → T (X × List V × Hp) := leafT (fun r => (.ex 0, [.own 0 r.1], [some ⟨true, 33, 2, .is .i64 r.2⟩]))
noncomputable def spec_l05Convergents.l7.c : List V → Hp → T (X × List V × Hp) := cdL spec_l05Convergents.l7.cd fun x => optT (spec_l05Convergents.l7.r x.1 x.2) (spec_l05Convergents.l7.ex x.1)
noncomputable def spec_l05Convergents.C : Ctx := { ty := tys, fn := [(64, .q spec_l05Exact.c)], lp := [(7, ⟨[1, 6, 7, 8, 9, 10], [10], spec_l05Convergents.l7.c⟩)], n := 66, k := 0 }
theorem spec_l05Convergents.hC : CtxOK Try.prog spec_l05Convergents.C := CtxOK.of mo tys_ok (FnsOK.cons spec_l05Exact.cok FnsOK.nil)
noncomputable def spec_l05Convergents.b7 : Code := (nthC (loopsOf spec_l05Convergents.b) 0)
theorem spec_l05Convergents.lp7 : LpOK Try.prog spec_l05Convergents.C spec_l05Convergents.b7 := (LpOK.nil (by kernel_rfl))
theorem spec_l05Convergents.l7.round (p : Int) (s : Int × Int × Nat × Int × Int × Int × Int × List Int) : roundL spec_l05Convergents.C [1, 6, 7, 8, 9, 10] [10] spec_l05Convergents.b7 (spec_l05Convergents.l7.cd.enc (p, s)).1 (spec_l05Convergents.l7.cd.enc (p, s)).2 = (spec_l05Convergents.l7.st p s).map (encSum (fun s => spec_l05Convergents.l7.cd.enc (p, s)) (spec_l05Convergents.l7.out p)) := by kernel_rfl
theorem spec_l05Convergents.l7.lok : LoopOK Try.prog spec_l05Convergents.C ⟨[1, 6, 7, 8, 9, 10], [10], spec_l05Convergents.l7.c⟩ spec_l05Convergents.b7 := loop_cd spec_l05Convergents.l7.cd spec_l05Convergents.hC spec_l05Convergents.lp7 spec_l05Convergents.l7.round fun p => Gets.leaf
theorem spec_l05Convergents.lp : LpOK Try.prog spec_l05Convergents.C spec_l05Convergents.b := lp_of (by kernel_rfl) (LpsOK.cons (k := 7) (by kernel_rfl) (by kernel_rfl) spec_l05Convergents.l7.lok LpsOK.nil)
noncomputable def spec_l05Convergents.t (x0 : Nat) (x1 : Int) : T (Nat × List Int) :=
  .br (spec_l05Exact.ok x0)
  (.br (Option.isSome (spec_l05Convergents.l7.r x1 ((spec_l05Exact x0).1, (spec_l05Exact x0).2, 0, (0 : Int), (1 : Int), (1 : Int), (0 : Int), [])))
   (.leaf ((Option.getD (spec_l05Convergents.l7.r x1 ((spec_l05Exact x0).1, (spec_l05Exact x0).2, 0, (0 : Int), (1 : Int), (1 : Int), (0 : Int), [])) default).1, (Option.getD (spec_l05Convergents.l7.r x1 ((spec_l05Exact x0).1, (spec_l05Exact x0).2, 0, (0 : Int), (1 : Int), (1 : Int), (0 : Int), [])) default).2))
   .bad)
  .bad
noncomputable def spec_l05Convergents (x0 : Nat) (x1 : Int) : Nat × List Int := (spec_l05Convergents.t x0 x1).val
noncomputable def spec_l05Convergents.ok (x0 : Nat) (x1 : Int) : Bool := (spec_l05Convergents.t x0 x1).ok
def spec_l05Convergents.cd : Cd (Nat × Int) (List V × Hp) := Cd.iso (Cd.pair (Cd.cons (Cd.fl .f32) (Cd.cons (Cd.it .i64) Cd.nil)) Cd.nil) (fun a => (a.1.1, a.1.2.1)) (fun a => ((a.1, (a.2, ())), ())) (fun _ => rfl)
noncomputable def spec_l05Convergents.tr (a : Nat × Int) : T (Nat × List Int) := spec_l05Convergents.t a.1 a.2
def spec_l05Convergents.enc : (Nat × Int) → (Nat × List Int) → V × Hp := fun a r => (.own 0 r.1, [some ⟨true, 33, 2, .is .i64 r.2⟩])
noncomputable def spec_l05Convergents.c : List V → Hp → T (V × Hp) := cdE spec_l05Convergents.cd (fun a => .br (spec_l05Convergents.ok a.1 a.2) (.leaf (spec_l05Convergents.enc a (spec_l05Convergents a.1 a.2))) .bad)
theorem spec_l05Convergents.run (a : Nat × Int) : runF spec_l05Convergents.C Try.f72.results.toList spec_l05Convergents.b (spec_l05Convergents.cd.enc a).1 (spec_l05Convergents.cd.enc a).2 = (spec_l05Convergents.tr a).map (spec_l05Convergents.enc a) := by kernel_rfl
theorem spec_l05Convergents.cok : OKe Try.prog 72 spec_l05Convergents.c := con_e' spec_l05Convergents.cd spec_l05Convergents.hC Try.func72 (by kernel_rfl) (by kernel_rfl) (by kernel_rfl) spec_l05Convergents.lp (fun a => by kernel_rfl) spec_l05Convergents.run (Tells.ok (tree := spec_l05Convergents.tr))
/-! ### spec_ConvergentsOf -/
noncomputable def spec_ConvergentsOf.b : Code := bodyOf Try.f29
noncomputable def spec_ConvergentsOf.C : Ctx := { ty := tys, fn := [(66, .q spec_l05Most.c), (72, .e spec_l05Convergents.c)], lp := [], n := 17, k := 0 }
theorem spec_ConvergentsOf.hC : CtxOK Try.prog spec_ConvergentsOf.C := CtxOK.of mo tys_ok (FnsOK.cons spec_l05Most.cok (FnsOK.cons spec_l05Convergents.cok FnsOK.nil))
theorem spec_ConvergentsOf.lp : LpOK Try.prog spec_ConvergentsOf.C spec_ConvergentsOf.b := (LpOK.nil (by kernel_rfl))
noncomputable def spec_ConvergentsOf.t (x0 : Nat) (x1 : Int) : T (Nat × Int × List Int) :=
  .br ((spec_l05Most x0 x1) != (0 : Int))
  (.leaf (0, (spec_l05Most x0 x1), []))
  (.br (spec_l05Convergents.ok x0 x1)
   (.leaf ((spec_l05Convergents x0 x1).1, (0 : Int), (spec_l05Convergents x0 x1).2))
   .bad)
noncomputable def spec_ConvergentsOf (x0 : Nat) (x1 : Int) : Nat × Int × List Int := (spec_ConvergentsOf.t x0 x1).val
noncomputable def spec_ConvergentsOf.ok (x0 : Nat) (x1 : Int) : Bool := (spec_ConvergentsOf.t x0 x1).ok
def spec_ConvergentsOf.cd : Cd (Nat × Int) (List V × Hp) := Cd.iso (Cd.pair (Cd.cons (Cd.fl .f32) (Cd.cons (Cd.it .i64) Cd.nil)) Cd.nil) (fun a => (a.1.1, a.1.2.1)) (fun a => ((a.1, (a.2, ())), ())) (fun _ => rfl)
noncomputable def spec_ConvergentsOf.tr (a : Nat × Int) : T (Nat × Int × List Int) := spec_ConvergentsOf.t a.1 a.2
def spec_ConvergentsOf.enc : (Nat × Int) → (Nat × Int × List Int) → V × Hp := fun a r => (.tup [.own 0 r.1, .it .i64 r.2.1], [some ⟨true, 33, 2, .is .i64 r.2.2⟩])
noncomputable def spec_ConvergentsOf.c : List V → Hp → T (V × Hp) := cdE spec_ConvergentsOf.cd (fun a => .br (spec_ConvergentsOf.ok a.1 a.2) (.leaf (spec_ConvergentsOf.enc a (spec_ConvergentsOf a.1 a.2))) .bad)
theorem spec_ConvergentsOf.run (a : Nat × Int) : runF spec_ConvergentsOf.C Try.f29.results.toList spec_ConvergentsOf.b (spec_ConvergentsOf.cd.enc a).1 (spec_ConvergentsOf.cd.enc a).2 = (spec_ConvergentsOf.tr a).map (spec_ConvergentsOf.enc a) := by kernel_rfl
theorem spec_ConvergentsOf.cok : OKe Try.prog 29 spec_ConvergentsOf.c := con_e' spec_ConvergentsOf.cd spec_ConvergentsOf.hC Try.func29 (by kernel_rfl) (by kernel_rfl) (by kernel_rfl) spec_ConvergentsOf.lp (fun a => by kernel_rfl) spec_ConvergentsOf.run (Tells.ok (tree := spec_ConvergentsOf.tr))
/-! ### impl_between -/
noncomputable def impl_between.b : Code := bodyOf Try.f93
noncomputable def impl_between.C : Ctx := { ty := tys, fn := [], lp := [], n := 15, k := 0 }
theorem impl_between.hC : CtxOK Try.prog impl_between.C := CtxOK.of mo tys_ok FnsOK.nil
theorem impl_between.lp : LpOK Try.prog impl_between.C impl_between.b := (LpOK.nil (by kernel_rfl))
noncomputable def impl_between.t (x0 : Nat) (x1 : Nat) (x2 : Nat) : T Bool :=
  .br (fle .f32 x1 x0)
  (.leaf (fle .f32 x0 x2))
  (.leaf false)
noncomputable def impl_between (x0 : Nat) (x1 : Nat) (x2 : Nat) : Bool := (impl_between.t x0 x1 x2).val
def impl_between.cd : Cd (Nat × Nat × Nat) (List V × Hp) := Cd.iso (Cd.pair (Cd.cons (Cd.fl .f32) (Cd.cons (Cd.fl .f32) (Cd.cons (Cd.fl .f32) Cd.nil))) Cd.nil) (fun a => (a.1.1, a.1.2.1, a.1.2.2.1)) (fun a => ((a.1, (a.2.1, (a.2.2, ()))), ())) (fun _ => rfl)
noncomputable def impl_between.tr (a : Nat × Nat × Nat) : T Bool := impl_between.t a.1 a.2.1 a.2.2
def impl_between.enc : (Nat × Nat × Nat) → Bool → V := fun a r => .bo r
noncomputable def impl_between.c : List V → Hp → T V := cdQ impl_between.cd (fun a => .leaf (impl_between.enc a (impl_between a.1 a.2.1 a.2.2)))
theorem impl_between.run (a : Nat × Nat × Nat) : runF impl_between.C Try.f93.results.toList impl_between.b (impl_between.cd.enc a).1 (impl_between.cd.enc a).2 = (impl_between.tr a).map fun r => (impl_between.enc a r, (impl_between.cd.enc a).2) := by kernel_rfl
theorem impl_between.cok : OKq Try.prog 93 impl_between.c := con_q' impl_between.cd impl_between.hC Try.func93 (by kernel_rfl) (by kernel_rfl) (by kernel_rfl) impl_between.lp (fun a => by kernel_rfl) impl_between.run (Tells.val (tree := impl_between.tr) fun a => by kernel_rfl)
/-! ### impl_isTarget -/
noncomputable def impl_isTarget.b : Code := bodyOf Try.f62
noncomputable def impl_isTarget.C : Ctx := { ty := tys, fn := [(93, .q impl_between.c)], lp := [], n := 5, k := 0 }
theorem impl_isTarget.hC : CtxOK Try.prog impl_isTarget.C := CtxOK.of mo tys_ok (FnsOK.cons impl_between.cok FnsOK.nil)
theorem impl_isTarget.lp : LpOK Try.prog impl_isTarget.C impl_isTarget.b := (LpOK.nil (by kernel_rfl))
noncomputable def impl_isTarget.t (x0 : Nat) : T Bool :=
  .leaf (impl_between x0 981467136 1149239296)
noncomputable def impl_isTarget (x0 : Nat) : Bool := (impl_isTarget.t x0).val
def impl_isTarget.cd : Cd Nat (List V × Hp) := Cd.iso (Cd.pair (Cd.cons (Cd.fl .f32) Cd.nil) Cd.nil) (fun a => a.1.1) (fun a => ((a, ()), ())) (fun _ => rfl)
noncomputable def impl_isTarget.tr (a : Nat) : T Bool := impl_isTarget.t a
def impl_isTarget.enc : Nat → Bool → V := fun a r => .bo r
noncomputable def impl_isTarget.c : List V → Hp → T V := cdQ impl_isTarget.cd (fun a => .leaf (impl_isTarget.enc a (impl_isTarget a)))
theorem impl_isTarget.run (a : Nat) : runF impl_isTarget.C Try.f62.results.toList impl_isTarget.b (impl_isTarget.cd.enc a).1 (impl_isTarget.cd.enc a).2 = (impl_isTarget.tr a).map fun r => (impl_isTarget.enc a r, (impl_isTarget.cd.enc a).2) := by kernel_rfl
theorem impl_isTarget.cok : OKq Try.prog 62 impl_isTarget.c := con_q' impl_isTarget.cd impl_isTarget.hC Try.func62 (by kernel_rfl) (by kernel_rfl) (by kernel_rfl) impl_isTarget.lp (fun a => by kernel_rfl) impl_isTarget.run (Tells.val (tree := impl_isTarget.tr) fun a => by kernel_rfl)
/-! ### impl_within -/
noncomputable def impl_within.b : Code := bodyOf Try.f57
noncomputable def impl_within.C : Ctx := { ty := tys, fn := [], lp := [], n := 15, k := 0 }
theorem impl_within.hC : CtxOK Try.prog impl_within.C := CtxOK.of mo tys_ok FnsOK.nil
theorem impl_within.lp : LpOK Try.prog impl_within.C impl_within.b := (LpOK.nil (by kernel_rfl))
noncomputable def impl_within.t (x0 : Int) (x1 : Int) (x2 : Int) : T Bool :=
  .br (decide (x1 ≤ x0))
  (.leaf (decide (x0 ≤ x2)))
  (.leaf false)
noncomputable def impl_within (x0 : Int) (x1 : Int) (x2 : Int) : Bool := (impl_within.t x0 x1 x2).val
def impl_within.cd : Cd (Int × Int × Int) (List V × Hp) := Cd.iso (Cd.pair (Cd.cons (Cd.it .i64) (Cd.cons (Cd.it .i64) (Cd.cons (Cd.it .i64) Cd.nil))) Cd.nil) (fun a => (a.1.1, a.1.2.1, a.1.2.2.1)) (fun a => ((a.1, (a.2.1, (a.2.2, ()))), ())) (fun _ => rfl)
noncomputable def impl_within.tr (a : Int × Int × Int) : T Bool := impl_within.t a.1 a.2.1 a.2.2
def impl_within.enc : (Int × Int × Int) → Bool → V := fun a r => .bo r
noncomputable def impl_within.c : List V → Hp → T V := cdQ impl_within.cd (fun a => .leaf (impl_within.enc a (impl_within a.1 a.2.1 a.2.2)))
theorem impl_within.run (a : Int × Int × Int) : runF impl_within.C Try.f57.results.toList impl_within.b (impl_within.cd.enc a).1 (impl_within.cd.enc a).2 = (impl_within.tr a).map fun r => (impl_within.enc a r, (impl_within.cd.enc a).2) := by kernel_rfl
theorem impl_within.cok : OKq Try.prog 57 impl_within.c := con_q' impl_within.cd impl_within.hC Try.func57 (by kernel_rfl) (by kernel_rfl) (by kernel_rfl) impl_within.lp (fun a => by kernel_rfl) impl_within.run (Tells.val (tree := impl_within.tr) fun a => by kernel_rfl)
/-! ### impl_exact -/
noncomputable def impl_exact.b : Code := bodyOf Try.f65
noncomputable def impl_exact.l2.s (x0 : Nat) (x1 : Int) (x2 : Int) (x3 : Int) : T ((Nat × Int) ⊕ (Nat × Int)) :=
  .br (ftoiOk .f64 .i64 x0)
  (.br (fne .f64 x0 (fofint .f64 (ftoi .f64 .i64 x0)))
   (.leaf (.inl ((fmul .f64 x0 4611686018427387904), (IntKind.wrap .i64 (x1 * (2 : Int))))))
   (.leaf (.inr (x0, x1))))
  .bad
noncomputable def impl_exact.l2.st (p : Int × Int) (x : Nat × Int) : T ((Nat × Int) ⊕ (Nat × Int)) := impl_exact.l2.s x.1 x.2 p.1 p.2
noncomputable def impl_exact.l2.r (p : Int × Int) (x : Nat × Int) : Option (Nat × Int) := iterT (impl_exact.l2.st p) manyRounds x
def impl_exact.l2.cd : Cd ((Int × Int) × (Nat × Int)) (List V × Hp) := Cd.iso (Cd.pair (Cd.cons (Cd.pt 0 (Cd.natc 0)) (Cd.cons (Cd.fl .f64) (Cd.cons (Cd.it .i64) Cd.nil))) (Cd.cons (Cd.rw 33 2 (Cd.vs (Cd.cons (Cd.it .i64) (Cd.cons (Cd.it .i64) Cd.nil)))) Cd.nil)) (fun a => ((a.2.1.1, a.2.1.2.1), (a.1.2.1, a.1.2.2.1))) (fun a => (((), (a.2.1, (a.2.2, ()))), ((a.1.1, (a.1.2, ())), ()))) (fun _ => rfl)
def impl_exact.l2.out (p : Int × Int) : (Nat × Int) → X × List V × Hp := (fun r => (.ex 0, [.pt 0 0, .fl .f64 r.1, .it .i64 r.2], [some ⟨true, 33, 2, .vs [.it .i64 p.1, .it .i64 p.2]⟩]))
def impl_exact.l2.ex (p : Int × Int) : (Nat × Int) → T (X × List V × Hp) := leafT (fun r => (.ex 0, [.pt 0 0, .fl .f64 r.1, .it .i64 r.2], [some ⟨true, 33, 2, .vs [.it .i64 p.1, .it .i64 p.2]⟩]))
noncomputable def impl_exact.l2.c : List V → Hp → T (X × List V × Hp) := cdL impl_exact.l2.cd fun x => optT (impl_exact.l2.r x.1 x.2) (impl_exact.l2.ex x.1)
noncomputable def impl_exact.C : Ctx := { ty := tys, fn := [], lp := [(2, ⟨[2, 3, 4], [2, 3, 4], impl_exact.l2.c⟩)], n := 20, k := 0 }
theorem impl_exact.hC : CtxOK Try.prog impl_exact.C := CtxOK.of mo tys_ok FnsOK.nil
noncomputable def impl_exact.b2 : Code := (nthC (loopsOf impl_exact.b) 0)
theorem impl_exact.lp2 : LpOK Try.prog impl_exact.C impl_exact.b2 := (LpOK.nil (by kernel_rfl))
theorem impl_exact.l2.round (p : Int × Int) (s : Nat × Int) : roundL impl_exact.C [2, 3, 4] [2, 3, 4] impl_exact.b2 (impl_exact.l2.cd.enc (p, s)).1 (impl_exact.l2.cd.enc (p, s)).2 = (impl_exact.l2.st p s).map (encSum (fun s => impl_exact.l2.cd.enc (p, s)) (impl_exact.l2.out p)) := by kernel_rfl
theorem impl_exact.l2.lok : LoopOK Try.prog impl_exact.C ⟨[2, 3, 4], [2, 3, 4], impl_exact.l2.c⟩ impl_exact.b2 := loop_cd impl_exact.l2.cd impl_exact.hC impl_exact.lp2 impl_exact.l2.round fun p => Gets.leaf
theorem impl_exact.lp : LpOK Try.prog impl_exact.C impl_exact.b := lp_of (by kernel_rfl) (LpsOK.cons (k := 2) (by kernel_rfl) (by kernel_rfl) impl_exact.l2.lok LpsOK.nil)
noncomputable def impl_exact.t (x0 : Nat) : T (Int × Int) :=
  .br (fcvOpen .f32 .f64 x0)
  .bad
  (.br (Option.isSome (impl_exact.l2.r ((0 : Int), (0 : Int)) ((fcv .f32 .f64 x0), (1 : Int))))
   (.br (ftoiOk .f64 .i64 (Option.getD (impl_exact.l2.r ((0 : Int), (0 : Int)) ((fcv .f32 .f64 x0), (1 : Int))) default).1)
    (.leaf ((ftoi .f64 .i64 (Option.getD (impl_exact.l2.r ((0 : Int), (0 : Int)) ((fcv .f32 .f64 x0), (1 : Int))) default).1), (Option.getD (impl_exact.l2.r ((0 : Int), (0 : Int)) ((fcv .f32 .f64 x0), (1 : Int))) default).2))
    .bad)
   .bad)
noncomputable def impl_exact (x0 : Nat) : Int × Int := (impl_exact.t x0).val
noncomputable def impl_exact.ok (x0 : Nat) : Bool := (impl_exact.t x0).ok
def impl_exact.cd : Cd Nat (List V × Hp) := Cd.iso (Cd.pair (Cd.cons (Cd.fl .f32) Cd.nil) Cd.nil) (fun a => a.1.1) (fun a => ((a, ()), ())) (fun _ => rfl)
noncomputable def impl_exact.tr (a : Nat) : T (Int × Int) := impl_exact.t a
def impl_exact.enc : Nat → (Int × Int) → V := fun a r => .agg [.it .i64 r.1, .it .i64 r.2]
noncomputable def impl_exact.c : List V → Hp → T V := cdQ impl_exact.cd (fun a => .br (impl_exact.ok a) (.leaf (impl_exact.enc a (impl_exact a))) .bad)
theorem impl_exact.run (a : Nat) : runF impl_exact.C Try.f65.results.toList impl_exact.b (impl_exact.cd.enc a).1 (impl_exact.cd.enc a).2 = (impl_exact.tr a).map fun r => (impl_exact.enc a r, (impl_exact.cd.enc a).2) := by kernel_rfl
theorem impl_exact.cok : OKq Try.prog 65 impl_exact.c := con_q' impl_exact.cd impl_exact.hC Try.func65 (by kernel_rfl) (by kernel_rfl) (by kernel_rfl) impl_exact.lp (fun a => by kernel_rfl) impl_exact.run (Tells.ok (tree := impl_exact.tr))
/-! ### impl_ConvergentsOf -/
noncomputable def impl_ConvergentsOf.b : Code := bodyOf Try.f30
noncomputable def impl_ConvergentsOf.l5.s (x0 : Int) (x1 : Nat) (x2 : List Int) (x3 : Int) (x4 : Int) (x5 : Int) (x6 : Int) (x7 : Int) (x8 : Int) : T ((Nat × List Int × Int × Int × Int × Int × Int × Int) ⊕ (Nat × List Int)) :=
  .br (x4 != (0 : Int))
  (.br (decide (((x1 : Nat) : Int) < (40 : Int)))
   (.br (x4 == 0)
    .bad
    (.br (decide ((IntKind.wrap .i64 ((IntKind.wrap .i64 ((IntKind.wrap .i64 (Int.tdiv x3 x4)) * x8)) + x6)) > x0))
     (.leaf (.inr (x1, x2)))
     (.br ((Nat.ble 2 (List.length [(IntKind.wrap .i64 ((IntKind.wrap .i64 ((IntKind.wrap .i64 (Int.tdiv x3 x4)) * x7)) + x5)), (IntKind.wrap .i64 ((IntKind.wrap .i64 ((IntKind.wrap .i64 (Int.tdiv x3 x4)) * x8)) + x6))])) && (Nat.beq (List.length x2) (x1 * 2) && Nat.ble ((x1 + 1) * 16) 35184372088832 && Nat.ble (x1 + 1) 35184372088832))
      (.leaf (.inl ((x1 + 1), (x2 ++ (List.take 2 (List.drop 0 [(IntKind.wrap .i64 ((IntKind.wrap .i64 ((IntKind.wrap .i64 (Int.tdiv x3 x4)) * x7)) + x5)), (IntKind.wrap .i64 ((IntKind.wrap .i64 ((IntKind.wrap .i64 (Int.tdiv x3 x4)) * x8)) + x6))]))), x4, (IntKind.wrap .i64 (x3 - (IntKind.wrap .i64 ((IntKind.wrap .i64 (Int.tdiv x3 x4)) * x4)))), x7, x8, (IntKind.wrap .i64 ((IntKind.wrap .i64 ((IntKind.wrap .i64 (Int.tdiv x3 x4)) * x7)) + x5)), (IntKind.wrap .i64 ((IntKind.wrap .i64 ((IntKind.wrap .i64 (Int.tdiv x3 x4)) * x8)) + x6)))))
      .bad)))
   (.leaf (.inr (x1, x2))))
  (.leaf (.inr (x1, x2)))
noncomputable def impl_ConvergentsOf.l5.st (p : Int) (x : Nat × List Int × Int × Int × Int × Int × Int × Int) : T ((Nat × List Int × Int × Int × Int × Int × Int × Int) ⊕ (Nat × List Int)) := impl_ConvergentsOf.l5.s p x.1 x.2.1 x.2.2.1 x.2.2.2.1 x.2.2.2.2.1 x.2.2.2.2.2.1 x.2.2.2.2.2.2.1 x.2.2.2.2.2.2.2
noncomputable def impl_ConvergentsOf.l5.r (p : Int) (x : Nat × List Int × Int × Int × Int × Int × Int × Int) : Option (Nat × List Int) := iterT (impl_ConvergentsOf.l5.st p) manyRounds x
def impl_ConvergentsOf.l5.cd : Cd (Int × (Nat × List Int × Int × Int × Int × Int × Int × Int)) (List V × Hp) := Cd.iso (Cd.pair (Cd.cons (Cd.it .i64) (Cd.cons (Cd.own 0) (Cd.cons (Cd.pt 1 (Cd.natc 0)) (Cd.cons (Cd.pt 2 (Cd.natc 0)) (Cd.cons (Cd.pt 3 (Cd.natc 0)) Cd.nil))))) (Cd.cons (Cd.rw 33 2 (Cd.is .i64)) (Cd.cons (Cd.rw 33 2 (Cd.vs (Cd.cons (Cd.it .i64) (Cd.cons (Cd.it .i64) Cd.nil)))) (Cd.cons (Cd.rw 33 2 (Cd.vs (Cd.cons (Cd.it .i64) (Cd.cons (Cd.it .i64) Cd.nil)))) (Cd.cons (Cd.rw 33 2 (Cd.vs (Cd.cons (Cd.it .i64) (Cd.cons (Cd.it .i64) Cd.nil)))) Cd.nil))))) (fun a => (a.1.1, (a.1.2.1, a.2.1, a.2.2.1.1, a.2.2.1.2.1, a.2.2.2.1.1, a.2.2.2.1.2.1, a.2.2.2.2.1.1, a.2.2.2.2.1.2.1))) (fun a => ((a.1, (a.2.1, ((), ((), ((), ()))))), (a.2.2.1, ((a.2.2.2.1, (a.2.2.2.2.1, ())), ((a.2.2.2.2.2.1, (a.2.2.2.2.2.2.1, ())), ((a.2.2.2.2.2.2.2.1, (a.2.2.2.2.2.2.2.2, ())), ())))))) (fun _ => rfl)
def impl_ConvergentsOf.l5.out (p : Int) : (Nat × List Int) → X × List V × Hp := (fun r => (.ex 0, [.own 0 r.1], [some ⟨true, 33, 2, .is .i64 r.2⟩]))
def impl_ConvergentsOf.l5.ex (p : Int) : (Nat × List Int) → T (X × List V × Hp) := leafT (fun r => (.ex 0, [.own 0 r.1], [some ⟨true, 33, 2, .is .i64 r.2⟩]))
noncomputable def impl_ConvergentsOf.l5.c : List V → Hp → T (X × List V × Hp) := cdL impl_ConvergentsOf.l5.cd fun x => optT (impl_ConvergentsOf.l5.r x.1 x.2) (impl_ConvergentsOf.l5.ex x.1)
noncomputable def impl_ConvergentsOf.C : Ctx := { ty := tys, fn := [(62, .q impl_isTarget.c), (57, .q impl_within.c), (65, .q impl_exact.c)], lp := [(5, ⟨[1, 6, 7, 8, 9], [6], impl_ConvergentsOf.l5.c⟩)], n := 74, k := 0 }
theorem impl_ConvergentsOf.hC : CtxOK Try.prog impl_ConvergentsOf.C := CtxOK.of mo tys_ok (FnsOK.cons impl_isTarget.cok (FnsOK.cons impl_within.cok (FnsOK.cons impl_exact.cok FnsOK.nil)))
noncomputable def impl_ConvergentsOf.b5 : Code := (nthC (loopsOf impl_ConvergentsOf.b) 0)
theorem impl_ConvergentsOf.lp5 : LpOK Try.prog impl_ConvergentsOf.C impl_ConvergentsOf.b5 := (LpOK.nil (by kernel_rfl))
theorem impl_ConvergentsOf.l5.round (p : Int) (s : Nat × List Int × Int × Int × Int × Int × Int × Int) : roundL impl_ConvergentsOf.C [1, 6, 7, 8, 9] [6] impl_ConvergentsOf.b5 (impl_ConvergentsOf.l5.cd.enc (p, s)).1 (impl_ConvergentsOf.l5.cd.enc (p, s)).2 = (impl_ConvergentsOf.l5.st p s).map (encSum (fun s => impl_ConvergentsOf.l5.cd.enc (p, s)) (impl_ConvergentsOf.l5.out p)) := by kernel_rfl
theorem impl_ConvergentsOf.l5.lok : LoopOK Try.prog impl_ConvergentsOf.C ⟨[1, 6, 7, 8, 9], [6], impl_ConvergentsOf.l5.c⟩ impl_ConvergentsOf.b5 := loop_cd impl_ConvergentsOf.l5.cd impl_ConvergentsOf.hC impl_ConvergentsOf.lp5 impl_ConvergentsOf.l5.round fun p => Gets.leaf
theorem impl_ConvergentsOf.lp : LpOK Try.prog impl_ConvergentsOf.C impl_ConvergentsOf.b := lp_of (by kernel_rfl) (LpsOK.cons (k := 5) (by kernel_rfl) (by kernel_rfl) impl_ConvergentsOf.l5.lok LpsOK.nil)
noncomputable def impl_ConvergentsOf.t (x0 : Nat) (x1 : Int) : T (Int ⊕ (Nat × Int × List Int)) :=
  .br (!(impl_isTarget x0))
  (.leaf (.inl (2 : Int)))
  (.br (!(impl_within x1 (1 : Int) (1000000 : Int)))
   (.leaf (.inl (2 : Int)))
   (.br (impl_exact.ok x0)
    (.br (Option.isSome (impl_ConvergentsOf.l5.r x1 (0, [], (impl_exact x0).1, (impl_exact x0).2, (0 : Int), (1 : Int), (1 : Int), (0 : Int))))
     (.leaf (.inr ((Option.getD (impl_ConvergentsOf.l5.r x1 (0, [], (impl_exact x0).1, (impl_exact x0).2, (0 : Int), (1 : Int), (1 : Int), (0 : Int))) default).1, (0 : Int), (Option.getD (impl_ConvergentsOf.l5.r x1 (0, [], (impl_exact x0).1, (impl_exact x0).2, (0 : Int), (1 : Int), (1 : Int), (0 : Int))) default).2)))
     .bad)
    .bad))
noncomputable def impl_ConvergentsOf (x0 : Nat) (x1 : Int) : Int ⊕ (Nat × Int × List Int) := (impl_ConvergentsOf.t x0 x1).val
noncomputable def impl_ConvergentsOf.ok (x0 : Nat) (x1 : Int) : Bool := (impl_ConvergentsOf.t x0 x1).ok
def impl_ConvergentsOf.cd : Cd (Nat × Int) (List V × Hp) := Cd.iso (Cd.pair (Cd.cons (Cd.fl .f32) (Cd.cons (Cd.it .i64) Cd.nil)) Cd.nil) (fun a => (a.1.1, a.1.2.1)) (fun a => ((a.1, (a.2, ())), ())) (fun _ => rfl)
noncomputable def impl_ConvergentsOf.tr (a : Nat × Int) : T (Int ⊕ (Nat × Int × List Int)) := impl_ConvergentsOf.t a.1 a.2
def impl_ConvergentsOf.enc : (Nat × Int) → (Int ⊕ (Nat × Int × List Int)) → V × Hp := fun a => sumO (fun r => (.tup [.sn, .it .i64 r], [])) (fun r => (.tup [.own 0 r.1, .it .i64 r.2.1], [some ⟨true, 33, 2, .is .i64 r.2.2⟩]))
noncomputable def impl_ConvergentsOf.ex : (Nat × Int) → (Int ⊕ (Nat × Int × List Int)) → T (V × Hp) := fun a => sumT (leafT (fun r => (.tup [.sn, .it .i64 r], []))) (leafT (fun r => (.tup [.own 0 r.1, .it .i64 r.2.1], [some ⟨true, 33, 2, .is .i64 r.2.2⟩])))
noncomputable def impl_ConvergentsOf.c : List V → Hp → T (V × Hp) := cdE impl_ConvergentsOf.cd (fun a => .br (impl_ConvergentsOf.ok a.1 a.2) (impl_ConvergentsOf.ex a (impl_ConvergentsOf a.1 a.2)) .bad)
theorem impl_ConvergentsOf.run (a : Nat × Int) : runF impl_ConvergentsOf.C Try.f30.results.toList impl_ConvergentsOf.b (impl_ConvergentsOf.cd.enc a).1 (impl_ConvergentsOf.cd.enc a).2 = (impl_ConvergentsOf.tr a).map (impl_ConvergentsOf.enc a) := by kernel_rfl
theorem impl_ConvergentsOf.cok : OKe Try.prog 30 impl_ConvergentsOf.c := con_e' impl_ConvergentsOf.cd impl_ConvergentsOf.hC Try.func30 (by kernel_rfl) (by kernel_rfl) (by kernel_rfl) impl_ConvergentsOf.lp (fun a => by kernel_rfl) impl_ConvergentsOf.run (Tells.okS (tree := impl_ConvergentsOf.tr) (ex := impl_ConvergentsOf.ex) fun a => (Gets.sum Gets.leaf Gets.leaf))
/-! ### laws_eqFractionS -/
noncomputable def laws_eqFractionS.b : Code := bodyOf Try.f31
noncomputable def laws_eqFractionS.l4.s (x0 : Nat) (x1 : Int) (x2 : List Int) : T (Unit ⊕ Unit) :=
  .br (decide (x1 < ((0 : Nat) : Int)))
  .bad
  (.leaf (.inr ()))
noncomputable def laws_eqFractionS.l4.st (p : Nat × Int × List Int) (x : Unit) : T (Unit ⊕ Unit) := laws_eqFractionS.l4.s p.1 p.2.1 p.2.2
noncomputable def laws_eqFractionS.l4.r (p : Nat × Int × List Int) (x : Unit) : Option Unit := iterT (laws_eqFractionS.l4.st p) manyRounds x
def laws_eqFractionS.l4.cd : Cd ((Nat × Int × List Int) × Unit) (List V × Hp) := Cd.iso (Cd.pair (Cd.cons Cd.sn (Cd.cons (Cd.own 0) (Cd.cons (Cd.it .i64) Cd.nil))) (Cd.cons (Cd.rw 33 2 (Cd.is .i64)) Cd.nil)) (fun a => ((a.1.2.1, a.1.2.2.1, a.2.1), ())) (fun a => (((), (a.1.1, (a.1.2.1, ()))), (a.1.2.2, ()))) (fun _ => rfl)
def laws_eqFractionS.l4.out (p : Nat × Int × List Int) : Unit → X × List V × Hp := (fun r => (.ex 0, [.unk], [some ⟨true, 33, 2, .is .i64 p.2.2⟩]))
def laws_eqFractionS.l4.ex (p : Nat × Int × List Int) : Unit → T (X × List V × Hp) := leafT (fun r => (.ex 0, [.unk], [some ⟨true, 33, 2, .is .i64 p.2.2⟩]))
noncomputable def laws_eqFractionS.l4.c : List V → Hp → T (X × List V × Hp) := cdL laws_eqFractionS.l4.cd fun x => optT (laws_eqFractionS.l4.r x.1 x.2) (laws_eqFractionS.l4.ex x.1)
noncomputable def laws_eqFractionS.C : Ctx := { ty := tys, fn := [], lp := [(4, ⟨[0, 1, 5], [4], laws_eqFractionS.l4.c⟩)], n := 27, k := 1 }
theorem laws_eqFractionS.hC : CtxOK Try.prog laws_eqFractionS.C := CtxOK.of mo tys_ok FnsOK.nil
noncomputable def laws_eqFractionS.b4 : Code := (nthC (loopsOf laws_eqFractionS.b) 0)
theorem laws_eqFractionS.lp4 : LpOK Try.prog laws_eqFractionS.C laws_eqFractionS.b4 := (LpOK.nil (by kernel_rfl))
theorem laws_eqFractionS.l4.round (p : Nat × Int × List Int) (s : Unit) : roundL laws_eqFractionS.C [0, 1, 5] [4] laws_eqFractionS.b4 (laws_eqFractionS.l4.cd.enc (p, s)).1 (laws_eqFractionS.l4.cd.enc (p, s)).2 = (laws_eqFractionS.l4.st p s).map (encSum (fun s => laws_eqFractionS.l4.cd.enc (p, s)) (laws_eqFractionS.l4.out p)) := by kernel_rfl
theorem laws_eqFractionS.l4.lok : LoopOK Try.prog laws_eqFractionS.C ⟨[0, 1, 5], [4], laws_eqFractionS.l4.c⟩ laws_eqFractionS.b4 := loop_cd laws_eqFractionS.l4.cd laws_eqFractionS.hC laws_eqFractionS.lp4 laws_eqFractionS.l4.round fun p => Gets.leaf
theorem laws_eqFractionS.lp : LpOK Try.prog laws_eqFractionS.C laws_eqFractionS.b := lp_of (by kernel_rfl) (LpsOK.cons (k := 4) (by kernel_rfl) (by kernel_rfl) laws_eqFractionS.l4.lok LpsOK.nil)
noncomputable def laws_eqFractionS.t (x0 : Nat) (x1 : List Int) : T Bool :=
  .br (((0 : Nat) : Int) != ((x0 : Nat) : Int))
  (.leaf false)
  (.br (Option.isSome (laws_eqFractionS.l4.r (x0, (0 : Int), x1) ()))
   (.leaf true)
   .bad)
noncomputable def laws_eqFractionS (x0 : Nat) (x1 : List Int) : Bool := (laws_eqFractionS.t x0 x1).val
noncomputable def laws_eqFractionS.ok (x0 : Nat) (x1 : List Int) : Bool := (laws_eqFractionS.t x0 x1).ok
def laws_eqFractionS.cd : Cd (Nat × List Int) (List V × Hp) := Cd.iso (Cd.pair (Cd.cons Cd.sn (Cd.cons (Cd.own 0) Cd.nil)) (Cd.cons (Cd.rw 33 2 (Cd.is .i64)) Cd.nil)) (fun a => (a.1.2.1, a.2.1)) (fun a => (((), (a.1, ())), (a.2, ()))) (fun _ => rfl)
noncomputable def laws_eqFractionS.tr (a : Nat × List Int) : T Bool := laws_eqFractionS.t a.1 a.2
def laws_eqFractionS.enc : (Nat × List Int) → Bool → V := fun a r => .bo r
noncomputable def laws_eqFractionS.c : List V → Hp → T V := cdQ laws_eqFractionS.cd (fun a => .br (laws_eqFractionS.ok a.1 a.2) (.leaf (laws_eqFractionS.enc a (laws_eqFractionS a.1 a.2))) .bad)
theorem laws_eqFractionS.run (a : Nat × List Int) : runF laws_eqFractionS.C Try.f31.results.toList laws_eqFractionS.b (laws_eqFractionS.cd.enc a).1 (laws_eqFractionS.cd.enc a).2 = (laws_eqFractionS.tr a).map fun r => (laws_eqFractionS.enc a r, (laws_eqFractionS.cd.enc a).2) := by kernel_rfl
theorem laws_eqFractionS.cok : OKq Try.prog 31 laws_eqFractionS.c := con_q' laws_eqFractionS.cd laws_eqFractionS.hC Try.func31 (by kernel_rfl) (by kernel_rfl) (by kernel_rfl) laws_eqFractionS.lp (fun a => by kernel_rfl) laws_eqFractionS.run (Tells.ok (tree := laws_eqFractionS.tr))
/-! ### laws_markFractionS -/
noncomputable def laws_markFractionS.b : Code := bodyOf Try.f32
noncomputable def laws_markFractionS.l2.s (x0 : Int) (x1 : Int) : T (Unit ⊕ Unit) :=
  .br (decide (x1 < ((0 : Nat) : Int)))
  .bad
  (.leaf (.inr ()))
noncomputable def laws_markFractionS.l2.st (p : Int × Int) (x : Unit) : T (Unit ⊕ Unit) := laws_markFractionS.l2.s p.1 p.2
noncomputable def laws_markFractionS.l2.r (p : Int × Int) (x : Unit) : Option Unit := iterT (laws_markFractionS.l2.st p) manyRounds x
def laws_markFractionS.l2.cd : Cd ((Int × Int) × Unit) (List V × Hp) := Cd.iso (Cd.pair (Cd.cons Cd.sn (Cd.cons (Cd.it .i64) (Cd.cons (Cd.it .i64) Cd.nil))) Cd.nil) (fun a => ((a.1.2.1, a.1.2.2.1), ())) (fun a => (((), (a.1.1, (a.1.2, ()))), ())) (fun _ => rfl)
def laws_markFractionS.l2.out (p : Int × Int) : Unit → X × List V × Hp := (fun r => (.ex 0, [.it .i64 p.1], []))
def laws_markFractionS.l2.ex (p : Int × Int) : Unit → T (X × List V × Hp) := leafT (fun r => (.ex 0, [.it .i64 p.1], []))
noncomputable def laws_markFractionS.l2.c : List V → Hp → T (X × List V × Hp) := cdL laws_markFractionS.l2.cd fun x => optT (laws_markFractionS.l2.r x.1 x.2) (laws_markFractionS.l2.ex x.1)
noncomputable def laws_markFractionS.C : Ctx := { ty := tys, fn := [], lp := [(2, ⟨[0, 1, 5], [1], laws_markFractionS.l2.c⟩)], n := 27, k := 0 }
theorem laws_markFractionS.hC : CtxOK Try.prog laws_markFractionS.C := CtxOK.of mo tys_ok FnsOK.nil
noncomputable def laws_markFractionS.b2 : Code := (nthC (loopsOf laws_markFractionS.b) 0)
theorem laws_markFractionS.lp2 : LpOK Try.prog laws_markFractionS.C laws_markFractionS.b2 := (LpOK.nil (by kernel_rfl))
theorem laws_markFractionS.l2.round (p : Int × Int) (s : Unit) : roundL laws_markFractionS.C [0, 1, 5] [1] laws_markFractionS.b2 (laws_markFractionS.l2.cd.enc (p, s)).1 (laws_markFractionS.l2.cd.enc (p, s)).2 = (laws_markFractionS.l2.st p s).map (encSum (fun s => laws_markFractionS.l2.cd.enc (p, s)) (laws_markFractionS.l2.out p)) := by kernel_rfl
theorem laws_markFractionS.l2.lok : LoopOK Try.prog laws_markFractionS.C ⟨[0, 1, 5], [1], laws_markFractionS.l2.c⟩ laws_markFractionS.b2 := loop_cd laws_markFractionS.l2.cd laws_markFractionS.hC laws_markFractionS.lp2 laws_markFractionS.l2.round fun p => Gets.leaf
theorem laws_markFractionS.lp : LpOK Try.prog laws_markFractionS.C laws_markFractionS.b := lp_of (by kernel_rfl) (LpsOK.cons (k := 2) (by kernel_rfl) (by kernel_rfl) laws_markFractionS.l2.lok LpsOK.nil)
noncomputable def laws_markFractionS.t (x0 : Int) : T Int :=
  .br (Option.isSome (laws_markFractionS.l2.r (x0, (0 : Int)) ()))
  (.leaf x0)
  .bad
noncomputable def laws_markFractionS (x0 : Int) : Int := (laws_markFractionS.t x0).val
noncomputable def laws_markFractionS.ok (x0 : Int) : Bool := (laws_markFractionS.t x0).ok
def laws_markFractionS.cd : Cd Int (List V × Hp) := Cd.iso (Cd.pair (Cd.cons Cd.sn (Cd.cons (Cd.it .i64) Cd.nil)) Cd.nil) (fun a => a.1.2.1) (fun a => (((), (a, ())), ())) (fun _ => rfl)
noncomputable def laws_markFractionS.tr (a : Int) : T Int := laws_markFractionS.t a
def laws_markFractionS.enc : Int → Int → V := fun a r => .it .i64 r
noncomputable def laws_markFractionS.c : List V → Hp → T V := cdQ laws_markFractionS.cd (fun a => .br (laws_markFractionS.ok a) (.leaf (laws_markFractionS.enc a (laws_markFractionS a))) .bad)
theorem laws_markFractionS.run (a : Int) : runF laws_markFractionS.C Try.f32.results.toList laws_markFractionS.b (laws_markFractionS.cd.enc a).1 (laws_markFractionS.cd.enc a).2 = (laws_markFractionS.tr a).map fun r => (laws_markFractionS.enc a r, (laws_markFractionS.cd.enc a).2) := by kernel_rfl
theorem laws_markFractionS.cok : OKq Try.prog 32 laws_markFractionS.c := con_q' laws_markFractionS.cd laws_markFractionS.hC Try.func32 (by kernel_rfl) (by kernel_rfl) (by kernel_rfl) laws_markFractionS.lp (fun a => by kernel_rfl) laws_markFractionS.run (Tells.ok (tree := laws_markFractionS.tr))
/-! ### laws_heldFractionS -/
noncomputable def laws_heldFractionS.b : Code := bodyOf Try.f33
noncomputable def laws_heldFractionS.l2.s (x0 : Int) (x1 : Int) : T (Unit ⊕ Unit) :=
  .br (decide (x1 < ((0 : Nat) : Int)))
  .bad
  (.leaf (.inr ()))
noncomputable def laws_heldFractionS.l2.st (p : Int × Int) (x : Unit) : T (Unit ⊕ Unit) := laws_heldFractionS.l2.s p.1 p.2
noncomputable def laws_heldFractionS.l2.r (p : Int × Int) (x : Unit) : Option Unit := iterT (laws_heldFractionS.l2.st p) manyRounds x
def laws_heldFractionS.l2.cd : Cd ((Int × Int) × Unit) (List V × Hp) := Cd.iso (Cd.pair (Cd.cons Cd.sn (Cd.cons (Cd.it .i64) (Cd.cons (Cd.it .i64) Cd.nil))) Cd.nil) (fun a => ((a.1.2.1, a.1.2.2.1), ())) (fun a => (((), (a.1.1, (a.1.2, ()))), ())) (fun _ => rfl)
def laws_heldFractionS.l2.out (p : Int × Int) : Unit → X × List V × Hp := (fun r => (.ex 0, [.it .i64 p.1, .unk], []))
def laws_heldFractionS.l2.ex (p : Int × Int) : Unit → T (X × List V × Hp) := leafT (fun r => (.ex 0, [.it .i64 p.1, .unk], []))
noncomputable def laws_heldFractionS.l2.c : List V → Hp → T (X × List V × Hp) := cdL laws_heldFractionS.l2.cd fun x => optT (laws_heldFractionS.l2.r x.1 x.2) (laws_heldFractionS.l2.ex x.1)
noncomputable def laws_heldFractionS.C : Ctx := { ty := tys, fn := [], lp := [(2, ⟨[0, 1, 5], [1, 4], laws_heldFractionS.l2.c⟩)], n := 31, k := 0 }
theorem laws_heldFractionS.hC : CtxOK Try.prog laws_heldFractionS.C := CtxOK.of mo tys_ok FnsOK.nil
noncomputable def laws_heldFractionS.b2 : Code := (nthC (loopsOf laws_heldFractionS.b) 0)
theorem laws_heldFractionS.lp2 : LpOK Try.prog laws_heldFractionS.C laws_heldFractionS.b2 := (LpOK.nil (by kernel_rfl))
theorem laws_heldFractionS.l2.round (p : Int × Int) (s : Unit) : roundL laws_heldFractionS.C [0, 1, 5] [1, 4] laws_heldFractionS.b2 (laws_heldFractionS.l2.cd.enc (p, s)).1 (laws_heldFractionS.l2.cd.enc (p, s)).2 = (laws_heldFractionS.l2.st p s).map (encSum (fun s => laws_heldFractionS.l2.cd.enc (p, s)) (laws_heldFractionS.l2.out p)) := by kernel_rfl
theorem laws_heldFractionS.l2.lok : LoopOK Try.prog laws_heldFractionS.C ⟨[0, 1, 5], [1, 4], laws_heldFractionS.l2.c⟩ laws_heldFractionS.b2 := loop_cd laws_heldFractionS.l2.cd laws_heldFractionS.hC laws_heldFractionS.lp2 laws_heldFractionS.l2.round fun p => Gets.leaf
theorem laws_heldFractionS.lp : LpOK Try.prog laws_heldFractionS.C laws_heldFractionS.b := lp_of (by kernel_rfl) (LpsOK.cons (k := 2) (by kernel_rfl) (by kernel_rfl) laws_heldFractionS.l2.lok LpsOK.nil)
noncomputable def laws_heldFractionS.t (x0 : Int) : T Int :=
  .br (Option.isSome (laws_heldFractionS.l2.r (x0, (0 : Int)) ()))
  (.leaf x0)
  .bad
noncomputable def laws_heldFractionS (x0 : Int) : Int := (laws_heldFractionS.t x0).val
noncomputable def laws_heldFractionS.ok (x0 : Int) : Bool := (laws_heldFractionS.t x0).ok
def laws_heldFractionS.cd : Cd Int (List V × Hp) := Cd.iso (Cd.pair (Cd.cons Cd.sn (Cd.cons (Cd.it .i64) Cd.nil)) Cd.nil) (fun a => a.1.2.1) (fun a => (((), (a, ())), ())) (fun _ => rfl)
noncomputable def laws_heldFractionS.tr (a : Int) : T Int := laws_heldFractionS.t a
def laws_heldFractionS.enc : Int → Int → V := fun a r => .it .i64 r
noncomputable def laws_heldFractionS.c : List V → Hp → T V := cdQ laws_heldFractionS.cd (fun a => .br (laws_heldFractionS.ok a) (.leaf (laws_heldFractionS.enc a (laws_heldFractionS a))) .bad)
theorem laws_heldFractionS.run (a : Int) : runF laws_heldFractionS.C Try.f33.results.toList laws_heldFractionS.b (laws_heldFractionS.cd.enc a).1 (laws_heldFractionS.cd.enc a).2 = (laws_heldFractionS.tr a).map fun r => (laws_heldFractionS.enc a r, (laws_heldFractionS.cd.enc a).2) := by kernel_rfl
theorem laws_heldFractionS.cok : OKq Try.prog 33 laws_heldFractionS.c := con_q' laws_heldFractionS.cd laws_heldFractionS.hC Try.func33 (by kernel_rfl) (by kernel_rfl) (by kernel_rfl) laws_heldFractionS.lp (fun a => by kernel_rfl) laws_heldFractionS.run (Tells.ok (tree := laws_heldFractionS.tr))
/-! ### laws_eqFraction -/
noncomputable def laws_eqFraction.b : Code := bodyOf Try.f24
noncomputable def laws_eqFraction.C : Ctx := { ty := tys, fn := [], lp := [], n := 15, k := 0 }
theorem laws_eqFraction.hC : CtxOK Try.prog laws_eqFraction.C := CtxOK.of mo tys_ok FnsOK.nil
theorem laws_eqFraction.lp : LpOK Try.prog laws_eqFraction.C laws_eqFraction.b := (LpOK.nil (by kernel_rfl))
noncomputable def laws_eqFraction.t (x0 : Int) (x1 : Int) (x2 : Int) (x3 : Int) : T Bool :=
  .br (x0 != x2)
  (.leaf false)
  (.br (x1 != x3)
   (.leaf false)
   (.leaf true))
noncomputable def laws_eqFraction (x0 : Int) (x1 : Int) (x2 : Int) (x3 : Int) : Bool := (laws_eqFraction.t x0 x1 x2 x3).val
def laws_eqFraction.cd : Cd (Int × Int × Int × Int) (List V × Hp) := Cd.iso (Cd.pair (Cd.cons (Cd.agg (Cd.cons (Cd.it .i64) (Cd.cons (Cd.it .i64) Cd.nil))) (Cd.cons (Cd.agg (Cd.cons (Cd.it .i64) (Cd.cons (Cd.it .i64) Cd.nil))) Cd.nil)) Cd.nil) (fun a => (a.1.1.1, a.1.1.2.1, a.1.2.1.1, a.1.2.1.2.1)) (fun a => (((a.1, (a.2.1, ())), ((a.2.2.1, (a.2.2.2, ())), ())), ())) (fun _ => rfl)
noncomputable def laws_eqFraction.tr (a : Int × Int × Int × Int) : T Bool := laws_eqFraction.t a.1 a.2.1 a.2.2.1 a.2.2.2
def laws_eqFraction.enc : (Int × Int × Int × Int) → Bool → V := fun a r => .bo r
noncomputable def laws_eqFraction.c : List V → Hp → T V := cdQ laws_eqFraction.cd (fun a => .leaf (laws_eqFraction.enc a (laws_eqFraction a.1 a.2.1 a.2.2.1 a.2.2.2)))
theorem laws_eqFraction.run (a : Int × Int × Int × Int) : runF laws_eqFraction.C Try.f24.results.toList laws_eqFraction.b (laws_eqFraction.cd.enc a).1 (laws_eqFraction.cd.enc a).2 = (laws_eqFraction.tr a).map fun r => (laws_eqFraction.enc a r, (laws_eqFraction.cd.enc a).2) := by kernel_rfl
theorem laws_eqFraction.cok : OKq Try.prog 24 laws_eqFraction.c := con_q' laws_eqFraction.cd laws_eqFraction.hC Try.func24 (by kernel_rfl) (by kernel_rfl) (by kernel_rfl) laws_eqFraction.lp (fun a => by kernel_rfl) laws_eqFraction.run (Tells.val (tree := laws_eqFraction.tr) fun a => by kernel_rfl)
/-! ### laws_eqFractionS_w1 -/
noncomputable def laws_eqFractionS_w1.b : Code := bodyOf Try.f31
noncomputable def laws_eqFractionS_w1.l4.s (x0 : Nat) (x1 : Nat) (x2 : Int) (x3 : List Int) (x4 : List Int) : T (Int ⊕ (Bool ⊕ Unit)) :=
  .br (decide (x2 < ((x0 : Nat) : Int)))
  (.br (bounds x2 x0)
   (.br (Nat.ble ((Int.toNat x2 * 2) + 2) (List.length x3))
    (.br (bounds x2 x1)
     (.br (Nat.ble ((Int.toNat x2 * 2) + 2) (List.length x4))
      (.br (!(laws_eqFraction (List.getD x3 (Int.toNat x2 * 2) 0) (List.getD x3 ((Int.toNat x2 * 2) + 1) 0) (List.getD x4 (Int.toNat x2 * 2) 0) (List.getD x4 ((Int.toNat x2 * 2) + 1) 0)))
       (.leaf (.inr (.inl false)))
       (.leaf (.inl (IntKind.wrap .i64 (x2 + (1 : Int))))))
      .bad)
     .bad)
    .bad)
   .bad)
  (.leaf (.inr (.inr ())))
noncomputable def laws_eqFractionS_w1.l4.st (p : Nat × Nat × List Int × List Int) (x : Int) : T (Int ⊕ (Bool ⊕ Unit)) := laws_eqFractionS_w1.l4.s p.1 p.2.1 x p.2.2.1 p.2.2.2
noncomputable def laws_eqFractionS_w1.l4.r (p : Nat × Nat × List Int × List Int) (x : Int) : Option (Bool ⊕ Unit) := iterT (laws_eqFractionS_w1.l4.st p) manyRounds x
def laws_eqFractionS_w1.l4.cd : Cd ((Nat × Nat × List Int × List Int) × Int) (List V × Hp) := Cd.iso (Cd.pair (Cd.cons (Cd.own 0) (Cd.cons (Cd.own 1) (Cd.cons (Cd.it .i64) Cd.nil))) (Cd.cons (Cd.rw 33 2 (Cd.is .i64)) (Cd.cons (Cd.rw 33 2 (Cd.is .i64)) Cd.nil))) (fun a => ((a.1.1, a.1.2.1, a.2.1, a.2.2.1), a.1.2.2.1)) (fun a => ((a.1.1, (a.1.2.1, (a.2, ()))), (a.1.2.2.1, (a.1.2.2.2, ())))) (fun _ => rfl)
def laws_eqFractionS_w1.l4.out (p : Nat × Nat × List Int × List Int) : (Bool ⊕ Unit) → X × List V × Hp := sumO (fun r => (.ret, [.bo r], [some ⟨true, 33, 2, .is .i64 p.2.2.1⟩, some ⟨true, 33, 2, .is .i64 p.2.2.2⟩])) (fun r => (.ex 0, [.unk], [some ⟨true, 33, 2, .is .i64 p.2.2.1⟩, some ⟨true, 33, 2, .is .i64 p.2.2.2⟩]))
def laws_eqFractionS_w1.l4.ex (p : Nat × Nat × List Int × List Int) : (Bool ⊕ Unit) → T (X × List V × Hp) := sumT (leafT (fun r => (.ret, [.bo r], [some ⟨true, 33, 2, .is .i64 p.2.2.1⟩, some ⟨true, 33, 2, .is .i64 p.2.2.2⟩]))) (leafT (fun r => (.ex 0, [.unk], [some ⟨true, 33, 2, .is .i64 p.2.2.1⟩, some ⟨true, 33, 2, .is .i64 p.2.2.2⟩])))
noncomputable def laws_eqFractionS_w1.l4.c : List V → Hp → T (X × List V × Hp) := cdL laws_eqFractionS_w1.l4.cd fun x => optT (laws_eqFractionS_w1.l4.r x.1 x.2) (laws_eqFractionS_w1.l4.ex x.1)
noncomputable def laws_eqFractionS_w1.C : Ctx := { ty := tys, fn := [(24, .q laws_eqFraction.c)], lp := [(4, ⟨[0, 1, 5], [4], laws_eqFractionS_w1.l4.c⟩)], n := 27, k := 2 }
theorem laws_eqFractionS_w1.hC : CtxOK Try.prog laws_eqFractionS_w1.C := CtxOK.of mo tys_ok (FnsOK.cons laws_eqFraction.cok FnsOK.nil)
noncomputable def laws_eqFractionS_w1.b4 : Code := (nthC (loopsOf laws_eqFractionS_w1.b) 0)
theorem laws_eqFractionS_w1.lp4 : LpOK Try.prog laws_eqFractionS_w1.C laws_eqFractionS_w1.b4 := (LpOK.nil (by kernel_rfl))
theorem laws_eqFractionS_w1.l4.round (p : Nat × Nat × List Int × List Int) (s : Int) : roundL laws_eqFractionS_w1.C [0, 1, 5] [4] laws_eqFractionS_w1.b4 (laws_eqFractionS_w1.l4.cd.enc (p, s)).1 (laws_eqFractionS_w1.l4.cd.enc (p, s)).2 = (laws_eqFractionS_w1.l4.st p s).map (encSum (fun s => laws_eqFractionS_w1.l4.cd.enc (p, s)) (laws_eqFractionS_w1.l4.out p)) := by kernel_rfl
theorem laws_eqFractionS_w1.l4.lok : LoopOK Try.prog laws_eqFractionS_w1.C ⟨[0, 1, 5], [4], laws_eqFractionS_w1.l4.c⟩ laws_eqFractionS_w1.b4 := loop_cd laws_eqFractionS_w1.l4.cd laws_eqFractionS_w1.hC laws_eqFractionS_w1.lp4 laws_eqFractionS_w1.l4.round fun p => (Gets.sum Gets.leaf Gets.leaf)
theorem laws_eqFractionS_w1.lp : LpOK Try.prog laws_eqFractionS_w1.C laws_eqFractionS_w1.b := lp_of (by kernel_rfl) (LpsOK.cons (k := 4) (by kernel_rfl) (by kernel_rfl) laws_eqFractionS_w1.l4.lok LpsOK.nil)
noncomputable def laws_eqFractionS_w1.t (x0 : Nat) (x1 : Nat) (x2 : List Int) (x3 : List Int) : T Bool :=
  .br (((x0 : Nat) : Int) != ((x1 : Nat) : Int))
  (.leaf false)
  (.br (Option.isSome (laws_eqFractionS_w1.l4.r (x0, x1, x2, x3) (0 : Int)))
   (.br (Sum.isLeft (Option.getD (laws_eqFractionS_w1.l4.r (x0, x1, x2, x3) (0 : Int)) default))
    (.leaf (getLeftD (Option.getD (laws_eqFractionS_w1.l4.r (x0, x1, x2, x3) (0 : Int)) default)))
    (.leaf true))
   .bad)
noncomputable def laws_eqFractionS_w1 (x0 : Nat) (x1 : Nat) (x2 : List Int) (x3 : List Int) : Bool := (laws_eqFractionS_w1.t x0 x1 x2 x3).val
noncomputable def laws_eqFractionS_w1.ok (x0 : Nat) (x1 : Nat) (x2 : List Int) (x3 : List Int) : Bool := (laws_eqFractionS_w1.t x0 x1 x2 x3).ok
def laws_eqFractionS_w1.cd : Cd (Nat × Nat × List Int × List Int) (List V × Hp) := Cd.iso (Cd.pair (Cd.cons (Cd.own 0) (Cd.cons (Cd.own 1) Cd.nil)) (Cd.cons (Cd.rw 33 2 (Cd.is .i64)) (Cd.cons (Cd.rw 33 2 (Cd.is .i64)) Cd.nil))) (fun a => (a.1.1, a.1.2.1, a.2.1, a.2.2.1)) (fun a => ((a.1, (a.2.1, ())), (a.2.2.1, (a.2.2.2, ())))) (fun _ => rfl)
noncomputable def laws_eqFractionS_w1.tr (a : Nat × Nat × List Int × List Int) : T Bool := laws_eqFractionS_w1.t a.1 a.2.1 a.2.2.1 a.2.2.2
def laws_eqFractionS_w1.enc : (Nat × Nat × List Int × List Int) → Bool → V := fun a r => .bo r
noncomputable def laws_eqFractionS_w1.c : List V → Hp → T V := cdQ laws_eqFractionS_w1.cd (fun a => .br (laws_eqFractionS_w1.ok a.1 a.2.1 a.2.2.1 a.2.2.2) (.leaf (laws_eqFractionS_w1.enc a (laws_eqFractionS_w1 a.1 a.2.1 a.2.2.1 a.2.2.2))) .bad)
theorem laws_eqFractionS_w1.run (a : Nat × Nat × List Int × List Int) : runF laws_eqFractionS_w1.C Try.f31.results.toList laws_eqFractionS_w1.b (laws_eqFractionS_w1.cd.enc a).1 (laws_eqFractionS_w1.cd.enc a).2 = (laws_eqFractionS_w1.tr a).map fun r => (laws_eqFractionS_w1.enc a r, (laws_eqFractionS_w1.cd.enc a).2) := by kernel_rfl
theorem laws_eqFractionS_w1.cok : OKq Try.prog 31 laws_eqFractionS_w1.c := con_q' laws_eqFractionS_w1.cd laws_eqFractionS_w1.hC Try.func31 (by kernel_rfl) (by kernel_rfl) (by kernel_rfl) laws_eqFractionS_w1.lp (fun a => by kernel_rfl) laws_eqFractionS_w1.run (Tells.ok (tree := laws_eqFractionS_w1.tr))
/-! ### laws_markFractionS_w1 -/
noncomputable def laws_markFractionS_w1.b : Code := bodyOf Try.f32
noncomputable def laws_markFractionS_w1.l2.s (x0 : Nat) (x1 : Int) (x2 : Int) (x3 : List Int) : T ((Int × Int × List Int) ⊕ (Int × List Int)) :=
  .br (decide (x2 < ((x0 : Nat) : Int)))
  (.br (bounds x2 x0)
   (.br (Nat.ble (((Int.toNat x2 * 2) + 0) + 1) (List.length x3))
    (.br (bounds x2 x0)
     (.br (Nat.ble (((Int.toNat x2 * 2) + 1) + 1) (List.length (List.set x3 ((Int.toNat x2 * 2) + 0) x1)))
      (.leaf (.inl ((IntKind.wrap .i64 ((IntKind.wrap .i64 (x1 + (1 : Int))) + (1 : Int))), (IntKind.wrap .i64 (x2 + (1 : Int))), (List.set (List.set x3 ((Int.toNat x2 * 2) + 0) x1) ((Int.toNat x2 * 2) + 1) (IntKind.wrap .i64 (x1 + (1 : Int)))))))
      .bad)
     .bad)
    .bad)
   .bad)
  (.leaf (.inr (x1, x3)))
noncomputable def laws_markFractionS_w1.l2.st (p : Nat) (x : Int × Int × List Int) : T ((Int × Int × List Int) ⊕ (Int × List Int)) := laws_markFractionS_w1.l2.s p x.1 x.2.1 x.2.2
noncomputable def laws_markFractionS_w1.l2.r (p : Nat) (x : Int × Int × List Int) : Option (Int × List Int) := iterT (laws_markFractionS_w1.l2.st p) manyRounds x
def laws_markFractionS_w1.l2.cd : Cd (Nat × (Int × Int × List Int)) (List V × Hp) := Cd.iso (Cd.pair (Cd.cons (Cd.own 0) (Cd.cons (Cd.it .i64) (Cd.cons (Cd.it .i64) Cd.nil))) (Cd.cons (Cd.rw 33 2 (Cd.is .i64)) Cd.nil)) (fun a => (a.1.1, (a.1.2.1, a.1.2.2.1, a.2.1))) (fun a => ((a.1, (a.2.1, (a.2.2.1, ()))), (a.2.2.2, ()))) (fun _ => rfl)
def laws_markFractionS_w1.l2.out (p : Nat) : (Int × List Int) → X × List V × Hp := (fun r => (.ex 0, [.it .i64 r.1], [some ⟨true, 33, 2, .is .i64 r.2⟩]))
def laws_markFractionS_w1.l2.ex (p : Nat) : (Int × List Int) → T (X × List V × Hp) := leafT (fun r => (.ex 0, [.it .i64 r.1], [some ⟨true, 33, 2, .is .i64 r.2⟩]))
noncomputable def laws_markFractionS_w1.l2.c : List V → Hp → T (X × List V × Hp) := cdL laws_markFractionS_w1.l2.cd fun x => optT (laws_markFractionS_w1.l2.r x.1 x.2) (laws_markFractionS_w1.l2.ex x.1)
noncomputable def laws_markFractionS_w1.C : Ctx := { ty := tys, fn := [], lp := [(2, ⟨[0, 1, 5], [1], laws_markFractionS_w1.l2.c⟩)], n := 27, k := 1 }
theorem laws_markFractionS_w1.hC : CtxOK Try.prog laws_markFractionS_w1.C := CtxOK.of mo tys_ok FnsOK.nil
noncomputable def laws_markFractionS_w1.b2 : Code := (nthC (loopsOf laws_markFractionS_w1.b) 0)
theorem laws_markFractionS_w1.lp2 : LpOK Try.prog laws_markFractionS_w1.C laws_markFractionS_w1.b2 := (LpOK.nil (by kernel_rfl))
theorem laws_markFractionS_w1.l2.round (p : Nat) (s : Int × Int × List Int) : roundL laws_markFractionS_w1.C [0, 1, 5] [1] laws_markFractionS_w1.b2 (laws_markFractionS_w1.l2.cd.enc (p, s)).1 (laws_markFractionS_w1.l2.cd.enc (p, s)).2 = (laws_markFractionS_w1.l2.st p s).map (encSum (fun s => laws_markFractionS_w1.l2.cd.enc (p, s)) (laws_markFractionS_w1.l2.out p)) := by kernel_rfl
theorem laws_markFractionS_w1.l2.lok : LoopOK Try.prog laws_markFractionS_w1.C ⟨[0, 1, 5], [1], laws_markFractionS_w1.l2.c⟩ laws_markFractionS_w1.b2 := loop_cd laws_markFractionS_w1.l2.cd laws_markFractionS_w1.hC laws_markFractionS_w1.lp2 laws_markFractionS_w1.l2.round fun p => Gets.leaf
theorem laws_markFractionS_w1.lp : LpOK Try.prog laws_markFractionS_w1.C laws_markFractionS_w1.b := lp_of (by kernel_rfl) (LpsOK.cons (k := 2) (by kernel_rfl) (by kernel_rfl) laws_markFractionS_w1.l2.lok LpsOK.nil)
noncomputable def laws_markFractionS_w1.t (x0 : Nat) (x1 : Int) (x2 : List Int) : T (Int × List Int) :=
  .br (Option.isSome (laws_markFractionS_w1.l2.r x0 (x1, (0 : Int), x2)))
  (.leaf ((Option.getD (laws_markFractionS_w1.l2.r x0 (x1, (0 : Int), x2)) default).1, (Option.getD (laws_markFractionS_w1.l2.r x0 (x1, (0 : Int), x2)) default).2))
  .bad
noncomputable def laws_markFractionS_w1 (x0 : Nat) (x1 : Int) (x2 : List Int) : Int × List Int := (laws_markFractionS_w1.t x0 x1 x2).val
noncomputable def laws_markFractionS_w1.ok (x0 : Nat) (x1 : Int) (x2 : List Int) : Bool := (laws_markFractionS_w1.t x0 x1 x2).ok
def laws_markFractionS_w1.cd : Cd (Nat × Int × List Int) (List V × Hp) := Cd.iso (Cd.pair (Cd.cons (Cd.own 0) (Cd.cons (Cd.it .i64) Cd.nil)) (Cd.cons (Cd.rw 33 2 (Cd.is .i64)) Cd.nil)) (fun a => (a.1.1, a.1.2.1, a.2.1)) (fun a => ((a.1, (a.2.1, ())), (a.2.2, ()))) (fun _ => rfl)
noncomputable def laws_markFractionS_w1.tr (a : Nat × Int × List Int) : T (Int × List Int) := laws_markFractionS_w1.t a.1 a.2.1 a.2.2
def laws_markFractionS_w1.enc : (Nat × Int × List Int) → (Int × List Int) → V × Hp := fun a r => (.it .i64 r.1, [some ⟨true, 33, 2, .is .i64 r.2⟩])
noncomputable def laws_markFractionS_w1.c : List V → Hp → T (V × Hp) := cdE laws_markFractionS_w1.cd (fun a => .br (laws_markFractionS_w1.ok a.1 a.2.1 a.2.2) (.leaf (laws_markFractionS_w1.enc a (laws_markFractionS_w1 a.1 a.2.1 a.2.2))) .bad)
theorem laws_markFractionS_w1.run (a : Nat × Int × List Int) : runF laws_markFractionS_w1.C Try.f32.results.toList laws_markFractionS_w1.b (laws_markFractionS_w1.cd.enc a).1 (laws_markFractionS_w1.cd.enc a).2 = (laws_markFractionS_w1.tr a).map (laws_markFractionS_w1.enc a) := by kernel_rfl
theorem laws_markFractionS_w1.cok : OKe Try.prog 32 laws_markFractionS_w1.c := con_e' laws_markFractionS_w1.cd laws_markFractionS_w1.hC Try.func32 (by kernel_rfl) (by kernel_rfl) (by kernel_rfl) laws_markFractionS_w1.lp (fun a => by kernel_rfl) laws_markFractionS_w1.run (Tells.ok (tree := laws_markFractionS_w1.tr))
/-! ### laws_heldFractionS_w1 -/
noncomputable def laws_heldFractionS_w1.b : Code := bodyOf Try.f33
noncomputable def laws_heldFractionS_w1.l2.s (x0 : Nat) (x1 : Int) (x2 : Int) (x3 : List Int) : T ((Int × Int) ⊕ ((Int × Int) ⊕ Int)) :=
  .br (decide (x2 < ((x0 : Nat) : Int)))
  (.br (bounds x2 x0)
   (.br (Nat.ble (((Int.toNat x2 * 2) + 0) + 1) (List.length x3))
    (.br ((List.getD x3 ((Int.toNat x2 * 2) + 0) 0) != x1)
     (.leaf (.inr (.inl (x1, (-1 : Int)))))
     (.br (bounds x2 x0)
      (.br (Nat.ble (((Int.toNat x2 * 2) + 1) + 1) (List.length x3))
       (.br ((List.getD x3 ((Int.toNat x2 * 2) + 1) 0) != (IntKind.wrap .i64 (x1 + (1 : Int))))
        (.leaf (.inr (.inl ((IntKind.wrap .i64 (x1 + (1 : Int))), (-1 : Int)))))
        (.leaf (.inl ((IntKind.wrap .i64 ((IntKind.wrap .i64 (x1 + (1 : Int))) + (1 : Int))), (IntKind.wrap .i64 (x2 + (1 : Int)))))))
       .bad)
      .bad))
    .bad)
   .bad)
  (.leaf (.inr (.inr x1)))
noncomputable def laws_heldFractionS_w1.l2.st (p : Nat × List Int) (x : Int × Int) : T ((Int × Int) ⊕ ((Int × Int) ⊕ Int)) := laws_heldFractionS_w1.l2.s p.1 x.1 x.2 p.2
noncomputable def laws_heldFractionS_w1.l2.r (p : Nat × List Int) (x : Int × Int) : Option ((Int × Int) ⊕ Int) := iterT (laws_heldFractionS_w1.l2.st p) manyRounds x
def laws_heldFractionS_w1.l2.cd : Cd ((Nat × List Int) × (Int × Int)) (List V × Hp) := Cd.iso (Cd.pair (Cd.cons (Cd.own 0) (Cd.cons (Cd.it .i64) (Cd.cons (Cd.it .i64) Cd.nil))) (Cd.cons (Cd.rw 33 2 (Cd.is .i64)) Cd.nil)) (fun a => ((a.1.1, a.2.1), (a.1.2.1, a.1.2.2.1))) (fun a => ((a.1.1, (a.2.1, (a.2.2, ()))), (a.1.2, ()))) (fun _ => rfl)
def laws_heldFractionS_w1.l2.out (p : Nat × List Int) : ((Int × Int) ⊕ Int) → X × List V × Hp := sumO (fun r => (.ret, [.it .i64 r.1, .it .i64 r.2], [some ⟨true, 33, 2, .is .i64 p.2⟩])) (fun r => (.ex 0, [.it .i64 r, .unk], [some ⟨true, 33, 2, .is .i64 p.2⟩]))
def laws_heldFractionS_w1.l2.ex (p : Nat × List Int) : ((Int × Int) ⊕ Int) → T (X × List V × Hp) := sumT (leafT (fun r => (.ret, [.it .i64 r.1, .it .i64 r.2], [some ⟨true, 33, 2, .is .i64 p.2⟩]))) (leafT (fun r => (.ex 0, [.it .i64 r, .unk], [some ⟨true, 33, 2, .is .i64 p.2⟩])))
noncomputable def laws_heldFractionS_w1.l2.c : List V → Hp → T (X × List V × Hp) := cdL laws_heldFractionS_w1.l2.cd fun x => optT (laws_heldFractionS_w1.l2.r x.1 x.2) (laws_heldFractionS_w1.l2.ex x.1)
noncomputable def laws_heldFractionS_w1.C : Ctx := { ty := tys, fn := [], lp := [(2, ⟨[0, 1, 5], [1, 4], laws_heldFractionS_w1.l2.c⟩)], n := 31, k := 1 }
theorem laws_heldFractionS_w1.hC : CtxOK Try.prog laws_heldFractionS_w1.C := CtxOK.of mo tys_ok FnsOK.nil
noncomputable def laws_heldFractionS_w1.b2 : Code := (nthC (loopsOf laws_heldFractionS_w1.b) 0)
theorem laws_heldFractionS_w1.lp2 : LpOK Try.prog laws_heldFractionS_w1.C laws_heldFractionS_w1.b2 := (LpOK.nil (by kernel_rfl))
theorem laws_heldFractionS_w1.l2.round (p : Nat × List Int) (s : Int × Int) : roundL laws_heldFractionS_w1.C [0, 1, 5] [1, 4] laws_heldFractionS_w1.b2 (laws_heldFractionS_w1.l2.cd.enc (p, s)).1 (laws_heldFractionS_w1.l2.cd.enc (p, s)).2 = (laws_heldFractionS_w1.l2.st p s).map (encSum (fun s => laws_heldFractionS_w1.l2.cd.enc (p, s)) (laws_heldFractionS_w1.l2.out p)) := by kernel_rfl
theorem laws_heldFractionS_w1.l2.lok : LoopOK Try.prog laws_heldFractionS_w1.C ⟨[0, 1, 5], [1, 4], laws_heldFractionS_w1.l2.c⟩ laws_heldFractionS_w1.b2 := loop_cd laws_heldFractionS_w1.l2.cd laws_heldFractionS_w1.hC laws_heldFractionS_w1.lp2 laws_heldFractionS_w1.l2.round fun p => (Gets.sum Gets.leaf Gets.leaf)
theorem laws_heldFractionS_w1.lp : LpOK Try.prog laws_heldFractionS_w1.C laws_heldFractionS_w1.b := lp_of (by kernel_rfl) (LpsOK.cons (k := 2) (by kernel_rfl) (by kernel_rfl) laws_heldFractionS_w1.l2.lok LpsOK.nil)
noncomputable def laws_heldFractionS_w1.t (x0 : Nat) (x1 : Int) (x2 : List Int) : T Int :=
  .br (Option.isSome (laws_heldFractionS_w1.l2.r (x0, x2) (x1, (0 : Int))))
  (.br (Sum.isLeft (Option.getD (laws_heldFractionS_w1.l2.r (x0, x2) (x1, (0 : Int))) default))
   (.leaf ((getLeftD (Option.getD (laws_heldFractionS_w1.l2.r (x0, x2) (x1, (0 : Int))) default)).2))
   (.leaf (getRightD (Option.getD (laws_heldFractionS_w1.l2.r (x0, x2) (x1, (0 : Int))) default))))
  .bad
noncomputable def laws_heldFractionS_w1 (x0 : Nat) (x1 : Int) (x2 : List Int) : Int := (laws_heldFractionS_w1.t x0 x1 x2).val
noncomputable def laws_heldFractionS_w1.ok (x0 : Nat) (x1 : Int) (x2 : List Int) : Bool := (laws_heldFractionS_w1.t x0 x1 x2).ok
def laws_heldFractionS_w1.cd : Cd (Nat × Int × List Int) (List V × Hp) := Cd.iso (Cd.pair (Cd.cons (Cd.own 0) (Cd.cons (Cd.it .i64) Cd.nil)) (Cd.cons (Cd.rw 33 2 (Cd.is .i64)) Cd.nil)) (fun a => (a.1.1, a.1.2.1, a.2.1)) (fun a => ((a.1, (a.2.1, ())), (a.2.2, ()))) (fun _ => rfl)
noncomputable def laws_heldFractionS_w1.tr (a : Nat × Int × List Int) : T Int := laws_heldFractionS_w1.t a.1 a.2.1 a.2.2
def laws_heldFractionS_w1.enc : (Nat × Int × List Int) → Int → V := fun a r => .it .i64 r
noncomputable def laws_heldFractionS_w1.c : List V → Hp → T V := cdQ laws_heldFractionS_w1.cd (fun a => .br (laws_heldFractionS_w1.ok a.1 a.2.1 a.2.2) (.leaf (laws_heldFractionS_w1.enc a (laws_heldFractionS_w1 a.1 a.2.1 a.2.2))) .bad)
theorem laws_heldFractionS_w1.run (a : Nat × Int × List Int) : runF laws_heldFractionS_w1.C Try.f33.results.toList laws_heldFractionS_w1.b (laws_heldFractionS_w1.cd.enc a).1 (laws_heldFractionS_w1.cd.enc a).2 = (laws_heldFractionS_w1.tr a).map fun r => (laws_heldFractionS_w1.enc a r, (laws_heldFractionS_w1.cd.enc a).2) := by kernel_rfl
theorem laws_heldFractionS_w1.cok : OKq Try.prog 33 laws_heldFractionS_w1.c := con_q' laws_heldFractionS_w1.cd laws_heldFractionS_w1.hC Try.func33 (by kernel_rfl) (by kernel_rfl) (by kernel_rfl) laws_heldFractionS_w1.lp (fun a => by kernel_rfl) laws_heldFractionS_w1.run (Tells.ok (tree := laws_heldFractionS_w1.tr))
/-! ### laws_FnExactConvergentsOf -/
noncomputable def laws_FnExactConvergentsOf.b : Code := bodyOf Try.f8
noncomputable def laws_FnExactConvergentsOf.C : Ctx := { ty := tys, fn := [(29, .e spec_ConvergentsOf.c), (30, .e impl_ConvergentsOf.c), (31, .q (altQ laws_eqFractionS.c laws_eqFractionS_w1.c)), (32, .e (altE (qE laws_markFractionS.c) laws_markFractionS_w1.c)), (33, .q (altQ laws_heldFractionS.c laws_heldFractionS_w1.c))], lp := [], n := 68, k := 0 }
theorem laws_FnExactConvergentsOf.hC : CtxOK Try.prog laws_FnExactConvergentsOf.C := CtxOK.of mo tys_ok (FnsOK.cons spec_ConvergentsOf.cok (FnsOK.cons impl_ConvergentsOf.cok (FnsOK.cons (OKq.alt laws_eqFractionS.cok laws_eqFractionS_w1.cok) (FnsOK.cons (OKe.alt (OKe.of_q laws_markFractionS.cok) laws_markFractionS_w1.cok) (FnsOK.cons (OKq.alt laws_heldFractionS.cok laws_heldFractionS_w1.cok) FnsOK.nil)))))
theorem laws_FnExactConvergentsOf.lp : LpOK Try.prog laws_FnExactConvergentsOf.C laws_FnExactConvergentsOf.b := (LpOK.nil (by kernel_rfl))
noncomputable def laws_FnExactConvergentsOf.t (x0 : Nat) (x1 : Int) : T Bool :=
  .br (spec_ConvergentsOf.ok x0 x1)
  (.br (impl_ConvergentsOf.ok x0 x1)
   (.br (Sum.isLeft (impl_ConvergentsOf x0 x1))
    (.br (laws_eqFractionS.ok ((spec_ConvergentsOf x0 x1).1) ((spec_ConvergentsOf x0 x1).2.2))
     (.br (!(laws_eqFractionS ((spec_ConvergentsOf x0 x1).1) ((spec_ConvergentsOf x0 x1).2.2)))
      (.leaf false)
      (.br ((getLeftD (impl_ConvergentsOf x0 x1)) != (spec_ConvergentsOf x0 x1).2.1)
       (.leaf false)
       (.br (laws_markFractionS.ok (1 : Int))
        (.br (laws_heldFractionS.ok (1 : Int))
         (.br (decide ((laws_heldFractionS (1 : Int)) < (0 : Int)))
          (.leaf false)
          (.br ((laws_heldFractionS (1 : Int)) != (laws_markFractionS (1 : Int)))
           (.leaf false)
           (.br (impl_ConvergentsOf.ok x0 x1)
            (.br (Sum.isLeft (impl_ConvergentsOf x0 x1))
             (.br (laws_eqFractionS.ok ((spec_ConvergentsOf x0 x1).1) ((spec_ConvergentsOf x0 x1).2.2))
              (.br (!(laws_eqFractionS ((spec_ConvergentsOf x0 x1).1) ((spec_ConvergentsOf x0 x1).2.2)))
               (.leaf false)
               (.br ((getLeftD (impl_ConvergentsOf x0 x1)) != (spec_ConvergentsOf x0 x1).2.1)
                (.leaf false)
                (.br (laws_heldFractionS.ok (1 : Int))
                 (.br (decide ((laws_heldFractionS (1 : Int)) < (0 : Int)))
                  (.leaf false)
                  (.br ((laws_heldFractionS (1 : Int)) != (laws_markFractionS (1 : Int)))
                   (.leaf false)
                   (.leaf true)))
                 .bad)))
              .bad)
             (.br (laws_eqFractionS_w1.ok ((getRightD (impl_ConvergentsOf x0 x1)).1) ((spec_ConvergentsOf x0 x1).1) ((getRightD (impl_ConvergentsOf x0 x1)).2.2) ((spec_ConvergentsOf x0 x1).2.2))
              (.br (!(laws_eqFractionS_w1 ((getRightD (impl_ConvergentsOf x0 x1)).1) ((spec_ConvergentsOf x0 x1).1) ((getRightD (impl_ConvergentsOf x0 x1)).2.2) ((spec_ConvergentsOf x0 x1).2.2)))
               (.leaf false)
               (.br ((getRightD (impl_ConvergentsOf x0 x1)).2.1 != (spec_ConvergentsOf x0 x1).2.1)
                (.leaf false)
                (.br (laws_heldFractionS.ok (1 : Int))
                 (.br (decide ((laws_heldFractionS (1 : Int)) < (0 : Int)))
                  (.leaf false)
                  (.br ((laws_heldFractionS (1 : Int)) != (laws_markFractionS (1 : Int)))
                   (.leaf false)
                   (.leaf true)))
                 .bad)))
              .bad))
            .bad)))
         .bad)
        .bad)))
     .bad)
    (.br (laws_eqFractionS_w1.ok ((getRightD (impl_ConvergentsOf x0 x1)).1) ((spec_ConvergentsOf x0 x1).1) ((getRightD (impl_ConvergentsOf x0 x1)).2.2) ((spec_ConvergentsOf x0 x1).2.2))
     (.br (!(laws_eqFractionS_w1 ((getRightD (impl_ConvergentsOf x0 x1)).1) ((spec_ConvergentsOf x0 x1).1) ((getRightD (impl_ConvergentsOf x0 x1)).2.2) ((spec_ConvergentsOf x0 x1).2.2)))
      (.leaf false)
      (.br ((getRightD (impl_ConvergentsOf x0 x1)).2.1 != (spec_ConvergentsOf x0 x1).2.1)
       (.leaf false)
       (.br (laws_markFractionS_w1.ok ((getRightD (impl_ConvergentsOf x0 x1)).1) (1 : Int) ((getRightD (impl_ConvergentsOf x0 x1)).2.2))
        (.br (laws_heldFractionS_w1.ok ((getRightD (impl_ConvergentsOf x0 x1)).1) (1 : Int) ((laws_markFractionS_w1 ((getRightD (impl_ConvergentsOf x0 x1)).1) (1 : Int) ((getRightD (impl_ConvergentsOf x0 x1)).2.2)).2))
         (.br (decide ((laws_heldFractionS_w1 ((getRightD (impl_ConvergentsOf x0 x1)).1) (1 : Int) ((laws_markFractionS_w1 ((getRightD (impl_ConvergentsOf x0 x1)).1) (1 : Int) ((getRightD (impl_ConvergentsOf x0 x1)).2.2)).2)) < (0 : Int)))
          (.leaf false)
          (.br ((laws_heldFractionS_w1 ((getRightD (impl_ConvergentsOf x0 x1)).1) (1 : Int) ((laws_markFractionS_w1 ((getRightD (impl_ConvergentsOf x0 x1)).1) (1 : Int) ((getRightD (impl_ConvergentsOf x0 x1)).2.2)).2)) != (laws_markFractionS_w1 ((getRightD (impl_ConvergentsOf x0 x1)).1) (1 : Int) ((getRightD (impl_ConvergentsOf x0 x1)).2.2)).1)
           (.leaf false)
           (.br (impl_ConvergentsOf.ok x0 x1)
            (.br (Sum.isLeft (impl_ConvergentsOf x0 x1))
             (.br (laws_eqFractionS.ok ((spec_ConvergentsOf x0 x1).1) ((spec_ConvergentsOf x0 x1).2.2))
              (.br (!(laws_eqFractionS ((spec_ConvergentsOf x0 x1).1) ((spec_ConvergentsOf x0 x1).2.2)))
               (.leaf false)
               (.br ((getLeftD (impl_ConvergentsOf x0 x1)) != (spec_ConvergentsOf x0 x1).2.1)
                (.leaf false)
                (.br (laws_heldFractionS_w1.ok ((getRightD (impl_ConvergentsOf x0 x1)).1) (1 : Int) ((laws_markFractionS_w1 ((getRightD (impl_ConvergentsOf x0 x1)).1) (1 : Int) ((getRightD (impl_ConvergentsOf x0 x1)).2.2)).2))
                 (.br (decide ((laws_heldFractionS_w1 ((getRightD (impl_ConvergentsOf x0 x1)).1) (1 : Int) ((laws_markFractionS_w1 ((getRightD (impl_ConvergentsOf x0 x1)).1) (1 : Int) ((getRightD (impl_ConvergentsOf x0 x1)).2.2)).2)) < (0 : Int)))
                  (.leaf false)
                  (.br ((laws_heldFractionS_w1 ((getRightD (impl_ConvergentsOf x0 x1)).1) (1 : Int) ((laws_markFractionS_w1 ((getRightD (impl_ConvergentsOf x0 x1)).1) (1 : Int) ((getRightD (impl_ConvergentsOf x0 x1)).2.2)).2)) != (laws_markFractionS_w1 ((getRightD (impl_ConvergentsOf x0 x1)).1) (1 : Int) ((getRightD (impl_ConvergentsOf x0 x1)).2.2)).1)
                   (.leaf false)
                   (.leaf true)))
                 .bad)))
              .bad)
             (.br (laws_eqFractionS_w1.ok ((getRightD (impl_ConvergentsOf x0 x1)).1) ((spec_ConvergentsOf x0 x1).1) ((getRightD (impl_ConvergentsOf x0 x1)).2.2) ((spec_ConvergentsOf x0 x1).2.2))
              (.br (!(laws_eqFractionS_w1 ((getRightD (impl_ConvergentsOf x0 x1)).1) ((spec_ConvergentsOf x0 x1).1) ((getRightD (impl_ConvergentsOf x0 x1)).2.2) ((spec_ConvergentsOf x0 x1).2.2)))
               (.leaf false)
               (.br ((getRightD (impl_ConvergentsOf x0 x1)).2.1 != (spec_ConvergentsOf x0 x1).2.1)
                (.leaf false)
                (.br (laws_heldFractionS_w1.ok ((getRightD (impl_ConvergentsOf x0 x1)).1) (1 : Int) ((laws_markFractionS_w1 ((getRightD (impl_ConvergentsOf x0 x1)).1) (1 : Int) ((getRightD (impl_ConvergentsOf x0 x1)).2.2)).2))
                 (.br (decide ((laws_heldFractionS_w1 ((getRightD (impl_ConvergentsOf x0 x1)).1) (1 : Int) ((laws_markFractionS_w1 ((getRightD (impl_ConvergentsOf x0 x1)).1) (1 : Int) ((getRightD (impl_ConvergentsOf x0 x1)).2.2)).2)) < (0 : Int)))
                  (.leaf false)
                  (.br ((laws_heldFractionS_w1 ((getRightD (impl_ConvergentsOf x0 x1)).1) (1 : Int) ((laws_markFractionS_w1 ((getRightD (impl_ConvergentsOf x0 x1)).1) (1 : Int) ((getRightD (impl_ConvergentsOf x0 x1)).2.2)).2)) != (laws_markFractionS_w1 ((getRightD (impl_ConvergentsOf x0 x1)).1) (1 : Int) ((getRightD (impl_ConvergentsOf x0 x1)).2.2)).1)
                   (.leaf false)
                   (.leaf true)))
                 .bad)))
              .bad))
            .bad)))
         .bad)
        .bad)))
     .bad))
   .bad)
  .bad
noncomputable def laws_FnExactConvergentsOf (x0 : Nat) (x1 : Int) : Bool := (laws_FnExactConvergentsOf.t x0 x1).val
noncomputable def laws_FnExactConvergentsOf.ok (x0 : Nat) (x1 : Int) : Bool := (laws_FnExactConvergentsOf.t x0 x1).ok
def laws_FnExactConvergentsOf.cd : Cd (Nat × Int) (List V × Hp) := Cd.iso (Cd.pair (Cd.cons (Cd.fl .f32) (Cd.cons (Cd.it .i64) Cd.nil)) Cd.nil) (fun a => (a.1.1, a.1.2.1)) (fun a => ((a.1, (a.2, ())), ())) (fun _ => rfl)
noncomputable def laws_FnExactConvergentsOf.tr (a : Nat × Int) : T Bool := laws_FnExactConvergentsOf.t a.1 a.2
def laws_FnExactConvergentsOf.enc : (Nat × Int) → Bool → V := fun a r => .bo r
noncomputable def laws_FnExactConvergentsOf.c : List V → Hp → T V := cdQ laws_FnExactConvergentsOf.cd (fun a => .br (laws_FnExactConvergentsOf.ok a.1 a.2) (.leaf (laws_FnExactConvergentsOf.enc a (laws_FnExactConvergentsOf a.1 a.2))) .bad)
theorem laws_FnExactConvergentsOf.run (a : Nat × Int) : runF laws_FnExactConvergentsOf.C Try.f8.results.toList laws_FnExactConvergentsOf.b (laws_FnExactConvergentsOf.cd.enc a).1 (laws_FnExactConvergentsOf.cd.enc a).2 = (laws_FnExactConvergentsOf.tr a).map fun r => (laws_FnExactConvergentsOf.enc a r, (laws_FnExactConvergentsOf.cd.enc a).2) := by kernel_rfl
theorem laws_FnExactConvergentsOf.cok : OKq Try.prog 8 laws_FnExactConvergentsOf.c := con_q' laws_FnExactConvergentsOf.cd laws_FnExactConvergentsOf.hC Try.func8 (by kernel_rfl) (by kernel_rfl) (by kernel_rfl) laws_FnExactConvergentsOf.lp (fun a => by kernel_rfl) laws_FnExactConvergentsOf.run (Tells.ok (tree := laws_FnExactConvergentsOf.tr))
theorem laws_FnExactConvergentsOf.walk (a : Nat × Int) (h : (laws_FnExactConvergentsOf.tr a).get = some true) {ρ : Nat → Option Sx.Loc} {w : World} {vs : List Value} (hargs : V.Rs ρ (laws_FnExactConvergentsOf.cd.enc a).1 vs) (hh : HpR ρ (laws_FnExactConvergentsOf.cd.enc a).2 w) :
    Calls Try.prog 8 vs.toArray w fun e w' => e = .returned (.bool true) ∧ Below w.heap.size w w' :=
  law_cd laws_FnExactConvergentsOf.cd laws_FnExactConvergentsOf.hC Try.func8 (by kernel_rfl) (by kernel_rfl) laws_FnExactConvergentsOf.lp (fun a => by kernel_rfl) laws_FnExactConvergentsOf.run (fun a => by kernel_rfl) a (by kernel_rfl) h hargs hh
end Go.Proofs.Ythllapodgemlfaa
