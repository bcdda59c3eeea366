/- The walk of FnExactTrainFor: what each function that it comes to computes, as a tree of tests. -/
import Derived.Test.YthllapodgemlfaaSxP
import Derived.Test.YthllapodgemlfaaChecked
namespace Go.Proofs.Ythllapodgemlfaa
open Go Go.RowKit Sx
set_option linter.unusedVariables false
set_option maxRecDepth 100000
set_option maxHeartbeats 0
noncomputable def ti1 : TI := ⟨Try.t1.desc, 1, 8, [.nf]⟩
theorem ti1_ok : TyOK Try.prog 1 ti1 := TyOK.of (inf := Try.t1) Try.underlying1 (by kernel_rfl) (by kernel_rfl) (by kernel_rfl) (by kernel_rfl)
noncomputable def ti2 : TI := ⟨Try.t2.desc, 1, 8, [.it .i64 (0 : Int)]⟩
theorem ti2_ok : TyOK Try.prog 2 ti2 := TyOK.of (inf := Try.t2) Try.underlying2 (by kernel_rfl) (by kernel_rfl) (by kernel_rfl) (by kernel_rfl)
noncomputable def ti3 : TI := ⟨Try.t3.desc, 1, 8, [.it .i64 (0 : Int)]⟩
theorem ti3_ok : TyOK Try.prog 3 ti3 := TyOK.of (inf := Try.t3) Try.underlying3 (by kernel_rfl) (by kernel_rfl) (by kernel_rfl) (by kernel_rfl)
noncomputable def ti4 : TI := ⟨Try.t4.desc, 1, 1, [.kb false]⟩
theorem ti4_ok : TyOK Try.prog 4 ti4 := TyOK.of (inf := Try.t4) Try.underlying4 (by kernel_rfl) (by kernel_rfl) (by kernel_rfl) (by kernel_rfl)
noncomputable def ti5 : TI := ⟨Try.t5.desc, 1, 1, [.it .u8 (0 : Int)]⟩
theorem ti5_ok : TyOK Try.prog 5 ti5 := TyOK.of (inf := Try.t5) Try.underlying5 (by kernel_rfl) (by kernel_rfl) (by kernel_rfl) (by kernel_rfl)
noncomputable def ti6 : TI := ⟨Try.t5.desc, 1, 1, [.it .u8 (0 : Int)]⟩
theorem ti6_ok : TyOK Try.prog 6 ti6 := TyOK.of (inf := Try.t6) Try.underlying6 (by kernel_rfl) (by kernel_rfl) (by kernel_rfl) (by kernel_rfl)
noncomputable def ti7 : TI := ⟨Try.t7.desc, 4, 24, [.it .i64 (0 : Int), .it .i64 (0 : Int), .kb false, .it .u8 (0 : Int)]⟩
theorem ti7_ok : TyOK Try.prog 7 ti7 := TyOK.of (inf := Try.t7) Try.underlying7 (by kernel_rfl) (by kernel_rfl) (by kernel_rfl) (by kernel_rfl)
noncomputable def ti8 : TI := ⟨Try.t7.desc, 4, 24, [.it .i64 (0 : Int), .it .i64 (0 : Int), .kb false, .it .u8 (0 : Int)]⟩
theorem ti8_ok : TyOK Try.prog 8 ti8 := TyOK.of (inf := Try.t8) Try.underlying8 (by kernel_rfl) (by kernel_rfl) (by kernel_rfl) (by kernel_rfl)
noncomputable def ti9 : TI := ⟨Try.t9.desc, 1, 16, [.st (ByteArray.mk #[])]⟩
theorem ti9_ok : TyOK Try.prog 9 ti9 := TyOK.of (inf := Try.t9) Try.underlying9 (by kernel_rfl) (by kernel_rfl) (by kernel_rfl) (by kernel_rfl)
noncomputable def ti10 : TI := ⟨Try.t9.desc, 1, 16, [.st (ByteArray.mk #[])]⟩
theorem ti10_ok : TyOK Try.prog 10 ti10 := TyOK.of (inf := Try.t10) Try.underlying10 (by kernel_rfl) (by kernel_rfl) (by kernel_rfl) (by kernel_rfl)
noncomputable def ti11 : TI := ⟨Try.t9.desc, 1, 16, [.st (ByteArray.mk #[])]⟩
theorem ti11_ok : TyOK Try.prog 11 ti11 := TyOK.of (inf := Try.t11) Try.underlying11 (by kernel_rfl) (by kernel_rfl) (by kernel_rfl) (by kernel_rfl)
noncomputable def ti12 : TI := ⟨Try.t12.desc, 1, 8, [.it .u64 (0 : Int)]⟩
theorem ti12_ok : TyOK Try.prog 12 ti12 := TyOK.of (inf := Try.t12) Try.underlying12 (by kernel_rfl) (by kernel_rfl) (by kernel_rfl) (by kernel_rfl)
noncomputable def ti13 : TI := ⟨Try.t13.desc, 2, 24, [.st (ByteArray.mk #[]), .it .u64 (0 : Int)]⟩
theorem ti13_ok : TyOK Try.prog 13 ti13 := TyOK.of (inf := Try.t13) Try.underlying13 (by kernel_rfl) (by kernel_rfl) (by kernel_rfl) (by kernel_rfl)
noncomputable def ti14 : TI := ⟨Try.t13.desc, 2, 24, [.st (ByteArray.mk #[]), .it .u64 (0 : Int)]⟩
theorem ti14_ok : TyOK Try.prog 14 ti14 := TyOK.of (inf := Try.t14) Try.underlying14 (by kernel_rfl) (by kernel_rfl) (by kernel_rfl) (by kernel_rfl)
noncomputable def ti15 : TI := ⟨Try.t15.desc, 1, 8, [.pn]⟩
theorem ti15_ok : TyOK Try.prog 15 ti15 := TyOK.of (inf := Try.t15) Try.underlying15 (by kernel_rfl) (by kernel_rfl) (by kernel_rfl) (by kernel_rfl)
noncomputable def ti16 : TI := ⟨Try.t16.desc, 1, 8, [.pn]⟩
theorem ti16_ok : TyOK Try.prog 16 ti16 := TyOK.of (inf := Try.t16) Try.underlying16 (by kernel_rfl) (by kernel_rfl) (by kernel_rfl) (by kernel_rfl)
noncomputable def ti17 : TI := ⟨Try.t17.desc, 1, 8, [.pn]⟩
theorem ti17_ok : TyOK Try.prog 17 ti17 := TyOK.of (inf := Try.t17) Try.underlying17 (by kernel_rfl) (by kernel_rfl) (by kernel_rfl) (by kernel_rfl)
noncomputable def ti18 : TI := ⟨Try.t18.desc, 1, 8, [.pn]⟩
theorem ti18_ok : TyOK Try.prog 18 ti18 := TyOK.of (inf := Try.t18) Try.underlying18 (by kernel_rfl) (by kernel_rfl) (by kernel_rfl) (by kernel_rfl)
noncomputable def ti19 : TI := ⟨Try.t18.desc, 1, 8, [.pn]⟩
theorem ti19_ok : TyOK Try.prog 19 ti19 := TyOK.of (inf := Try.t19) Try.underlying19 (by kernel_rfl) (by kernel_rfl) (by kernel_rfl) (by kernel_rfl)
noncomputable def ti21 : TI := ⟨Try.t21.desc, 1, 4, [.it .i32 (0 : Int)]⟩
theorem ti21_ok : TyOK Try.prog 21 ti21 := TyOK.of (inf := Try.t21) Try.underlying21 (by kernel_rfl) (by kernel_rfl) (by kernel_rfl) (by kernel_rfl)
noncomputable def ti22 : TI := ⟨Try.t22.desc, 1, 24, [.sn]⟩
theorem ti22_ok : TyOK Try.prog 22 ti22 := TyOK.of (inf := Try.t22) Try.underlying22 (by kernel_rfl) (by kernel_rfl) (by kernel_rfl) (by kernel_rfl)
noncomputable def ti23 : TI := ⟨Try.t23.desc, 1, 8, [.nf]⟩
theorem ti23_ok : TyOK Try.prog 23 ti23 := TyOK.of (inf := Try.t23) Try.underlying23 (by kernel_rfl) (by kernel_rfl) (by kernel_rfl) (by kernel_rfl)
noncomputable def ti24 : TI := ⟨Try.t24.desc, 1, 8, [.nf]⟩
theorem ti24_ok : TyOK Try.prog 24 ti24 := TyOK.of (inf := Try.t24) Try.underlying24 (by kernel_rfl) (by kernel_rfl) (by kernel_rfl) (by kernel_rfl)
noncomputable def ti25 : TI := ⟨Try.t25.desc, 1, 8, [.nf]⟩
theorem ti25_ok : TyOK Try.prog 25 ti25 := TyOK.of (inf := Try.t25) Try.underlying25 (by kernel_rfl) (by kernel_rfl) (by kernel_rfl) (by kernel_rfl)
noncomputable def ti26 : TI := ⟨Try.t26.desc, 1, 4, [.fl .f32 0]⟩
theorem ti26_ok : TyOK Try.prog 26 ti26 := TyOK.of (inf := Try.t26) Try.underlying26 (by kernel_rfl) (by kernel_rfl) (by kernel_rfl) (by kernel_rfl)
noncomputable def ti28 : TI := ⟨Try.t28.desc, 1, 8, [.nf]⟩
theorem ti28_ok : TyOK Try.prog 28 ti28 := TyOK.of (inf := Try.t28) Try.underlying28 (by kernel_rfl) (by kernel_rfl) (by kernel_rfl) (by kernel_rfl)
noncomputable def ti29 : TI := ⟨Try.t29.desc, 1, 8, [.nf]⟩
theorem ti29_ok : TyOK Try.prog 29 ti29 := TyOK.of (inf := Try.t29) Try.underlying29 (by kernel_rfl) (by kernel_rfl) (by kernel_rfl) (by kernel_rfl)
noncomputable def ti30 : TI := ⟨Try.t30.desc, 1, 8, [.fl .f64 0]⟩
theorem ti30_ok : TyOK Try.prog 30 ti30 := TyOK.of (inf := Try.t30) Try.underlying30 (by kernel_rfl) (by kernel_rfl) (by kernel_rfl) (by kernel_rfl)
noncomputable def ti31 : TI := ⟨Try.t31.desc, 1, 8, [.nf]⟩
theorem ti31_ok : TyOK Try.prog 31 ti31 := TyOK.of (inf := Try.t31) Try.underlying31 (by kernel_rfl) (by kernel_rfl) (by kernel_rfl) (by kernel_rfl)
noncomputable def ti32 : TI := ⟨Try.t32.desc, 2, 16, [.it .i64 (0 : Int), .it .i64 (0 : Int)]⟩
theorem ti32_ok : TyOK Try.prog 32 ti32 := TyOK.of (inf := Try.t32) Try.underlying32 (by kernel_rfl) (by kernel_rfl) (by kernel_rfl) (by kernel_rfl)
noncomputable def ti33 : TI := ⟨Try.t32.desc, 2, 16, [.it .i64 (0 : Int), .it .i64 (0 : Int)]⟩
theorem ti33_ok : TyOK Try.prog 33 ti33 := TyOK.of (inf := Try.t33) Try.underlying33 (by kernel_rfl) (by kernel_rfl) (by kernel_rfl) (by kernel_rfl)
noncomputable def ti35 : TI := ⟨Try.t35.desc, 1, 8, [.nf]⟩
theorem ti35_ok : TyOK Try.prog 35 ti35 := TyOK.of (inf := Try.t35) Try.underlying35 (by kernel_rfl) (by kernel_rfl) (by kernel_rfl) (by kernel_rfl)
noncomputable def ti36 : TI := ⟨Try.t36.desc, 1, 8, [.nf]⟩
theorem ti36_ok : TyOK Try.prog 36 ti36 := TyOK.of (inf := Try.t36) Try.underlying36 (by kernel_rfl) (by kernel_rfl) (by kernel_rfl) (by kernel_rfl)
noncomputable def ti37 : TI := ⟨Try.t37.desc, 1, 8, [.nf]⟩
theorem ti37_ok : TyOK Try.prog 37 ti37 := TyOK.of (inf := Try.t37) Try.underlying37 (by kernel_rfl) (by kernel_rfl) (by kernel_rfl) (by kernel_rfl)
noncomputable def ti38 : TI := ⟨Try.t38.desc, 1, 8, [.nf]⟩
theorem ti38_ok : TyOK Try.prog 38 ti38 := TyOK.of (inf := Try.t38) Try.underlying38 (by kernel_rfl) (by kernel_rfl) (by kernel_rfl) (by kernel_rfl)
noncomputable def ti39 : TI := ⟨Try.t39.desc, 1, 8, [.nf]⟩
theorem ti39_ok : TyOK Try.prog 39 ti39 := TyOK.of (inf := Try.t39) Try.underlying39 (by kernel_rfl) (by kernel_rfl) (by kernel_rfl) (by kernel_rfl)
noncomputable def ti40 : TI := ⟨Try.t40.desc, 1, 8, [.nf]⟩
theorem ti40_ok : TyOK Try.prog 40 ti40 := TyOK.of (inf := Try.t40) Try.underlying40 (by kernel_rfl) (by kernel_rfl) (by kernel_rfl) (by kernel_rfl)
noncomputable def ti41 : TI := ⟨Try.t41.desc, 1, 8, [.nf]⟩
theorem ti41_ok : TyOK Try.prog 41 ti41 := TyOK.of (inf := Try.t41) Try.underlying41 (by kernel_rfl) (by kernel_rfl) (by kernel_rfl) (by kernel_rfl)
noncomputable def ti42 : TI := ⟨Try.t42.desc, 1, 24, [.sn]⟩
theorem ti42_ok : TyOK Try.prog 42 ti42 := TyOK.of (inf := Try.t42) Try.underlying42 (by kernel_rfl) (by kernel_rfl) (by kernel_rfl) (by kernel_rfl)
noncomputable def ti44 : TI := ⟨Try.t44.desc, 1, 8, [.nf]⟩
theorem ti44_ok : TyOK Try.prog 44 ti44 := TyOK.of (inf := Try.t44) Try.underlying44 (by kernel_rfl) (by kernel_rfl) (by kernel_rfl) (by kernel_rfl)
noncomputable def ti45 : TI := ⟨Try.t45.desc, 1, 8, [.nf]⟩
theorem ti45_ok : TyOK Try.prog 45 ti45 := TyOK.of (inf := Try.t45) Try.underlying45 (by kernel_rfl) (by kernel_rfl) (by kernel_rfl) (by kernel_rfl)
noncomputable def ti46 : TI := ⟨Try.t46.desc, 1, 8, [.nf]⟩
theorem ti46_ok : TyOK Try.prog 46 ti46 := TyOK.of (inf := Try.t46) Try.underlying46 (by kernel_rfl) (by kernel_rfl) (by kernel_rfl) (by kernel_rfl)
noncomputable def ti47 : TI := ⟨Try.t47.desc, 1, 2, [.it .i16 (0 : Int)]⟩
theorem ti47_ok : TyOK Try.prog 47 ti47 := TyOK.of (inf := Try.t47) Try.underlying47 (by kernel_rfl) (by kernel_rfl) (by kernel_rfl) (by kernel_rfl)
noncomputable def ti48 : TI := ⟨Try.t48.desc, 4, 8, [.it .i16 (0 : Int), .it .i16 (0 : Int), .it .i16 (0 : Int), .it .i16 (0 : Int)]⟩
theorem ti48_ok : TyOK Try.prog 48 ti48 := TyOK.of (inf := Try.t48) Try.underlying48 (by kernel_rfl) (by kernel_rfl) (by kernel_rfl) (by kernel_rfl)
noncomputable def ti49 : TI := ⟨Try.t48.desc, 4, 8, [.it .i16 (0 : Int), .it .i16 (0 : Int), .it .i16 (0 : Int), .it .i16 (0 : Int)]⟩
theorem ti49_ok : TyOK Try.prog 49 ti49 := TyOK.of (inf := Try.t49) Try.underlying49 (by kernel_rfl) (by kernel_rfl) (by kernel_rfl) (by kernel_rfl)
noncomputable def ti50 : TI := ⟨Try.t50.desc, 1, 8, [.nf]⟩
theorem ti50_ok : TyOK Try.prog 50 ti50 := TyOK.of (inf := Try.t50) Try.underlying50 (by kernel_rfl) (by kernel_rfl) (by kernel_rfl) (by kernel_rfl)
noncomputable def ti51 : TI := ⟨Try.t48.desc, 4, 8, [.it .i16 (0 : Int), .it .i16 (0 : Int), .it .i16 (0 : Int), .it .i16 (0 : Int)]⟩
theorem ti51_ok : TyOK Try.prog 51 ti51 := TyOK.of (inf := Try.t51) Try.underlying51 (by kernel_rfl) (by kernel_rfl) (by kernel_rfl) (by kernel_rfl)
noncomputable def ti52 : TI := ⟨Try.t52.desc, 1, 8, [.nf]⟩
theorem ti52_ok : TyOK Try.prog 52 ti52 := TyOK.of (inf := Try.t52) Try.underlying52 (by kernel_rfl) (by kernel_rfl) (by kernel_rfl) (by kernel_rfl)
noncomputable def ti53 : TI := ⟨Try.t53.desc, 1, 8, [.nf]⟩
theorem ti53_ok : TyOK Try.prog 53 ti53 := TyOK.of (inf := Try.t53) Try.underlying53 (by kernel_rfl) (by kernel_rfl) (by kernel_rfl) (by kernel_rfl)
noncomputable def ti55 : TI := ⟨Try.t55.desc, 1, 8, [.nf]⟩
theorem ti55_ok : TyOK Try.prog 55 ti55 := TyOK.of (inf := Try.t55) Try.underlying55 (by kernel_rfl) (by kernel_rfl) (by kernel_rfl) (by kernel_rfl)
noncomputable def ti56 : TI := ⟨Try.t56.desc, 1, 8, [.nf]⟩
theorem ti56_ok : TyOK Try.prog 56 ti56 := TyOK.of (inf := Try.t56) Try.underlying56 (by kernel_rfl) (by kernel_rfl) (by kernel_rfl) (by kernel_rfl)
noncomputable def ti58 : TI := ⟨Try.t58.desc, 1, 8, [.nf]⟩
theorem ti58_ok : TyOK Try.prog 58 ti58 := TyOK.of (inf := Try.t58) Try.underlying58 (by kernel_rfl) (by kernel_rfl) (by kernel_rfl) (by kernel_rfl)
noncomputable def ti59 : TI := ⟨Try.t59.desc, 1, 8, [.nf]⟩
theorem ti59_ok : TyOK Try.prog 59 ti59 := TyOK.of (inf := Try.t59) Try.underlying59 (by kernel_rfl) (by kernel_rfl) (by kernel_rfl) (by kernel_rfl)
noncomputable def ti60 : TI := ⟨Try.t60.desc, 1, 24, [.sn]⟩
theorem ti60_ok : TyOK Try.prog 60 ti60 := TyOK.of (inf := Try.t60) Try.underlying60 (by kernel_rfl) (by kernel_rfl) (by kernel_rfl) (by kernel_rfl)
noncomputable def ti62 : TI := ⟨Try.t62.desc, 1, 8, [.nf]⟩
theorem ti62_ok : TyOK Try.prog 62 ti62 := TyOK.of (inf := Try.t62) Try.underlying62 (by kernel_rfl) (by kernel_rfl) (by kernel_rfl) (by kernel_rfl)
noncomputable def ti63 : TI := ⟨Try.t63.desc, 1, 8, [.nf]⟩
theorem ti63_ok : TyOK Try.prog 63 ti63 := TyOK.of (inf := Try.t63) Try.underlying63 (by kernel_rfl) (by kernel_rfl) (by kernel_rfl) (by kernel_rfl)
noncomputable def ti64 : TI := ⟨Try.t64.desc, 1, 8, [.nf]⟩
theorem ti64_ok : TyOK Try.prog 64 ti64 := TyOK.of (inf := Try.t64) Try.underlying64 (by kernel_rfl) (by kernel_rfl) (by kernel_rfl) (by kernel_rfl)
noncomputable def ti65 : TI := ⟨Try.t65.desc, 1, 8, [.nf]⟩
theorem ti65_ok : TyOK Try.prog 65 ti65 := TyOK.of (inf := Try.t65) Try.underlying65 (by kernel_rfl) (by kernel_rfl) (by kernel_rfl) (by kernel_rfl)
noncomputable def ti67 : TI := ⟨Try.t67.desc, 1, 8, [.nf]⟩
theorem ti67_ok : TyOK Try.prog 67 ti67 := TyOK.of (inf := Try.t67) Try.underlying67 (by kernel_rfl) (by kernel_rfl) (by kernel_rfl) (by kernel_rfl)
noncomputable def ti68 : TI := ⟨Try.t68.desc, 1, 8, [.nf]⟩
theorem ti68_ok : TyOK Try.prog 68 ti68 := TyOK.of (inf := Try.t68) Try.underlying68 (by kernel_rfl) (by kernel_rfl) (by kernel_rfl) (by kernel_rfl)
noncomputable def ti69 : TI := ⟨Try.t69.desc, 1, 24, [.sn]⟩
theorem ti69_ok : TyOK Try.prog 69 ti69 := TyOK.of (inf := Try.t69) Try.underlying69 (by kernel_rfl) (by kernel_rfl) (by kernel_rfl) (by kernel_rfl)
noncomputable def ti70 : TI := ⟨Try.t69.desc, 1, 24, [.sn]⟩
theorem ti70_ok : TyOK Try.prog 70 ti70 := TyOK.of (inf := Try.t70) Try.underlying70 (by kernel_rfl) (by kernel_rfl) (by kernel_rfl) (by kernel_rfl)
noncomputable def ti72 : TI := ⟨Try.t72.desc, 1, 8, [.nf]⟩
theorem ti72_ok : TyOK Try.prog 72 ti72 := TyOK.of (inf := Try.t72) Try.underlying72 (by kernel_rfl) (by kernel_rfl) (by kernel_rfl) (by kernel_rfl)
noncomputable def ti73 : TI := ⟨Try.t73.desc, 1, 8, [.nf]⟩
theorem ti73_ok : TyOK Try.prog 73 ti73 := TyOK.of (inf := Try.t73) Try.underlying73 (by kernel_rfl) (by kernel_rfl) (by kernel_rfl) (by kernel_rfl)
noncomputable def ti74 : TI := ⟨Try.t74.desc, 1, 8, [.nf]⟩
theorem ti74_ok : TyOK Try.prog 74 ti74 := TyOK.of (inf := Try.t74) Try.underlying74 (by kernel_rfl) (by kernel_rfl) (by kernel_rfl) (by kernel_rfl)
noncomputable def ti75 : TI := ⟨Try.t75.desc, 1, 8, [.nf]⟩
theorem ti75_ok : TyOK Try.prog 75 ti75 := TyOK.of (inf := Try.t75) Try.underlying75 (by kernel_rfl) (by kernel_rfl) (by kernel_rfl) (by kernel_rfl)
noncomputable def ti76 : TI := ⟨Try.t76.desc, 1, 8, [.nf]⟩
theorem ti76_ok : TyOK Try.prog 76 ti76 := TyOK.of (inf := Try.t76) Try.underlying76 (by kernel_rfl) (by kernel_rfl) (by kernel_rfl) (by kernel_rfl)
noncomputable def ti77 : TI := ⟨Try.t77.desc, 1, 8, [.nf]⟩
theorem ti77_ok : TyOK Try.prog 77 ti77 := TyOK.of (inf := Try.t77) Try.underlying77 (by kernel_rfl) (by kernel_rfl) (by kernel_rfl) (by kernel_rfl)
noncomputable def ti78 : TI := ⟨Try.t78.desc, 1, 8, [.nf]⟩
theorem ti78_ok : TyOK Try.prog 78 ti78 := TyOK.of (inf := Try.t78) Try.underlying78 (by kernel_rfl) (by kernel_rfl) (by kernel_rfl) (by kernel_rfl)
noncomputable def ti79 : TI := ⟨Try.t79.desc, 1, 8, [.nf]⟩
theorem ti79_ok : TyOK Try.prog 79 ti79 := TyOK.of (inf := Try.t79) Try.underlying79 (by kernel_rfl) (by kernel_rfl) (by kernel_rfl) (by kernel_rfl)
noncomputable def ti80 : TI := ⟨Try.t80.desc, 1, 8, [.nf]⟩
theorem ti80_ok : TyOK Try.prog 80 ti80 := TyOK.of (inf := Try.t80) Try.underlying80 (by kernel_rfl) (by kernel_rfl) (by kernel_rfl) (by kernel_rfl)
noncomputable def ti81 : TI := ⟨Try.t81.desc, 1, 8, [.nf]⟩
theorem ti81_ok : TyOK Try.prog 81 ti81 := TyOK.of (inf := Try.t81) Try.underlying81 (by kernel_rfl) (by kernel_rfl) (by kernel_rfl) (by kernel_rfl)
noncomputable def ti82 : TI := ⟨Try.t82.desc, 1, 8, [.nf]⟩
theorem ti82_ok : TyOK Try.prog 82 ti82 := TyOK.of (inf := Try.t82) Try.underlying82 (by kernel_rfl) (by kernel_rfl) (by kernel_rfl) (by kernel_rfl)
noncomputable def ti83 : TI := ⟨Try.t83.desc, 1, 8, [.nf]⟩
theorem ti83_ok : TyOK Try.prog 83 ti83 := TyOK.of (inf := Try.t83) Try.underlying83 (by kernel_rfl) (by kernel_rfl) (by kernel_rfl) (by kernel_rfl)
noncomputable def ti84 : TI := ⟨Try.t84.desc, 1, 8, [.nf]⟩
theorem ti84_ok : TyOK Try.prog 84 ti84 := TyOK.of (inf := Try.t84) Try.underlying84 (by kernel_rfl) (by kernel_rfl) (by kernel_rfl) (by kernel_rfl)
noncomputable def ti85 : TI := ⟨Try.t85.desc, 1, 8, [.nf]⟩
theorem ti85_ok : TyOK Try.prog 85 ti85 := TyOK.of (inf := Try.t85) Try.underlying85 (by kernel_rfl) (by kernel_rfl) (by kernel_rfl) (by kernel_rfl)
noncomputable def ti86 : TI := ⟨Try.t86.desc, 1, 8, [.nf]⟩
theorem ti86_ok : TyOK Try.prog 86 ti86 := TyOK.of (inf := Try.t86) Try.underlying86 (by kernel_rfl) (by kernel_rfl) (by kernel_rfl) (by kernel_rfl)
noncomputable def ti87 : TI := ⟨Try.t87.desc, 1, 8, [.nf]⟩
theorem ti87_ok : TyOK Try.prog 87 ti87 := TyOK.of (inf := Try.t87) Try.underlying87 (by kernel_rfl) (by kernel_rfl) (by kernel_rfl) (by kernel_rfl)
noncomputable def ti88 : TI := ⟨Try.t88.desc, 1, 8, [.nf]⟩
theorem ti88_ok : TyOK Try.prog 88 ti88 := TyOK.of (inf := Try.t88) Try.underlying88 (by kernel_rfl) (by kernel_rfl) (by kernel_rfl) (by kernel_rfl)
noncomputable def ti90 : TI := ⟨Try.t90.desc, 1, 8, [.nf]⟩
theorem ti90_ok : TyOK Try.prog 90 ti90 := TyOK.of (inf := Try.t90) Try.underlying90 (by kernel_rfl) (by kernel_rfl) (by kernel_rfl) (by kernel_rfl)
noncomputable def ti91 : TI := ⟨Try.t91.desc, 1, 8, [.nf]⟩
theorem ti91_ok : TyOK Try.prog 91 ti91 := TyOK.of (inf := Try.t91) Try.underlying91 (by kernel_rfl) (by kernel_rfl) (by kernel_rfl) (by kernel_rfl)
noncomputable def ti93 : TI := ⟨Try.t93.desc, 1, 8, [.nf]⟩
theorem ti93_ok : TyOK Try.prog 93 ti93 := TyOK.of (inf := Try.t93) Try.underlying93 (by kernel_rfl) (by kernel_rfl) (by kernel_rfl) (by kernel_rfl)
noncomputable def ti94 : TI := ⟨Try.t94.desc, 1, 24, [.sn]⟩
theorem ti94_ok : TyOK Try.prog 94 ti94 := TyOK.of (inf := Try.t94) Try.underlying94 (by kernel_rfl) (by kernel_rfl) (by kernel_rfl) (by kernel_rfl)
noncomputable def ti95 : TI := ⟨Try.t95.desc, 1, 8, [.nf]⟩
theorem ti95_ok : TyOK Try.prog 95 ti95 := TyOK.of (inf := Try.t95) Try.underlying95 (by kernel_rfl) (by kernel_rfl) (by kernel_rfl) (by kernel_rfl)
noncomputable def ti96 : TI := ⟨Try.t96.desc, 1, 8, [.nf]⟩
theorem ti96_ok : TyOK Try.prog 96 ti96 := TyOK.of (inf := Try.t96) Try.underlying96 (by kernel_rfl) (by kernel_rfl) (by kernel_rfl) (by kernel_rfl)
noncomputable def ti97 : TI := ⟨Try.t97.desc, 1, 8, [.nf]⟩
theorem ti97_ok : TyOK Try.prog 97 ti97 := TyOK.of (inf := Try.t97) Try.underlying97 (by kernel_rfl) (by kernel_rfl) (by kernel_rfl) (by kernel_rfl)
noncomputable def ti98 : TI := ⟨Try.t98.desc, 2, 16, [.it .i64 (0 : Int), .it .i64 (0 : Int)]⟩
theorem ti98_ok : TyOK Try.prog 98 ti98 := TyOK.of (inf := Try.t98) Try.underlying98 (by kernel_rfl) (by kernel_rfl) (by kernel_rfl) (by kernel_rfl)
noncomputable def ti99 : TI := ⟨Try.t99.desc, 1, 8, [.nf]⟩
theorem ti99_ok : TyOK Try.prog 99 ti99 := TyOK.of (inf := Try.t99) Try.underlying99 (by kernel_rfl) (by kernel_rfl) (by kernel_rfl) (by kernel_rfl)
noncomputable def ti100 : TI := ⟨Try.t100.desc, 1, 8, [.nf]⟩
theorem ti100_ok : TyOK Try.prog 100 ti100 := TyOK.of (inf := Try.t100) Try.underlying100 (by kernel_rfl) (by kernel_rfl) (by kernel_rfl) (by kernel_rfl)
noncomputable def ti101 : TI := ⟨Try.t101.desc, 1, 8, [.nf]⟩
theorem ti101_ok : TyOK Try.prog 101 ti101 := TyOK.of (inf := Try.t101) Try.underlying101 (by kernel_rfl) (by kernel_rfl) (by kernel_rfl) (by kernel_rfl)
noncomputable def ti102 : TI := ⟨Try.t102.desc, 3, 8, [.it .i16 (0 : Int), .it .i16 (0 : Int), .fl .f32 0]⟩
theorem ti102_ok : TyOK Try.prog 102 ti102 := TyOK.of (inf := Try.t102) Try.underlying102 (by kernel_rfl) (by kernel_rfl) (by kernel_rfl) (by kernel_rfl)
noncomputable def ti103 : TI := ⟨Try.t102.desc, 3, 8, [.it .i16 (0 : Int), .it .i16 (0 : Int), .fl .f32 0]⟩
theorem ti103_ok : TyOK Try.prog 103 ti103 := TyOK.of (inf := Try.t103) Try.underlying103 (by kernel_rfl) (by kernel_rfl) (by kernel_rfl) (by kernel_rfl)
noncomputable def ti104 : TI := ⟨Try.t104.desc, 1, 8, [.nf]⟩
theorem ti104_ok : TyOK Try.prog 104 ti104 := TyOK.of (inf := Try.t104) Try.underlying104 (by kernel_rfl) (by kernel_rfl) (by kernel_rfl) (by kernel_rfl)
noncomputable def ti105 : TI := ⟨Try.t105.desc, 1, 8, [.nf]⟩
theorem ti105_ok : TyOK Try.prog 105 ti105 := TyOK.of (inf := Try.t105) Try.underlying105 (by kernel_rfl) (by kernel_rfl) (by kernel_rfl) (by kernel_rfl)
noncomputable def ti106 : TI := ⟨Try.t106.desc, 1, 8, [.nf]⟩
theorem ti106_ok : TyOK Try.prog 106 ti106 := TyOK.of (inf := Try.t106) Try.underlying106 (by kernel_rfl) (by kernel_rfl) (by kernel_rfl) (by kernel_rfl)
noncomputable def ti107 : TI := ⟨Try.t107.desc, 1, 4, [.it .u32 (0 : Int)]⟩
theorem ti107_ok : TyOK Try.prog 107 ti107 := TyOK.of (inf := Try.t107) Try.underlying107 (by kernel_rfl) (by kernel_rfl) (by kernel_rfl) (by kernel_rfl)
noncomputable def ti108 : TI := ⟨Try.t108.desc, 1, 8, [.nf]⟩
theorem ti108_ok : TyOK Try.prog 108 ti108 := TyOK.of (inf := Try.t108) Try.underlying108 (by kernel_rfl) (by kernel_rfl) (by kernel_rfl) (by kernel_rfl)
noncomputable def ti109 : TI := ⟨Try.t109.desc, 1, 8, [.nf]⟩
theorem ti109_ok : TyOK Try.prog 109 ti109 := TyOK.of (inf := Try.t109) Try.underlying109 (by kernel_rfl) (by kernel_rfl) (by kernel_rfl) (by kernel_rfl)
noncomputable def ti110 : TI := ⟨Try.t110.desc, 1, 24, [.sn]⟩
theorem ti110_ok : TyOK Try.prog 110 ti110 := TyOK.of (inf := Try.t110) Try.underlying110 (by kernel_rfl) (by kernel_rfl) (by kernel_rfl) (by kernel_rfl)
noncomputable def ti111 : TI := ⟨Try.t111.desc, 1, 8, [.nf]⟩
theorem ti111_ok : TyOK Try.prog 111 ti111 := TyOK.of (inf := Try.t111) Try.underlying111 (by kernel_rfl) (by kernel_rfl) (by kernel_rfl) (by kernel_rfl)
noncomputable def ti112 : TI := ⟨Try.t112.desc, 1, 8, [.nf]⟩
theorem ti112_ok : TyOK Try.prog 112 ti112 := TyOK.of (inf := Try.t112) Try.underlying112 (by kernel_rfl) (by kernel_rfl) (by kernel_rfl) (by kernel_rfl)
noncomputable def ti113 : TI := ⟨Try.t113.desc, 1, 8, [.pn]⟩
theorem ti113_ok : TyOK Try.prog 113 ti113 := TyOK.of (inf := Try.t113) Try.underlying113 (by kernel_rfl) (by kernel_rfl) (by kernel_rfl) (by kernel_rfl)
noncomputable def ti114 : TI := ⟨Try.t114.desc, 1, 8, [.nf]⟩
theorem ti114_ok : TyOK Try.prog 114 ti114 := TyOK.of (inf := Try.t114) Try.underlying114 (by kernel_rfl) (by kernel_rfl) (by kernel_rfl) (by kernel_rfl)
noncomputable def ti115 : TI := ⟨Try.t115.desc, 1, 8, [.nf]⟩
theorem ti115_ok : TyOK Try.prog 115 ti115 := TyOK.of (inf := Try.t115) Try.underlying115 (by kernel_rfl) (by kernel_rfl) (by kernel_rfl) (by kernel_rfl)
noncomputable def ti116 : TI := ⟨Try.t116.desc, 1, 8, [.nf]⟩
theorem ti116_ok : TyOK Try.prog 116 ti116 := TyOK.of (inf := Try.t116) Try.underlying116 (by kernel_rfl) (by kernel_rfl) (by kernel_rfl) (by kernel_rfl)
noncomputable def ti117 : TI := ⟨Try.t117.desc, 4, 40, [.pn, .pn, .pn, .st (ByteArray.mk #[])]⟩
theorem ti117_ok : TyOK Try.prog 117 ti117 := TyOK.of (inf := Try.t117) Try.underlying117 (by kernel_rfl) (by kernel_rfl) (by kernel_rfl) (by kernel_rfl)
noncomputable def ti118 : TI := ⟨Try.t117.desc, 4, 40, [.pn, .pn, .pn, .st (ByteArray.mk #[])]⟩
theorem ti118_ok : TyOK Try.prog 118 ti118 := TyOK.of (inf := Try.t118) Try.underlying118 (by kernel_rfl) (by kernel_rfl) (by kernel_rfl) (by kernel_rfl)
noncomputable def ti119 : TI := ⟨Try.t119.desc, 0, 0, []⟩
theorem ti119_ok : TyOK Try.prog 119 ti119 := TyOK.of (inf := Try.t119) Try.underlying119 (by kernel_rfl) (by kernel_rfl) (by kernel_rfl) (by kernel_rfl)
noncomputable def ti120 : TI := ⟨Try.t120.desc, 0, 0, []⟩
theorem ti120_ok : TyOK Try.prog 120 ti120 := TyOK.of (inf := Try.t120) Try.underlying120 (by kernel_rfl) (by kernel_rfl) (by kernel_rfl) (by kernel_rfl)
noncomputable def ti121 : TI := ⟨Try.t120.desc, 0, 0, []⟩
theorem ti121_ok : TyOK Try.prog 121 ti121 := TyOK.of (inf := Try.t121) Try.underlying121 (by kernel_rfl) (by kernel_rfl) (by kernel_rfl) (by kernel_rfl)
noncomputable def ti122 : TI := ⟨Try.t122.desc, 1, 8, [.nf]⟩
theorem ti122_ok : TyOK Try.prog 122 ti122 := TyOK.of (inf := Try.t122) Try.underlying122 (by kernel_rfl) (by kernel_rfl) (by kernel_rfl) (by kernel_rfl)
noncomputable def ti123 : TI := ⟨Try.t5.desc, 1, 1, [.it .u8 (0 : Int)]⟩
theorem ti123_ok : TyOK Try.prog 123 ti123 := TyOK.of (inf := Try.t123) Try.underlying123 (by kernel_rfl) (by kernel_rfl) (by kernel_rfl) (by kernel_rfl)
noncomputable def ti124 : TI := ⟨Try.t5.desc, 1, 1, [.it .u8 (0 : Int)]⟩
theorem ti124_ok : TyOK Try.prog 124 ti124 := TyOK.of (inf := Try.t124) Try.underlying124 (by kernel_rfl) (by kernel_rfl) (by kernel_rfl) (by kernel_rfl)
noncomputable def ti125 : TI := ⟨Try.t125.desc, 1, 8, [.nf]⟩
theorem ti125_ok : TyOK Try.prog 125 ti125 := TyOK.of (inf := Try.t125) Try.underlying125 (by kernel_rfl) (by kernel_rfl) (by kernel_rfl) (by kernel_rfl)
noncomputable def ti126 : TI := ⟨Try.t126.desc, 1, 8, [.pn]⟩
theorem ti126_ok : TyOK Try.prog 126 ti126 := TyOK.of (inf := Try.t126) Try.underlying126 (by kernel_rfl) (by kernel_rfl) (by kernel_rfl) (by kernel_rfl)
noncomputable def ti127 : TI := ⟨Try.t21.desc, 1, 4, [.it .i32 (0 : Int)]⟩
theorem ti127_ok : TyOK Try.prog 127 ti127 := TyOK.of (inf := Try.t127) Try.underlying127 (by kernel_rfl) (by kernel_rfl) (by kernel_rfl) (by kernel_rfl)
noncomputable def ti128 : TI := ⟨Try.t21.desc, 1, 4, [.it .i32 (0 : Int)]⟩
theorem ti128_ok : TyOK Try.prog 128 ti128 := TyOK.of (inf := Try.t128) Try.underlying128 (by kernel_rfl) (by kernel_rfl) (by kernel_rfl) (by kernel_rfl)
noncomputable def ti129 : TI := ⟨Try.t129.desc, 11, 48, [.it .u64 (0 : Int), .it .u64 (0 : Int), .it .u32 (0 : Int), .it .u8 (0 : Int), .it .u8 (0 : Int), .it .u8 (0 : Int), .it .u8 (0 : Int), .nf, .pn, .it .i32 (0 : Int), .it .i32 (0 : Int)]⟩
theorem ti129_ok : TyOK Try.prog 129 ti129 := TyOK.of (inf := Try.t129) Try.underlying129 (by kernel_rfl) (by kernel_rfl) (by kernel_rfl) (by kernel_rfl)
noncomputable def ti130 : TI := ⟨Try.t129.desc, 11, 48, [.it .u64 (0 : Int), .it .u64 (0 : Int), .it .u32 (0 : Int), .it .u8 (0 : Int), .it .u8 (0 : Int), .it .u8 (0 : Int), .it .u8 (0 : Int), .nf, .pn, .it .i32 (0 : Int), .it .i32 (0 : Int)]⟩
theorem ti130_ok : TyOK Try.prog 130 ti130 := TyOK.of (inf := Try.t130) Try.underlying130 (by kernel_rfl) (by kernel_rfl) (by kernel_rfl) (by kernel_rfl)
noncomputable def ti131 : TI := ⟨Try.t131.desc, 1, 8, [.pn]⟩
theorem ti131_ok : TyOK Try.prog 131 ti131 := TyOK.of (inf := Try.t131) Try.underlying131 (by kernel_rfl) (by kernel_rfl) (by kernel_rfl) (by kernel_rfl)
noncomputable def tys : List (Nat × TI) := [(1, ti1), (2, ti2), (3, ti3), (4, ti4), (5, ti5), (6, ti6), (7, ti7), (8, ti8), (9, ti9), (10, ti10), (11, ti11), (12, ti12), (13, ti13), (14, ti14), (15, ti15), (16, ti16), (17, ti17), (18, ti18), (19, ti19), (21, ti21), (22, ti22), (23, ti23), (24, ti24), (25, ti25), (26, ti26), (28, ti28), (29, ti29), (30, ti30), (31, ti31), (32, ti32), (33, ti33), (35, ti35), (36, ti36), (37, ti37), (38, ti38), (39, ti39), (40, ti40), (41, ti41), (42, ti42), (44, ti44), (45, ti45), (46, ti46), (47, ti47), (48, ti48), (49, ti49), (50, ti50), (51, ti51), (52, ti52), (53, ti53), (55, ti55), (56, ti56), (58, ti58), (59, ti59), (60, ti60), (62, ti62), (63, ti63), (64, ti64), (65, ti65), (67, ti67), (68, ti68), (69, ti69), (70, ti70), (72, ti72), (73, ti73), (74, ti74), (75, ti75), (76, ti76), (77, ti77), (78, ti78), (79, ti79), (80, ti80), (81, ti81), (82, ti82), (83, ti83), (84, ti84), (85, ti85), (86, ti86), (87, ti87), (88, ti88), (90, ti90), (91, ti91), (93, ti93), (94, ti94), (95, ti95), (96, ti96), (97, ti97), (98, ti98), (99, ti99), (100, ti100), (101, ti101), (102, ti102), (103, ti103), (104, ti104), (105, ti105), (106, ti106), (107, ti107), (108, ti108), (109, ti109), (110, ti110), (111, ti111), (112, ti112), (113, ti113), (114, ti114), (115, ti115), (116, ti116), (117, ti117), (118, ti118), (119, ti119), (120, ti120), (121, ti121), (122, ti122), (123, ti123), (124, ti124), (125, ti125), (126, ti126), (127, ti127), (128, ti128), (129, ti129), (130, ti130), (131, ti131)]
theorem mo : Try.prog.follows .mixedOrders = true := by kernel_rfl
theorem tys_ok : TysOK Try.prog tys := (TysOK.cons ti1_ok (TysOK.cons ti2_ok (TysOK.cons ti3_ok (TysOK.cons ti4_ok (TysOK.cons ti5_ok (TysOK.cons ti6_ok (TysOK.cons ti7_ok (TysOK.cons ti8_ok (TysOK.cons ti9_ok (TysOK.cons ti10_ok (TysOK.cons ti11_ok (TysOK.cons ti12_ok (TysOK.cons ti13_ok (TysOK.cons ti14_ok (TysOK.cons ti15_ok (TysOK.cons ti16_ok (TysOK.cons ti17_ok (TysOK.cons ti18_ok (TysOK.cons ti19_ok (TysOK.cons ti21_ok (TysOK.cons ti22_ok (TysOK.cons ti23_ok (TysOK.cons ti24_ok (TysOK.cons ti25_ok (TysOK.cons ti26_ok (TysOK.cons ti28_ok (TysOK.cons ti29_ok (TysOK.cons ti30_ok (TysOK.cons ti31_ok (TysOK.cons ti32_ok (TysOK.cons ti33_ok (TysOK.cons ti35_ok (TysOK.cons ti36_ok (TysOK.cons ti37_ok (TysOK.cons ti38_ok (TysOK.cons ti39_ok (TysOK.cons ti40_ok (TysOK.cons ti41_ok (TysOK.cons ti42_ok (TysOK.cons ti44_ok (TysOK.cons ti45_ok (TysOK.cons ti46_ok (TysOK.cons ti47_ok (TysOK.cons ti48_ok (TysOK.cons ti49_ok (TysOK.cons ti50_ok (TysOK.cons ti51_ok (TysOK.cons ti52_ok (TysOK.cons ti53_ok (TysOK.cons ti55_ok (TysOK.cons ti56_ok (TysOK.cons ti58_ok (TysOK.cons ti59_ok (TysOK.cons ti60_ok (TysOK.cons ti62_ok (TysOK.cons ti63_ok (TysOK.cons ti64_ok (TysOK.cons ti65_ok (TysOK.cons ti67_ok (TysOK.cons ti68_ok (TysOK.cons ti69_ok (TysOK.cons ti70_ok (TysOK.cons ti72_ok (TysOK.cons ti73_ok (TysOK.cons ti74_ok (TysOK.cons ti75_ok (TysOK.cons ti76_ok (TysOK.cons ti77_ok (TysOK.cons ti78_ok (TysOK.cons ti79_ok (TysOK.cons ti80_ok (TysOK.cons ti81_ok (TysOK.cons ti82_ok (TysOK.cons ti83_ok (TysOK.cons ti84_ok (TysOK.cons ti85_ok (TysOK.cons ti86_ok (TysOK.cons ti87_ok (TysOK.cons ti88_ok (TysOK.cons ti90_ok (TysOK.cons ti91_ok (TysOK.cons ti93_ok (TysOK.cons ti94_ok (TysOK.cons ti95_ok (TysOK.cons ti96_ok (TysOK.cons ti97_ok (TysOK.cons ti98_ok (TysOK.cons ti99_ok (TysOK.cons ti100_ok (TysOK.cons ti101_ok (TysOK.cons ti102_ok (TysOK.cons ti103_ok (TysOK.cons ti104_ok (TysOK.cons ti105_ok (TysOK.cons ti106_ok (TysOK.cons ti107_ok (TysOK.cons ti108_ok (TysOK.cons ti109_ok (TysOK.cons ti110_ok (TysOK.cons ti111_ok (TysOK.cons ti112_ok (TysOK.cons ti113_ok (TysOK.cons ti114_ok (TysOK.cons ti115_ok (TysOK.cons ti116_ok (TysOK.cons ti117_ok (TysOK.cons ti118_ok (TysOK.cons ti119_ok (TysOK.cons ti120_ok (TysOK.cons ti121_ok (TysOK.cons ti122_ok (TysOK.cons ti123_ok (TysOK.cons ti124_ok (TysOK.cons ti125_ok (TysOK.cons ti126_ok (TysOK.cons ti127_ok (TysOK.cons ti128_ok (TysOK.cons ti129_ok (TysOK.cons ti130_ok (TysOK.cons ti131_ok TysOK.nil))))))))))))))))))))))))))))))))))))))))))))))))))))))))))))))))))))))))))))))))))))))))))))))))))))))))))))))))))))))))
/-! ### laws_toInt16S -/
noncomputable def laws_toInt16S.b : Code := bodyOf Try.f16
noncomputable def laws_toInt16S.l3.s (x0 : Nat) (x1 : Nat) (x2 : Int) (x3 : List Int) (x4 : List Int) : T ((Int × List Int) ⊕ (List Int)) :=
  .br (decide (x2 < ((x0 : Nat) : Int)))
  (.br (bounds x2 x0)
   (.br (Nat.ble ((0 + (Int.toNat x2 * 1)) + 1) (List.length x3))
    (.br (bounds x2 x1)
     (.br (Nat.ble ((Int.toNat x2 * 1) + 1) (List.length x4))
      (.leaf (.inl ((IntKind.wrap .i64 (x2 + (1 : Int))), (List.set x4 (Int.toNat x2 * 1) (List.getD x3 (0 + (Int.toNat x2 * 1)) 0)))))
      .bad)
     .bad)
    .bad)
   .bad)
  (.leaf (.inr x4))
noncomputable def laws_toInt16S.l3.st (p : Nat × Nat × List Int) (x : Int × List Int) : T ((Int × List Int) ⊕ (List Int)) := laws_toInt16S.l3.s p.1 p.2.1 x.1 p.2.2 x.2
noncomputable def laws_toInt16S.l3.r (p : Nat × Nat × List Int) (x : Int × List Int) : Option (List Int) := iterT (laws_toInt16S.l3.st p) manyRounds x
def laws_toInt16S.l3.cd : Cd ((Nat × Nat × List Int) × (Int × List Int)) (List V × Hp) := Cd.iso (Cd.pair (Cd.cons (Cd.sl 0 (Cd.natc 0)) (Cd.cons (Cd.own 1) (Cd.cons (Cd.it .i64) Cd.nil))) (Cd.cons (Cd.ro 0 0 (Cd.is .i16)) (Cd.cons (Cd.rw 47 1 (Cd.is .i16)) Cd.nil))) (fun a => ((a.1.1.2, a.1.2.1, a.2.1), (a.1.2.2.1, a.2.2.1))) (fun a => ((((), a.1.1), (a.1.2.1, (a.2.1, ()))), (a.1.2.2, (a.2.2, ())))) (fun _ => rfl)
def laws_toInt16S.l3.out (p : Nat × Nat × List Int) : (List Int) → X × List V × Hp := (fun r => (.ex 0, [.own 1 p.2.1], [some ⟨false, 0, 0, .is .i16 p.2.2⟩, some ⟨true, 47, 1, .is .i16 r⟩]))
def laws_toInt16S.l3.ex (p : Nat × Nat × List Int) : (List Int) → T (X × List V × Hp) := leafT (fun r => (.ex 0, [.own 1 p.2.1], [some ⟨false, 0, 0, .is .i16 p.2.2⟩, some ⟨true, 47, 1, .is .i16 r⟩]))
noncomputable def laws_toInt16S.l3.c : List V → Hp → T (X × List V × Hp) := cdL laws_toInt16S.l3.cd fun x => optT (laws_toInt16S.l3.r x.1 x.2) (laws_toInt16S.l3.ex x.1)
noncomputable def laws_toInt16S.C : Ctx := { ty := tys, fn := [], lp := [(3, ⟨[0, 3, 4], [3], laws_toInt16S.l3.c⟩)], n := 22, k := 1 }
theorem laws_toInt16S.hC : CtxOK Try.prog laws_toInt16S.C := CtxOK.of mo tys_ok FnsOK.nil
noncomputable def laws_toInt16S.b3 : Code := (nthC (loopsOf laws_toInt16S.b) 0)
theorem laws_toInt16S.lp3 : LpOK Try.prog laws_toInt16S.C laws_toInt16S.b3 := (LpOK.nil (by kernel_rfl))
theorem laws_toInt16S.l3.round (p : Nat × Nat × List Int) (s : Int × List Int) : roundL laws_toInt16S.C [0, 3, 4] [3] laws_toInt16S.b3 (laws_toInt16S.l3.cd.enc (p, s)).1 (laws_toInt16S.l3.cd.enc (p, s)).2 = (laws_toInt16S.l3.st p s).map (encSum (fun s => laws_toInt16S.l3.cd.enc (p, s)) (laws_toInt16S.l3.out p)) := by kernel_rfl
theorem laws_toInt16S.l3.lok : LoopOK Try.prog laws_toInt16S.C ⟨[0, 3, 4], [3], laws_toInt16S.l3.c⟩ laws_toInt16S.b3 := loop_cd laws_toInt16S.l3.cd laws_toInt16S.hC laws_toInt16S.lp3 laws_toInt16S.l3.round fun p => Gets.leaf
theorem laws_toInt16S.lp : LpOK Try.prog laws_toInt16S.C laws_toInt16S.b := lp_of (by kernel_rfl) (LpsOK.cons (k := 3) (by kernel_rfl) (by kernel_rfl) laws_toInt16S.l3.lok LpsOK.nil)
noncomputable def laws_toInt16S.t (x0 : Nat) (x1 : List Int) : T (Nat × List Int) :=
  .br (decide (0 ≤ ((x0 : Nat) : Int)) && decide (((x0 : Nat) : Int) ≤ ((x0 : Nat) : Int)) && decide (((x0 : Nat) : Int) ≤ 35184372088832) && decide (((2 : Nat) : Int) * ((x0 : Nat) : Int) ≤ 35184372088832))
  (.br (Option.isSome (laws_toInt16S.l3.r (x0, (Int.toNat ((x0 : Nat) : Int)), x1) ((0 : Int), (List.replicate ((Int.toNat ((x0 : Nat) : Int)) * 1) 0))))
   (.leaf ((Int.toNat ((x0 : Nat) : Int)), (Option.getD (laws_toInt16S.l3.r (x0, (Int.toNat ((x0 : Nat) : Int)), x1) ((0 : Int), (List.replicate ((Int.toNat ((x0 : Nat) : Int)) * 1) 0))) default)))
   .bad)
  .bad
noncomputable def laws_toInt16S (x0 : Nat) (x1 : List Int) : Nat × List Int := (laws_toInt16S.t x0 x1).val
noncomputable def laws_toInt16S.ok (x0 : Nat) (x1 : List Int) : Bool := (laws_toInt16S.t x0 x1).ok
def laws_toInt16S.cd : Cd (Nat × List Int) (List V × Hp) := Cd.iso (Cd.pair (Cd.cons (Cd.sl 0 (Cd.natc 0)) Cd.nil) (Cd.cons (Cd.ro 0 0 (Cd.is .i16)) Cd.nil)) (fun a => (a.1.1.2, a.2.1)) (fun a => ((((), a.1), ()), (a.2, ()))) (fun _ => rfl)
noncomputable def laws_toInt16S.tr (a : Nat × List Int) : T (Nat × List Int) := laws_toInt16S.t a.1 a.2
def laws_toInt16S.enc : (Nat × List Int) → (Nat × List Int) → V × Hp := fun a r => (.own 1 r.1, [some ⟨false, 0, 0, .is .i16 a.2⟩, some ⟨true, 47, 1, .is .i16 r.2⟩])
noncomputable def laws_toInt16S.c : List V → Hp → T (V × Hp) := cdE laws_toInt16S.cd (fun a => .br (laws_toInt16S.ok a.1 a.2) (.leaf (laws_toInt16S.enc a (laws_toInt16S a.1 a.2))) .bad)
theorem laws_toInt16S.run (a : Nat × List Int) : runF laws_toInt16S.C Try.f16.results.toList laws_toInt16S.b (laws_toInt16S.cd.enc a).1 (laws_toInt16S.cd.enc a).2 = (laws_toInt16S.tr a).map (laws_toInt16S.enc a) := by kernel_rfl
theorem laws_toInt16S.cok : OKe Try.prog 16 laws_toInt16S.c := con_e' laws_toInt16S.cd laws_toInt16S.hC Try.func16 (by kernel_rfl) (by kernel_rfl) (by kernel_rfl) laws_toInt16S.lp (fun a => by kernel_rfl) laws_toInt16S.run (Tells.ok (tree := laws_toInt16S.tr))
/-! ### laws_toChoice -/
noncomputable def laws_toChoice.b : Code := bodyOf Try.f35
noncomputable def laws_toChoice.C : Ctx := { ty := tys, fn := [], lp := [], n := 17, k := 0 }
theorem laws_toChoice.hC : CtxOK Try.prog laws_toChoice.C := CtxOK.of mo tys_ok FnsOK.nil
theorem laws_toChoice.lp : LpOK Try.prog laws_toChoice.C laws_toChoice.b := (LpOK.nil (by kernel_rfl))
noncomputable def laws_toChoice.t (x0 : Int) (x1 : Int) (x2 : Int) (x3 : Int) : T (Int × Int × Int × Int) :=
  .leaf (x0, x1, x2, x3)
noncomputable def laws_toChoice (x0 : Int) (x1 : Int) (x2 : Int) (x3 : Int) : Int × Int × Int × Int := (laws_toChoice.t x0 x1 x2 x3).val
def laws_toChoice.cd : Cd (Int × Int × Int × Int) (List V × Hp) := Cd.iso (Cd.pair (Cd.cons (Cd.agg (Cd.cons (Cd.it .i16) (Cd.cons (Cd.it .i16) (Cd.cons (Cd.it .i16) (Cd.cons (Cd.it .i16) Cd.nil))))) Cd.nil) Cd.nil) (fun a => (a.1.1.1, a.1.1.2.1, a.1.1.2.2.1, a.1.1.2.2.2.1)) (fun a => (((a.1, (a.2.1, (a.2.2.1, (a.2.2.2, ())))), ()), ())) (fun _ => rfl)
noncomputable def laws_toChoice.tr (a : Int × Int × Int × Int) : T (Int × Int × Int × Int) := laws_toChoice.t a.1 a.2.1 a.2.2.1 a.2.2.2
def laws_toChoice.enc : (Int × Int × Int × Int) → (Int × Int × Int × Int) → V := fun a r => .agg [.it .i16 r.1, .it .i16 r.2.1, .it .i16 r.2.2.1, .it .i16 r.2.2.2]
noncomputable def laws_toChoice.c : List V → Hp → T V := cdQ laws_toChoice.cd (fun a => .leaf (laws_toChoice.enc a (laws_toChoice a.1 a.2.1 a.2.2.1 a.2.2.2)))
theorem laws_toChoice.run (a : Int × Int × Int × Int) : runF laws_toChoice.C Try.f35.results.toList laws_toChoice.b (laws_toChoice.cd.enc a).1 (laws_toChoice.cd.enc a).2 = (laws_toChoice.tr a).map fun r => (laws_toChoice.enc a r, (laws_toChoice.cd.enc a).2) := by kernel_rfl
theorem laws_toChoice.cok : OKq Try.prog 35 laws_toChoice.c := con_q' laws_toChoice.cd laws_toChoice.hC Try.func35 (by kernel_rfl) (by kernel_rfl) (by kernel_rfl) laws_toChoice.lp (fun a => by kernel_rfl) laws_toChoice.run (Tells.val (tree := laws_toChoice.tr) fun a => by kernel_rfl)
/-! ### spec_l00In -/
noncomputable def spec_l00In.b : Code := bodyOf Try.f91
noncomputable def spec_l00In.C : Ctx := { ty := tys, fn := [], lp := [], n := 15, k := 0 }
theorem spec_l00In.hC : CtxOK Try.prog spec_l00In.C := CtxOK.of mo tys_ok FnsOK.nil
theorem spec_l00In.lp : LpOK Try.prog spec_l00In.C spec_l00In.b := (LpOK.nil (by kernel_rfl))
noncomputable def spec_l00In.t (x0 : Int) (x1 : Int) (x2 : Int) : T Bool :=
  .br (decide (x0 ≥ x1))
  (.leaf (decide (x0 ≤ x2)))
  (.leaf false)
noncomputable def spec_l00In (x0 : Int) (x1 : Int) (x2 : Int) : Bool := (spec_l00In.t x0 x1 x2).val
def spec_l00In.cd : Cd (Int × Int × Int) (List V × Hp) := Cd.iso (Cd.pair (Cd.cons (Cd.it .i64) (Cd.cons (Cd.it .i64) (Cd.cons (Cd.it .i64) Cd.nil))) Cd.nil) (fun a => (a.1.1, a.1.2.1, a.1.2.2.1)) (fun a => ((a.1, (a.2.1, (a.2.2, ()))), ())) (fun _ => rfl)
noncomputable def spec_l00In.tr (a : Int × Int × Int) : T Bool := spec_l00In.t a.1 a.2.1 a.2.2
def spec_l00In.enc : (Int × Int × Int) → Bool → V := fun a r => .bo r
noncomputable def spec_l00In.c : List V → Hp → T V := cdQ spec_l00In.cd (fun a => .leaf (spec_l00In.enc a (spec_l00In a.1 a.2.1 a.2.2)))
theorem spec_l00In.run (a : Int × Int × Int) : runF spec_l00In.C Try.f91.results.toList spec_l00In.b (spec_l00In.cd.enc a).1 (spec_l00In.cd.enc a).2 = (spec_l00In.tr a).map fun r => (spec_l00In.enc a r, (spec_l00In.cd.enc a).2) := by kernel_rfl
theorem spec_l00In.cok : OKq Try.prog 91 spec_l00In.c := con_q' spec_l00In.cd spec_l00In.hC Try.func91 (by kernel_rfl) (by kernel_rfl) (by kernel_rfl) spec_l00In.lp (fun a => by kernel_rfl) spec_l00In.run (Tells.val (tree := spec_l00In.tr) fun a => by kernel_rfl)
/-! ### spec_l01Teeth -/
noncomputable def spec_l01Teeth.b : Code := bodyOf Try.f90
noncomputable def spec_l01Teeth.C : Ctx := { ty := tys, fn := [(91, .q spec_l00In.c)], lp := [], n := 5, k := 0 }
theorem spec_l01Teeth.hC : CtxOK Try.prog spec_l01Teeth.C := CtxOK.of mo tys_ok (FnsOK.cons spec_l00In.cok FnsOK.nil)
theorem spec_l01Teeth.lp : LpOK Try.prog spec_l01Teeth.C spec_l01Teeth.b := (LpOK.nil (by kernel_rfl))
noncomputable def spec_l01Teeth.t (x0 : Int) : T Bool :=
  .leaf (spec_l00In x0 (6 : Int) (200 : Int))
noncomputable def spec_l01Teeth (x0 : Int) : Bool := (spec_l01Teeth.t x0).val
def spec_l01Teeth.cd : Cd Int (List V × Hp) := Cd.iso (Cd.pair (Cd.cons (Cd.it .i64) Cd.nil) Cd.nil) (fun a => a.1.1) (fun a => ((a, ()), ())) (fun _ => rfl)
noncomputable def spec_l01Teeth.tr (a : Int) : T Bool := spec_l01Teeth.t a
def spec_l01Teeth.enc : Int → Bool → V := fun a r => .bo r
noncomputable def spec_l01Teeth.c : List V → Hp → T V := cdQ spec_l01Teeth.cd (fun a => .leaf (spec_l01Teeth.enc a (spec_l01Teeth a)))
theorem spec_l01Teeth.run (a : Int) : runF spec_l01Teeth.C Try.f90.results.toList spec_l01Teeth.b (spec_l01Teeth.cd.enc a).1 (spec_l01Teeth.cd.enc a).2 = (spec_l01Teeth.tr a).map fun r => (spec_l01Teeth.enc a r, (spec_l01Teeth.cd.enc a).2) := by kernel_rfl
theorem spec_l01Teeth.cok : OKq Try.prog 90 spec_l01Teeth.c := con_q' spec_l01Teeth.cd spec_l01Teeth.hC Try.func90 (by kernel_rfl) (by kernel_rfl) (by kernel_rfl) spec_l01Teeth.lp (fun a => by kernel_rfl) spec_l01Teeth.run (Tells.val (tree := spec_l01Teeth.tr) fun a => by kernel_rfl)
/-! ### spec_l05Ok -/
noncomputable def spec_l05Ok.b : Code := bodyOf Try.f55
noncomputable def spec_l05Ok.l2.s (x0 : Nat) (x1 : Int) (x2 : List Int) : T (Int ⊕ (Bool ⊕ Unit)) :=
  .br (decide (x1 < ((x0 : Nat) : Int)))
  (.br (bounds x1 x0)
   (.br (Nat.ble ((Int.toNat x1 * 1) + 1) (List.length x2))
    (.br (!(spec_l01Teeth (IntKind.wrap .i64 (List.getD x2 (Int.toNat x1 * 1) 0))))
     (.leaf (.inr (.inl false)))
     (.br (decide (x1 > (0 : Int)))
      (.br (bounds x1 x0)
       (.br (Nat.ble ((Int.toNat x1 * 1) + 1) (List.length x2))
        (.br (bounds (IntKind.wrap .i64 (x1 - (1 : Int))) x0)
         (.br (Nat.ble ((Int.toNat (IntKind.wrap .i64 (x1 - (1 : Int))) * 1) + 1) (List.length x2))
          (.br (decide ((List.getD x2 (Int.toNat x1 * 1) 0) ≤ (List.getD x2 (Int.toNat (IntKind.wrap .i64 (x1 - (1 : Int))) * 1) 0)))
           (.leaf (.inr (.inl false)))
           (.leaf (.inl (IntKind.wrap .i64 (x1 + (1 : Int))))))
          .bad)
         .bad)
        .bad)
       .bad)
      (.leaf (.inl (IntKind.wrap .i64 (x1 + (1 : Int)))))))
    .bad)
   .bad)
  (.leaf (.inr (.inr ())))
noncomputable def spec_l05Ok.l2.st (p : Nat × List Int) (x : Int) : T (Int ⊕ (Bool ⊕ Unit)) := spec_l05Ok.l2.s p.1 x p.2
noncomputable def spec_l05Ok.l2.r (p : Nat × List Int) (x : Int) : Option (Bool ⊕ Unit) := iterT (spec_l05Ok.l2.st p) manyRounds x
def spec_l05Ok.l2.cd : Cd ((Nat × List Int) × Int) (List V × Hp) := Cd.iso (Cd.pair (Cd.cons (Cd.own 0) (Cd.cons (Cd.it .i64) Cd.nil)) (Cd.cons (Cd.rw 47 1 (Cd.is .i16)) Cd.nil)) (fun a => ((a.1.1, a.2.1), a.1.2.1)) (fun a => ((a.1.1, (a.2, ())), (a.1.2, ()))) (fun _ => rfl)
def spec_l05Ok.l2.out (p : Nat × List Int) : (Bool ⊕ Unit) → X × List V × Hp := sumO (fun r => (.ret, [.own 0 p.1, .bo r], [some ⟨true, 47, 1, .is .i16 p.2⟩])) (fun r => (.ex 0, [.own 0 p.1, .unk], [some ⟨true, 47, 1, .is .i16 p.2⟩]))
def spec_l05Ok.l2.ex (p : Nat × List Int) : (Bool ⊕ Unit) → T (X × List V × Hp) := sumT (leafT (fun r => (.ret, [.own 0 p.1, .bo r], [some ⟨true, 47, 1, .is .i16 p.2⟩]))) (leafT (fun r => (.ex 0, [.own 0 p.1, .unk], [some ⟨true, 47, 1, .is .i16 p.2⟩])))
noncomputable def spec_l05Ok.l2.c : List V → Hp → T (X × List V × Hp) := cdL spec_l05Ok.l2.cd fun x => optT (spec_l05Ok.l2.r x.1 x.2) (spec_l05Ok.l2.ex x.1)
noncomputable def spec_l05Ok.C : Ctx := { ty := tys, fn := [(90, .q spec_l01Teeth.c), (91, .q spec_l00In.c)], lp := [(2, ⟨[0, 3], [0, 2], spec_l05Ok.l2.c⟩)], n := 36, k := 1 }
theorem spec_l05Ok.hC : CtxOK Try.prog spec_l05Ok.C := CtxOK.of mo tys_ok (FnsOK.cons spec_l01Teeth.cok (FnsOK.cons spec_l00In.cok FnsOK.nil))
noncomputable def spec_l05Ok.b2 : Code := (nthC (loopsOf spec_l05Ok.b) 0)
theorem spec_l05Ok.lp2 : LpOK Try.prog spec_l05Ok.C spec_l05Ok.b2 := (LpOK.nil (by kernel_rfl))
theorem spec_l05Ok.l2.round (p : Nat × List Int) (s : Int) : roundL spec_l05Ok.C [0, 3] [0, 2] spec_l05Ok.b2 (spec_l05Ok.l2.cd.enc (p, s)).1 (spec_l05Ok.l2.cd.enc (p, s)).2 = (spec_l05Ok.l2.st p s).map (encSum (fun s => spec_l05Ok.l2.cd.enc (p, s)) (spec_l05Ok.l2.out p)) := by kernel_rfl
theorem spec_l05Ok.l2.lok : LoopOK Try.prog spec_l05Ok.C ⟨[0, 3], [0, 2], spec_l05Ok.l2.c⟩ spec_l05Ok.b2 := loop_cd spec_l05Ok.l2.cd spec_l05Ok.hC spec_l05Ok.lp2 spec_l05Ok.l2.round fun p => (Gets.sum Gets.leaf Gets.leaf)
theorem spec_l05Ok.lp : LpOK Try.prog spec_l05Ok.C spec_l05Ok.b := lp_of (by kernel_rfl) (LpsOK.cons (k := 2) (by kernel_rfl) (by kernel_rfl) spec_l05Ok.l2.lok LpsOK.nil)
noncomputable def spec_l05Ok.t (x0 : Nat) (x1 : List Int) : T Bool :=
  .br (Option.isSome (spec_l05Ok.l2.r (x0, x1) (0 : Int)))
  (.br (Sum.isLeft (Option.getD (spec_l05Ok.l2.r (x0, x1) (0 : Int)) default))
   (.leaf (getLeftD (Option.getD (spec_l05Ok.l2.r (x0, x1) (0 : Int)) default)))
   (.leaf (spec_l00In ((x0 : Nat) : Int) (2 : Int) (24 : Int))))
  .bad
noncomputable def spec_l05Ok (x0 : Nat) (x1 : List Int) : Bool := (spec_l05Ok.t x0 x1).val
noncomputable def spec_l05Ok.ok (x0 : Nat) (x1 : List Int) : Bool := (spec_l05Ok.t x0 x1).ok
def spec_l05Ok.cd : Cd (Nat × List Int) (List V × Hp) := Cd.iso (Cd.pair (Cd.cons (Cd.own 0) Cd.nil) (Cd.cons (Cd.rw 47 1 (Cd.is .i16)) Cd.nil)) (fun a => (a.1.1, a.2.1)) (fun a => ((a.1, ()), (a.2, ()))) (fun _ => rfl)
noncomputable def spec_l05Ok.tr (a : Nat × List Int) : T Bool := spec_l05Ok.t a.1 a.2
def spec_l05Ok.enc : (Nat × List Int) → Bool → V := fun a r => .bo r
noncomputable def spec_l05Ok.c : List V → Hp → T V := cdQ spec_l05Ok.cd (fun a => .br (spec_l05Ok.ok a.1 a.2) (.leaf (spec_l05Ok.enc a (spec_l05Ok a.1 a.2))) .bad)
theorem spec_l05Ok.run (a : Nat × List Int) : runF spec_l05Ok.C Try.f55.results.toList spec_l05Ok.b (spec_l05Ok.cd.enc a).1 (spec_l05Ok.cd.enc a).2 = (spec_l05Ok.tr a).map fun r => (spec_l05Ok.enc a r, (spec_l05Ok.cd.enc a).2) := by kernel_rfl
theorem spec_l05Ok.cok : OKq Try.prog 55 spec_l05Ok.c := con_q' spec_l05Ok.cd spec_l05Ok.hC Try.func55 (by kernel_rfl) (by kernel_rfl) (by kernel_rfl) spec_l05Ok.lp (fun a => by kernel_rfl) spec_l05Ok.run (Tells.ok (tree := spec_l05Ok.tr))
/-! ### spec_l05Wheel -/
noncomputable def spec_l05Wheel.b : Code := bodyOf Try.f68
noncomputable def spec_l05Wheel.C : Ctx := { ty := tys, fn := [(91, .q spec_l00In.c)], lp := [], n := 10, k := 1 }
theorem spec_l05Wheel.hC : CtxOK Try.prog spec_l05Wheel.C := CtxOK.of mo tys_ok (FnsOK.cons spec_l00In.cok FnsOK.nil)
theorem spec_l05Wheel.lp : LpOK Try.prog spec_l05Wheel.C spec_l05Wheel.b := (LpOK.nil (by kernel_rfl))
noncomputable def spec_l05Wheel.t (x0 : Nat) (x1 : Int) (x2 : List Int) : T Bool :=
  .leaf (spec_l00In x1 (0 : Int) (IntKind.wrap .i64 (((x0 : Nat) : Int) - (1 : Int))))
noncomputable def spec_l05Wheel (x0 : Nat) (x1 : Int) (x2 : List Int) : Bool := (spec_l05Wheel.t x0 x1 x2).val
def spec_l05Wheel.cd : Cd (Nat × Int × List Int) (List V × Hp) := Cd.iso (Cd.pair (Cd.cons (Cd.own 0) (Cd.cons (Cd.it .i64) Cd.nil)) (Cd.cons (Cd.rw 47 1 (Cd.is .i16)) Cd.nil)) (fun a => (a.1.1, a.1.2.1, a.2.1)) (fun a => ((a.1, (a.2.1, ())), (a.2.2, ()))) (fun _ => rfl)
noncomputable def spec_l05Wheel.tr (a : Nat × Int × List Int) : T Bool := spec_l05Wheel.t a.1 a.2.1 a.2.2
def spec_l05Wheel.enc : (Nat × Int × List Int) → Bool → V := fun a r => .bo r
noncomputable def spec_l05Wheel.c : List V → Hp → T V := cdQ spec_l05Wheel.cd (fun a => .leaf (spec_l05Wheel.enc a (spec_l05Wheel a.1 a.2.1 a.2.2)))
theorem spec_l05Wheel.run (a : Nat × Int × List Int) : runF spec_l05Wheel.C Try.f68.results.toList spec_l05Wheel.b (spec_l05Wheel.cd.enc a).1 (spec_l05Wheel.cd.enc a).2 = (spec_l05Wheel.tr a).map fun r => (spec_l05Wheel.enc a r, (spec_l05Wheel.cd.enc a).2) := by kernel_rfl
theorem spec_l05Wheel.cok : OKq Try.prog 68 spec_l05Wheel.c := con_q' spec_l05Wheel.cd spec_l05Wheel.hC Try.func68 (by kernel_rfl) (by kernel_rfl) (by kernel_rfl) spec_l05Wheel.lp (fun a => by kernel_rfl) spec_l05Wheel.run (Tells.val (tree := spec_l05Wheel.tr) fun a => by kernel_rfl)
/-! ### spec_l05Choice -/
noncomputable def spec_l05Choice.b : Code := bodyOf Try.f73
noncomputable def spec_l05Choice.C : Ctx := { ty := tys, fn := [(55, .q spec_l05Ok.c), (68, .q spec_l05Wheel.c)], lp := [], n := 81, k := 1 }
theorem spec_l05Choice.hC : CtxOK Try.prog spec_l05Choice.C := CtxOK.of mo tys_ok (FnsOK.cons spec_l05Ok.cok (FnsOK.cons spec_l05Wheel.cok FnsOK.nil))
theorem spec_l05Choice.lp : LpOK Try.prog spec_l05Choice.C spec_l05Choice.b := (LpOK.nil (by kernel_rfl))
noncomputable def spec_l05Choice.t (x0 : Nat) (x1 : Int) (x2 : Int) (x3 : Int) (x4 : Int) (x5 : List Int) : T Int :=
  .br (spec_l05Ok.ok x0 x5)
  (.br (!(spec_l05Ok x0 x5))
   (.leaf (1 : Int))
   (.br (!(spec_l05Wheel x0 (IntKind.wrap .i64 x1) x5))
    (.leaf (2 : Int))
    (.br (!(spec_l05Wheel x0 (IntKind.wrap .i64 x2) x5))
     (.leaf (2 : Int))
     (.br (!(spec_l05Wheel x0 (IntKind.wrap .i64 x3) x5))
      (.leaf (2 : Int))
      (.br (!(spec_l05Wheel x0 (IntKind.wrap .i64 x4) x5))
       (.leaf (2 : Int))
       (.br (x1 == x2)
        (.leaf (4 : Int))
        (.br (x1 == x3)
         (.leaf (4 : Int))
         (.br (x1 == x4)
          (.leaf (4 : Int))
          (.br (x2 == x3)
           (.leaf (4 : Int))
           (.br (x2 == x4)
            (.leaf (4 : Int))
            (.br (x3 == x4)
             (.leaf (4 : Int))
             (.leaf (0 : Int)))))))))))))
  .bad
noncomputable def spec_l05Choice (x0 : Nat) (x1 : Int) (x2 : Int) (x3 : Int) (x4 : Int) (x5 : List Int) : Int := (spec_l05Choice.t x0 x1 x2 x3 x4 x5).val
noncomputable def spec_l05Choice.ok (x0 : Nat) (x1 : Int) (x2 : Int) (x3 : Int) (x4 : Int) (x5 : List Int) : Bool := (spec_l05Choice.t x0 x1 x2 x3 x4 x5).ok
def spec_l05Choice.cd : Cd (Nat × Int × Int × Int × Int × List Int) (List V × Hp) := Cd.iso (Cd.pair (Cd.cons (Cd.own 0) (Cd.cons (Cd.agg (Cd.cons (Cd.it .i16) (Cd.cons (Cd.it .i16) (Cd.cons (Cd.it .i16) (Cd.cons (Cd.it .i16) Cd.nil))))) Cd.nil)) (Cd.cons (Cd.rw 47 1 (Cd.is .i16)) Cd.nil)) (fun a => (a.1.1, a.1.2.1.1, a.1.2.1.2.1, a.1.2.1.2.2.1, a.1.2.1.2.2.2.1, a.2.1)) (fun a => ((a.1, ((a.2.1, (a.2.2.1, (a.2.2.2.1, (a.2.2.2.2.1, ())))), ())), (a.2.2.2.2.2, ()))) (fun _ => rfl)
noncomputable def spec_l05Choice.tr (a : Nat × Int × Int × Int × Int × List Int) : T Int := spec_l05Choice.t a.1 a.2.1 a.2.2.1 a.2.2.2.1 a.2.2.2.2.1 a.2.2.2.2.2
def spec_l05Choice.enc : (Nat × Int × Int × Int × Int × List Int) → Int → V := fun a r => .it .i64 r
noncomputable def spec_l05Choice.c : List V → Hp → T V := cdQ spec_l05Choice.cd (fun a => .br (spec_l05Choice.ok a.1 a.2.1 a.2.2.1 a.2.2.2.1 a.2.2.2.2.1 a.2.2.2.2.2) (.leaf (spec_l05Choice.enc a (spec_l05Choice a.1 a.2.1 a.2.2.1 a.2.2.2.1 a.2.2.2.2.1 a.2.2.2.2.2))) .bad)
theorem spec_l05Choice.run (a : Nat × Int × Int × Int × Int × List Int) : runF spec_l05Choice.C Try.f73.results.toList spec_l05Choice.b (spec_l05Choice.cd.enc a).1 (spec_l05Choice.cd.enc a).2 = (spec_l05Choice.tr a).map fun r => (spec_l05Choice.enc a r, (spec_l05Choice.cd.enc a).2) := by kernel_rfl
theorem spec_l05Choice.cok : OKq Try.prog 73 spec_l05Choice.c := con_q' spec_l05Choice.cd spec_l05Choice.hC Try.func73 (by kernel_rfl) (by kernel_rfl) (by kernel_rfl) spec_l05Choice.lp (fun a => by kernel_rfl) spec_l05Choice.run (Tells.ok (tree := spec_l05Choice.tr))
/-! ### spec_TrainFor -/
noncomputable def spec_TrainFor.b : Code := bodyOf Try.f50
noncomputable def spec_TrainFor.C : Ctx := { ty := tys, fn := [(73, .q spec_l05Choice.c)], lp := [], n := 37, k := 1 }
theorem spec_TrainFor.hC : CtxOK Try.prog spec_TrainFor.C := CtxOK.of mo tys_ok (FnsOK.cons spec_l05Choice.cok FnsOK.nil)
theorem spec_TrainFor.lp : LpOK Try.prog spec_TrainFor.C spec_TrainFor.b := (LpOK.nil (by kernel_rfl))
noncomputable def spec_TrainFor.t (x0 : Nat) (x1 : Int) (x2 : Int) (x3 : Int) (x4 : Int) (x5 : List Int) : T (Nat × Int × List (List Sc)) :=
  .br (spec_l05Choice.ok x0 x1 x2 x3 x4 x5)
  (.br ((spec_l05Choice x0 x1 x2 x3 x4 x5) != (0 : Int))
   (.leaf (0, (spec_l05Choice x0 x1 x2 x3 x4 x5), []))
   (.br (bounds x1 x0)
    (.br (Nat.ble ((Int.toNat x1 * 1) + 1) (List.length x5))
     (.br (bounds x2 x0)
      (.br (Nat.ble ((Int.toNat x2 * 1) + 1) (List.length x5))
       (.br (bounds x3 x0)
        (.br (Nat.ble ((Int.toNat x3 * 1) + 1) (List.length x5))
         (.br (bounds x4 x0)
          (.br (Nat.ble ((Int.toNat x4 * 1) + 1) (List.length x5))
           (.leaf (2, (0 : Int), [[Sc.i (List.getD x5 (Int.toNat x1 * 1) 0), Sc.i (List.getD x5 (Int.toNat x2 * 1) 0), Sc.n 0], [Sc.i (List.getD x5 (Int.toNat x3 * 1) 0), Sc.i (List.getD x5 (Int.toNat x4 * 1) 0), Sc.n 0]]))
           .bad)
          .bad)
         .bad)
        .bad)
       .bad)
      .bad)
     .bad)
    .bad))
  .bad
noncomputable def spec_TrainFor (x0 : Nat) (x1 : Int) (x2 : Int) (x3 : Int) (x4 : Int) (x5 : List Int) : Nat × Int × List (List Sc) := (spec_TrainFor.t x0 x1 x2 x3 x4 x5).val
noncomputable def spec_TrainFor.ok (x0 : Nat) (x1 : Int) (x2 : Int) (x3 : Int) (x4 : Int) (x5 : List Int) : Bool := (spec_TrainFor.t x0 x1 x2 x3 x4 x5).ok
def spec_TrainFor.cd : Cd (Nat × Int × Int × Int × Int × List Int) (List V × Hp) := Cd.iso (Cd.pair (Cd.cons (Cd.own 0) (Cd.cons (Cd.agg (Cd.cons (Cd.it .i16) (Cd.cons (Cd.it .i16) (Cd.cons (Cd.it .i16) (Cd.cons (Cd.it .i16) Cd.nil))))) Cd.nil)) (Cd.cons (Cd.rw 47 1 (Cd.is .i16)) Cd.nil)) (fun a => (a.1.1, a.1.2.1.1, a.1.2.1.2.1, a.1.2.1.2.2.1, a.1.2.1.2.2.2.1, a.2.1)) (fun a => ((a.1, ((a.2.1, (a.2.2.1, (a.2.2.2.1, (a.2.2.2.2.1, ())))), ())), (a.2.2.2.2.2, ()))) (fun _ => rfl)
noncomputable def spec_TrainFor.tr (a : Nat × Int × Int × Int × Int × List Int) : T (Nat × Int × List (List Sc)) := spec_TrainFor.t a.1 a.2.1 a.2.2.1 a.2.2.2.1 a.2.2.2.2.1 a.2.2.2.2.2
def spec_TrainFor.enc : (Nat × Int × Int × Int × Int × List Int) → (Nat × Int × List (List Sc)) → V × Hp := fun a r => (.tup [.own 1 r.1, .it .i64 r.2.1], [some ⟨true, 47, 1, .is .i16 a.2.2.2.2.2⟩, some ⟨true, 103, 3, .mx [.it .i16, .it .i16, .fl .f32] r.2.2⟩])
noncomputable def spec_TrainFor.c : List V → Hp → T (V × Hp) := cdE spec_TrainFor.cd (fun a => .br (spec_TrainFor.ok a.1 a.2.1 a.2.2.1 a.2.2.2.1 a.2.2.2.2.1 a.2.2.2.2.2) (.leaf (spec_TrainFor.enc a (spec_TrainFor a.1 a.2.1 a.2.2.1 a.2.2.2.1 a.2.2.2.2.1 a.2.2.2.2.2))) .bad)
theorem spec_TrainFor.run (a : Nat × Int × Int × Int × Int × List Int) : runF spec_TrainFor.C Try.f50.results.toList spec_TrainFor.b (spec_TrainFor.cd.enc a).1 (spec_TrainFor.cd.enc a).2 = (spec_TrainFor.tr a).map (spec_TrainFor.enc a) := by kernel_rfl
theorem spec_TrainFor.cok : OKe Try.prog 50 spec_TrainFor.c := con_e' spec_TrainFor.cd spec_TrainFor.hC Try.func50 (by kernel_rfl) (by kernel_rfl) (by kernel_rfl) spec_TrainFor.lp (fun a => by kernel_rfl) spec_TrainFor.run (Tells.ok (tree := spec_TrainFor.tr))
/-! ### impl_within -/
noncomputable def impl_within.b : Code := bodyOf Try.f57
noncomputable def impl_within.C : Ctx := { ty := tys, fn := [], lp := [], n := 15, k := 0 }
theorem impl_within.hC : CtxOK Try.prog impl_within.C := CtxOK.of mo tys_ok FnsOK.nil
theorem impl_within.lp : LpOK Try.prog impl_within.C impl_within.b := (LpOK.nil (by kernel_rfl))
noncomputable def impl_within.t (x0 : Int) (x1 : Int) (x2 : Int) : T Bool :=
  .br (decide (x1 ≤ x0))
  (.leaf (decide (x0 ≤ x2)))
  (.leaf false)
noncomputable def impl_within (x0 : Int) (x1 : Int) (x2 : Int) : Bool := (impl_within.t x0 x1 x2).val
def impl_within.cd : Cd (Int × Int × Int) (List V × Hp) := Cd.iso (Cd.pair (Cd.cons (Cd.it .i64) (Cd.cons (Cd.it .i64) (Cd.cons (Cd.it .i64) Cd.nil))) Cd.nil) (fun a => (a.1.1, a.1.2.1, a.1.2.2.1)) (fun a => ((a.1, (a.2.1, (a.2.2, ()))), ())) (fun _ => rfl)
noncomputable def impl_within.tr (a : Int × Int × Int) : T Bool := impl_within.t a.1 a.2.1 a.2.2
def impl_within.enc : (Int × Int × Int) → Bool → V := fun a r => .bo r
noncomputable def impl_within.c : List V → Hp → T V := cdQ impl_within.cd (fun a => .leaf (impl_within.enc a (impl_within a.1 a.2.1 a.2.2)))
theorem impl_within.run (a : Int × Int × Int) : runF impl_within.C Try.f57.results.toList impl_within.b (impl_within.cd.enc a).1 (impl_within.cd.enc a).2 = (impl_within.tr a).map fun r => (impl_within.enc a r, (impl_within.cd.enc a).2) := by kernel_rfl
theorem impl_within.cok : OKq Try.prog 57 impl_within.c := con_q' impl_within.cd impl_within.hC Try.func57 (by kernel_rfl) (by kernel_rfl) (by kernel_rfl) impl_within.lp (fun a => by kernel_rfl) impl_within.run (Tells.val (tree := impl_within.tr) fun a => by kernel_rfl)
/-! ### impl_areTeeth -/
noncomputable def impl_areTeeth.b : Code := bodyOf Try.f56
noncomputable def impl_areTeeth.C : Ctx := { ty := tys, fn := [(57, .q impl_within.c)], lp := [], n := 5, k := 0 }
theorem impl_areTeeth.hC : CtxOK Try.prog impl_areTeeth.C := CtxOK.of mo tys_ok (FnsOK.cons impl_within.cok FnsOK.nil)
theorem impl_areTeeth.lp : LpOK Try.prog impl_areTeeth.C impl_areTeeth.b := (LpOK.nil (by kernel_rfl))
noncomputable def impl_areTeeth.t (x0 : Int) : T Bool :=
  .leaf (impl_within x0 (6 : Int) (200 : Int))
noncomputable def impl_areTeeth (x0 : Int) : Bool := (impl_areTeeth.t x0).val
def impl_areTeeth.cd : Cd Int (List V × Hp) := Cd.iso (Cd.pair (Cd.cons (Cd.it .i64) Cd.nil) Cd.nil) (fun a => a.1.1) (fun a => ((a, ()), ())) (fun _ => rfl)
noncomputable def impl_areTeeth.tr (a : Int) : T Bool := impl_areTeeth.t a
def impl_areTeeth.enc : Int → Bool → V := fun a r => .bo r
noncomputable def impl_areTeeth.c : List V → Hp → T V := cdQ impl_areTeeth.cd (fun a => .leaf (impl_areTeeth.enc a (impl_areTeeth a)))
theorem impl_areTeeth.run (a : Int) : runF impl_areTeeth.C Try.f56.results.toList impl_areTeeth.b (impl_areTeeth.cd.enc a).1 (impl_areTeeth.cd.enc a).2 = (impl_areTeeth.tr a).map fun r => (impl_areTeeth.enc a r, (impl_areTeeth.cd.enc a).2) := by kernel_rfl
theorem impl_areTeeth.cok : OKq Try.prog 56 impl_areTeeth.c := con_q' impl_areTeeth.cd impl_areTeeth.hC Try.func56 (by kernel_rfl) (by kernel_rfl) (by kernel_rfl) impl_areTeeth.lp (fun a => by kernel_rfl) impl_areTeeth.run (Tells.val (tree := impl_areTeeth.tr) fun a => by kernel_rfl)
/-! ### impl_ValidBox -/
noncomputable def impl_ValidBox.b : Code := bodyOf Try.f17
noncomputable def impl_ValidBox.l2.s (x0 : Nat) (x1 : Nat) (x2 : Int) (x3 : Int) (x4 : List Int) : T (Int ⊕ (Bool ⊕ Unit)) :=
  .br (decide (x3 < x2))
  (.br (bounds x3 x1)
   (.br (Nat.ble ((Int.toNat x3 * 1) + 1) (List.length x4))
    (.br (!(impl_areTeeth (IntKind.wrap .i64 (List.getD x4 (Int.toNat x3 * 1) 0))))
     (.leaf (.inr (.inl false)))
     (.br (decide (x3 > (0 : Int)))
      (.br (bounds (IntKind.wrap .i64 (x3 - (1 : Int))) x0)
       (.br (Nat.ble ((Int.toNat (IntKind.wrap .i64 (x3 - (1 : Int))) * 1) + 1) (List.length x4))
        (.br (decide ((List.getD x4 (Int.toNat x3 * 1) 0) ≤ (List.getD x4 (Int.toNat (IntKind.wrap .i64 (x3 - (1 : Int))) * 1) 0)))
         (.leaf (.inr (.inl false)))
         (.leaf (.inl (IntKind.wrap .i64 (x3 + (1 : Int))))))
        .bad)
       .bad)
      (.leaf (.inl (IntKind.wrap .i64 (x3 + (1 : Int)))))))
    .bad)
   .bad)
  (.leaf (.inr (.inr ())))
noncomputable def impl_ValidBox.l2.st (p : Nat × Nat × Int × List Int) (x : Int) : T (Int ⊕ (Bool ⊕ Unit)) := impl_ValidBox.l2.s p.1 p.2.1 p.2.2.1 x p.2.2.2
noncomputable def impl_ValidBox.l2.r (p : Nat × Nat × Int × List Int) (x : Int) : Option (Bool ⊕ Unit) := iterT (impl_ValidBox.l2.st p) manyRounds x
def impl_ValidBox.l2.cd : Cd ((Nat × Nat × Int × List Int) × Int) (List V × Hp) := Cd.iso (Cd.pair (Cd.cons (Cd.own 0) (Cd.cons (Cd.own 0) (Cd.cons (Cd.it .i64) (Cd.cons (Cd.it .i64) Cd.nil)))) (Cd.cons (Cd.rw 47 1 (Cd.is .i16)) Cd.nil)) (fun a => ((a.1.1, a.1.2.1, a.1.2.2.1, a.2.1), a.1.2.2.2.1)) (fun a => ((a.1.1, (a.1.2.1, (a.1.2.2.1, (a.2, ())))), (a.1.2.2.2, ()))) (fun _ => rfl)
def impl_ValidBox.l2.out (p : Nat × Nat × Int × List Int) : (Bool ⊕ Unit) → X × List V × Hp := sumO (fun r => (.ret, [.own 0 p.1, .bo r], [some ⟨true, 47, 1, .is .i16 p.2.2.2⟩])) (fun r => (.ex 0, [.own 0 p.1, .unk], [some ⟨true, 47, 1, .is .i16 p.2.2.2⟩]))
def impl_ValidBox.l2.ex (p : Nat × Nat × Int × List Int) : (Bool ⊕ Unit) → T (X × List V × Hp) := sumT (leafT (fun r => (.ret, [.own 0 p.1, .bo r], [some ⟨true, 47, 1, .is .i16 p.2.2.2⟩]))) (leafT (fun r => (.ex 0, [.own 0 p.1, .unk], [some ⟨true, 47, 1, .is .i16 p.2.2.2⟩])))
noncomputable def impl_ValidBox.l2.c : List V → Hp → T (X × List V × Hp) := cdL impl_ValidBox.l2.cd fun x => optT (impl_ValidBox.l2.r x.1 x.2) (impl_ValidBox.l2.ex x.1)
noncomputable def impl_ValidBox.C : Ctx := { ty := tys, fn := [(56, .q impl_areTeeth.c), (57, .q impl_within.c)], lp := [(2, ⟨[0, 5, 6, 7], [0, 2], impl_ValidBox.l2.c⟩)], n := 33, k := 1 }
theorem impl_ValidBox.hC : CtxOK Try.prog impl_ValidBox.C := CtxOK.of mo tys_ok (FnsOK.cons impl_areTeeth.cok (FnsOK.cons impl_within.cok FnsOK.nil))
noncomputable def impl_ValidBox.b2 : Code := (nthC (loopsOf impl_ValidBox.b) 0)
theorem impl_ValidBox.lp2 : LpOK Try.prog impl_ValidBox.C impl_ValidBox.b2 := (LpOK.nil (by kernel_rfl))
theorem impl_ValidBox.l2.round (p : Nat × Nat × Int × List Int) (s : Int) : roundL impl_ValidBox.C [0, 5, 6, 7] [0, 2] impl_ValidBox.b2 (impl_ValidBox.l2.cd.enc (p, s)).1 (impl_ValidBox.l2.cd.enc (p, s)).2 = (impl_ValidBox.l2.st p s).map (encSum (fun s => impl_ValidBox.l2.cd.enc (p, s)) (impl_ValidBox.l2.out p)) := by kernel_rfl
theorem impl_ValidBox.l2.lok : LoopOK Try.prog impl_ValidBox.C ⟨[0, 5, 6, 7], [0, 2], impl_ValidBox.l2.c⟩ impl_ValidBox.b2 := loop_cd impl_ValidBox.l2.cd impl_ValidBox.hC impl_ValidBox.lp2 impl_ValidBox.l2.round fun p => (Gets.sum Gets.leaf Gets.leaf)
theorem impl_ValidBox.lp : LpOK Try.prog impl_ValidBox.C impl_ValidBox.b := lp_of (by kernel_rfl) (LpsOK.cons (k := 2) (by kernel_rfl) (by kernel_rfl) impl_ValidBox.l2.lok LpsOK.nil)
noncomputable def impl_ValidBox.t (x0 : Nat) (x1 : List Int) : T Bool :=
  .br (Option.isSome (impl_ValidBox.l2.r (x0, x0, ((x0 : Nat) : Int), x1) (0 : Int)))
  (.br (Sum.isLeft (Option.getD (impl_ValidBox.l2.r (x0, x0, ((x0 : Nat) : Int), x1) (0 : Int)) default))
   (.leaf (getLeftD (Option.getD (impl_ValidBox.l2.r (x0, x0, ((x0 : Nat) : Int), x1) (0 : Int)) default)))
   (.leaf (impl_within ((x0 : Nat) : Int) (2 : Int) (24 : Int))))
  .bad
noncomputable def impl_ValidBox (x0 : Nat) (x1 : List Int) : Bool := (impl_ValidBox.t x0 x1).val
noncomputable def impl_ValidBox.ok (x0 : Nat) (x1 : List Int) : Bool := (impl_ValidBox.t x0 x1).ok
def impl_ValidBox.cd : Cd (Nat × List Int) (List V × Hp) := Cd.iso (Cd.pair (Cd.cons (Cd.own 0) Cd.nil) (Cd.cons (Cd.rw 47 1 (Cd.is .i16)) Cd.nil)) (fun a => (a.1.1, a.2.1)) (fun a => ((a.1, ()), (a.2, ()))) (fun _ => rfl)
noncomputable def impl_ValidBox.tr (a : Nat × List Int) : T Bool := impl_ValidBox.t a.1 a.2
def impl_ValidBox.enc : (Nat × List Int) → Bool → V := fun a r => .bo r
noncomputable def impl_ValidBox.c : List V → Hp → T V := cdQ impl_ValidBox.cd (fun a => .br (impl_ValidBox.ok a.1 a.2) (.leaf (impl_ValidBox.enc a (impl_ValidBox a.1 a.2))) .bad)
theorem impl_ValidBox.run (a : Nat × List Int) : runF impl_ValidBox.C Try.f17.results.toList impl_ValidBox.b (impl_ValidBox.cd.enc a).1 (impl_ValidBox.cd.enc a).2 = (impl_ValidBox.tr a).map fun r => (impl_ValidBox.enc a r, (impl_ValidBox.cd.enc a).2) := by kernel_rfl
theorem impl_ValidBox.cok : OKq Try.prog 17 impl_ValidBox.c := con_q' impl_ValidBox.cd impl_ValidBox.hC Try.func17 (by kernel_rfl) (by kernel_rfl) (by kernel_rfl) impl_ValidBox.lp (fun a => by kernel_rfl) impl_ValidBox.run (Tells.ok (tree := impl_ValidBox.tr))
/-! ### impl_wheelsCode_1 -/
noncomputable def impl_wheelsCode_1.b : Code := bodyOf Try.f99
noncomputable def impl_wheelsCode_1.C : Ctx := { ty := tys, fn := [(57, .q impl_within.c)], lp := [], n := 10, k := 2 }
theorem impl_wheelsCode_1.hC : CtxOK Try.prog impl_wheelsCode_1.C := CtxOK.of mo tys_ok (FnsOK.cons impl_within.cok FnsOK.nil)
theorem impl_wheelsCode_1.lp : LpOK Try.prog impl_wheelsCode_1.C impl_wheelsCode_1.b := (LpOK.nil (by kernel_rfl))
noncomputable def impl_wheelsCode_1.t (x0 : Int) (x1 : Nat) (x2 : List Int) : T Bool :=
  .leaf (!(impl_within x0 (0 : Int) (IntKind.wrap .i64 (((x1 : Nat) : Int) - (1 : Int)))))
noncomputable def impl_wheelsCode_1 (x0 : Int) (x1 : Nat) (x2 : List Int) : Bool := (impl_wheelsCode_1.t x0 x1 x2).val
def impl_wheelsCode_1.cd : Cd (Int × Nat × List Int) (List V × Hp) := Cd.iso (Cd.pair (Cd.cons (Cd.it .i64) (Cd.cons (Cd.pt 0 (Cd.natc 0)) Cd.nil)) (Cd.cons (Cd.rw 22 1 (Cd.vs (Cd.cons (Cd.own 1) Cd.nil))) (Cd.cons (Cd.rw 47 1 (Cd.is .i16)) Cd.nil))) (fun a => (a.1.1, a.2.1.1, a.2.2.1)) (fun a => ((a.1, ((), ())), ((a.2.1, ()), (a.2.2, ())))) (fun _ => rfl)
noncomputable def impl_wheelsCode_1.tr (a : Int × Nat × List Int) : T Bool := impl_wheelsCode_1.t a.1 a.2.1 a.2.2
def impl_wheelsCode_1.enc : (Int × Nat × List Int) → Bool → V := fun a r => .bo r
noncomputable def impl_wheelsCode_1.c : List V → Hp → T V := cdQ impl_wheelsCode_1.cd (fun a => .leaf (impl_wheelsCode_1.enc a (impl_wheelsCode_1 a.1 a.2.1 a.2.2)))
theorem impl_wheelsCode_1.run (a : Int × Nat × List Int) : runF impl_wheelsCode_1.C Try.f99.results.toList impl_wheelsCode_1.b (impl_wheelsCode_1.cd.enc a).1 (impl_wheelsCode_1.cd.enc a).2 = (impl_wheelsCode_1.tr a).map fun r => (impl_wheelsCode_1.enc a r, (impl_wheelsCode_1.cd.enc a).2) := by kernel_rfl
theorem impl_wheelsCode_1.cok : OKq Try.prog 99 impl_wheelsCode_1.c := con_q' impl_wheelsCode_1.cd impl_wheelsCode_1.hC Try.func99 (by kernel_rfl) (by kernel_rfl) (by kernel_rfl) impl_wheelsCode_1.lp (fun a => by kernel_rfl) impl_wheelsCode_1.run (Tells.val (tree := impl_wheelsCode_1.tr) fun a => by kernel_rfl)
/-! ### slices_IndexFunc_int64_int64 -/
noncomputable def slices_IndexFunc_int64_int64.b : Code := bodyOf Try.f105
noncomputable def slices_IndexFunc_int64_int64.l2.s (x0 : Nat) (x1 : Int) (x2 : Int) (x3 : List Int) (x4 : Nat) (x5 : List Int) : T (Int ⊕ (Int ⊕ Unit)) :=
  .br (decide (x2 < x1))
  (.br (bounds x2 x0)
   (.br (Nat.ble ((Int.toNat x2 * 1) + 1) (List.length x3))
    (.br (impl_wheelsCode_1 (List.getD x3 (Int.toNat x2 * 1) 0) x4 x5)
     (.leaf (.inr (.inl x2)))
     (.leaf (.inl (IntKind.wrap .i64 (x2 + (1 : Int))))))
    .bad)
   .bad)
  (.leaf (.inr (.inr ())))
noncomputable def slices_IndexFunc_int64_int64.l2.st (p : Nat × Int × List Int × Nat × List Int) (x : Int) : T (Int ⊕ (Int ⊕ Unit)) := slices_IndexFunc_int64_int64.l2.s p.1 p.2.1 x p.2.2.1 p.2.2.2.1 p.2.2.2.2
noncomputable def slices_IndexFunc_int64_int64.l2.r (p : Nat × Int × List Int × Nat × List Int) (x : Int) : Option (Int ⊕ Unit) := iterT (slices_IndexFunc_int64_int64.l2.st p) manyRounds x
def slices_IndexFunc_int64_int64.l2.cd : Cd ((Nat × Int × List Int × Nat × List Int) × Int) (List V × Hp) := Cd.iso (Cd.pair (Cd.cons (Cd.own 0) (Cd.cons (Cd.fu 99 (Cd.cons (Cd.pt 1 (Cd.natc 0)) Cd.nil)) (Cd.cons (Cd.it .i64) (Cd.cons (Cd.it .i64) Cd.nil)))) (Cd.cons (Cd.rw 2 1 (Cd.is .i64)) (Cd.cons (Cd.rw 22 1 (Cd.vs (Cd.cons (Cd.own 2) Cd.nil))) (Cd.cons (Cd.rw 47 1 (Cd.is .i16)) Cd.nil)))) (fun a => ((a.1.1, a.1.2.2.1, a.2.1, a.2.2.1.1, a.2.2.2.1), a.1.2.2.2.1)) (fun a => ((a.1.1, (((), ()), (a.1.2.1, (a.2, ())))), (a.1.2.2.1, ((a.1.2.2.2.1, ()), (a.1.2.2.2.2, ()))))) (fun _ => rfl)
def slices_IndexFunc_int64_int64.l2.out (p : Nat × Int × List Int × Nat × List Int) : (Int ⊕ Unit) → X × List V × Hp := sumO (fun r => (.ret, [.it .i64 r], [some ⟨true, 2, 1, .is .i64 p.2.2.1⟩, some ⟨true, 22, 1, .vs [.own 2 p.2.2.2.1]⟩, some ⟨true, 47, 1, .is .i16 p.2.2.2.2⟩])) (fun r => (.ex 0, [.unk], [some ⟨true, 2, 1, .is .i64 p.2.2.1⟩, some ⟨true, 22, 1, .vs [.own 2 p.2.2.2.1]⟩, some ⟨true, 47, 1, .is .i16 p.2.2.2.2⟩]))
def slices_IndexFunc_int64_int64.l2.ex (p : Nat × Int × List Int × Nat × List Int) : (Int ⊕ Unit) → T (X × List V × Hp) := sumT (leafT (fun r => (.ret, [.it .i64 r], [some ⟨true, 2, 1, .is .i64 p.2.2.1⟩, some ⟨true, 22, 1, .vs [.own 2 p.2.2.2.1]⟩, some ⟨true, 47, 1, .is .i16 p.2.2.2.2⟩]))) (leafT (fun r => (.ex 0, [.unk], [some ⟨true, 2, 1, .is .i64 p.2.2.1⟩, some ⟨true, 22, 1, .vs [.own 2 p.2.2.2.1]⟩, some ⟨true, 47, 1, .is .i16 p.2.2.2.2⟩])))
noncomputable def slices_IndexFunc_int64_int64.l2.c : List V → Hp → T (X × List V × Hp) := cdL slices_IndexFunc_int64_int64.l2.cd fun x => optT (slices_IndexFunc_int64_int64.l2.r x.1 x.2) (slices_IndexFunc_int64_int64.l2.ex x.1)
noncomputable def slices_IndexFunc_int64_int64.C : Ctx := { ty := tys, fn := [(99, .q impl_wheelsCode_1.c)], lp := [(2, ⟨[0, 1, 7, 8], [4], slices_IndexFunc_int64_int64.l2.c⟩)], n := 19, k := 3 }
theorem slices_IndexFunc_int64_int64.hC : CtxOK Try.prog slices_IndexFunc_int64_int64.C := CtxOK.of mo tys_ok (FnsOK.cons impl_wheelsCode_1.cok FnsOK.nil)
noncomputable def slices_IndexFunc_int64_int64.b2 : Code := (nthC (loopsOf slices_IndexFunc_int64_int64.b) 0)
theorem slices_IndexFunc_int64_int64.lp2 : LpOK Try.prog slices_IndexFunc_int64_int64.C slices_IndexFunc_int64_int64.b2 := (LpOK.nil (by kernel_rfl))
theorem slices_IndexFunc_int64_int64.l2.round (p : Nat × Int × List Int × Nat × List Int) (s : Int) : roundL slices_IndexFunc_int64_int64.C [0, 1, 7, 8] [4] slices_IndexFunc_int64_int64.b2 (slices_IndexFunc_int64_int64.l2.cd.enc (p, s)).1 (slices_IndexFunc_int64_int64.l2.cd.enc (p, s)).2 = (slices_IndexFunc_int64_int64.l2.st p s).map (encSum (fun s => slices_IndexFunc_int64_int64.l2.cd.enc (p, s)) (slices_IndexFunc_int64_int64.l2.out p)) := by kernel_rfl
theorem slices_IndexFunc_int64_int64.l2.lok : LoopOK Try.prog slices_IndexFunc_int64_int64.C ⟨[0, 1, 7, 8], [4], slices_IndexFunc_int64_int64.l2.c⟩ slices_IndexFunc_int64_int64.b2 := loop_cd slices_IndexFunc_int64_int64.l2.cd slices_IndexFunc_int64_int64.hC slices_IndexFunc_int64_int64.lp2 slices_IndexFunc_int64_int64.l2.round fun p => (Gets.sum Gets.leaf Gets.leaf)
theorem slices_IndexFunc_int64_int64.lp : LpOK Try.prog slices_IndexFunc_int64_int64.C slices_IndexFunc_int64_int64.b := lp_of (by kernel_rfl) (LpsOK.cons (k := 2) (by kernel_rfl) (by kernel_rfl) slices_IndexFunc_int64_int64.l2.lok LpsOK.nil)
noncomputable def slices_IndexFunc_int64_int64.t (x0 : Nat) (x1 : List Int) (x2 : Nat) (x3 : List Int) : T Int :=
  .br (Option.isSome (slices_IndexFunc_int64_int64.l2.r (x0, ((x0 : Nat) : Int), x1, x2, x3) (0 : Int)))
  (.br (Sum.isLeft (Option.getD (slices_IndexFunc_int64_int64.l2.r (x0, ((x0 : Nat) : Int), x1, x2, x3) (0 : Int)) default))
   (.leaf (getLeftD (Option.getD (slices_IndexFunc_int64_int64.l2.r (x0, ((x0 : Nat) : Int), x1, x2, x3) (0 : Int)) default)))
   (.leaf (-1 : Int)))
  .bad
noncomputable def slices_IndexFunc_int64_int64 (x0 : Nat) (x1 : List Int) (x2 : Nat) (x3 : List Int) : Int := (slices_IndexFunc_int64_int64.t x0 x1 x2 x3).val
noncomputable def slices_IndexFunc_int64_int64.ok (x0 : Nat) (x1 : List Int) (x2 : Nat) (x3 : List Int) : Bool := (slices_IndexFunc_int64_int64.t x0 x1 x2 x3).ok
def slices_IndexFunc_int64_int64.cd : Cd (Nat × List Int × Nat × List Int) (List V × Hp) := Cd.iso (Cd.pair (Cd.cons (Cd.own 0) (Cd.cons (Cd.fu 99 (Cd.cons (Cd.pt 1 (Cd.natc 0)) Cd.nil)) Cd.nil)) (Cd.cons (Cd.rw 2 1 (Cd.is .i64)) (Cd.cons (Cd.rw 22 1 (Cd.vs (Cd.cons (Cd.own 2) Cd.nil))) (Cd.cons (Cd.rw 47 1 (Cd.is .i16)) Cd.nil)))) (fun a => (a.1.1, a.2.1, a.2.2.1.1, a.2.2.2.1)) (fun a => ((a.1, (((), ()), ())), (a.2.1, ((a.2.2.1, ()), (a.2.2.2, ()))))) (fun _ => rfl)
noncomputable def slices_IndexFunc_int64_int64.tr (a : Nat × List Int × Nat × List Int) : T Int := slices_IndexFunc_int64_int64.t a.1 a.2.1 a.2.2.1 a.2.2.2
def slices_IndexFunc_int64_int64.enc : (Nat × List Int × Nat × List Int) → Int → V := fun a r => .it .i64 r
noncomputable def slices_IndexFunc_int64_int64.c : List V → Hp → T V := cdQ slices_IndexFunc_int64_int64.cd (fun a => .br (slices_IndexFunc_int64_int64.ok a.1 a.2.1 a.2.2.1 a.2.2.2) (.leaf (slices_IndexFunc_int64_int64.enc a (slices_IndexFunc_int64_int64 a.1 a.2.1 a.2.2.1 a.2.2.2))) .bad)
theorem slices_IndexFunc_int64_int64.run (a : Nat × List Int × Nat × List Int) : runF slices_IndexFunc_int64_int64.C Try.f105.results.toList slices_IndexFunc_int64_int64.b (slices_IndexFunc_int64_int64.cd.enc a).1 (slices_IndexFunc_int64_int64.cd.enc a).2 = (slices_IndexFunc_int64_int64.tr a).map fun r => (slices_IndexFunc_int64_int64.enc a r, (slices_IndexFunc_int64_int64.cd.enc a).2) := by kernel_rfl
theorem slices_IndexFunc_int64_int64.cok : OKq Try.prog 105 slices_IndexFunc_int64_int64.c := con_q' slices_IndexFunc_int64_int64.cd slices_IndexFunc_int64_int64.hC Try.func105 (by kernel_rfl) (by kernel_rfl) (by kernel_rfl) slices_IndexFunc_int64_int64.lp (fun a => by kernel_rfl) slices_IndexFunc_int64_int64.run (Tells.ok (tree := slices_IndexFunc_int64_int64.tr))
/-! ### slices_ContainsFunc_int64_int64 -/
noncomputable def slices_ContainsFunc_int64_int64.b : Code := bodyOf Try.f98
noncomputable def slices_ContainsFunc_int64_int64.C : Ctx := { ty := tys, fn := [(105, .q slices_IndexFunc_int64_int64.c)], lp := [], n := 9, k := 3 }
theorem slices_ContainsFunc_int64_int64.hC : CtxOK Try.prog slices_ContainsFunc_int64_int64.C := CtxOK.of mo tys_ok (FnsOK.cons slices_IndexFunc_int64_int64.cok FnsOK.nil)
theorem slices_ContainsFunc_int64_int64.lp : LpOK Try.prog slices_ContainsFunc_int64_int64.C slices_ContainsFunc_int64_int64.b := (LpOK.nil (by kernel_rfl))
noncomputable def slices_ContainsFunc_int64_int64.t (x0 : Nat) (x1 : List Int) (x2 : Nat) (x3 : List Int) : T Bool :=
  .br (slices_IndexFunc_int64_int64.ok x0 x1 x2 x3)
  (.leaf (decide ((slices_IndexFunc_int64_int64 x0 x1 x2 x3) ≥ (0 : Int))))
  .bad
noncomputable def slices_ContainsFunc_int64_int64 (x0 : Nat) (x1 : List Int) (x2 : Nat) (x3 : List Int) : Bool := (slices_ContainsFunc_int64_int64.t x0 x1 x2 x3).val
noncomputable def slices_ContainsFunc_int64_int64.ok (x0 : Nat) (x1 : List Int) (x2 : Nat) (x3 : List Int) : Bool := (slices_ContainsFunc_int64_int64.t x0 x1 x2 x3).ok
def slices_ContainsFunc_int64_int64.cd : Cd (Nat × List Int × Nat × List Int) (List V × Hp) := Cd.iso (Cd.pair (Cd.cons (Cd.own 0) (Cd.cons (Cd.fu 99 (Cd.cons (Cd.pt 1 (Cd.natc 0)) Cd.nil)) Cd.nil)) (Cd.cons (Cd.rw 2 1 (Cd.is .i64)) (Cd.cons (Cd.rw 22 1 (Cd.vs (Cd.cons (Cd.own 2) Cd.nil))) (Cd.cons (Cd.rw 47 1 (Cd.is .i16)) Cd.nil)))) (fun a => (a.1.1, a.2.1, a.2.2.1.1, a.2.2.2.1)) (fun a => ((a.1, (((), ()), ())), (a.2.1, ((a.2.2.1, ()), (a.2.2.2, ()))))) (fun _ => rfl)
noncomputable def slices_ContainsFunc_int64_int64.tr (a : Nat × List Int × Nat × List Int) : T Bool := slices_ContainsFunc_int64_int64.t a.1 a.2.1 a.2.2.1 a.2.2.2
def slices_ContainsFunc_int64_int64.enc : (Nat × List Int × Nat × List Int) → Bool → V := fun a r => .bo r
noncomputable def slices_ContainsFunc_int64_int64.c : List V → Hp → T V := cdQ slices_ContainsFunc_int64_int64.cd (fun a => .br (slices_ContainsFunc_int64_int64.ok a.1 a.2.1 a.2.2.1 a.2.2.2) (.leaf (slices_ContainsFunc_int64_int64.enc a (slices_ContainsFunc_int64_int64 a.1 a.2.1 a.2.2.1 a.2.2.2))) .bad)
theorem slices_ContainsFunc_int64_int64.run (a : Nat × List Int × Nat × List Int) : runF slices_ContainsFunc_int64_int64.C Try.f98.results.toList slices_ContainsFunc_int64_int64.b (slices_ContainsFunc_int64_int64.cd.enc a).1 (slices_ContainsFunc_int64_int64.cd.enc a).2 = (slices_ContainsFunc_int64_int64.tr a).map fun r => (slices_ContainsFunc_int64_int64.enc a r, (slices_ContainsFunc_int64_int64.cd.enc a).2) := by kernel_rfl
theorem slices_ContainsFunc_int64_int64.cok : OKq Try.prog 98 slices_ContainsFunc_int64_int64.c := con_q' slices_ContainsFunc_int64_int64.cd slices_ContainsFunc_int64_int64.hC Try.func98 (by kernel_rfl) (by kernel_rfl) (by kernel_rfl) slices_ContainsFunc_int64_int64.lp (fun a => by kernel_rfl) slices_ContainsFunc_int64_int64.run (Tells.ok (tree := slices_ContainsFunc_int64_int64.tr))
/-! ### slices_Index_int64_int64 -/
noncomputable def slices_Index_int64_int64.b : Code := bodyOf Try.f106
noncomputable def slices_Index_int64_int64.l2.s (x0 : Nat) (x1 : Int) (x2 : Int) (x3 : Int) (x4 : List Int) : T (Int ⊕ (Int ⊕ Unit)) :=
  .br (decide (x3 < x2))
  (.br (bounds x3 x0)
   (.br (Nat.ble ((0 + (Int.toNat x3 * 1)) + 1) (List.length x4))
    (.br (x1 == (List.getD x4 (0 + (Int.toNat x3 * 1)) 0))
     (.leaf (.inr (.inl x3)))
     (.leaf (.inl (IntKind.wrap .i64 (x3 + (1 : Int))))))
    .bad)
   .bad)
  (.leaf (.inr (.inr ())))
noncomputable def slices_Index_int64_int64.l2.st (p : Nat × Int × Int × List Int) (x : Int) : T (Int ⊕ (Int ⊕ Unit)) := slices_Index_int64_int64.l2.s p.1 p.2.1 p.2.2.1 x p.2.2.2
noncomputable def slices_Index_int64_int64.l2.r (p : Nat × Int × Int × List Int) (x : Int) : Option (Int ⊕ Unit) := iterT (slices_Index_int64_int64.l2.st p) manyRounds x
def slices_Index_int64_int64.l2.cd : Cd ((Nat × Int × Int × List Int) × Int) (List V × Hp) := Cd.iso (Cd.pair (Cd.cons (Cd.sl 0 (Cd.natc 0)) (Cd.cons (Cd.it .i64) (Cd.cons (Cd.it .i64) (Cd.cons (Cd.it .i64) Cd.nil)))) (Cd.cons (Cd.rw 2 1 (Cd.is .i64)) Cd.nil)) (fun a => ((a.1.1.2, a.1.2.1, a.1.2.2.1, a.2.1), a.1.2.2.2.1)) (fun a => ((((), a.1.1), (a.1.2.1, (a.1.2.2.1, (a.2, ())))), (a.1.2.2.2, ()))) (fun _ => rfl)
def slices_Index_int64_int64.l2.out (p : Nat × Int × Int × List Int) : (Int ⊕ Unit) → X × List V × Hp := sumO (fun r => (.ret, [.it .i64 r], [some ⟨true, 2, 1, .is .i64 p.2.2.2⟩])) (fun r => (.ex 0, [.unk], [some ⟨true, 2, 1, .is .i64 p.2.2.2⟩]))
def slices_Index_int64_int64.l2.ex (p : Nat × Int × Int × List Int) : (Int ⊕ Unit) → T (X × List V × Hp) := sumT (leafT (fun r => (.ret, [.it .i64 r], [some ⟨true, 2, 1, .is .i64 p.2.2.2⟩]))) (leafT (fun r => (.ex 0, [.unk], [some ⟨true, 2, 1, .is .i64 p.2.2.2⟩])))
noncomputable def slices_Index_int64_int64.l2.c : List V → Hp → T (X × List V × Hp) := cdL slices_Index_int64_int64.l2.cd fun x => optT (slices_Index_int64_int64.l2.r x.1 x.2) (slices_Index_int64_int64.l2.ex x.1)
noncomputable def slices_Index_int64_int64.C : Ctx := { ty := tys, fn := [], lp := [(2, ⟨[0, 1, 7, 8], [4], slices_Index_int64_int64.l2.c⟩)], n := 19, k := 1 }
theorem slices_Index_int64_int64.hC : CtxOK Try.prog slices_Index_int64_int64.C := CtxOK.of mo tys_ok FnsOK.nil
noncomputable def slices_Index_int64_int64.b2 : Code := (nthC (loopsOf slices_Index_int64_int64.b) 0)
theorem slices_Index_int64_int64.lp2 : LpOK Try.prog slices_Index_int64_int64.C slices_Index_int64_int64.b2 := (LpOK.nil (by kernel_rfl))
theorem slices_Index_int64_int64.l2.round (p : Nat × Int × Int × List Int) (s : Int) : roundL slices_Index_int64_int64.C [0, 1, 7, 8] [4] slices_Index_int64_int64.b2 (slices_Index_int64_int64.l2.cd.enc (p, s)).1 (slices_Index_int64_int64.l2.cd.enc (p, s)).2 = (slices_Index_int64_int64.l2.st p s).map (encSum (fun s => slices_Index_int64_int64.l2.cd.enc (p, s)) (slices_Index_int64_int64.l2.out p)) := by kernel_rfl
theorem slices_Index_int64_int64.l2.lok : LoopOK Try.prog slices_Index_int64_int64.C ⟨[0, 1, 7, 8], [4], slices_Index_int64_int64.l2.c⟩ slices_Index_int64_int64.b2 := loop_cd slices_Index_int64_int64.l2.cd slices_Index_int64_int64.hC slices_Index_int64_int64.lp2 slices_Index_int64_int64.l2.round fun p => (Gets.sum Gets.leaf Gets.leaf)
theorem slices_Index_int64_int64.lp : LpOK Try.prog slices_Index_int64_int64.C slices_Index_int64_int64.b := lp_of (by kernel_rfl) (LpsOK.cons (k := 2) (by kernel_rfl) (by kernel_rfl) slices_Index_int64_int64.l2.lok LpsOK.nil)
noncomputable def slices_Index_int64_int64.t (x0 : Nat) (x1 : Int) (x2 : List Int) : T Int :=
  .br (Option.isSome (slices_Index_int64_int64.l2.r (x0, x1, ((x0 : Nat) : Int), x2) (0 : Int)))
  (.br (Sum.isLeft (Option.getD (slices_Index_int64_int64.l2.r (x0, x1, ((x0 : Nat) : Int), x2) (0 : Int)) default))
   (.leaf (getLeftD (Option.getD (slices_Index_int64_int64.l2.r (x0, x1, ((x0 : Nat) : Int), x2) (0 : Int)) default)))
   (.leaf (-1 : Int)))
  .bad
noncomputable def slices_Index_int64_int64 (x0 : Nat) (x1 : Int) (x2 : List Int) : Int := (slices_Index_int64_int64.t x0 x1 x2).val
noncomputable def slices_Index_int64_int64.ok (x0 : Nat) (x1 : Int) (x2 : List Int) : Bool := (slices_Index_int64_int64.t x0 x1 x2).ok
def slices_Index_int64_int64.cd : Cd (Nat × Int × List Int) (List V × Hp) := Cd.iso (Cd.pair (Cd.cons (Cd.sl 0 (Cd.natc 0)) (Cd.cons (Cd.it .i64) Cd.nil)) (Cd.cons (Cd.rw 2 1 (Cd.is .i64)) Cd.nil)) (fun a => (a.1.1.2, a.1.2.1, a.2.1)) (fun a => ((((), a.1), (a.2.1, ())), (a.2.2, ()))) (fun _ => rfl)
noncomputable def slices_Index_int64_int64.tr (a : Nat × Int × List Int) : T Int := slices_Index_int64_int64.t a.1 a.2.1 a.2.2
def slices_Index_int64_int64.enc : (Nat × Int × List Int) → Int → V := fun a r => .it .i64 r
noncomputable def slices_Index_int64_int64.c : List V → Hp → T V := cdQ slices_Index_int64_int64.cd (fun a => .br (slices_Index_int64_int64.ok a.1 a.2.1 a.2.2) (.leaf (slices_Index_int64_int64.enc a (slices_Index_int64_int64 a.1 a.2.1 a.2.2))) .bad)
theorem slices_Index_int64_int64.run (a : Nat × Int × List Int) : runF slices_Index_int64_int64.C Try.f106.results.toList slices_Index_int64_int64.b (slices_Index_int64_int64.cd.enc a).1 (slices_Index_int64_int64.cd.enc a).2 = (slices_Index_int64_int64.tr a).map fun r => (slices_Index_int64_int64.enc a r, (slices_Index_int64_int64.cd.enc a).2) := by kernel_rfl
theorem slices_Index_int64_int64.cok : OKq Try.prog 106 slices_Index_int64_int64.c := con_q' slices_Index_int64_int64.cd slices_Index_int64_int64.hC Try.func106 (by kernel_rfl) (by kernel_rfl) (by kernel_rfl) slices_Index_int64_int64.lp (fun a => by kernel_rfl) slices_Index_int64_int64.run (Tells.ok (tree := slices_Index_int64_int64.tr))
/-! ### slices_Contains_int64_int64 -/
noncomputable def slices_Contains_int64_int64.b : Code := bodyOf Try.f100
noncomputable def slices_Contains_int64_int64.C : Ctx := { ty := tys, fn := [(106, .q slices_Index_int64_int64.c)], lp := [], n := 9, k := 1 }
theorem slices_Contains_int64_int64.hC : CtxOK Try.prog slices_Contains_int64_int64.C := CtxOK.of mo tys_ok (FnsOK.cons slices_Index_int64_int64.cok FnsOK.nil)
theorem slices_Contains_int64_int64.lp : LpOK Try.prog slices_Contains_int64_int64.C slices_Contains_int64_int64.b := (LpOK.nil (by kernel_rfl))
noncomputable def slices_Contains_int64_int64.t (x0 : Nat) (x1 : Int) (x2 : List Int) : T Bool :=
  .br (slices_Index_int64_int64.ok x0 x1 x2)
  (.leaf (decide ((slices_Index_int64_int64 x0 x1 x2) ≥ (0 : Int))))
  .bad
noncomputable def slices_Contains_int64_int64 (x0 : Nat) (x1 : Int) (x2 : List Int) : Bool := (slices_Contains_int64_int64.t x0 x1 x2).val
noncomputable def slices_Contains_int64_int64.ok (x0 : Nat) (x1 : Int) (x2 : List Int) : Bool := (slices_Contains_int64_int64.t x0 x1 x2).ok
def slices_Contains_int64_int64.cd : Cd (Nat × Int × List Int) (List V × Hp) := Cd.iso (Cd.pair (Cd.cons (Cd.sl 0 (Cd.natc 0)) (Cd.cons (Cd.it .i64) Cd.nil)) (Cd.cons (Cd.rw 2 1 (Cd.is .i64)) Cd.nil)) (fun a => (a.1.1.2, a.1.2.1, a.2.1)) (fun a => ((((), a.1), (a.2.1, ())), (a.2.2, ()))) (fun _ => rfl)
noncomputable def slices_Contains_int64_int64.tr (a : Nat × Int × List Int) : T Bool := slices_Contains_int64_int64.t a.1 a.2.1 a.2.2
def slices_Contains_int64_int64.enc : (Nat × Int × List Int) → Bool → V := fun a r => .bo r
noncomputable def slices_Contains_int64_int64.c : List V → Hp → T V := cdQ slices_Contains_int64_int64.cd (fun a => .br (slices_Contains_int64_int64.ok a.1 a.2.1 a.2.2) (.leaf (slices_Contains_int64_int64.enc a (slices_Contains_int64_int64 a.1 a.2.1 a.2.2))) .bad)
theorem slices_Contains_int64_int64.run (a : Nat × Int × List Int) : runF slices_Contains_int64_int64.C Try.f100.results.toList slices_Contains_int64_int64.b (slices_Contains_int64_int64.cd.enc a).1 (slices_Contains_int64_int64.cd.enc a).2 = (slices_Contains_int64_int64.tr a).map fun r => (slices_Contains_int64_int64.enc a r, (slices_Contains_int64_int64.cd.enc a).2) := by kernel_rfl
theorem slices_Contains_int64_int64.cok : OKq Try.prog 100 slices_Contains_int64_int64.c := con_q' slices_Contains_int64_int64.cd slices_Contains_int64_int64.hC Try.func100 (by kernel_rfl) (by kernel_rfl) (by kernel_rfl) slices_Contains_int64_int64.lp (fun a => by kernel_rfl) slices_Contains_int64_int64.run (Tells.ok (tree := slices_Contains_int64_int64.tr))
/-! ### impl_wheelsCode -/
noncomputable def impl_wheelsCode.b : Code := bodyOf Try.f70
noncomputable def impl_wheelsCode.l6.s (x0 : Nat) (x1 : Nat) (x2 : Int) (x3 : Int) (x4 : List Int) (x5 : List Int) : T (Int ⊕ (Int ⊕ Unit)) :=
  .br (decide (x3 < x2))
  (.br (bounds x3 x1)
   (.br (Nat.ble ((Int.toNat x3 * 1) + 1) (List.length x5))
    (.br (decide (0 ≤ (0 : Int)) && decide ((0 : Int) ≤ x3) && decide (x3 ≤ ((x0 : Nat) : Int)))
     (.br (slices_Contains_int64_int64.ok (Int.toNat x3 - Int.toNat (0 : Int)) (List.getD x5 (Int.toNat x3 * 1) 0) x5)
      (.br (slices_Contains_int64_int64 (Int.toNat x3 - Int.toNat (0 : Int)) (List.getD x5 (Int.toNat x3 * 1) 0) x5)
       (.leaf (.inr (.inl (4 : Int))))
       (.leaf (.inl (IntKind.wrap .i64 (x3 + (1 : Int))))))
      .bad)
     .bad)
    .bad)
   .bad)
  (.leaf (.inr (.inr ())))
noncomputable def impl_wheelsCode.l6.st (p : Nat × Nat × Int × List Int × List Int) (x : Int) : T (Int ⊕ (Int ⊕ Unit)) := impl_wheelsCode.l6.s p.1 p.2.1 p.2.2.1 x p.2.2.2.1 p.2.2.2.2
noncomputable def impl_wheelsCode.l6.r (p : Nat × Nat × Int × List Int × List Int) (x : Int) : Option (Int ⊕ Unit) := iterT (impl_wheelsCode.l6.st p) manyRounds x
def impl_wheelsCode.l6.cd : Cd ((Nat × Nat × Int × List Int × List Int) × Int) (List V × Hp) := Cd.iso (Cd.pair (Cd.cons (Cd.own 1) (Cd.cons (Cd.own 1) (Cd.cons (Cd.it .i64) (Cd.cons (Cd.it .i64) Cd.nil)))) (Cd.cons (Cd.rw 47 1 (Cd.is .i16)) (Cd.cons (Cd.rw 2 1 (Cd.is .i64)) Cd.nil))) (fun a => ((a.1.1, a.1.2.1, a.1.2.2.1, a.2.1, a.2.2.1), a.1.2.2.2.1)) (fun a => ((a.1.1, (a.1.2.1, (a.1.2.2.1, (a.2, ())))), (a.1.2.2.2.1, (a.1.2.2.2.2, ())))) (fun _ => rfl)
def impl_wheelsCode.l6.out (p : Nat × Nat × Int × List Int × List Int) : (Int ⊕ Unit) → X × List V × Hp := sumO (fun r => (.ret, [.it .i64 r], [some ⟨true, 47, 1, .is .i16 p.2.2.2.1⟩, some ⟨true, 2, 1, .is .i64 p.2.2.2.2⟩])) (fun r => (.ex 1, [.unk], [some ⟨true, 47, 1, .is .i16 p.2.2.2.1⟩, some ⟨true, 2, 1, .is .i64 p.2.2.2.2⟩]))
def impl_wheelsCode.l6.ex (p : Nat × Nat × Int × List Int × List Int) : (Int ⊕ Unit) → T (X × List V × Hp) := sumT (leafT (fun r => (.ret, [.it .i64 r], [some ⟨true, 47, 1, .is .i16 p.2.2.2.1⟩, some ⟨true, 2, 1, .is .i64 p.2.2.2.2⟩]))) (leafT (fun r => (.ex 1, [.unk], [some ⟨true, 47, 1, .is .i16 p.2.2.2.1⟩, some ⟨true, 2, 1, .is .i64 p.2.2.2.2⟩])))
noncomputable def impl_wheelsCode.l6.c : List V → Hp → T (X × List V × Hp) := cdL impl_wheelsCode.l6.cd fun x => optT (impl_wheelsCode.l6.r x.1 x.2) (impl_wheelsCode.l6.ex x.1)
noncomputable def impl_wheelsCode.C : Ctx := { ty := tys, fn := [(17, .q impl_ValidBox.c), (98, .q slices_ContainsFunc_int64_int64.c), (100, .q slices_Contains_int64_int64.c)], lp := [(6, ⟨[1, 15, 16, 17], [4], impl_wheelsCode.l6.c⟩)], n := 28, k := 2 }
theorem impl_wheelsCode.hC : CtxOK Try.prog impl_wheelsCode.C := CtxOK.of mo tys_ok (FnsOK.cons impl_ValidBox.cok (FnsOK.cons slices_ContainsFunc_int64_int64.cok (FnsOK.cons slices_Contains_int64_int64.cok FnsOK.nil)))
noncomputable def impl_wheelsCode.b6 : Code := (nthC (loopsOf impl_wheelsCode.b) 0)
theorem impl_wheelsCode.lp6 : LpOK Try.prog impl_wheelsCode.C impl_wheelsCode.b6 := (LpOK.nil (by kernel_rfl))
theorem impl_wheelsCode.l6.round (p : Nat × Nat × Int × List Int × List Int) (s : Int) : roundL impl_wheelsCode.C [1, 15, 16, 17] [4] impl_wheelsCode.b6 (impl_wheelsCode.l6.cd.enc (p, s)).1 (impl_wheelsCode.l6.cd.enc (p, s)).2 = (impl_wheelsCode.l6.st p s).map (encSum (fun s => impl_wheelsCode.l6.cd.enc (p, s)) (impl_wheelsCode.l6.out p)) := by kernel_rfl
theorem impl_wheelsCode.l6.lok : LoopOK Try.prog impl_wheelsCode.C ⟨[1, 15, 16, 17], [4], impl_wheelsCode.l6.c⟩ impl_wheelsCode.b6 := loop_cd impl_wheelsCode.l6.cd impl_wheelsCode.hC impl_wheelsCode.lp6 impl_wheelsCode.l6.round fun p => (Gets.sum Gets.leaf Gets.leaf)
theorem impl_wheelsCode.lp : LpOK Try.prog impl_wheelsCode.C impl_wheelsCode.b := lp_of (by kernel_rfl) (LpsOK.cons (k := 6) (by kernel_rfl) (by kernel_rfl) impl_wheelsCode.l6.lok LpsOK.nil)
noncomputable def impl_wheelsCode.t (x0 : Nat) (x1 : Nat) (x2 : List Int) (x3 : List Int) : T Int :=
  .br (impl_ValidBox.ok x0 x2)
  (.br (!(impl_ValidBox x0 x2))
   (.leaf (1 : Int))
   (.br (slices_ContainsFunc_int64_int64.ok x1 x3 x0 x2)
    (.br (slices_ContainsFunc_int64_int64 x1 x3 x0 x2)
     (.leaf (2 : Int))
     (.br (Option.isSome (impl_wheelsCode.l6.r (x1, x1, ((x1 : Nat) : Int), x2, x3) (0 : Int)))
      (.br (Sum.isLeft (Option.getD (impl_wheelsCode.l6.r (x1, x1, ((x1 : Nat) : Int), x2, x3) (0 : Int)) default))
       (.leaf (getLeftD (Option.getD (impl_wheelsCode.l6.r (x1, x1, ((x1 : Nat) : Int), x2, x3) (0 : Int)) default)))
       (.leaf (0 : Int)))
      .bad))
    .bad))
  .bad
noncomputable def impl_wheelsCode (x0 : Nat) (x1 : Nat) (x2 : List Int) (x3 : List Int) : Int := (impl_wheelsCode.t x0 x1 x2 x3).val
noncomputable def impl_wheelsCode.ok (x0 : Nat) (x1 : Nat) (x2 : List Int) (x3 : List Int) : Bool := (impl_wheelsCode.t x0 x1 x2 x3).ok
def impl_wheelsCode.cd : Cd (Nat × Nat × List Int × List Int) (List V × Hp) := Cd.iso (Cd.pair (Cd.cons (Cd.own 0) (Cd.cons (Cd.own 1) Cd.nil)) (Cd.cons (Cd.rw 47 1 (Cd.is .i16)) (Cd.cons (Cd.rw 2 1 (Cd.is .i64)) Cd.nil))) (fun a => (a.1.1, a.1.2.1, a.2.1, a.2.2.1)) (fun a => ((a.1, (a.2.1, ())), (a.2.2.1, (a.2.2.2, ())))) (fun _ => rfl)
noncomputable def impl_wheelsCode.tr (a : Nat × Nat × List Int × List Int) : T Int := impl_wheelsCode.t a.1 a.2.1 a.2.2.1 a.2.2.2
def impl_wheelsCode.enc : (Nat × Nat × List Int × List Int) → Int → V := fun a r => .it .i64 r
noncomputable def impl_wheelsCode.c : List V → Hp → T V := cdQ impl_wheelsCode.cd (fun a => .br (impl_wheelsCode.ok a.1 a.2.1 a.2.2.1 a.2.2.2) (.leaf (impl_wheelsCode.enc a (impl_wheelsCode a.1 a.2.1 a.2.2.1 a.2.2.2))) .bad)
theorem impl_wheelsCode.run (a : Nat × Nat × List Int × List Int) : runF impl_wheelsCode.C Try.f70.results.toList impl_wheelsCode.b (impl_wheelsCode.cd.enc a).1 (impl_wheelsCode.cd.enc a).2 = (impl_wheelsCode.tr a).map fun r => (impl_wheelsCode.enc a r, (impl_wheelsCode.cd.enc a).2) := by kernel_rfl
theorem impl_wheelsCode.cok : OKq Try.prog 70 impl_wheelsCode.c := con_q' impl_wheelsCode.cd impl_wheelsCode.hC Try.func70 (by kernel_rfl) (by kernel_rfl) (by kernel_rfl) impl_wheelsCode.lp (fun a => by kernel_rfl) impl_wheelsCode.run (Tells.ok (tree := impl_wheelsCode.tr))
/-! ### impl_choiceCode -/
noncomputable def impl_choiceCode.b : Code := bodyOf Try.f75
noncomputable def impl_choiceCode.C : Ctx := { ty := tys, fn := [(70, .q impl_wheelsCode.c)], lp := [], n := 20, k := 1 }
theorem impl_choiceCode.hC : CtxOK Try.prog impl_choiceCode.C := CtxOK.of mo tys_ok (FnsOK.cons impl_wheelsCode.cok FnsOK.nil)
theorem impl_choiceCode.lp : LpOK Try.prog impl_choiceCode.C impl_choiceCode.b := (LpOK.nil (by kernel_rfl))
noncomputable def impl_choiceCode.t (x0 : Nat) (x1 : Int) (x2 : Int) (x3 : Int) (x4 : Int) (x5 : List Int) : T Int :=
  .br (impl_wheelsCode.ok x0 4 x5 [(IntKind.wrap .i64 x1), (IntKind.wrap .i64 x2), (IntKind.wrap .i64 x3), (IntKind.wrap .i64 x4)])
  (.leaf (impl_wheelsCode x0 4 x5 [(IntKind.wrap .i64 x1), (IntKind.wrap .i64 x2), (IntKind.wrap .i64 x3), (IntKind.wrap .i64 x4)]))
  .bad
noncomputable def impl_choiceCode (x0 : Nat) (x1 : Int) (x2 : Int) (x3 : Int) (x4 : Int) (x5 : List Int) : Int := (impl_choiceCode.t x0 x1 x2 x3 x4 x5).val
noncomputable def impl_choiceCode.ok (x0 : Nat) (x1 : Int) (x2 : Int) (x3 : Int) (x4 : Int) (x5 : List Int) : Bool := (impl_choiceCode.t x0 x1 x2 x3 x4 x5).ok
def impl_choiceCode.cd : Cd (Nat × Int × Int × Int × Int × List Int) (List V × Hp) := Cd.iso (Cd.pair (Cd.cons (Cd.own 0) (Cd.cons (Cd.agg (Cd.cons (Cd.it .i16) (Cd.cons (Cd.it .i16) (Cd.cons (Cd.it .i16) (Cd.cons (Cd.it .i16) Cd.nil))))) Cd.nil)) (Cd.cons (Cd.rw 47 1 (Cd.is .i16)) Cd.nil)) (fun a => (a.1.1, a.1.2.1.1, a.1.2.1.2.1, a.1.2.1.2.2.1, a.1.2.1.2.2.2.1, a.2.1)) (fun a => ((a.1, ((a.2.1, (a.2.2.1, (a.2.2.2.1, (a.2.2.2.2.1, ())))), ())), (a.2.2.2.2.2, ()))) (fun _ => rfl)
noncomputable def impl_choiceCode.tr (a : Nat × Int × Int × Int × Int × List Int) : T Int := impl_choiceCode.t a.1 a.2.1 a.2.2.1 a.2.2.2.1 a.2.2.2.2.1 a.2.2.2.2.2
def impl_choiceCode.enc : (Nat × Int × Int × Int × Int × List Int) → Int → V := fun a r => .it .i64 r
noncomputable def impl_choiceCode.c : List V → Hp → T V := cdQ impl_choiceCode.cd (fun a => .br (impl_choiceCode.ok a.1 a.2.1 a.2.2.1 a.2.2.2.1 a.2.2.2.2.1 a.2.2.2.2.2) (.leaf (impl_choiceCode.enc a (impl_choiceCode a.1 a.2.1 a.2.2.1 a.2.2.2.1 a.2.2.2.2.1 a.2.2.2.2.2))) .bad)
theorem impl_choiceCode.run (a : Nat × Int × Int × Int × Int × List Int) : runF impl_choiceCode.C Try.f75.results.toList impl_choiceCode.b (impl_choiceCode.cd.enc a).1 (impl_choiceCode.cd.enc a).2 = (impl_choiceCode.tr a).map fun r => (impl_choiceCode.enc a r, (impl_choiceCode.cd.enc a).2) := by kernel_rfl
theorem impl_choiceCode.cok : OKq Try.prog 75 impl_choiceCode.c := con_q' impl_choiceCode.cd impl_choiceCode.hC Try.func75 (by kernel_rfl) (by kernel_rfl) (by kernel_rfl) impl_choiceCode.lp (fun a => by kernel_rfl) impl_choiceCode.run (Tells.ok (tree := impl_choiceCode.tr))
/-! ### impl_TrainFor -/
noncomputable def impl_TrainFor.b : Code := bodyOf Try.f51
noncomputable def impl_TrainFor.C : Ctx := { ty := tys, fn := [(75, .q impl_choiceCode.c)], lp := [], n := 36, k := 1 }
theorem impl_TrainFor.hC : CtxOK Try.prog impl_TrainFor.C := CtxOK.of mo tys_ok (FnsOK.cons impl_choiceCode.cok FnsOK.nil)
theorem impl_TrainFor.lp : LpOK Try.prog impl_TrainFor.C impl_TrainFor.b := (LpOK.nil (by kernel_rfl))
noncomputable def impl_TrainFor.t (x0 : Nat) (x1 : Int) (x2 : Int) (x3 : Int) (x4 : Int) (x5 : List Int) : T (Int ⊕ (Nat × Int × List (List Sc))) :=
  .br (impl_choiceCode.ok x0 x1 x2 x3 x4 x5)
  (.br ((impl_choiceCode x0 x1 x2 x3 x4 x5) != (0 : Int))
   (.leaf (.inl (impl_choiceCode x0 x1 x2 x3 x4 x5)))
   (.br (bounds x1 x0)
    (.br (Nat.ble ((Int.toNat x1 * 1) + 1) (List.length x5))
     (.br (bounds x2 x0)
      (.br (Nat.ble ((Int.toNat x2 * 1) + 1) (List.length x5))
       (.br (bounds x3 x0)
        (.br (Nat.ble ((Int.toNat x3 * 1) + 1) (List.length x5))
         (.br (bounds x4 x0)
          (.br (Nat.ble ((Int.toNat x4 * 1) + 1) (List.length x5))
           (.leaf (.inr (2, (0 : Int), [[Sc.i (List.getD x5 (Int.toNat x1 * 1) 0), Sc.i (List.getD x5 (Int.toNat x2 * 1) 0), Sc.n 0], [Sc.i (List.getD x5 (Int.toNat x3 * 1) 0), Sc.i (List.getD x5 (Int.toNat x4 * 1) 0), Sc.n 0]])))
           .bad)
          .bad)
         .bad)
        .bad)
       .bad)
      .bad)
     .bad)
    .bad))
  .bad
noncomputable def impl_TrainFor (x0 : Nat) (x1 : Int) (x2 : Int) (x3 : Int) (x4 : Int) (x5 : List Int) : Int ⊕ (Nat × Int × List (List Sc)) := (impl_TrainFor.t x0 x1 x2 x3 x4 x5).val
noncomputable def impl_TrainFor.ok (x0 : Nat) (x1 : Int) (x2 : Int) (x3 : Int) (x4 : Int) (x5 : List Int) : Bool := (impl_TrainFor.t x0 x1 x2 x3 x4 x5).ok
def impl_TrainFor.cd : Cd (Nat × Int × Int × Int × Int × List Int) (List V × Hp) := Cd.iso (Cd.pair (Cd.cons (Cd.own 0) (Cd.cons (Cd.agg (Cd.cons (Cd.it .i16) (Cd.cons (Cd.it .i16) (Cd.cons (Cd.it .i16) (Cd.cons (Cd.it .i16) Cd.nil))))) Cd.nil)) (Cd.cons (Cd.rw 47 1 (Cd.is .i16)) Cd.nil)) (fun a => (a.1.1, a.1.2.1.1, a.1.2.1.2.1, a.1.2.1.2.2.1, a.1.2.1.2.2.2.1, a.2.1)) (fun a => ((a.1, ((a.2.1, (a.2.2.1, (a.2.2.2.1, (a.2.2.2.2.1, ())))), ())), (a.2.2.2.2.2, ()))) (fun _ => rfl)
noncomputable def impl_TrainFor.tr (a : Nat × Int × Int × Int × Int × List Int) : T (Int ⊕ (Nat × Int × List (List Sc))) := impl_TrainFor.t a.1 a.2.1 a.2.2.1 a.2.2.2.1 a.2.2.2.2.1 a.2.2.2.2.2
def impl_TrainFor.enc : (Nat × Int × Int × Int × Int × List Int) → (Int ⊕ (Nat × Int × List (List Sc))) → V × Hp := fun a => sumO (fun r => (.tup [.sn, .it .i64 r], [some ⟨true, 47, 1, .is .i16 a.2.2.2.2.2⟩])) (fun r => (.tup [.own 1 r.1, .it .i64 r.2.1], [some ⟨true, 47, 1, .is .i16 a.2.2.2.2.2⟩, some ⟨true, 103, 3, .mx [.it .i16, .it .i16, .fl .f32] r.2.2⟩]))
noncomputable def impl_TrainFor.ex : (Nat × Int × Int × Int × Int × List Int) → (Int ⊕ (Nat × Int × List (List Sc))) → T (V × Hp) := fun a => sumT (leafT (fun r => (.tup [.sn, .it .i64 r], [some ⟨true, 47, 1, .is .i16 a.2.2.2.2.2⟩]))) (leafT (fun r => (.tup [.own 1 r.1, .it .i64 r.2.1], [some ⟨true, 47, 1, .is .i16 a.2.2.2.2.2⟩, some ⟨true, 103, 3, .mx [.it .i16, .it .i16, .fl .f32] r.2.2⟩])))
noncomputable def impl_TrainFor.c : List V → Hp → T (V × Hp) := cdE impl_TrainFor.cd (fun a => .br (impl_TrainFor.ok a.1 a.2.1 a.2.2.1 a.2.2.2.1 a.2.2.2.2.1 a.2.2.2.2.2) (impl_TrainFor.ex a (impl_TrainFor a.1 a.2.1 a.2.2.1 a.2.2.2.1 a.2.2.2.2.1 a.2.2.2.2.2)) .bad)
theorem impl_TrainFor.run (a : Nat × Int × Int × Int × Int × List Int) : runF impl_TrainFor.C Try.f51.results.toList impl_TrainFor.b (impl_TrainFor.cd.enc a).1 (impl_TrainFor.cd.enc a).2 = (impl_TrainFor.tr a).map (impl_TrainFor.enc a) := by kernel_rfl
theorem impl_TrainFor.cok : OKe Try.prog 51 impl_TrainFor.c := con_e' impl_TrainFor.cd impl_TrainFor.hC Try.func51 (by kernel_rfl) (by kernel_rfl) (by kernel_rfl) impl_TrainFor.lp (fun a => by kernel_rfl) impl_TrainFor.run (Tells.okS (tree := impl_TrainFor.tr) (ex := impl_TrainFor.ex) fun a => (Gets.sum Gets.leaf Gets.leaf))
/-! ### laws_eqTrain -/
noncomputable def laws_eqTrain.b : Code := bodyOf Try.f52
noncomputable def laws_eqTrain.l4.s (x0 : Nat) (x1 : Int) (x2 : List (List Sc)) : T (Unit ⊕ Unit) :=
  .br (decide (x1 < ((0 : Nat) : Int)))
  .bad
  (.leaf (.inr ()))
noncomputable def laws_eqTrain.l4.st (p : Nat × Int × List (List Sc)) (x : Unit) : T (Unit ⊕ Unit) := laws_eqTrain.l4.s p.1 p.2.1 p.2.2
noncomputable def laws_eqTrain.l4.r (p : Nat × Int × List (List Sc)) (x : Unit) : Option Unit := iterT (laws_eqTrain.l4.st p) manyRounds x
def laws_eqTrain.l4.cd : Cd ((Nat × Int × List (List Sc)) × Unit) (List V × Hp) := Cd.iso (Cd.pair (Cd.cons Cd.sn (Cd.cons (Cd.own 0) (Cd.cons (Cd.it .i64) Cd.nil))) (Cd.cons (Cd.rw 103 3 (Cd.mx [.it .i16, .it .i16, .fl .f32])) Cd.nil)) (fun a => ((a.1.2.1, a.1.2.2.1, a.2.1), ())) (fun a => (((), (a.1.1, (a.1.2.1, ()))), (a.1.2.2, ()))) (fun _ => rfl)
def laws_eqTrain.l4.out (p : Nat × Int × List (List Sc)) : Unit → X × List V × Hp := (fun r => (.ex 0, [.unk], [some ⟨true, 103, 3, .mx [.it .i16, .it .i16, .fl .f32] p.2.2⟩]))
def laws_eqTrain.l4.ex (p : Nat × Int × List (List Sc)) : Unit → T (X × List V × Hp) := leafT (fun r => (.ex 0, [.unk], [some ⟨true, 103, 3, .mx [.it .i16, .it .i16, .fl .f32] p.2.2⟩]))
noncomputable def laws_eqTrain.l4.c : List V → Hp → T (X × List V × Hp) := cdL laws_eqTrain.l4.cd fun x => optT (laws_eqTrain.l4.r x.1 x.2) (laws_eqTrain.l4.ex x.1)
noncomputable def laws_eqTrain.C : Ctx := { ty := tys, fn := [], lp := [(4, ⟨[0, 1, 5], [4], laws_eqTrain.l4.c⟩)], n := 27, k := 1 }
theorem laws_eqTrain.hC : CtxOK Try.prog laws_eqTrain.C := CtxOK.of mo tys_ok FnsOK.nil
noncomputable def laws_eqTrain.b4 : Code := (nthC (loopsOf laws_eqTrain.b) 0)
theorem laws_eqTrain.lp4 : LpOK Try.prog laws_eqTrain.C laws_eqTrain.b4 := (LpOK.nil (by kernel_rfl))
theorem laws_eqTrain.l4.round (p : Nat × Int × List (List Sc)) (s : Unit) : roundL laws_eqTrain.C [0, 1, 5] [4] laws_eqTrain.b4 (laws_eqTrain.l4.cd.enc (p, s)).1 (laws_eqTrain.l4.cd.enc (p, s)).2 = (laws_eqTrain.l4.st p s).map (encSum (fun s => laws_eqTrain.l4.cd.enc (p, s)) (laws_eqTrain.l4.out p)) := by kernel_rfl
theorem laws_eqTrain.l4.lok : LoopOK Try.prog laws_eqTrain.C ⟨[0, 1, 5], [4], laws_eqTrain.l4.c⟩ laws_eqTrain.b4 := loop_cd laws_eqTrain.l4.cd laws_eqTrain.hC laws_eqTrain.lp4 laws_eqTrain.l4.round fun p => Gets.leaf
theorem laws_eqTrain.lp : LpOK Try.prog laws_eqTrain.C laws_eqTrain.b := lp_of (by kernel_rfl) (LpsOK.cons (k := 4) (by kernel_rfl) (by kernel_rfl) laws_eqTrain.l4.lok LpsOK.nil)
noncomputable def laws_eqTrain.t (x0 : Nat) (x1 : List (List Sc)) : T Bool :=
  .br (((0 : Nat) : Int) != ((x0 : Nat) : Int))
  (.leaf false)
  (.br (Option.isSome (laws_eqTrain.l4.r (x0, (0 : Int), x1) ()))
   (.leaf true)
   .bad)
noncomputable def laws_eqTrain (x0 : Nat) (x1 : List (List Sc)) : Bool := (laws_eqTrain.t x0 x1).val
noncomputable def laws_eqTrain.ok (x0 : Nat) (x1 : List (List Sc)) : Bool := (laws_eqTrain.t x0 x1).ok
def laws_eqTrain.cd : Cd (Nat × List (List Sc)) (List V × Hp) := Cd.iso (Cd.pair (Cd.cons Cd.sn (Cd.cons (Cd.own 0) Cd.nil)) (Cd.cons (Cd.rw 103 3 (Cd.mx [.it .i16, .it .i16, .fl .f32])) Cd.nil)) (fun a => (a.1.2.1, a.2.1)) (fun a => (((), (a.1, ())), (a.2, ()))) (fun _ => rfl)
noncomputable def laws_eqTrain.tr (a : Nat × List (List Sc)) : T Bool := laws_eqTrain.t a.1 a.2
def laws_eqTrain.enc : (Nat × List (List Sc)) → Bool → V := fun a r => .bo r
noncomputable def laws_eqTrain.c : List V → Hp → T V := cdQ laws_eqTrain.cd (fun a => .br (laws_eqTrain.ok a.1 a.2) (.leaf (laws_eqTrain.enc a (laws_eqTrain a.1 a.2))) .bad)
theorem laws_eqTrain.run (a : Nat × List (List Sc)) : runF laws_eqTrain.C Try.f52.results.toList laws_eqTrain.b (laws_eqTrain.cd.enc a).1 (laws_eqTrain.cd.enc a).2 = (laws_eqTrain.tr a).map fun r => (laws_eqTrain.enc a r, (laws_eqTrain.cd.enc a).2) := by kernel_rfl
theorem laws_eqTrain.cok : OKq Try.prog 52 laws_eqTrain.c := con_q' laws_eqTrain.cd laws_eqTrain.hC Try.func52 (by kernel_rfl) (by kernel_rfl) (by kernel_rfl) laws_eqTrain.lp (fun a => by kernel_rfl) laws_eqTrain.run (Tells.ok (tree := laws_eqTrain.tr))
/-! ### laws_eqInt16S -/
noncomputable def laws_eqInt16S.b : Code := bodyOf Try.f18
noncomputable def laws_eqInt16S.l4.s (x0 : Nat) (x1 : Nat) (x2 : Int) (x3 : List Int) (x4 : List Int) : T (Int ⊕ (Bool ⊕ Unit)) :=
  .br (decide (x2 < ((x0 : Nat) : Int)))
  (.br (bounds x2 x0)
   (.br (Nat.ble ((Int.toNat x2 * 1) + 1) (List.length x3))
    (.br (bounds x2 x1)
     (.br (Nat.ble ((Int.toNat x2 * 1) + 1) (List.length x4))
      (.br ((List.getD x3 (Int.toNat x2 * 1) 0) != (List.getD x4 (Int.toNat x2 * 1) 0))
       (.leaf (.inr (.inl false)))
       (.leaf (.inl (IntKind.wrap .i64 (x2 + (1 : Int))))))
      .bad)
     .bad)
    .bad)
   .bad)
  (.leaf (.inr (.inr ())))
noncomputable def laws_eqInt16S.l4.st (p : Nat × Nat × List Int × List Int) (x : Int) : T (Int ⊕ (Bool ⊕ Unit)) := laws_eqInt16S.l4.s p.1 p.2.1 x p.2.2.1 p.2.2.2
noncomputable def laws_eqInt16S.l4.r (p : Nat × Nat × List Int × List Int) (x : Int) : Option (Bool ⊕ Unit) := iterT (laws_eqInt16S.l4.st p) manyRounds x
def laws_eqInt16S.l4.cd : Cd ((Nat × Nat × List Int × List Int) × Int) (List V × Hp) := Cd.iso (Cd.pair (Cd.cons (Cd.own 0) (Cd.cons (Cd.own 1) (Cd.cons (Cd.it .i64) Cd.nil))) (Cd.cons (Cd.rw 47 1 (Cd.is .i16)) (Cd.cons (Cd.rw 47 1 (Cd.is .i16)) Cd.nil))) (fun a => ((a.1.1, a.1.2.1, a.2.1, a.2.2.1), a.1.2.2.1)) (fun a => ((a.1.1, (a.1.2.1, (a.2, ()))), (a.1.2.2.1, (a.1.2.2.2, ())))) (fun _ => rfl)
def laws_eqInt16S.l4.out (p : Nat × Nat × List Int × List Int) : (Bool ⊕ Unit) → X × List V × Hp := sumO (fun r => (.ret, [.bo r], [some ⟨true, 47, 1, .is .i16 p.2.2.1⟩, some ⟨true, 47, 1, .is .i16 p.2.2.2⟩])) (fun r => (.ex 0, [.unk], [some ⟨true, 47, 1, .is .i16 p.2.2.1⟩, some ⟨true, 47, 1, .is .i16 p.2.2.2⟩]))
def laws_eqInt16S.l4.ex (p : Nat × Nat × List Int × List Int) : (Bool ⊕ Unit) → T (X × List V × Hp) := sumT (leafT (fun r => (.ret, [.bo r], [some ⟨true, 47, 1, .is .i16 p.2.2.1⟩, some ⟨true, 47, 1, .is .i16 p.2.2.2⟩]))) (leafT (fun r => (.ex 0, [.unk], [some ⟨true, 47, 1, .is .i16 p.2.2.1⟩, some ⟨true, 47, 1, .is .i16 p.2.2.2⟩])))
noncomputable def laws_eqInt16S.l4.c : List V → Hp → T (X × List V × Hp) := cdL laws_eqInt16S.l4.cd fun x => optT (laws_eqInt16S.l4.r x.1 x.2) (laws_eqInt16S.l4.ex x.1)
noncomputable def laws_eqInt16S.C : Ctx := { ty := tys, fn := [], lp := [(4, ⟨[0, 1, 5], [4], laws_eqInt16S.l4.c⟩)], n := 26, k := 2 }
theorem laws_eqInt16S.hC : CtxOK Try.prog laws_eqInt16S.C := CtxOK.of mo tys_ok FnsOK.nil
noncomputable def laws_eqInt16S.b4 : Code := (nthC (loopsOf laws_eqInt16S.b) 0)
theorem laws_eqInt16S.lp4 : LpOK Try.prog laws_eqInt16S.C laws_eqInt16S.b4 := (LpOK.nil (by kernel_rfl))
theorem laws_eqInt16S.l4.round (p : Nat × Nat × List Int × List Int) (s : Int) : roundL laws_eqInt16S.C [0, 1, 5] [4] laws_eqInt16S.b4 (laws_eqInt16S.l4.cd.enc (p, s)).1 (laws_eqInt16S.l4.cd.enc (p, s)).2 = (laws_eqInt16S.l4.st p s).map (encSum (fun s => laws_eqInt16S.l4.cd.enc (p, s)) (laws_eqInt16S.l4.out p)) := by kernel_rfl
theorem laws_eqInt16S.l4.lok : LoopOK Try.prog laws_eqInt16S.C ⟨[0, 1, 5], [4], laws_eqInt16S.l4.c⟩ laws_eqInt16S.b4 := loop_cd laws_eqInt16S.l4.cd laws_eqInt16S.hC laws_eqInt16S.lp4 laws_eqInt16S.l4.round fun p => (Gets.sum Gets.leaf Gets.leaf)
theorem laws_eqInt16S.lp : LpOK Try.prog laws_eqInt16S.C laws_eqInt16S.b := lp_of (by kernel_rfl) (LpsOK.cons (k := 4) (by kernel_rfl) (by kernel_rfl) laws_eqInt16S.l4.lok LpsOK.nil)
noncomputable def laws_eqInt16S.t (x0 : Nat) (x1 : Nat) (x2 : List Int) (x3 : List Int) : T Bool :=
  .br (((x0 : Nat) : Int) != ((x1 : Nat) : Int))
  (.leaf false)
  (.br (Option.isSome (laws_eqInt16S.l4.r (x0, x1, x2, x3) (0 : Int)))
   (.br (Sum.isLeft (Option.getD (laws_eqInt16S.l4.r (x0, x1, x2, x3) (0 : Int)) default))
    (.leaf (getLeftD (Option.getD (laws_eqInt16S.l4.r (x0, x1, x2, x3) (0 : Int)) default)))
    (.leaf true))
   .bad)
noncomputable def laws_eqInt16S (x0 : Nat) (x1 : Nat) (x2 : List Int) (x3 : List Int) : Bool := (laws_eqInt16S.t x0 x1 x2 x3).val
noncomputable def laws_eqInt16S.ok (x0 : Nat) (x1 : Nat) (x2 : List Int) (x3 : List Int) : Bool := (laws_eqInt16S.t x0 x1 x2 x3).ok
def laws_eqInt16S.cd : Cd (Nat × Nat × List Int × List Int) (List V × Hp) := Cd.iso (Cd.pair (Cd.cons (Cd.own 0) (Cd.cons (Cd.own 1) Cd.nil)) (Cd.cons (Cd.rw 47 1 (Cd.is .i16)) (Cd.cons (Cd.rw 47 1 (Cd.is .i16)) Cd.nil))) (fun a => (a.1.1, a.1.2.1, a.2.1, a.2.2.1)) (fun a => ((a.1, (a.2.1, ())), (a.2.2.1, (a.2.2.2, ())))) (fun _ => rfl)
noncomputable def laws_eqInt16S.tr (a : Nat × Nat × List Int × List Int) : T Bool := laws_eqInt16S.t a.1 a.2.1 a.2.2.1 a.2.2.2
def laws_eqInt16S.enc : (Nat × Nat × List Int × List Int) → Bool → V := fun a r => .bo r
noncomputable def laws_eqInt16S.c : List V → Hp → T V := cdQ laws_eqInt16S.cd (fun a => .br (laws_eqInt16S.ok a.1 a.2.1 a.2.2.1 a.2.2.2) (.leaf (laws_eqInt16S.enc a (laws_eqInt16S a.1 a.2.1 a.2.2.1 a.2.2.2))) .bad)
theorem laws_eqInt16S.run (a : Nat × Nat × List Int × List Int) : runF laws_eqInt16S.C Try.f18.results.toList laws_eqInt16S.b (laws_eqInt16S.cd.enc a).1 (laws_eqInt16S.cd.enc a).2 = (laws_eqInt16S.tr a).map fun r => (laws_eqInt16S.enc a r, (laws_eqInt16S.cd.enc a).2) := by kernel_rfl
theorem laws_eqInt16S.cok : OKq Try.prog 18 laws_eqInt16S.c := con_q' laws_eqInt16S.cd laws_eqInt16S.hC Try.func18 (by kernel_rfl) (by kernel_rfl) (by kernel_rfl) laws_eqInt16S.lp (fun a => by kernel_rfl) laws_eqInt16S.run (Tells.ok (tree := laws_eqInt16S.tr))
/-! ### laws_markInt16S -/
noncomputable def laws_markInt16S.b : Code := bodyOf Try.f44
noncomputable def laws_markInt16S.l2.s (x0 : Nat) (x1 : Int) (x2 : Int) (x3 : List Int) : T ((Int × Int × List Int) ⊕ (Int × List Int)) :=
  .br (decide (x2 < ((x0 : Nat) : Int)))
  (.br (bounds x2 x0)
   (.br (Nat.ble ((Int.toNat x2 * 1) + 1) (List.length x3))
    (.leaf (.inl ((IntKind.wrap .i64 (x1 + (1 : Int))), (IntKind.wrap .i64 (x2 + (1 : Int))), (List.set x3 (Int.toNat x2 * 1) (IntKind.wrap .i16 x1)))))
    .bad)
   .bad)
  (.leaf (.inr (x1, x3)))
noncomputable def laws_markInt16S.l2.st (p : Nat) (x : Int × Int × List Int) : T ((Int × Int × List Int) ⊕ (Int × List Int)) := laws_markInt16S.l2.s p x.1 x.2.1 x.2.2
noncomputable def laws_markInt16S.l2.r (p : Nat) (x : Int × Int × List Int) : Option (Int × List Int) := iterT (laws_markInt16S.l2.st p) manyRounds x
def laws_markInt16S.l2.cd : Cd (Nat × (Int × Int × List Int)) (List V × Hp) := Cd.iso (Cd.pair (Cd.cons (Cd.own 0) (Cd.cons (Cd.it .i64) (Cd.cons (Cd.it .i64) Cd.nil))) (Cd.cons (Cd.rw 47 1 (Cd.is .i16)) Cd.nil)) (fun a => (a.1.1, (a.1.2.1, a.1.2.2.1, a.2.1))) (fun a => ((a.1, (a.2.1, (a.2.2.1, ()))), (a.2.2.2, ()))) (fun _ => rfl)
def laws_markInt16S.l2.out (p : Nat) : (Int × List Int) → X × List V × Hp := (fun r => (.ex 0, [.it .i64 r.1], [some ⟨true, 47, 1, .is .i16 r.2⟩]))
def laws_markInt16S.l2.ex (p : Nat) : (Int × List Int) → T (X × List V × Hp) := leafT (fun r => (.ex 0, [.it .i64 r.1], [some ⟨true, 47, 1, .is .i16 r.2⟩]))
noncomputable def laws_markInt16S.l2.c : List V → Hp → T (X × List V × Hp) := cdL laws_markInt16S.l2.cd fun x => optT (laws_markInt16S.l2.r x.1 x.2) (laws_markInt16S.l2.ex x.1)
noncomputable def laws_markInt16S.C : Ctx := { ty := tys, fn := [], lp := [(2, ⟨[0, 1, 5], [1], laws_markInt16S.l2.c⟩)], n := 20, k := 1 }
theorem laws_markInt16S.hC : CtxOK Try.prog laws_markInt16S.C := CtxOK.of mo tys_ok FnsOK.nil
noncomputable def laws_markInt16S.b2 : Code := (nthC (loopsOf laws_markInt16S.b) 0)
theorem laws_markInt16S.lp2 : LpOK Try.prog laws_markInt16S.C laws_markInt16S.b2 := (LpOK.nil (by kernel_rfl))
theorem laws_markInt16S.l2.round (p : Nat) (s : Int × Int × List Int) : roundL laws_markInt16S.C [0, 1, 5] [1] laws_markInt16S.b2 (laws_markInt16S.l2.cd.enc (p, s)).1 (laws_markInt16S.l2.cd.enc (p, s)).2 = (laws_markInt16S.l2.st p s).map (encSum (fun s => laws_markInt16S.l2.cd.enc (p, s)) (laws_markInt16S.l2.out p)) := by kernel_rfl
theorem laws_markInt16S.l2.lok : LoopOK Try.prog laws_markInt16S.C ⟨[0, 1, 5], [1], laws_markInt16S.l2.c⟩ laws_markInt16S.b2 := loop_cd laws_markInt16S.l2.cd laws_markInt16S.hC laws_markInt16S.lp2 laws_markInt16S.l2.round fun p => Gets.leaf
theorem laws_markInt16S.lp : LpOK Try.prog laws_markInt16S.C laws_markInt16S.b := lp_of (by kernel_rfl) (LpsOK.cons (k := 2) (by kernel_rfl) (by kernel_rfl) laws_markInt16S.l2.lok LpsOK.nil)
noncomputable def laws_markInt16S.t (x0 : Nat) (x1 : Int) (x2 : List Int) : T (Int × List Int) :=
  .br (Option.isSome (laws_markInt16S.l2.r x0 (x1, (0 : Int), x2)))
  (.leaf ((Option.getD (laws_markInt16S.l2.r x0 (x1, (0 : Int), x2)) default).1, (Option.getD (laws_markInt16S.l2.r x0 (x1, (0 : Int), x2)) default).2))
  .bad
noncomputable def laws_markInt16S (x0 : Nat) (x1 : Int) (x2 : List Int) : Int × List Int := (laws_markInt16S.t x0 x1 x2).val
noncomputable def laws_markInt16S.ok (x0 : Nat) (x1 : Int) (x2 : List Int) : Bool := (laws_markInt16S.t x0 x1 x2).ok
def laws_markInt16S.cd : Cd (Nat × Int × List Int) (List V × Hp) := Cd.iso (Cd.pair (Cd.cons (Cd.own 0) (Cd.cons (Cd.it .i64) Cd.nil)) (Cd.cons (Cd.rw 47 1 (Cd.is .i16)) Cd.nil)) (fun a => (a.1.1, a.1.2.1, a.2.1)) (fun a => ((a.1, (a.2.1, ())), (a.2.2, ()))) (fun _ => rfl)
noncomputable def laws_markInt16S.tr (a : Nat × Int × List Int) : T (Int × List Int) := laws_markInt16S.t a.1 a.2.1 a.2.2
def laws_markInt16S.enc : (Nat × Int × List Int) → (Int × List Int) → V × Hp := fun a r => (.it .i64 r.1, [some ⟨true, 47, 1, .is .i16 r.2⟩])
noncomputable def laws_markInt16S.c : List V → Hp → T (V × Hp) := cdE laws_markInt16S.cd (fun a => .br (laws_markInt16S.ok a.1 a.2.1 a.2.2) (.leaf (laws_markInt16S.enc a (laws_markInt16S a.1 a.2.1 a.2.2))) .bad)
theorem laws_markInt16S.run (a : Nat × Int × List Int) : runF laws_markInt16S.C Try.f44.results.toList laws_markInt16S.b (laws_markInt16S.cd.enc a).1 (laws_markInt16S.cd.enc a).2 = (laws_markInt16S.tr a).map (laws_markInt16S.enc a) := by kernel_rfl
theorem laws_markInt16S.cok : OKe Try.prog 44 laws_markInt16S.c := con_e' laws_markInt16S.cd laws_markInt16S.hC Try.func44 (by kernel_rfl) (by kernel_rfl) (by kernel_rfl) laws_markInt16S.lp (fun a => by kernel_rfl) laws_markInt16S.run (Tells.ok (tree := laws_markInt16S.tr))
/-! ### laws_markTrain -/
noncomputable def laws_markTrain.b : Code := bodyOf Try.f53
noncomputable def laws_markTrain.l2.s (x0 : Int) (x1 : Int) : T (Unit ⊕ Unit) :=
  .br (decide (x1 < ((0 : Nat) : Int)))
  .bad
  (.leaf (.inr ()))
noncomputable def laws_markTrain.l2.st (p : Int × Int) (x : Unit) : T (Unit ⊕ Unit) := laws_markTrain.l2.s p.1 p.2
noncomputable def laws_markTrain.l2.r (p : Int × Int) (x : Unit) : Option Unit := iterT (laws_markTrain.l2.st p) manyRounds x
def laws_markTrain.l2.cd : Cd ((Int × Int) × Unit) (List V × Hp) := Cd.iso (Cd.pair (Cd.cons Cd.sn (Cd.cons (Cd.it .i64) (Cd.cons (Cd.it .i64) Cd.nil))) Cd.nil) (fun a => ((a.1.2.1, a.1.2.2.1), ())) (fun a => (((), (a.1.1, (a.1.2, ()))), ())) (fun _ => rfl)
def laws_markTrain.l2.out (p : Int × Int) : Unit → X × List V × Hp := (fun r => (.ex 0, [.it .i64 p.1], []))
def laws_markTrain.l2.ex (p : Int × Int) : Unit → T (X × List V × Hp) := leafT (fun r => (.ex 0, [.it .i64 p.1], []))
noncomputable def laws_markTrain.l2.c : List V → Hp → T (X × List V × Hp) := cdL laws_markTrain.l2.cd fun x => optT (laws_markTrain.l2.r x.1 x.2) (laws_markTrain.l2.ex x.1)
noncomputable def laws_markTrain.C : Ctx := { ty := tys, fn := [], lp := [(2, ⟨[0, 1, 5], [1], laws_markTrain.l2.c⟩)], n := 37, k := 0 }
theorem laws_markTrain.hC : CtxOK Try.prog laws_markTrain.C := CtxOK.of mo tys_ok FnsOK.nil
noncomputable def laws_markTrain.b2 : Code := (nthC (loopsOf laws_markTrain.b) 0)
theorem laws_markTrain.lp2 : LpOK Try.prog laws_markTrain.C laws_markTrain.b2 := (LpOK.nil (by kernel_rfl))
theorem laws_markTrain.l2.round (p : Int × Int) (s : Unit) : roundL laws_markTrain.C [0, 1, 5] [1] laws_markTrain.b2 (laws_markTrain.l2.cd.enc (p, s)).1 (laws_markTrain.l2.cd.enc (p, s)).2 = (laws_markTrain.l2.st p s).map (encSum (fun s => laws_markTrain.l2.cd.enc (p, s)) (laws_markTrain.l2.out p)) := by kernel_rfl
theorem laws_markTrain.l2.lok : LoopOK Try.prog laws_markTrain.C ⟨[0, 1, 5], [1], laws_markTrain.l2.c⟩ laws_markTrain.b2 := loop_cd laws_markTrain.l2.cd laws_markTrain.hC laws_markTrain.lp2 laws_markTrain.l2.round fun p => Gets.leaf
theorem laws_markTrain.lp : LpOK Try.prog laws_markTrain.C laws_markTrain.b := lp_of (by kernel_rfl) (LpsOK.cons (k := 2) (by kernel_rfl) (by kernel_rfl) laws_markTrain.l2.lok LpsOK.nil)
noncomputable def laws_markTrain.t (x0 : Int) : T Int :=
  .br (Option.isSome (laws_markTrain.l2.r (x0, (0 : Int)) ()))
  (.leaf x0)
  .bad
noncomputable def laws_markTrain (x0 : Int) : Int := (laws_markTrain.t x0).val
noncomputable def laws_markTrain.ok (x0 : Int) : Bool := (laws_markTrain.t x0).ok
def laws_markTrain.cd : Cd Int (List V × Hp) := Cd.iso (Cd.pair (Cd.cons Cd.sn (Cd.cons (Cd.it .i64) Cd.nil)) Cd.nil) (fun a => a.1.2.1) (fun a => (((), (a, ())), ())) (fun _ => rfl)
noncomputable def laws_markTrain.tr (a : Int) : T Int := laws_markTrain.t a
def laws_markTrain.enc : Int → Int → V := fun a r => .it .i64 r
noncomputable def laws_markTrain.c : List V → Hp → T V := cdQ laws_markTrain.cd (fun a => .br (laws_markTrain.ok a) (.leaf (laws_markTrain.enc a (laws_markTrain a))) .bad)
theorem laws_markTrain.run (a : Int) : runF laws_markTrain.C Try.f53.results.toList laws_markTrain.b (laws_markTrain.cd.enc a).1 (laws_markTrain.cd.enc a).2 = (laws_markTrain.tr a).map fun r => (laws_markTrain.enc a r, (laws_markTrain.cd.enc a).2) := by kernel_rfl
theorem laws_markTrain.cok : OKq Try.prog 53 laws_markTrain.c := con_q' laws_markTrain.cd laws_markTrain.hC Try.func53 (by kernel_rfl) (by kernel_rfl) (by kernel_rfl) laws_markTrain.lp (fun a => by kernel_rfl) laws_markTrain.run (Tells.ok (tree := laws_markTrain.tr))
/-! ### laws_heldTrain -/
noncomputable def laws_heldTrain.b : Code := bodyOf Try.f54
noncomputable def laws_heldTrain.l2.s (x0 : Int) (x1 : Int) : T (Unit ⊕ Unit) :=
  .br (decide (x1 < ((0 : Nat) : Int)))
  .bad
  (.leaf (.inr ()))
noncomputable def laws_heldTrain.l2.st (p : Int × Int) (x : Unit) : T (Unit ⊕ Unit) := laws_heldTrain.l2.s p.1 p.2
noncomputable def laws_heldTrain.l2.r (p : Int × Int) (x : Unit) : Option Unit := iterT (laws_heldTrain.l2.st p) manyRounds x
def laws_heldTrain.l2.cd : Cd ((Int × Int) × Unit) (List V × Hp) := Cd.iso (Cd.pair (Cd.cons Cd.sn (Cd.cons (Cd.it .i64) (Cd.cons (Cd.it .i64) Cd.nil))) Cd.nil) (fun a => ((a.1.2.1, a.1.2.2.1), ())) (fun a => (((), (a.1.1, (a.1.2, ()))), ())) (fun _ => rfl)
def laws_heldTrain.l2.out (p : Int × Int) : Unit → X × List V × Hp := (fun r => (.ex 0, [.it .i64 p.1, .unk], []))
def laws_heldTrain.l2.ex (p : Int × Int) : Unit → T (X × List V × Hp) := leafT (fun r => (.ex 0, [.it .i64 p.1, .unk], []))
noncomputable def laws_heldTrain.l2.c : List V → Hp → T (X × List V × Hp) := cdL laws_heldTrain.l2.cd fun x => optT (laws_heldTrain.l2.r x.1 x.2) (laws_heldTrain.l2.ex x.1)
noncomputable def laws_heldTrain.C : Ctx := { ty := tys, fn := [], lp := [(2, ⟨[0, 1, 5], [1, 4], laws_heldTrain.l2.c⟩)], n := 43, k := 0 }
theorem laws_heldTrain.hC : CtxOK Try.prog laws_heldTrain.C := CtxOK.of mo tys_ok FnsOK.nil
noncomputable def laws_heldTrain.b2 : Code := (nthC (loopsOf laws_heldTrain.b) 0)
theorem laws_heldTrain.lp2 : LpOK Try.prog laws_heldTrain.C laws_heldTrain.b2 := (LpOK.nil (by kernel_rfl))
theorem laws_heldTrain.l2.round (p : Int × Int) (s : Unit) : roundL laws_heldTrain.C [0, 1, 5] [1, 4] laws_heldTrain.b2 (laws_heldTrain.l2.cd.enc (p, s)).1 (laws_heldTrain.l2.cd.enc (p, s)).2 = (laws_heldTrain.l2.st p s).map (encSum (fun s => laws_heldTrain.l2.cd.enc (p, s)) (laws_heldTrain.l2.out p)) := by kernel_rfl
theorem laws_heldTrain.l2.lok : LoopOK Try.prog laws_heldTrain.C ⟨[0, 1, 5], [1, 4], laws_heldTrain.l2.c⟩ laws_heldTrain.b2 := loop_cd laws_heldTrain.l2.cd laws_heldTrain.hC laws_heldTrain.lp2 laws_heldTrain.l2.round fun p => Gets.leaf
theorem laws_heldTrain.lp : LpOK Try.prog laws_heldTrain.C laws_heldTrain.b := lp_of (by kernel_rfl) (LpsOK.cons (k := 2) (by kernel_rfl) (by kernel_rfl) laws_heldTrain.l2.lok LpsOK.nil)
noncomputable def laws_heldTrain.t (x0 : Int) : T Int :=
  .br (Option.isSome (laws_heldTrain.l2.r (x0, (0 : Int)) ()))
  (.leaf x0)
  .bad
noncomputable def laws_heldTrain (x0 : Int) : Int := (laws_heldTrain.t x0).val
noncomputable def laws_heldTrain.ok (x0 : Int) : Bool := (laws_heldTrain.t x0).ok
def laws_heldTrain.cd : Cd Int (List V × Hp) := Cd.iso (Cd.pair (Cd.cons Cd.sn (Cd.cons (Cd.it .i64) Cd.nil)) Cd.nil) (fun a => a.1.2.1) (fun a => (((), (a, ())), ())) (fun _ => rfl)
noncomputable def laws_heldTrain.tr (a : Int) : T Int := laws_heldTrain.t a
def laws_heldTrain.enc : Int → Int → V := fun a r => .it .i64 r
noncomputable def laws_heldTrain.c : List V → Hp → T V := cdQ laws_heldTrain.cd (fun a => .br (laws_heldTrain.ok a) (.leaf (laws_heldTrain.enc a (laws_heldTrain a))) .bad)
theorem laws_heldTrain.run (a : Int) : runF laws_heldTrain.C Try.f54.results.toList laws_heldTrain.b (laws_heldTrain.cd.enc a).1 (laws_heldTrain.cd.enc a).2 = (laws_heldTrain.tr a).map fun r => (laws_heldTrain.enc a r, (laws_heldTrain.cd.enc a).2) := by kernel_rfl
theorem laws_heldTrain.cok : OKq Try.prog 54 laws_heldTrain.c := con_q' laws_heldTrain.cd laws_heldTrain.hC Try.func54 (by kernel_rfl) (by kernel_rfl) (by kernel_rfl) laws_heldTrain.lp (fun a => by kernel_rfl) laws_heldTrain.run (Tells.ok (tree := laws_heldTrain.tr))
/-! ### laws_sameFloat -/
noncomputable def laws_sameFloat.b : Code := bodyOf Try.f21
noncomputable def laws_sameFloat.C : Ctx := { ty := tys, fn := [], lp := [], n := 37, k := 0 }
theorem laws_sameFloat.hC : CtxOK Try.prog laws_sameFloat.C := CtxOK.of mo tys_ok FnsOK.nil
theorem laws_sameFloat.lp : LpOK Try.prog laws_sameFloat.C laws_sameFloat.b := (LpOK.nil (by kernel_rfl))
noncomputable def laws_sameFloat.t (x0 : Nat) (x1 : Nat) : T Bool :=
  .br (fne .f64 x0 x0)
  (.br (fne .f64 x0 x0)
   (.leaf (fne .f64 x1 x1))
   (.leaf false))
  (.br (fne .f64 x1 x1)
   (.br (fne .f64 x0 x0)
    (.leaf (fne .f64 x1 x1))
    (.leaf false))
   (.br (feq .f64 x0 0)
    (.br (feq .f64 x1 0)
     (.leaf ((fgt .f64 (fdiv .f64 4607182418800017408 x0) 0) == (fgt .f64 (fdiv .f64 4607182418800017408 x1) 0)))
     (.leaf (feq .f64 x0 x1)))
    (.leaf (feq .f64 x0 x1))))
noncomputable def laws_sameFloat (x0 : Nat) (x1 : Nat) : Bool := (laws_sameFloat.t x0 x1).val
def laws_sameFloat.cd : Cd (Nat × Nat) (List V × Hp) := Cd.iso (Cd.pair (Cd.cons (Cd.fl .f64) (Cd.cons (Cd.fl .f64) Cd.nil)) Cd.nil) (fun a => (a.1.1, a.1.2.1)) (fun a => ((a.1, (a.2, ())), ())) (fun _ => rfl)
noncomputable def laws_sameFloat.tr (a : Nat × Nat) : T Bool := laws_sameFloat.t a.1 a.2
def laws_sameFloat.enc : (Nat × Nat) → Bool → V := fun a r => .bo r
noncomputable def laws_sameFloat.c : List V → Hp → T V := cdQ laws_sameFloat.cd (fun a => .leaf (laws_sameFloat.enc a (laws_sameFloat a.1 a.2)))
theorem laws_sameFloat.run (a : Nat × Nat) : runF laws_sameFloat.C Try.f21.results.toList laws_sameFloat.b (laws_sameFloat.cd.enc a).1 (laws_sameFloat.cd.enc a).2 = (laws_sameFloat.tr a).map fun r => (laws_sameFloat.enc a r, (laws_sameFloat.cd.enc a).2) := by kernel_rfl
theorem laws_sameFloat.cok : OKq Try.prog 21 laws_sameFloat.c := con_q' laws_sameFloat.cd laws_sameFloat.hC Try.func21 (by kernel_rfl) (by kernel_rfl) (by kernel_rfl) laws_sameFloat.lp (fun a => by kernel_rfl) laws_sameFloat.run (Tells.val (tree := laws_sameFloat.tr) fun a => by kernel_rfl)
/-! ### laws_eqPair -/
noncomputable def laws_eqPair.b : Code := bodyOf Try.f89
noncomputable def laws_eqPair.C : Ctx := { ty := tys, fn := [(21, .q laws_sameFloat.c)], lp := [], n := 23, k := 0 }
theorem laws_eqPair.hC : CtxOK Try.prog laws_eqPair.C := CtxOK.of mo tys_ok (FnsOK.cons laws_sameFloat.cok FnsOK.nil)
theorem laws_eqPair.lp : LpOK Try.prog laws_eqPair.C laws_eqPair.b := (LpOK.nil (by kernel_rfl))
noncomputable def laws_eqPair.t (x0 : Int) (x1 : Int) (x2 : Nat) (x3 : Int) (x4 : Int) (x5 : Nat) : T Bool :=
  .br (x0 != x3)
  (.leaf false)
  (.br (x1 != x4)
   (.leaf false)
   (.br (fcvOpen .f32 .f64 x2)
    .bad
    (.br (fcvOpen .f32 .f64 x5)
     .bad
     (.br (!(laws_sameFloat (fcv .f32 .f64 x2) (fcv .f32 .f64 x5)))
      (.leaf false)
      (.leaf true)))))
noncomputable def laws_eqPair (x0 : Int) (x1 : Int) (x2 : Nat) (x3 : Int) (x4 : Int) (x5 : Nat) : Bool := (laws_eqPair.t x0 x1 x2 x3 x4 x5).val
noncomputable def laws_eqPair.ok (x0 : Int) (x1 : Int) (x2 : Nat) (x3 : Int) (x4 : Int) (x5 : Nat) : Bool := (laws_eqPair.t x0 x1 x2 x3 x4 x5).ok
def laws_eqPair.cd : Cd (Int × Int × Nat × Int × Int × Nat) (List V × Hp) := Cd.iso (Cd.pair (Cd.cons (Cd.agg (Cd.cons (Cd.it .i16) (Cd.cons (Cd.it .i16) (Cd.cons (Cd.fl .f32) Cd.nil)))) (Cd.cons (Cd.agg (Cd.cons (Cd.it .i16) (Cd.cons (Cd.it .i16) (Cd.cons (Cd.fl .f32) Cd.nil)))) Cd.nil)) Cd.nil) (fun a => (a.1.1.1, a.1.1.2.1, a.1.1.2.2.1, a.1.2.1.1, a.1.2.1.2.1, a.1.2.1.2.2.1)) (fun a => (((a.1, (a.2.1, (a.2.2.1, ()))), ((a.2.2.2.1, (a.2.2.2.2.1, (a.2.2.2.2.2, ()))), ())), ())) (fun _ => rfl)
noncomputable def laws_eqPair.tr (a : Int × Int × Nat × Int × Int × Nat) : T Bool := laws_eqPair.t a.1 a.2.1 a.2.2.1 a.2.2.2.1 a.2.2.2.2.1 a.2.2.2.2.2
def laws_eqPair.enc : (Int × Int × Nat × Int × Int × Nat) → Bool → V := fun a r => .bo r
noncomputable def laws_eqPair.c : List V → Hp → T V := cdQ laws_eqPair.cd (fun a => .br (laws_eqPair.ok a.1 a.2.1 a.2.2.1 a.2.2.2.1 a.2.2.2.2.1 a.2.2.2.2.2) (.leaf (laws_eqPair.enc a (laws_eqPair a.1 a.2.1 a.2.2.1 a.2.2.2.1 a.2.2.2.2.1 a.2.2.2.2.2))) .bad)
theorem laws_eqPair.run (a : Int × Int × Nat × Int × Int × Nat) : runF laws_eqPair.C Try.f89.results.toList laws_eqPair.b (laws_eqPair.cd.enc a).1 (laws_eqPair.cd.enc a).2 = (laws_eqPair.tr a).map fun r => (laws_eqPair.enc a r, (laws_eqPair.cd.enc a).2) := by kernel_rfl
theorem laws_eqPair.cok : OKq Try.prog 89 laws_eqPair.c := con_q' laws_eqPair.cd laws_eqPair.hC Try.func89 (by kernel_rfl) (by kernel_rfl) (by kernel_rfl) laws_eqPair.lp (fun a => by kernel_rfl) laws_eqPair.run (Tells.ok (tree := laws_eqPair.tr))
/-! ### laws_eqTrain_w1 -/
noncomputable def laws_eqTrain_w1.b : Code := bodyOf Try.f52
noncomputable def laws_eqTrain_w1.l4.s (x0 : Nat) (x1 : Nat) (x2 : Int) (x3 : List (List Sc)) (x4 : List (List Sc)) : T (Int ⊕ (Bool ⊕ Unit)) :=
  .br (decide (x2 < ((x0 : Nat) : Int)))
  (.br (bounds x2 x0)
   (.br (Nat.ble ((Int.toNat x2) + 1) (List.length x3))
    (.br (bounds x2 x1)
     (.br (Nat.ble ((Int.toNat x2) + 1) (List.length x4))
      (.br (laws_eqPair.ok (Sc.int (List.getD (List.getD x3 (Int.toNat x2) []) 0 (.n 0))) (Sc.int (List.getD (List.getD x3 (Int.toNat x2) []) 1 (.n 0))) (Sc.nat (List.getD (List.getD x3 (Int.toNat x2) []) 2 (.n 0))) (Sc.int (List.getD (List.getD x4 (Int.toNat x2) []) 0 (.n 0))) (Sc.int (List.getD (List.getD x4 (Int.toNat x2) []) 1 (.n 0))) (Sc.nat (List.getD (List.getD x4 (Int.toNat x2) []) 2 (.n 0))))
       (.br (!(laws_eqPair (Sc.int (List.getD (List.getD x3 (Int.toNat x2) []) 0 (.n 0))) (Sc.int (List.getD (List.getD x3 (Int.toNat x2) []) 1 (.n 0))) (Sc.nat (List.getD (List.getD x3 (Int.toNat x2) []) 2 (.n 0))) (Sc.int (List.getD (List.getD x4 (Int.toNat x2) []) 0 (.n 0))) (Sc.int (List.getD (List.getD x4 (Int.toNat x2) []) 1 (.n 0))) (Sc.nat (List.getD (List.getD x4 (Int.toNat x2) []) 2 (.n 0)))))
        (.leaf (.inr (.inl false)))
        (.leaf (.inl (IntKind.wrap .i64 (x2 + (1 : Int))))))
       .bad)
      .bad)
     .bad)
    .bad)
   .bad)
  (.leaf (.inr (.inr ())))
noncomputable def laws_eqTrain_w1.l4.st (p : Nat × Nat × List (List Sc) × List (List Sc)) (x : Int) : T (Int ⊕ (Bool ⊕ Unit)) := laws_eqTrain_w1.l4.s p.1 p.2.1 x p.2.2.1 p.2.2.2
noncomputable def laws_eqTrain_w1.l4.r (p : Nat × Nat × List (List Sc) × List (List Sc)) (x : Int) : Option (Bool ⊕ Unit) := iterT (laws_eqTrain_w1.l4.st p) manyRounds x
def laws_eqTrain_w1.l4.cd : Cd ((Nat × Nat × List (List Sc) × List (List Sc)) × Int) (List V × Hp) := Cd.iso (Cd.pair (Cd.cons (Cd.own 0) (Cd.cons (Cd.own 1) (Cd.cons (Cd.it .i64) Cd.nil))) (Cd.cons (Cd.rw 103 3 (Cd.mx [.it .i16, .it .i16, .fl .f32])) (Cd.cons (Cd.rw 103 3 (Cd.mx [.it .i16, .it .i16, .fl .f32])) Cd.nil))) (fun a => ((a.1.1, a.1.2.1, a.2.1, a.2.2.1), a.1.2.2.1)) (fun a => ((a.1.1, (a.1.2.1, (a.2, ()))), (a.1.2.2.1, (a.1.2.2.2, ())))) (fun _ => rfl)
def laws_eqTrain_w1.l4.out (p : Nat × Nat × List (List Sc) × List (List Sc)) : (Bool ⊕ Unit) → X × List V × Hp := sumO (fun r => (.ret, [.bo r], [some ⟨true, 103, 3, .mx [.it .i16, .it .i16, .fl .f32] p.2.2.1⟩, some ⟨true, 103, 3, .mx [.it .i16, .it .i16, .fl .f32] p.2.2.2⟩])) (fun r => (.ex 0, [.unk], [some ⟨true, 103, 3, .mx [.it .i16, .it .i16, .fl .f32] p.2.2.1⟩, some ⟨true, 103, 3, .mx [.it .i16, .it .i16, .fl .f32] p.2.2.2⟩]))
def laws_eqTrain_w1.l4.ex (p : Nat × Nat × List (List Sc) × List (List Sc)) : (Bool ⊕ Unit) → T (X × List V × Hp) := sumT (leafT (fun r => (.ret, [.bo r], [some ⟨true, 103, 3, .mx [.it .i16, .it .i16, .fl .f32] p.2.2.1⟩, some ⟨true, 103, 3, .mx [.it .i16, .it .i16, .fl .f32] p.2.2.2⟩]))) (leafT (fun r => (.ex 0, [.unk], [some ⟨true, 103, 3, .mx [.it .i16, .it .i16, .fl .f32] p.2.2.1⟩, some ⟨true, 103, 3, .mx [.it .i16, .it .i16, .fl .f32] p.2.2.2⟩])))
noncomputable def laws_eqTrain_w1.l4.c : List V → Hp → T (X × List V × Hp) := cdL laws_eqTrain_w1.l4.cd fun x => optT (laws_eqTrain_w1.l4.r x.1 x.2) (laws_eqTrain_w1.l4.ex x.1)
noncomputable def laws_eqTrain_w1.C : Ctx := { ty := tys, fn := [(89, .q laws_eqPair.c)], lp := [(4, ⟨[0, 1, 5], [4], laws_eqTrain_w1.l4.c⟩)], n := 27, k := 2 }
theorem laws_eqTrain_w1.hC : CtxOK Try.prog laws_eqTrain_w1.C := CtxOK.of mo tys_ok (FnsOK.cons laws_eqPair.cok FnsOK.nil)
noncomputable def laws_eqTrain_w1.b4 : Code := (nthC (loopsOf laws_eqTrain_w1.b) 0)
theorem laws_eqTrain_w1.lp4 : LpOK Try.prog laws_eqTrain_w1.C laws_eqTrain_w1.b4 := (LpOK.nil (by kernel_rfl))
theorem laws_eqTrain_w1.l4.round (p : Nat × Nat × List (List Sc) × List (List Sc)) (s : Int) : roundL laws_eqTrain_w1.C [0, 1, 5] [4] laws_eqTrain_w1.b4 (laws_eqTrain_w1.l4.cd.enc (p, s)).1 (laws_eqTrain_w1.l4.cd.enc (p, s)).2 = (laws_eqTrain_w1.l4.st p s).map (encSum (fun s => laws_eqTrain_w1.l4.cd.enc (p, s)) (laws_eqTrain_w1.l4.out p)) := by kernel_rfl
theorem laws_eqTrain_w1.l4.lok : LoopOK Try.prog laws_eqTrain_w1.C ⟨[0, 1, 5], [4], laws_eqTrain_w1.l4.c⟩ laws_eqTrain_w1.b4 := loop_cd laws_eqTrain_w1.l4.cd laws_eqTrain_w1.hC laws_eqTrain_w1.lp4 laws_eqTrain_w1.l4.round fun p => (Gets.sum Gets.leaf Gets.leaf)
theorem laws_eqTrain_w1.lp : LpOK Try.prog laws_eqTrain_w1.C laws_eqTrain_w1.b := lp_of (by kernel_rfl) (LpsOK.cons (k := 4) (by kernel_rfl) (by kernel_rfl) laws_eqTrain_w1.l4.lok LpsOK.nil)
noncomputable def laws_eqTrain_w1.t (x0 : Nat) (x1 : Nat) (x2 : List (List Sc)) (x3 : List (List Sc)) : T Bool :=
  .br (((x0 : Nat) : Int) != ((x1 : Nat) : Int))
  (.leaf false)
  (.br (Option.isSome (laws_eqTrain_w1.l4.r (x0, x1, x2, x3) (0 : Int)))
   (.br (Sum.isLeft (Option.getD (laws_eqTrain_w1.l4.r (x0, x1, x2, x3) (0 : Int)) default))
    (.leaf (getLeftD (Option.getD (laws_eqTrain_w1.l4.r (x0, x1, x2, x3) (0 : Int)) default)))
    (.leaf true))
   .bad)
noncomputable def laws_eqTrain_w1 (x0 : Nat) (x1 : Nat) (x2 : List (List Sc)) (x3 : List (List Sc)) : Bool := (laws_eqTrain_w1.t x0 x1 x2 x3).val
noncomputable def laws_eqTrain_w1.ok (x0 : Nat) (x1 : Nat) (x2 : List (List Sc)) (x3 : List (List Sc)) : Bool := (laws_eqTrain_w1.t x0 x1 x2 x3).ok
def laws_eqTrain_w1.cd : Cd (Nat × Nat × List (List Sc) × List (List Sc)) (List V × Hp) := Cd.iso (Cd.pair (Cd.cons (Cd.own 0) (Cd.cons (Cd.own 1) Cd.nil)) (Cd.cons (Cd.rw 103 3 (Cd.mx [.it .i16, .it .i16, .fl .f32])) (Cd.cons (Cd.rw 103 3 (Cd.mx [.it .i16, .it .i16, .fl .f32])) Cd.nil))) (fun a => (a.1.1, a.1.2.1, a.2.1, a.2.2.1)) (fun a => ((a.1, (a.2.1, ())), (a.2.2.1, (a.2.2.2, ())))) (fun _ => rfl)
noncomputable def laws_eqTrain_w1.tr (a : Nat × Nat × List (List Sc) × List (List Sc)) : T Bool := laws_eqTrain_w1.t a.1 a.2.1 a.2.2.1 a.2.2.2
def laws_eqTrain_w1.enc : (Nat × Nat × List (List Sc) × List (List Sc)) → Bool → V := fun a r => .bo r
noncomputable def laws_eqTrain_w1.c : List V → Hp → T V := cdQ laws_eqTrain_w1.cd (fun a => .br (laws_eqTrain_w1.ok a.1 a.2.1 a.2.2.1 a.2.2.2) (.leaf (laws_eqTrain_w1.enc a (laws_eqTrain_w1 a.1 a.2.1 a.2.2.1 a.2.2.2))) .bad)
theorem laws_eqTrain_w1.run (a : Nat × Nat × List (List Sc) × List (List Sc)) : runF laws_eqTrain_w1.C Try.f52.results.toList laws_eqTrain_w1.b (laws_eqTrain_w1.cd.enc a).1 (laws_eqTrain_w1.cd.enc a).2 = (laws_eqTrain_w1.tr a).map fun r => (laws_eqTrain_w1.enc a r, (laws_eqTrain_w1.cd.enc a).2) := by kernel_rfl
theorem laws_eqTrain_w1.cok : OKq Try.prog 52 laws_eqTrain_w1.c := con_q' laws_eqTrain_w1.cd laws_eqTrain_w1.hC Try.func52 (by kernel_rfl) (by kernel_rfl) (by kernel_rfl) laws_eqTrain_w1.lp (fun a => by kernel_rfl) laws_eqTrain_w1.run (Tells.ok (tree := laws_eqTrain_w1.tr))
/-! ### laws_markTrain_w1 -/
noncomputable def laws_markTrain_w1.b : Code := bodyOf Try.f53
noncomputable def laws_markTrain_w1.l2.s (x0 : Nat) (x1 : Int) (x2 : Int) (x3 : List (List Sc)) : T ((Int × Int × List (List Sc)) ⊕ (Int × List (List Sc))) :=
  .br (decide (x2 < ((x0 : Nat) : Int)))
  (.br (bounds x2 x0)
   (.br (Nat.ble ((Int.toNat x2) + 1) (List.length x3))
    (.br (bounds x2 x0)
     (.br (Nat.ble ((Int.toNat x2) + 1) (List.length (List.set x3 (Int.toNat x2) (setCol (List.getD x3 (Int.toNat x2) []) 0 (Sc.i (IntKind.wrap .i16 x1))))))
      (.br (bounds x2 x0)
       (.br (Nat.ble ((Int.toNat x2) + 1) (List.length (List.set (List.set x3 (Int.toNat x2) (setCol (List.getD x3 (Int.toNat x2) []) 0 (Sc.i (IntKind.wrap .i16 x1)))) (Int.toNat x2) (setCol (List.getD (List.set x3 (Int.toNat x2) (setCol (List.getD x3 (Int.toNat x2) []) 0 (Sc.i (IntKind.wrap .i16 x1)))) (Int.toNat x2) []) 1 (Sc.i (IntKind.wrap .i16 (IntKind.wrap .i64 (x1 + (1 : Int)))))))))
        (.leaf (.inl ((IntKind.wrap .i64 ((IntKind.wrap .i64 ((IntKind.wrap .i64 (x1 + (1 : Int))) + (1 : Int))) + (1 : Int))), (IntKind.wrap .i64 (x2 + (1 : Int))), (List.set (List.set (List.set x3 (Int.toNat x2) (setCol (List.getD x3 (Int.toNat x2) []) 0 (Sc.i (IntKind.wrap .i16 x1)))) (Int.toNat x2) (setCol (List.getD (List.set x3 (Int.toNat x2) (setCol (List.getD x3 (Int.toNat x2) []) 0 (Sc.i (IntKind.wrap .i16 x1)))) (Int.toNat x2) []) 1 (Sc.i (IntKind.wrap .i16 (IntKind.wrap .i64 (x1 + (1 : Int))))))) (Int.toNat x2) (setCol (List.getD (List.set (List.set x3 (Int.toNat x2) (setCol (List.getD x3 (Int.toNat x2) []) 0 (Sc.i (IntKind.wrap .i16 x1)))) (Int.toNat x2) (setCol (List.getD (List.set x3 (Int.toNat x2) (setCol (List.getD x3 (Int.toNat x2) []) 0 (Sc.i (IntKind.wrap .i16 x1)))) (Int.toNat x2) []) 1 (Sc.i (IntKind.wrap .i16 (IntKind.wrap .i64 (x1 + (1 : Int))))))) (Int.toNat x2) []) 2 (Sc.n (fofint .f32 (IntKind.wrap .i64 ((IntKind.wrap .i64 (x1 + (1 : Int))) + (1 : Int))))))))))
        .bad)
       .bad)
      .bad)
     .bad)
    .bad)
   .bad)
  (.leaf (.inr (x1, x3)))
noncomputable def laws_markTrain_w1.l2.st (p : Nat) (x : Int × Int × List (List Sc)) : T ((Int × Int × List (List Sc)) ⊕ (Int × List (List Sc))) := laws_markTrain_w1.l2.s p x.1 x.2.1 x.2.2
noncomputable def laws_markTrain_w1.l2.r (p : Nat) (x : Int × Int × List (List Sc)) : Option (Int × List (List Sc)) := iterT (laws_markTrain_w1.l2.st p) manyRounds x
def laws_markTrain_w1.l2.cd : Cd (Nat × (Int × Int × List (List Sc))) (List V × Hp) := Cd.iso (Cd.pair (Cd.cons (Cd.own 0) (Cd.cons (Cd.it .i64) (Cd.cons (Cd.it .i64) Cd.nil))) (Cd.cons (Cd.rw 103 3 (Cd.mx [.it .i16, .it .i16, .fl .f32])) Cd.nil)) (fun a => (a.1.1, (a.1.2.1, a.1.2.2.1, a.2.1))) (fun a => ((a.1, (a.2.1, (a.2.2.1, ()))), (a.2.2.2, ()))) (fun _ => rfl)
def laws_markTrain_w1.l2.out (p : Nat) : (Int × List (List Sc)) → X × List V × Hp := (fun r => (.ex 0, [.it .i64 r.1], [some ⟨true, 103, 3, .mx [.it .i16, .it .i16, .fl .f32] r.2⟩]))
def laws_markTrain_w1.l2.ex (p : Nat) : (Int × List (List Sc)) → T (X × List V × Hp) := leafT (fun r => (.ex 0, [.it .i64 r.1], [some ⟨true, 103, 3, .mx [.it .i16, .it .i16, .fl .f32] r.2⟩]))
noncomputable def laws_markTrain_w1.l2.c : List V → Hp → T (X × List V × Hp) := cdL laws_markTrain_w1.l2.cd fun x => optT (laws_markTrain_w1.l2.r x.1 x.2) (laws_markTrain_w1.l2.ex x.1)
noncomputable def laws_markTrain_w1.C : Ctx := { ty := tys, fn := [], lp := [(2, ⟨[0, 1, 5], [1], laws_markTrain_w1.l2.c⟩)], n := 37, k := 1 }
theorem laws_markTrain_w1.hC : CtxOK Try.prog laws_markTrain_w1.C := CtxOK.of mo tys_ok FnsOK.nil
noncomputable def laws_markTrain_w1.b2 : Code := (nthC (loopsOf laws_markTrain_w1.b) 0)
theorem laws_markTrain_w1.lp2 : LpOK Try.prog laws_markTrain_w1.C laws_markTrain_w1.b2 := (LpOK.nil (by kernel_rfl))
theorem laws_markTrain_w1.l2.round (p : Nat) (s : Int × Int × List (List Sc)) : roundL laws_markTrain_w1.C [0, 1, 5] [1] laws_markTrain_w1.b2 (laws_markTrain_w1.l2.cd.enc (p, s)).1 (laws_markTrain_w1.l2.cd.enc (p, s)).2 = (laws_markTrain_w1.l2.st p s).map (encSum (fun s => laws_markTrain_w1.l2.cd.enc (p, s)) (laws_markTrain_w1.l2.out p)) := by kernel_rfl
theorem laws_markTrain_w1.l2.lok : LoopOK Try.prog laws_markTrain_w1.C ⟨[0, 1, 5], [1], laws_markTrain_w1.l2.c⟩ laws_markTrain_w1.b2 := loop_cd laws_markTrain_w1.l2.cd laws_markTrain_w1.hC laws_markTrain_w1.lp2 laws_markTrain_w1.l2.round fun p => Gets.leaf
theorem laws_markTrain_w1.lp : LpOK Try.prog laws_markTrain_w1.C laws_markTrain_w1.b := lp_of (by kernel_rfl) (LpsOK.cons (k := 2) (by kernel_rfl) (by kernel_rfl) laws_markTrain_w1.l2.lok LpsOK.nil)
noncomputable def laws_markTrain_w1.t (x0 : Nat) (x1 : Int) (x2 : List (List Sc)) : T (Int × List (List Sc)) :=
  .br (Option.isSome (laws_markTrain_w1.l2.r x0 (x1, (0 : Int), x2)))
  (.leaf ((Option.getD (laws_markTrain_w1.l2.r x0 (x1, (0 : Int), x2)) default).1, (Option.getD (laws_markTrain_w1.l2.r x0 (x1, (0 : Int), x2)) default).2))
  .bad
noncomputable def laws_markTrain_w1 (x0 : Nat) (x1 : Int) (x2 : List (List Sc)) : Int × List (List Sc) := (laws_markTrain_w1.t x0 x1 x2).val
noncomputable def laws_markTrain_w1.ok (x0 : Nat) (x1 : Int) (x2 : List (List Sc)) : Bool := (laws_markTrain_w1.t x0 x1 x2).ok
def laws_markTrain_w1.cd : Cd (Nat × Int × List (List Sc)) (List V × Hp) := Cd.iso (Cd.pair (Cd.cons (Cd.own 0) (Cd.cons (Cd.it .i64) Cd.nil)) (Cd.cons (Cd.rw 103 3 (Cd.mx [.it .i16, .it .i16, .fl .f32])) Cd.nil)) (fun a => (a.1.1, a.1.2.1, a.2.1)) (fun a => ((a.1, (a.2.1, ())), (a.2.2, ()))) (fun _ => rfl)
noncomputable def laws_markTrain_w1.tr (a : Nat × Int × List (List Sc)) : T (Int × List (List Sc)) := laws_markTrain_w1.t a.1 a.2.1 a.2.2
def laws_markTrain_w1.enc : (Nat × Int × List (List Sc)) → (Int × List (List Sc)) → V × Hp := fun a r => (.it .i64 r.1, [some ⟨true, 103, 3, .mx [.it .i16, .it .i16, .fl .f32] r.2⟩])
noncomputable def laws_markTrain_w1.c : List V → Hp → T (V × Hp) := cdE laws_markTrain_w1.cd (fun a => .br (laws_markTrain_w1.ok a.1 a.2.1 a.2.2) (.leaf (laws_markTrain_w1.enc a (laws_markTrain_w1 a.1 a.2.1 a.2.2))) .bad)
theorem laws_markTrain_w1.run (a : Nat × Int × List (List Sc)) : runF laws_markTrain_w1.C Try.f53.results.toList laws_markTrain_w1.b (laws_markTrain_w1.cd.enc a).1 (laws_markTrain_w1.cd.enc a).2 = (laws_markTrain_w1.tr a).map (laws_markTrain_w1.enc a) := by kernel_rfl
theorem laws_markTrain_w1.cok : OKe Try.prog 53 laws_markTrain_w1.c := con_e' laws_markTrain_w1.cd laws_markTrain_w1.hC Try.func53 (by kernel_rfl) (by kernel_rfl) (by kernel_rfl) laws_markTrain_w1.lp (fun a => by kernel_rfl) laws_markTrain_w1.run (Tells.ok (tree := laws_markTrain_w1.tr))
/-! ### laws_heldTrain_w1 -/
noncomputable def laws_heldTrain_w1.b : Code := bodyOf Try.f54
noncomputable def laws_heldTrain_w1.l2.s (x0 : Nat) (x1 : Int) (x2 : Int) (x3 : List (List Sc)) : T ((Int × Int) ⊕ ((Int × Int) ⊕ Int)) :=
  .br (decide (x2 < ((x0 : Nat) : Int)))
  (.br (bounds x2 x0)
   (.br (Nat.ble ((Int.toNat x2) + 1) (List.length x3))
    (.br ((Sc.int (List.getD (List.getD x3 (Int.toNat x2) []) 0 (.n 0))) != (IntKind.wrap .i16 x1))
     (.leaf (.inr (.inl (x1, (-1 : Int)))))
     (.br (bounds x2 x0)
      (.br (Nat.ble ((Int.toNat x2) + 1) (List.length x3))
       (.br ((Sc.int (List.getD (List.getD x3 (Int.toNat x2) []) 1 (.n 0))) != (IntKind.wrap .i16 (IntKind.wrap .i64 (x1 + (1 : Int)))))
        (.leaf (.inr (.inl ((IntKind.wrap .i64 (x1 + (1 : Int))), (-1 : Int)))))
        (.br (bounds x2 x0)
         (.br (Nat.ble ((Int.toNat x2) + 1) (List.length x3))
          (.br (fne .f32 (Sc.nat (List.getD (List.getD x3 (Int.toNat x2) []) 2 (.n 0))) (fofint .f32 (IntKind.wrap .i64 ((IntKind.wrap .i64 (x1 + (1 : Int))) + (1 : Int)))))
           (.leaf (.inr (.inl ((IntKind.wrap .i64 ((IntKind.wrap .i64 (x1 + (1 : Int))) + (1 : Int))), (-1 : Int)))))
           (.leaf (.inl ((IntKind.wrap .i64 ((IntKind.wrap .i64 ((IntKind.wrap .i64 (x1 + (1 : Int))) + (1 : Int))) + (1 : Int))), (IntKind.wrap .i64 (x2 + (1 : Int)))))))
          .bad)
         .bad))
       .bad)
      .bad))
    .bad)
   .bad)
  (.leaf (.inr (.inr x1)))
noncomputable def laws_heldTrain_w1.l2.st (p : Nat × List (List Sc)) (x : Int × Int) : T ((Int × Int) ⊕ ((Int × Int) ⊕ Int)) := laws_heldTrain_w1.l2.s p.1 x.1 x.2 p.2
noncomputable def laws_heldTrain_w1.l2.r (p : Nat × List (List Sc)) (x : Int × Int) : Option ((Int × Int) ⊕ Int) := iterT (laws_heldTrain_w1.l2.st p) manyRounds x
def laws_heldTrain_w1.l2.cd : Cd ((Nat × List (List Sc)) × (Int × Int)) (List V × Hp) := Cd.iso (Cd.pair (Cd.cons (Cd.own 0) (Cd.cons (Cd.it .i64) (Cd.cons (Cd.it .i64) Cd.nil))) (Cd.cons (Cd.rw 103 3 (Cd.mx [.it .i16, .it .i16, .fl .f32])) Cd.nil)) (fun a => ((a.1.1, a.2.1), (a.1.2.1, a.1.2.2.1))) (fun a => ((a.1.1, (a.2.1, (a.2.2, ()))), (a.1.2, ()))) (fun _ => rfl)
def laws_heldTrain_w1.l2.out (p : Nat × List (List Sc)) : ((Int × Int) ⊕ Int) → X × List V × Hp := sumO (fun r => (.ret, [.it .i64 r.1, .it .i64 r.2], [some ⟨true, 103, 3, .mx [.it .i16, .it .i16, .fl .f32] p.2⟩])) (fun r => (.ex 0, [.it .i64 r, .unk], [some ⟨true, 103, 3, .mx [.it .i16, .it .i16, .fl .f32] p.2⟩]))
def laws_heldTrain_w1.l2.ex (p : Nat × List (List Sc)) : ((Int × Int) ⊕ Int) → T (X × List V × Hp) := sumT (leafT (fun r => (.ret, [.it .i64 r.1, .it .i64 r.2], [some ⟨true, 103, 3, .mx [.it .i16, .it .i16, .fl .f32] p.2⟩]))) (leafT (fun r => (.ex 0, [.it .i64 r, .unk], [some ⟨true, 103, 3, .mx [.it .i16, .it .i16, .fl .f32] p.2⟩])))
noncomputable def laws_heldTrain_w1.l2.c : List V → Hp → T (X × List V × Hp) := cdL laws_heldTrain_w1.l2.cd fun x => optT (laws_heldTrain_w1.l2.r x.1 x.2) (laws_heldTrain_w1.l2.ex x.1)
noncomputable def laws_heldTrain_w1.C : Ctx := { ty := tys, fn := [], lp := [(2, ⟨[0, 1, 5], [1, 4], laws_heldTrain_w1.l2.c⟩)], n := 43, k := 1 }
theorem laws_heldTrain_w1.hC : CtxOK Try.prog laws_heldTrain_w1.C := CtxOK.of mo tys_ok FnsOK.nil
noncomputable def laws_heldTrain_w1.b2 : Code := (nthC (loopsOf laws_heldTrain_w1.b) 0)
theorem laws_heldTrain_w1.lp2 : LpOK Try.prog laws_heldTrain_w1.C laws_heldTrain_w1.b2 := (LpOK.nil (by kernel_rfl))
theorem laws_heldTrain_w1.l2.round (p : Nat × List (List Sc)) (s : Int × Int) : roundL laws_heldTrain_w1.C [0, 1, 5] [1, 4] laws_heldTrain_w1.b2 (laws_heldTrain_w1.l2.cd.enc (p, s)).1 (laws_heldTrain_w1.l2.cd.enc (p, s)).2 = (laws_heldTrain_w1.l2.st p s).map (encSum (fun s => laws_heldTrain_w1.l2.cd.enc (p, s)) (laws_heldTrain_w1.l2.out p)) := by kernel_rfl
theorem laws_heldTrain_w1.l2.lok : LoopOK Try.prog laws_heldTrain_w1.C ⟨[0, 1, 5], [1, 4], laws_heldTrain_w1.l2.c⟩ laws_heldTrain_w1.b2 := loop_cd laws_heldTrain_w1.l2.cd laws_heldTrain_w1.hC laws_heldTrain_w1.lp2 laws_heldTrain_w1.l2.round fun p => (Gets.sum Gets.leaf Gets.leaf)
theorem laws_heldTrain_w1.lp : LpOK Try.prog laws_heldTrain_w1.C laws_heldTrain_w1.b := lp_of (by kernel_rfl) (LpsOK.cons (k := 2) (by kernel_rfl) (by kernel_rfl) laws_heldTrain_w1.l2.lok LpsOK.nil)
noncomputable def laws_heldTrain_w1.t (x0 : Nat) (x1 : Int) (x2 : List (List Sc)) : T Int :=
  .br (Option.isSome (laws_heldTrain_w1.l2.r (x0, x2) (x1, (0 : Int))))
  (.br (Sum.isLeft (Option.getD (laws_heldTrain_w1.l2.r (x0, x2) (x1, (0 : Int))) default))
   (.leaf ((getLeftD (Option.getD (laws_heldTrain_w1.l2.r (x0, x2) (x1, (0 : Int))) default)).2))
   (.leaf (getRightD (Option.getD (laws_heldTrain_w1.l2.r (x0, x2) (x1, (0 : Int))) default))))
  .bad
noncomputable def laws_heldTrain_w1 (x0 : Nat) (x1 : Int) (x2 : List (List Sc)) : Int := (laws_heldTrain_w1.t x0 x1 x2).val
noncomputable def laws_heldTrain_w1.ok (x0 : Nat) (x1 : Int) (x2 : List (List Sc)) : Bool := (laws_heldTrain_w1.t x0 x1 x2).ok
def laws_heldTrain_w1.cd : Cd (Nat × Int × List (List Sc)) (List V × Hp) := Cd.iso (Cd.pair (Cd.cons (Cd.own 0) (Cd.cons (Cd.it .i64) Cd.nil)) (Cd.cons (Cd.rw 103 3 (Cd.mx [.it .i16, .it .i16, .fl .f32])) Cd.nil)) (fun a => (a.1.1, a.1.2.1, a.2.1)) (fun a => ((a.1, (a.2.1, ())), (a.2.2, ()))) (fun _ => rfl)
noncomputable def laws_heldTrain_w1.tr (a : Nat × Int × List (List Sc)) : T Int := laws_heldTrain_w1.t a.1 a.2.1 a.2.2
def laws_heldTrain_w1.enc : (Nat × Int × List (List Sc)) → Int → V := fun a r => .it .i64 r
noncomputable def laws_heldTrain_w1.c : List V → Hp → T V := cdQ laws_heldTrain_w1.cd (fun a => .br (laws_heldTrain_w1.ok a.1 a.2.1 a.2.2) (.leaf (laws_heldTrain_w1.enc a (laws_heldTrain_w1 a.1 a.2.1 a.2.2))) .bad)
theorem laws_heldTrain_w1.run (a : Nat × Int × List (List Sc)) : runF laws_heldTrain_w1.C Try.f54.results.toList laws_heldTrain_w1.b (laws_heldTrain_w1.cd.enc a).1 (laws_heldTrain_w1.cd.enc a).2 = (laws_heldTrain_w1.tr a).map fun r => (laws_heldTrain_w1.enc a r, (laws_heldTrain_w1.cd.enc a).2) := by kernel_rfl
theorem laws_heldTrain_w1.cok : OKq Try.prog 54 laws_heldTrain_w1.c := con_q' laws_heldTrain_w1.cd laws_heldTrain_w1.hC Try.func54 (by kernel_rfl) (by kernel_rfl) (by kernel_rfl) laws_heldTrain_w1.lp (fun a => by kernel_rfl) laws_heldTrain_w1.run (Tells.ok (tree := laws_heldTrain_w1.tr))
/-! ### laws_FnExactTrainFor -/
noncomputable def laws_FnExactTrainFor.b : Code := bodyOf Try.f14
noncomputable def laws_FnExactTrainFor.C : Ctx := { ty := tys, fn := [(16, .e laws_toInt16S.c), (35, .q laws_toChoice.c), (50, .e spec_TrainFor.c), (51, .e impl_TrainFor.c), (52, .q (altQ laws_eqTrain.c laws_eqTrain_w1.c)), (18, .q laws_eqInt16S.c), (44, .e laws_markInt16S.c), (53, .e (altE (qE laws_markTrain.c) laws_markTrain_w1.c)), (54, .q (altQ laws_heldTrain.c laws_heldTrain_w1.c))], lp := [], n := 101, k := 1 }
theorem laws_FnExactTrainFor.hC : CtxOK Try.prog laws_FnExactTrainFor.C := CtxOK.of mo tys_ok (FnsOK.cons laws_toInt16S.cok (FnsOK.cons laws_toChoice.cok (FnsOK.cons spec_TrainFor.cok (FnsOK.cons impl_TrainFor.cok (FnsOK.cons (OKq.alt laws_eqTrain.cok laws_eqTrain_w1.cok) (FnsOK.cons laws_eqInt16S.cok (FnsOK.cons laws_markInt16S.cok (FnsOK.cons (OKe.alt (OKe.of_q laws_markTrain.cok) laws_markTrain_w1.cok) (FnsOK.cons (OKq.alt laws_heldTrain.cok laws_heldTrain_w1.cok) FnsOK.nil)))))))))
theorem laws_FnExactTrainFor.lp : LpOK Try.prog laws_FnExactTrainFor.C laws_FnExactTrainFor.b := (LpOK.nil (by kernel_rfl))
noncomputable def laws_FnExactTrainFor.t (x0 : Nat) (x1 : Int) (x2 : Int) (x3 : Int) (x4 : Int) (x5 : List Int) : T Bool :=
  .br (decide (((x0 : Nat) : Int) > (1048576 : Int)))
  (.leaf true)
  (.br (laws_toInt16S.ok x0 x5)
   (.br (spec_TrainFor.ok ((laws_toInt16S x0 x5).1) ((laws_toChoice x1 x2 x3 x4).1) ((laws_toChoice x1 x2 x3 x4).2.1) ((laws_toChoice x1 x2 x3 x4).2.2.1) ((laws_toChoice x1 x2 x3 x4).2.2.2) ((laws_toInt16S x0 x5).2))
    (.br (laws_toInt16S.ok x0 x5)
     (.br (impl_TrainFor.ok ((laws_toInt16S x0 x5).1) ((laws_toChoice x1 x2 x3 x4).1) ((laws_toChoice x1 x2 x3 x4).2.1) ((laws_toChoice x1 x2 x3 x4).2.2.1) ((laws_toChoice x1 x2 x3 x4).2.2.2) ((laws_toInt16S x0 x5).2))
      (.br (Sum.isLeft (impl_TrainFor ((laws_toInt16S x0 x5).1) ((laws_toChoice x1 x2 x3 x4).1) ((laws_toChoice x1 x2 x3 x4).2.1) ((laws_toChoice x1 x2 x3 x4).2.2.1) ((laws_toChoice x1 x2 x3 x4).2.2.2) ((laws_toInt16S x0 x5).2)))
       (.br (laws_eqTrain.ok ((spec_TrainFor ((laws_toInt16S x0 x5).1) ((laws_toChoice x1 x2 x3 x4).1) ((laws_toChoice x1 x2 x3 x4).2.1) ((laws_toChoice x1 x2 x3 x4).2.2.1) ((laws_toChoice x1 x2 x3 x4).2.2.2) ((laws_toInt16S x0 x5).2)).1) ((spec_TrainFor ((laws_toInt16S x0 x5).1) ((laws_toChoice x1 x2 x3 x4).1) ((laws_toChoice x1 x2 x3 x4).2.1) ((laws_toChoice x1 x2 x3 x4).2.2.1) ((laws_toChoice x1 x2 x3 x4).2.2.2) ((laws_toInt16S x0 x5).2)).2.2))
        (.br (!(laws_eqTrain ((spec_TrainFor ((laws_toInt16S x0 x5).1) ((laws_toChoice x1 x2 x3 x4).1) ((laws_toChoice x1 x2 x3 x4).2.1) ((laws_toChoice x1 x2 x3 x4).2.2.1) ((laws_toChoice x1 x2 x3 x4).2.2.2) ((laws_toInt16S x0 x5).2)).1) ((spec_TrainFor ((laws_toInt16S x0 x5).1) ((laws_toChoice x1 x2 x3 x4).1) ((laws_toChoice x1 x2 x3 x4).2.1) ((laws_toChoice x1 x2 x3 x4).2.2.1) ((laws_toChoice x1 x2 x3 x4).2.2.2) ((laws_toInt16S x0 x5).2)).2.2)))
         (.leaf false)
         (.br ((getLeftD (impl_TrainFor ((laws_toInt16S x0 x5).1) ((laws_toChoice x1 x2 x3 x4).1) ((laws_toChoice x1 x2 x3 x4).2.1) ((laws_toChoice x1 x2 x3 x4).2.2.1) ((laws_toChoice x1 x2 x3 x4).2.2.2) ((laws_toInt16S x0 x5).2))) != (spec_TrainFor ((laws_toInt16S x0 x5).1) ((laws_toChoice x1 x2 x3 x4).1) ((laws_toChoice x1 x2 x3 x4).2.1) ((laws_toChoice x1 x2 x3 x4).2.2.1) ((laws_toChoice x1 x2 x3 x4).2.2.2) ((laws_toInt16S x0 x5).2)).2.1)
          (.leaf false)
          (.br (laws_toInt16S.ok x0 x5)
           (.br (laws_eqInt16S.ok ((laws_toInt16S x0 x5).1) ((laws_toInt16S x0 x5).1) ((laws_toInt16S x0 x5).2) ((laws_toInt16S x0 x5).2))
            (.br (!(laws_eqInt16S ((laws_toInt16S x0 x5).1) ((laws_toInt16S x0 x5).1) ((laws_toInt16S x0 x5).2) ((laws_toInt16S x0 x5).2)))
             (.leaf false)
             (.br (laws_markInt16S.ok ((laws_toInt16S x0 x5).1) (1 : Int) ((laws_toInt16S x0 x5).2))
              (.br (decide ((laws_markInt16S ((laws_toInt16S x0 x5).1) (1 : Int) ((laws_toInt16S x0 x5).2)).1 < (0 : Int)))
               (.leaf false)
               (.br (laws_eqTrain.ok ((spec_TrainFor ((laws_toInt16S x0 x5).1) ((laws_toChoice x1 x2 x3 x4).1) ((laws_toChoice x1 x2 x3 x4).2.1) ((laws_toChoice x1 x2 x3 x4).2.2.1) ((laws_toChoice x1 x2 x3 x4).2.2.2) ((laws_toInt16S x0 x5).2)).1) ((spec_TrainFor ((laws_toInt16S x0 x5).1) ((laws_toChoice x1 x2 x3 x4).1) ((laws_toChoice x1 x2 x3 x4).2.1) ((laws_toChoice x1 x2 x3 x4).2.2.1) ((laws_toChoice x1 x2 x3 x4).2.2.2) ((laws_toInt16S x0 x5).2)).2.2))
                (.br (!(laws_eqTrain ((spec_TrainFor ((laws_toInt16S x0 x5).1) ((laws_toChoice x1 x2 x3 x4).1) ((laws_toChoice x1 x2 x3 x4).2.1) ((laws_toChoice x1 x2 x3 x4).2.2.1) ((laws_toChoice x1 x2 x3 x4).2.2.2) ((laws_toInt16S x0 x5).2)).1) ((spec_TrainFor ((laws_toInt16S x0 x5).1) ((laws_toChoice x1 x2 x3 x4).1) ((laws_toChoice x1 x2 x3 x4).2.1) ((laws_toChoice x1 x2 x3 x4).2.2.1) ((laws_toChoice x1 x2 x3 x4).2.2.2) ((laws_toInt16S x0 x5).2)).2.2)))
                 (.leaf false)
                 (.br ((getLeftD (impl_TrainFor ((laws_toInt16S x0 x5).1) ((laws_toChoice x1 x2 x3 x4).1) ((laws_toChoice x1 x2 x3 x4).2.1) ((laws_toChoice x1 x2 x3 x4).2.2.1) ((laws_toChoice x1 x2 x3 x4).2.2.2) ((laws_toInt16S x0 x5).2))) != (spec_TrainFor ((laws_toInt16S x0 x5).1) ((laws_toChoice x1 x2 x3 x4).1) ((laws_toChoice x1 x2 x3 x4).2.1) ((laws_toChoice x1 x2 x3 x4).2.2.1) ((laws_toChoice x1 x2 x3 x4).2.2.2) ((laws_toInt16S x0 x5).2)).2.1)
                  (.leaf false)
                  (.br (laws_markTrain.ok (1 : Int))
                   (.br (laws_heldTrain.ok (1 : Int))
                    (.br (decide ((laws_heldTrain (1 : Int)) < (0 : Int)))
                     (.leaf false)
                     (.br ((laws_heldTrain (1 : Int)) != (laws_markTrain (1 : Int)))
                      (.leaf false)
                      (.br (laws_toInt16S.ok x0 x5)
                       (.br (impl_TrainFor.ok ((laws_toInt16S x0 x5).1) ((laws_toChoice x1 x2 x3 x4).1) ((laws_toChoice x1 x2 x3 x4).2.1) ((laws_toChoice x1 x2 x3 x4).2.2.1) ((laws_toChoice x1 x2 x3 x4).2.2.2) ((laws_toInt16S x0 x5).2))
                        (.br (Sum.isLeft (impl_TrainFor ((laws_toInt16S x0 x5).1) ((laws_toChoice x1 x2 x3 x4).1) ((laws_toChoice x1 x2 x3 x4).2.1) ((laws_toChoice x1 x2 x3 x4).2.2.1) ((laws_toChoice x1 x2 x3 x4).2.2.2) ((laws_toInt16S x0 x5).2)))
                         (.br (laws_eqTrain.ok ((spec_TrainFor ((laws_toInt16S x0 x5).1) ((laws_toChoice x1 x2 x3 x4).1) ((laws_toChoice x1 x2 x3 x4).2.1) ((laws_toChoice x1 x2 x3 x4).2.2.1) ((laws_toChoice x1 x2 x3 x4).2.2.2) ((laws_toInt16S x0 x5).2)).1) ((spec_TrainFor ((laws_toInt16S x0 x5).1) ((laws_toChoice x1 x2 x3 x4).1) ((laws_toChoice x1 x2 x3 x4).2.1) ((laws_toChoice x1 x2 x3 x4).2.2.1) ((laws_toChoice x1 x2 x3 x4).2.2.2) ((laws_toInt16S x0 x5).2)).2.2))
                          (.br (!(laws_eqTrain ((spec_TrainFor ((laws_toInt16S x0 x5).1) ((laws_toChoice x1 x2 x3 x4).1) ((laws_toChoice x1 x2 x3 x4).2.1) ((laws_toChoice x1 x2 x3 x4).2.2.1) ((laws_toChoice x1 x2 x3 x4).2.2.2) ((laws_toInt16S x0 x5).2)).1) ((spec_TrainFor ((laws_toInt16S x0 x5).1) ((laws_toChoice x1 x2 x3 x4).1) ((laws_toChoice x1 x2 x3 x4).2.1) ((laws_toChoice x1 x2 x3 x4).2.2.1) ((laws_toChoice x1 x2 x3 x4).2.2.2) ((laws_toInt16S x0 x5).2)).2.2)))
                           (.leaf false)
                           (.br ((getLeftD (impl_TrainFor ((laws_toInt16S x0 x5).1) ((laws_toChoice x1 x2 x3 x4).1) ((laws_toChoice x1 x2 x3 x4).2.1) ((laws_toChoice x1 x2 x3 x4).2.2.1) ((laws_toChoice x1 x2 x3 x4).2.2.2) ((laws_toInt16S x0 x5).2))) != (spec_TrainFor ((laws_toInt16S x0 x5).1) ((laws_toChoice x1 x2 x3 x4).1) ((laws_toChoice x1 x2 x3 x4).2.1) ((laws_toChoice x1 x2 x3 x4).2.2.1) ((laws_toChoice x1 x2 x3 x4).2.2.2) ((laws_toInt16S x0 x5).2)).2.1)
                            (.leaf false)
                            (.br (laws_heldTrain.ok (1 : Int))
                             (.br (decide ((laws_heldTrain (1 : Int)) < (0 : Int)))
                              (.leaf false)
                              (.br ((laws_heldTrain (1 : Int)) != (laws_markTrain (1 : Int)))
                               (.leaf false)
                               (.leaf true)))
                             .bad)))
                          .bad)
                         (.br (laws_eqTrain_w1.ok ((getRightD (impl_TrainFor ((laws_toInt16S x0 x5).1) ((laws_toChoice x1 x2 x3 x4).1) ((laws_toChoice x1 x2 x3 x4).2.1) ((laws_toChoice x1 x2 x3 x4).2.2.1) ((laws_toChoice x1 x2 x3 x4).2.2.2) ((laws_toInt16S x0 x5).2))).1) ((spec_TrainFor ((laws_toInt16S x0 x5).1) ((laws_toChoice x1 x2 x3 x4).1) ((laws_toChoice x1 x2 x3 x4).2.1) ((laws_toChoice x1 x2 x3 x4).2.2.1) ((laws_toChoice x1 x2 x3 x4).2.2.2) ((laws_toInt16S x0 x5).2)).1) ((getRightD (impl_TrainFor ((laws_toInt16S x0 x5).1) ((laws_toChoice x1 x2 x3 x4).1) ((laws_toChoice x1 x2 x3 x4).2.1) ((laws_toChoice x1 x2 x3 x4).2.2.1) ((laws_toChoice x1 x2 x3 x4).2.2.2) ((laws_toInt16S x0 x5).2))).2.2) ((spec_TrainFor ((laws_toInt16S x0 x5).1) ((laws_toChoice x1 x2 x3 x4).1) ((laws_toChoice x1 x2 x3 x4).2.1) ((laws_toChoice x1 x2 x3 x4).2.2.1) ((laws_toChoice x1 x2 x3 x4).2.2.2) ((laws_toInt16S x0 x5).2)).2.2))
                          (.br (!(laws_eqTrain_w1 ((getRightD (impl_TrainFor ((laws_toInt16S x0 x5).1) ((laws_toChoice x1 x2 x3 x4).1) ((laws_toChoice x1 x2 x3 x4).2.1) ((laws_toChoice x1 x2 x3 x4).2.2.1) ((laws_toChoice x1 x2 x3 x4).2.2.2) ((laws_toInt16S x0 x5).2))).1) ((spec_TrainFor ((laws_toInt16S x0 x5).1) ((laws_toChoice x1 x2 x3 x4).1) ((laws_toChoice x1 x2 x3 x4).2.1) ((laws_toChoice x1 x2 x3 x4).2.2.1) ((laws_toChoice x1 x2 x3 x4).2.2.2) ((laws_toInt16S x0 x5).2)).1) ((getRightD (impl_TrainFor ((laws_toInt16S x0 x5).1) ((laws_toChoice x1 x2 x3 x4).1) ((laws_toChoice x1 x2 x3 x4).2.1) ((laws_toChoice x1 x2 x3 x4).2.2.1) ((laws_toChoice x1 x2 x3 x4).2.2.2) ((laws_toInt16S x0 x5).2))).2.2) ((spec_TrainFor ((laws_toInt16S x0 x5).1) ((laws_toChoice x1 x2 x3 x4).1) ((laws_toChoice x1 x2 x3 x4).2.1) ((laws_toChoice x1 x2 x3 x4).2.2.1) ((laws_toChoice x1 x2 x3 x4).2.2.2) ((laws_toInt16S x0 x5).2)).2.2)))
                           (.leaf false)
                           (.br ((getRightD (impl_TrainFor ((laws_toInt16S x0 x5).1) ((laws_toChoice x1 x2 x3 x4).1) ((laws_toChoice x1 x2 x3 x4).2.1) ((laws_toChoice x1 x2 x3 x4).2.2.1) ((laws_toChoice x1 x2 x3 x4).2.2.2) ((laws_toInt16S x0 x5).2))).2.1 != (spec_TrainFor ((laws_toInt16S x0 x5).1) ((laws_toChoice x1 x2 x3 x4).1) ((laws_toChoice x1 x2 x3 x4).2.1) ((laws_toChoice x1 x2 x3 x4).2.2.1) ((laws_toChoice x1 x2 x3 x4).2.2.2) ((laws_toInt16S x0 x5).2)).2.1)
                            (.leaf false)
                            (.br (laws_heldTrain.ok (1 : Int))
                             (.br (decide ((laws_heldTrain (1 : Int)) < (0 : Int)))
                              (.leaf false)
                              (.br ((laws_heldTrain (1 : Int)) != (laws_markTrain (1 : Int)))
                               (.leaf false)
                               (.leaf true)))
                             .bad)))
                          .bad))
                        .bad)
                       .bad)))
                    .bad)
                   .bad)))
                .bad))
              .bad))
            .bad)
           .bad)))
        .bad)
       (.br (laws_eqTrain_w1.ok ((getRightD (impl_TrainFor ((laws_toInt16S x0 x5).1) ((laws_toChoice x1 x2 x3 x4).1) ((laws_toChoice x1 x2 x3 x4).2.1) ((laws_toChoice x1 x2 x3 x4).2.2.1) ((laws_toChoice x1 x2 x3 x4).2.2.2) ((laws_toInt16S x0 x5).2))).1) ((spec_TrainFor ((laws_toInt16S x0 x5).1) ((laws_toChoice x1 x2 x3 x4).1) ((laws_toChoice x1 x2 x3 x4).2.1) ((laws_toChoice x1 x2 x3 x4).2.2.1) ((laws_toChoice x1 x2 x3 x4).2.2.2) ((laws_toInt16S x0 x5).2)).1) ((getRightD (impl_TrainFor ((laws_toInt16S x0 x5).1) ((laws_toChoice x1 x2 x3 x4).1) ((laws_toChoice x1 x2 x3 x4).2.1) ((laws_toChoice x1 x2 x3 x4).2.2.1) ((laws_toChoice x1 x2 x3 x4).2.2.2) ((laws_toInt16S x0 x5).2))).2.2) ((spec_TrainFor ((laws_toInt16S x0 x5).1) ((laws_toChoice x1 x2 x3 x4).1) ((laws_toChoice x1 x2 x3 x4).2.1) ((laws_toChoice x1 x2 x3 x4).2.2.1) ((laws_toChoice x1 x2 x3 x4).2.2.2) ((laws_toInt16S x0 x5).2)).2.2))
        (.br (!(laws_eqTrain_w1 ((getRightD (impl_TrainFor ((laws_toInt16S x0 x5).1) ((laws_toChoice x1 x2 x3 x4).1) ((laws_toChoice x1 x2 x3 x4).2.1) ((laws_toChoice x1 x2 x3 x4).2.2.1) ((laws_toChoice x1 x2 x3 x4).2.2.2) ((laws_toInt16S x0 x5).2))).1) ((spec_TrainFor ((laws_toInt16S x0 x5).1) ((laws_toChoice x1 x2 x3 x4).1) ((laws_toChoice x1 x2 x3 x4).2.1) ((laws_toChoice x1 x2 x3 x4).2.2.1) ((laws_toChoice x1 x2 x3 x4).2.2.2) ((laws_toInt16S x0 x5).2)).1) ((getRightD (impl_TrainFor ((laws_toInt16S x0 x5).1) ((laws_toChoice x1 x2 x3 x4).1) ((laws_toChoice x1 x2 x3 x4).2.1) ((laws_toChoice x1 x2 x3 x4).2.2.1) ((laws_toChoice x1 x2 x3 x4).2.2.2) ((laws_toInt16S x0 x5).2))).2.2) ((spec_TrainFor ((laws_toInt16S x0 x5).1) ((laws_toChoice x1 x2 x3 x4).1) ((laws_toChoice x1 x2 x3 x4).2.1) ((laws_toChoice x1 x2 x3 x4).2.2.1) ((laws_toChoice x1 x2 x3 x4).2.2.2) ((laws_toInt16S x0 x5).2)).2.2)))
         (.leaf false)
         (.br ((getRightD (impl_TrainFor ((laws_toInt16S x0 x5).1) ((laws_toChoice x1 x2 x3 x4).1) ((laws_toChoice x1 x2 x3 x4).2.1) ((laws_toChoice x1 x2 x3 x4).2.2.1) ((laws_toChoice x1 x2 x3 x4).2.2.2) ((laws_toInt16S x0 x5).2))).2.1 != (spec_TrainFor ((laws_toInt16S x0 x5).1) ((laws_toChoice x1 x2 x3 x4).1) ((laws_toChoice x1 x2 x3 x4).2.1) ((laws_toChoice x1 x2 x3 x4).2.2.1) ((laws_toChoice x1 x2 x3 x4).2.2.2) ((laws_toInt16S x0 x5).2)).2.1)
          (.leaf false)
          (.br (laws_toInt16S.ok x0 x5)
           (.br (laws_eqInt16S.ok ((laws_toInt16S x0 x5).1) ((laws_toInt16S x0 x5).1) ((laws_toInt16S x0 x5).2) ((laws_toInt16S x0 x5).2))
            (.br (!(laws_eqInt16S ((laws_toInt16S x0 x5).1) ((laws_toInt16S x0 x5).1) ((laws_toInt16S x0 x5).2) ((laws_toInt16S x0 x5).2)))
             (.leaf false)
             (.br (laws_markInt16S.ok ((laws_toInt16S x0 x5).1) (1 : Int) ((laws_toInt16S x0 x5).2))
              (.br (decide ((laws_markInt16S ((laws_toInt16S x0 x5).1) (1 : Int) ((laws_toInt16S x0 x5).2)).1 < (0 : Int)))
               (.leaf false)
               (.br (laws_eqTrain_w1.ok ((getRightD (impl_TrainFor ((laws_toInt16S x0 x5).1) ((laws_toChoice x1 x2 x3 x4).1) ((laws_toChoice x1 x2 x3 x4).2.1) ((laws_toChoice x1 x2 x3 x4).2.2.1) ((laws_toChoice x1 x2 x3 x4).2.2.2) ((laws_toInt16S x0 x5).2))).1) ((spec_TrainFor ((laws_toInt16S x0 x5).1) ((laws_toChoice x1 x2 x3 x4).1) ((laws_toChoice x1 x2 x3 x4).2.1) ((laws_toChoice x1 x2 x3 x4).2.2.1) ((laws_toChoice x1 x2 x3 x4).2.2.2) ((laws_toInt16S x0 x5).2)).1) ((getRightD (impl_TrainFor ((laws_toInt16S x0 x5).1) ((laws_toChoice x1 x2 x3 x4).1) ((laws_toChoice x1 x2 x3 x4).2.1) ((laws_toChoice x1 x2 x3 x4).2.2.1) ((laws_toChoice x1 x2 x3 x4).2.2.2) ((laws_toInt16S x0 x5).2))).2.2) ((spec_TrainFor ((laws_toInt16S x0 x5).1) ((laws_toChoice x1 x2 x3 x4).1) ((laws_toChoice x1 x2 x3 x4).2.1) ((laws_toChoice x1 x2 x3 x4).2.2.1) ((laws_toChoice x1 x2 x3 x4).2.2.2) ((laws_toInt16S x0 x5).2)).2.2))
                (.br (!(laws_eqTrain_w1 ((getRightD (impl_TrainFor ((laws_toInt16S x0 x5).1) ((laws_toChoice x1 x2 x3 x4).1) ((laws_toChoice x1 x2 x3 x4).2.1) ((laws_toChoice x1 x2 x3 x4).2.2.1) ((laws_toChoice x1 x2 x3 x4).2.2.2) ((laws_toInt16S x0 x5).2))).1) ((spec_TrainFor ((laws_toInt16S x0 x5).1) ((laws_toChoice x1 x2 x3 x4).1) ((laws_toChoice x1 x2 x3 x4).2.1) ((laws_toChoice x1 x2 x3 x4).2.2.1) ((laws_toChoice x1 x2 x3 x4).2.2.2) ((laws_toInt16S x0 x5).2)).1) ((getRightD (impl_TrainFor ((laws_toInt16S x0 x5).1) ((laws_toChoice x1 x2 x3 x4).1) ((laws_toChoice x1 x2 x3 x4).2.1) ((laws_toChoice x1 x2 x3 x4).2.2.1) ((laws_toChoice x1 x2 x3 x4).2.2.2) ((laws_toInt16S x0 x5).2))).2.2) ((spec_TrainFor ((laws_toInt16S x0 x5).1) ((laws_toChoice x1 x2 x3 x4).1) ((laws_toChoice x1 x2 x3 x4).2.1) ((laws_toChoice x1 x2 x3 x4).2.2.1) ((laws_toChoice x1 x2 x3 x4).2.2.2) ((laws_toInt16S x0 x5).2)).2.2)))
                 (.leaf false)
                 (.br ((getRightD (impl_TrainFor ((laws_toInt16S x0 x5).1) ((laws_toChoice x1 x2 x3 x4).1) ((laws_toChoice x1 x2 x3 x4).2.1) ((laws_toChoice x1 x2 x3 x4).2.2.1) ((laws_toChoice x1 x2 x3 x4).2.2.2) ((laws_toInt16S x0 x5).2))).2.1 != (spec_TrainFor ((laws_toInt16S x0 x5).1) ((laws_toChoice x1 x2 x3 x4).1) ((laws_toChoice x1 x2 x3 x4).2.1) ((laws_toChoice x1 x2 x3 x4).2.2.1) ((laws_toChoice x1 x2 x3 x4).2.2.2) ((laws_toInt16S x0 x5).2)).2.1)
                  (.leaf false)
                  (.br (laws_markTrain_w1.ok ((getRightD (impl_TrainFor ((laws_toInt16S x0 x5).1) ((laws_toChoice x1 x2 x3 x4).1) ((laws_toChoice x1 x2 x3 x4).2.1) ((laws_toChoice x1 x2 x3 x4).2.2.1) ((laws_toChoice x1 x2 x3 x4).2.2.2) ((laws_toInt16S x0 x5).2))).1) (1 : Int) ((getRightD (impl_TrainFor ((laws_toInt16S x0 x5).1) ((laws_toChoice x1 x2 x3 x4).1) ((laws_toChoice x1 x2 x3 x4).2.1) ((laws_toChoice x1 x2 x3 x4).2.2.1) ((laws_toChoice x1 x2 x3 x4).2.2.2) ((laws_toInt16S x0 x5).2))).2.2))
                   (.br (laws_heldTrain_w1.ok ((getRightD (impl_TrainFor ((laws_toInt16S x0 x5).1) ((laws_toChoice x1 x2 x3 x4).1) ((laws_toChoice x1 x2 x3 x4).2.1) ((laws_toChoice x1 x2 x3 x4).2.2.1) ((laws_toChoice x1 x2 x3 x4).2.2.2) ((laws_toInt16S x0 x5).2))).1) (1 : Int) ((laws_markTrain_w1 ((getRightD (impl_TrainFor ((laws_toInt16S x0 x5).1) ((laws_toChoice x1 x2 x3 x4).1) ((laws_toChoice x1 x2 x3 x4).2.1) ((laws_toChoice x1 x2 x3 x4).2.2.1) ((laws_toChoice x1 x2 x3 x4).2.2.2) ((laws_toInt16S x0 x5).2))).1) (1 : Int) ((getRightD (impl_TrainFor ((laws_toInt16S x0 x5).1) ((laws_toChoice x1 x2 x3 x4).1) ((laws_toChoice x1 x2 x3 x4).2.1) ((laws_toChoice x1 x2 x3 x4).2.2.1) ((laws_toChoice x1 x2 x3 x4).2.2.2) ((laws_toInt16S x0 x5).2))).2.2)).2))
                    (.br (decide ((laws_heldTrain_w1 ((getRightD (impl_TrainFor ((laws_toInt16S x0 x5).1) ((laws_toChoice x1 x2 x3 x4).1) ((laws_toChoice x1 x2 x3 x4).2.1) ((laws_toChoice x1 x2 x3 x4).2.2.1) ((laws_toChoice x1 x2 x3 x4).2.2.2) ((laws_toInt16S x0 x5).2))).1) (1 : Int) ((laws_markTrain_w1 ((getRightD (impl_TrainFor ((laws_toInt16S x0 x5).1) ((laws_toChoice x1 x2 x3 x4).1) ((laws_toChoice x1 x2 x3 x4).2.1) ((laws_toChoice x1 x2 x3 x4).2.2.1) ((laws_toChoice x1 x2 x3 x4).2.2.2) ((laws_toInt16S x0 x5).2))).1) (1 : Int) ((getRightD (impl_TrainFor ((laws_toInt16S x0 x5).1) ((laws_toChoice x1 x2 x3 x4).1) ((laws_toChoice x1 x2 x3 x4).2.1) ((laws_toChoice x1 x2 x3 x4).2.2.1) ((laws_toChoice x1 x2 x3 x4).2.2.2) ((laws_toInt16S x0 x5).2))).2.2)).2)) < (0 : Int)))
                     (.leaf false)
                     (.br ((laws_heldTrain_w1 ((getRightD (impl_TrainFor ((laws_toInt16S x0 x5).1) ((laws_toChoice x1 x2 x3 x4).1) ((laws_toChoice x1 x2 x3 x4).2.1) ((laws_toChoice x1 x2 x3 x4).2.2.1) ((laws_toChoice x1 x2 x3 x4).2.2.2) ((laws_toInt16S x0 x5).2))).1) (1 : Int) ((laws_markTrain_w1 ((getRightD (impl_TrainFor ((laws_toInt16S x0 x5).1) ((laws_toChoice x1 x2 x3 x4).1) ((laws_toChoice x1 x2 x3 x4).2.1) ((laws_toChoice x1 x2 x3 x4).2.2.1) ((laws_toChoice x1 x2 x3 x4).2.2.2) ((laws_toInt16S x0 x5).2))).1) (1 : Int) ((getRightD (impl_TrainFor ((laws_toInt16S x0 x5).1) ((laws_toChoice x1 x2 x3 x4).1) ((laws_toChoice x1 x2 x3 x4).2.1) ((laws_toChoice x1 x2 x3 x4).2.2.1) ((laws_toChoice x1 x2 x3 x4).2.2.2) ((laws_toInt16S x0 x5).2))).2.2)).2)) != (laws_markTrain_w1 ((getRightD (impl_TrainFor ((laws_toInt16S x0 x5).1) ((laws_toChoice x1 x2 x3 x4).1) ((laws_toChoice x1 x2 x3 x4).2.1) ((laws_toChoice x1 x2 x3 x4).2.2.1) ((laws_toChoice x1 x2 x3 x4).2.2.2) ((laws_toInt16S x0 x5).2))).1) (1 : Int) ((getRightD (impl_TrainFor ((laws_toInt16S x0 x5).1) ((laws_toChoice x1 x2 x3 x4).1) ((laws_toChoice x1 x2 x3 x4).2.1) ((laws_toChoice x1 x2 x3 x4).2.2.1) ((laws_toChoice x1 x2 x3 x4).2.2.2) ((laws_toInt16S x0 x5).2))).2.2)).1)
                      (.leaf false)
                      (.br (laws_toInt16S.ok x0 x5)
                       (.br (impl_TrainFor.ok ((laws_toInt16S x0 x5).1) ((laws_toChoice x1 x2 x3 x4).1) ((laws_toChoice x1 x2 x3 x4).2.1) ((laws_toChoice x1 x2 x3 x4).2.2.1) ((laws_toChoice x1 x2 x3 x4).2.2.2) ((laws_toInt16S x0 x5).2))
                        (.br (Sum.isLeft (impl_TrainFor ((laws_toInt16S x0 x5).1) ((laws_toChoice x1 x2 x3 x4).1) ((laws_toChoice x1 x2 x3 x4).2.1) ((laws_toChoice x1 x2 x3 x4).2.2.1) ((laws_toChoice x1 x2 x3 x4).2.2.2) ((laws_toInt16S x0 x5).2)))
                         (.br (laws_eqTrain.ok ((spec_TrainFor ((laws_toInt16S x0 x5).1) ((laws_toChoice x1 x2 x3 x4).1) ((laws_toChoice x1 x2 x3 x4).2.1) ((laws_toChoice x1 x2 x3 x4).2.2.1) ((laws_toChoice x1 x2 x3 x4).2.2.2) ((laws_toInt16S x0 x5).2)).1) ((spec_TrainFor ((laws_toInt16S x0 x5).1) ((laws_toChoice x1 x2 x3 x4).1) ((laws_toChoice x1 x2 x3 x4).2.1) ((laws_toChoice x1 x2 x3 x4).2.2.1) ((laws_toChoice x1 x2 x3 x4).2.2.2) ((laws_toInt16S x0 x5).2)).2.2))
                          (.br (!(laws_eqTrain ((spec_TrainFor ((laws_toInt16S x0 x5).1) ((laws_toChoice x1 x2 x3 x4).1) ((laws_toChoice x1 x2 x3 x4).2.1) ((laws_toChoice x1 x2 x3 x4).2.2.1) ((laws_toChoice x1 x2 x3 x4).2.2.2) ((laws_toInt16S x0 x5).2)).1) ((spec_TrainFor ((laws_toInt16S x0 x5).1) ((laws_toChoice x1 x2 x3 x4).1) ((laws_toChoice x1 x2 x3 x4).2.1) ((laws_toChoice x1 x2 x3 x4).2.2.1) ((laws_toChoice x1 x2 x3 x4).2.2.2) ((laws_toInt16S x0 x5).2)).2.2)))
                           (.leaf false)
                           (.br ((getLeftD (impl_TrainFor ((laws_toInt16S x0 x5).1) ((laws_toChoice x1 x2 x3 x4).1) ((laws_toChoice x1 x2 x3 x4).2.1) ((laws_toChoice x1 x2 x3 x4).2.2.1) ((laws_toChoice x1 x2 x3 x4).2.2.2) ((laws_toInt16S x0 x5).2))) != (spec_TrainFor ((laws_toInt16S x0 x5).1) ((laws_toChoice x1 x2 x3 x4).1) ((laws_toChoice x1 x2 x3 x4).2.1) ((laws_toChoice x1 x2 x3 x4).2.2.1) ((laws_toChoice x1 x2 x3 x4).2.2.2) ((laws_toInt16S x0 x5).2)).2.1)
                            (.leaf false)
                            (.br (laws_heldTrain_w1.ok ((getRightD (impl_TrainFor ((laws_toInt16S x0 x5).1) ((laws_toChoice x1 x2 x3 x4).1) ((laws_toChoice x1 x2 x3 x4).2.1) ((laws_toChoice x1 x2 x3 x4).2.2.1) ((laws_toChoice x1 x2 x3 x4).2.2.2) ((laws_toInt16S x0 x5).2))).1) (1 : Int) ((laws_markTrain_w1 ((getRightD (impl_TrainFor ((laws_toInt16S x0 x5).1) ((laws_toChoice x1 x2 x3 x4).1) ((laws_toChoice x1 x2 x3 x4).2.1) ((laws_toChoice x1 x2 x3 x4).2.2.1) ((laws_toChoice x1 x2 x3 x4).2.2.2) ((laws_toInt16S x0 x5).2))).1) (1 : Int) ((getRightD (impl_TrainFor ((laws_toInt16S x0 x5).1) ((laws_toChoice x1 x2 x3 x4).1) ((laws_toChoice x1 x2 x3 x4).2.1) ((laws_toChoice x1 x2 x3 x4).2.2.1) ((laws_toChoice x1 x2 x3 x4).2.2.2) ((laws_toInt16S x0 x5).2))).2.2)).2))
                             (.br (decide ((laws_heldTrain_w1 ((getRightD (impl_TrainFor ((laws_toInt16S x0 x5).1) ((laws_toChoice x1 x2 x3 x4).1) ((laws_toChoice x1 x2 x3 x4).2.1) ((laws_toChoice x1 x2 x3 x4).2.2.1) ((laws_toChoice x1 x2 x3 x4).2.2.2) ((laws_toInt16S x0 x5).2))).1) (1 : Int) ((laws_markTrain_w1 ((getRightD (impl_TrainFor ((laws_toInt16S x0 x5).1) ((laws_toChoice x1 x2 x3 x4).1) ((laws_toChoice x1 x2 x3 x4).2.1) ((laws_toChoice x1 x2 x3 x4).2.2.1) ((laws_toChoice x1 x2 x3 x4).2.2.2) ((laws_toInt16S x0 x5).2))).1) (1 : Int) ((getRightD (impl_TrainFor ((laws_toInt16S x0 x5).1) ((laws_toChoice x1 x2 x3 x4).1) ((laws_toChoice x1 x2 x3 x4).2.1) ((laws_toChoice x1 x2 x3 x4).2.2.1) ((laws_toChoice x1 x2 x3 x4).2.2.2) ((laws_toInt16S x0 x5).2))).2.2)).2)) < (0 : Int)))
                              (.leaf false)
                              (.br ((laws_heldTrain_w1 ((getRightD (impl_TrainFor ((laws_toInt16S x0 x5).1) ((laws_toChoice x1 x2 x3 x4).1) ((laws_toChoice x1 x2 x3 x4).2.1) ((laws_toChoice x1 x2 x3 x4).2.2.1) ((laws_toChoice x1 x2 x3 x4).2.2.2) ((laws_toInt16S x0 x5).2))).1) (1 : Int) ((laws_markTrain_w1 ((getRightD (impl_TrainFor ((laws_toInt16S x0 x5).1) ((laws_toChoice x1 x2 x3 x4).1) ((laws_toChoice x1 x2 x3 x4).2.1) ((laws_toChoice x1 x2 x3 x4).2.2.1) ((laws_toChoice x1 x2 x3 x4).2.2.2) ((laws_toInt16S x0 x5).2))).1) (1 : Int) ((getRightD (impl_TrainFor ((laws_toInt16S x0 x5).1) ((laws_toChoice x1 x2 x3 x4).1) ((laws_toChoice x1 x2 x3 x4).2.1) ((laws_toChoice x1 x2 x3 x4).2.2.1) ((laws_toChoice x1 x2 x3 x4).2.2.2) ((laws_toInt16S x0 x5).2))).2.2)).2)) != (laws_markTrain_w1 ((getRightD (impl_TrainFor ((laws_toInt16S x0 x5).1) ((laws_toChoice x1 x2 x3 x4).1) ((laws_toChoice x1 x2 x3 x4).2.1) ((laws_toChoice x1 x2 x3 x4).2.2.1) ((laws_toChoice x1 x2 x3 x4).2.2.2) ((laws_toInt16S x0 x5).2))).1) (1 : Int) ((getRightD (impl_TrainFor ((laws_toInt16S x0 x5).1) ((laws_toChoice x1 x2 x3 x4).1) ((laws_toChoice x1 x2 x3 x4).2.1) ((laws_toChoice x1 x2 x3 x4).2.2.1) ((laws_toChoice x1 x2 x3 x4).2.2.2) ((laws_toInt16S x0 x5).2))).2.2)).1)
                               (.leaf false)
                               (.leaf true)))
                             .bad)))
                          .bad)
                         (.br (laws_eqTrain_w1.ok ((getRightD (impl_TrainFor ((laws_toInt16S x0 x5).1) ((laws_toChoice x1 x2 x3 x4).1) ((laws_toChoice x1 x2 x3 x4).2.1) ((laws_toChoice x1 x2 x3 x4).2.2.1) ((laws_toChoice x1 x2 x3 x4).2.2.2) ((laws_toInt16S x0 x5).2))).1) ((spec_TrainFor ((laws_toInt16S x0 x5).1) ((laws_toChoice x1 x2 x3 x4).1) ((laws_toChoice x1 x2 x3 x4).2.1) ((laws_toChoice x1 x2 x3 x4).2.2.1) ((laws_toChoice x1 x2 x3 x4).2.2.2) ((laws_toInt16S x0 x5).2)).1) ((getRightD (impl_TrainFor ((laws_toInt16S x0 x5).1) ((laws_toChoice x1 x2 x3 x4).1) ((laws_toChoice x1 x2 x3 x4).2.1) ((laws_toChoice x1 x2 x3 x4).2.2.1) ((laws_toChoice x1 x2 x3 x4).2.2.2) ((laws_toInt16S x0 x5).2))).2.2) ((spec_TrainFor ((laws_toInt16S x0 x5).1) ((laws_toChoice x1 x2 x3 x4).1) ((laws_toChoice x1 x2 x3 x4).2.1) ((laws_toChoice x1 x2 x3 x4).2.2.1) ((laws_toChoice x1 x2 x3 x4).2.2.2) ((laws_toInt16S x0 x5).2)).2.2))
                          (.br (!(laws_eqTrain_w1 ((getRightD (impl_TrainFor ((laws_toInt16S x0 x5).1) ((laws_toChoice x1 x2 x3 x4).1) ((laws_toChoice x1 x2 x3 x4).2.1) ((laws_toChoice x1 x2 x3 x4).2.2.1) ((laws_toChoice x1 x2 x3 x4).2.2.2) ((laws_toInt16S x0 x5).2))).1) ((spec_TrainFor ((laws_toInt16S x0 x5).1) ((laws_toChoice x1 x2 x3 x4).1) ((laws_toChoice x1 x2 x3 x4).2.1) ((laws_toChoice x1 x2 x3 x4).2.2.1) ((laws_toChoice x1 x2 x3 x4).2.2.2) ((laws_toInt16S x0 x5).2)).1) ((getRightD (impl_TrainFor ((laws_toInt16S x0 x5).1) ((laws_toChoice x1 x2 x3 x4).1) ((laws_toChoice x1 x2 x3 x4).2.1) ((laws_toChoice x1 x2 x3 x4).2.2.1) ((laws_toChoice x1 x2 x3 x4).2.2.2) ((laws_toInt16S x0 x5).2))).2.2) ((spec_TrainFor ((laws_toInt16S x0 x5).1) ((laws_toChoice x1 x2 x3 x4).1) ((laws_toChoice x1 x2 x3 x4).2.1) ((laws_toChoice x1 x2 x3 x4).2.2.1) ((laws_toChoice x1 x2 x3 x4).2.2.2) ((laws_toInt16S x0 x5).2)).2.2)))
                           (.leaf false)
                           (.br ((getRightD (impl_TrainFor ((laws_toInt16S x0 x5).1) ((laws_toChoice x1 x2 x3 x4).1) ((laws_toChoice x1 x2 x3 x4).2.1) ((laws_toChoice x1 x2 x3 x4).2.2.1) ((laws_toChoice x1 x2 x3 x4).2.2.2) ((laws_toInt16S x0 x5).2))).2.1 != (spec_TrainFor ((laws_toInt16S x0 x5).1) ((laws_toChoice x1 x2 x3 x4).1) ((laws_toChoice x1 x2 x3 x4).2.1) ((laws_toChoice x1 x2 x3 x4).2.2.1) ((laws_toChoice x1 x2 x3 x4).2.2.2) ((laws_toInt16S x0 x5).2)).2.1)
                            (.leaf false)
                            (.br (laws_heldTrain_w1.ok ((getRightD (impl_TrainFor ((laws_toInt16S x0 x5).1) ((laws_toChoice x1 x2 x3 x4).1) ((laws_toChoice x1 x2 x3 x4).2.1) ((laws_toChoice x1 x2 x3 x4).2.2.1) ((laws_toChoice x1 x2 x3 x4).2.2.2) ((laws_toInt16S x0 x5).2))).1) (1 : Int) ((laws_markTrain_w1 ((getRightD (impl_TrainFor ((laws_toInt16S x0 x5).1) ((laws_toChoice x1 x2 x3 x4).1) ((laws_toChoice x1 x2 x3 x4).2.1) ((laws_toChoice x1 x2 x3 x4).2.2.1) ((laws_toChoice x1 x2 x3 x4).2.2.2) ((laws_toInt16S x0 x5).2))).1) (1 : Int) ((getRightD (impl_TrainFor ((laws_toInt16S x0 x5).1) ((laws_toChoice x1 x2 x3 x4).1) ((laws_toChoice x1 x2 x3 x4).2.1) ((laws_toChoice x1 x2 x3 x4).2.2.1) ((laws_toChoice x1 x2 x3 x4).2.2.2) ((laws_toInt16S x0 x5).2))).2.2)).2))
                             (.br (decide ((laws_heldTrain_w1 ((getRightD (impl_TrainFor ((laws_toInt16S x0 x5).1) ((laws_toChoice x1 x2 x3 x4).1) ((laws_toChoice x1 x2 x3 x4).2.1) ((laws_toChoice x1 x2 x3 x4).2.2.1) ((laws_toChoice x1 x2 x3 x4).2.2.2) ((laws_toInt16S x0 x5).2))).1) (1 : Int) ((laws_markTrain_w1 ((getRightD (impl_TrainFor ((laws_toInt16S x0 x5).1) ((laws_toChoice x1 x2 x3 x4).1) ((laws_toChoice x1 x2 x3 x4).2.1) ((laws_toChoice x1 x2 x3 x4).2.2.1) ((laws_toChoice x1 x2 x3 x4).2.2.2) ((laws_toInt16S x0 x5).2))).1) (1 : Int) ((getRightD (impl_TrainFor ((laws_toInt16S x0 x5).1) ((laws_toChoice x1 x2 x3 x4).1) ((laws_toChoice x1 x2 x3 x4).2.1) ((laws_toChoice x1 x2 x3 x4).2.2.1) ((laws_toChoice x1 x2 x3 x4).2.2.2) ((laws_toInt16S x0 x5).2))).2.2)).2)) < (0 : Int)))
                              (.leaf false)
                              (.br ((laws_heldTrain_w1 ((getRightD (impl_TrainFor ((laws_toInt16S x0 x5).1) ((laws_toChoice x1 x2 x3 x4).1) ((laws_toChoice x1 x2 x3 x4).2.1) ((laws_toChoice x1 x2 x3 x4).2.2.1) ((laws_toChoice x1 x2 x3 x4).2.2.2) ((laws_toInt16S x0 x5).2))).1) (1 : Int) ((laws_markTrain_w1 ((getRightD (impl_TrainFor ((laws_toInt16S x0 x5).1) ((laws_toChoice x1 x2 x3 x4).1) ((laws_toChoice x1 x2 x3 x4).2.1) ((laws_toChoice x1 x2 x3 x4).2.2.1) ((laws_toChoice x1 x2 x3 x4).2.2.2) ((laws_toInt16S x0 x5).2))).1) (1 : Int) ((getRightD (impl_TrainFor ((laws_toInt16S x0 x5).1) ((laws_toChoice x1 x2 x3 x4).1) ((laws_toChoice x1 x2 x3 x4).2.1) ((laws_toChoice x1 x2 x3 x4).2.2.1) ((laws_toChoice x1 x2 x3 x4).2.2.2) ((laws_toInt16S x0 x5).2))).2.2)).2)) != (laws_markTrain_w1 ((getRightD (impl_TrainFor ((laws_toInt16S x0 x5).1) ((laws_toChoice x1 x2 x3 x4).1) ((laws_toChoice x1 x2 x3 x4).2.1) ((laws_toChoice x1 x2 x3 x4).2.2.1) ((laws_toChoice x1 x2 x3 x4).2.2.2) ((laws_toInt16S x0 x5).2))).1) (1 : Int) ((getRightD (impl_TrainFor ((laws_toInt16S x0 x5).1) ((laws_toChoice x1 x2 x3 x4).1) ((laws_toChoice x1 x2 x3 x4).2.1) ((laws_toChoice x1 x2 x3 x4).2.2.1) ((laws_toChoice x1 x2 x3 x4).2.2.2) ((laws_toInt16S x0 x5).2))).2.2)).1)
                               (.leaf false)
                               (.leaf true)))
                             .bad)))
                          .bad))
                        .bad)
                       .bad)))
                    .bad)
                   .bad)))
                .bad))
              .bad))
            .bad)
           .bad)))
        .bad))
      .bad)
     .bad)
    .bad)
   .bad)
noncomputable def laws_FnExactTrainFor (x0 : Nat) (x1 : Int) (x2 : Int) (x3 : Int) (x4 : Int) (x5 : List Int) : Bool := (laws_FnExactTrainFor.t x0 x1 x2 x3 x4 x5).val
noncomputable def laws_FnExactTrainFor.ok (x0 : Nat) (x1 : Int) (x2 : Int) (x3 : Int) (x4 : Int) (x5 : List Int) : Bool := (laws_FnExactTrainFor.t x0 x1 x2 x3 x4 x5).ok
def laws_FnExactTrainFor.cd : Cd (Nat × Int × Int × Int × Int × List Int) (List V × Hp) := Cd.iso (Cd.pair (Cd.cons (Cd.sl 0 (Cd.natc 0)) (Cd.cons (Cd.agg (Cd.cons (Cd.it .i16) (Cd.cons (Cd.it .i16) (Cd.cons (Cd.it .i16) (Cd.cons (Cd.it .i16) Cd.nil))))) Cd.nil)) (Cd.cons (Cd.ro 0 0 (Cd.is .i16)) Cd.nil)) (fun a => (a.1.1.2, a.1.2.1.1, a.1.2.1.2.1, a.1.2.1.2.2.1, a.1.2.1.2.2.2.1, a.2.1)) (fun a => ((((), a.1), ((a.2.1, (a.2.2.1, (a.2.2.2.1, (a.2.2.2.2.1, ())))), ())), (a.2.2.2.2.2, ()))) (fun _ => rfl)
noncomputable def laws_FnExactTrainFor.tr (a : Nat × Int × Int × Int × Int × List Int) : T Bool := laws_FnExactTrainFor.t a.1 a.2.1 a.2.2.1 a.2.2.2.1 a.2.2.2.2.1 a.2.2.2.2.2
def laws_FnExactTrainFor.enc : (Nat × Int × Int × Int × Int × List Int) → Bool → V := fun a r => .bo r
noncomputable def laws_FnExactTrainFor.c : List V → Hp → T V := cdQ laws_FnExactTrainFor.cd (fun a => .br (laws_FnExactTrainFor.ok a.1 a.2.1 a.2.2.1 a.2.2.2.1 a.2.2.2.2.1 a.2.2.2.2.2) (.leaf (laws_FnExactTrainFor.enc a (laws_FnExactTrainFor a.1 a.2.1 a.2.2.1 a.2.2.2.1 a.2.2.2.2.1 a.2.2.2.2.2))) .bad)
theorem laws_FnExactTrainFor.run (a : Nat × Int × Int × Int × Int × List Int) : runF laws_FnExactTrainFor.C Try.f14.results.toList laws_FnExactTrainFor.b (laws_FnExactTrainFor.cd.enc a).1 (laws_FnExactTrainFor.cd.enc a).2 = (laws_FnExactTrainFor.tr a).map fun r => (laws_FnExactTrainFor.enc a r, (laws_FnExactTrainFor.cd.enc a).2) := by kernel_rfl
theorem laws_FnExactTrainFor.cok : OKq Try.prog 14 laws_FnExactTrainFor.c := con_q' laws_FnExactTrainFor.cd laws_FnExactTrainFor.hC Try.func14 (by kernel_rfl) (by kernel_rfl) (by kernel_rfl) laws_FnExactTrainFor.lp (fun a => by kernel_rfl) laws_FnExactTrainFor.run (Tells.ok (tree := laws_FnExactTrainFor.tr))
theorem laws_FnExactTrainFor.walk (a : Nat × Int × Int × Int × Int × List Int) (h : (laws_FnExactTrainFor.tr a).get = some true) {ρ : Nat → Option Sx.Loc} {w : World} {vs : List Value} (hargs : V.Rs ρ (laws_FnExactTrainFor.cd.enc a).1 vs) (hh : HpR ρ (laws_FnExactTrainFor.cd.enc a).2 w) :
    Calls Try.prog 14 vs.toArray w fun e w' => e = .returned (.bool true) ∧ Below w.heap.size w w' :=
  law_cd laws_FnExactTrainFor.cd laws_FnExactTrainFor.hC Try.func14 (by kernel_rfl) (by kernel_rfl) laws_FnExactTrainFor.lp (fun a => by kernel_rfl) laws_FnExactTrainFor.run (fun a => by kernel_rfl) a (by kernel_rfl) h hargs hh
end Go.Proofs.Ythllapodgemlfaa
