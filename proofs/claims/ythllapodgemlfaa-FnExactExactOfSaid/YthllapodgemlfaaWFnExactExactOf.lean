/- The walk of FnExactExactOf: what each function that it comes to computes, as a tree of tests. -/
import Derived.Test.YthllapodgemlfaaSxP
import Derived.Test.YthllapodgemlfaaChecked
namespace Go.Proofs.Ythllapodgemlfaa
open Go Go.RowKit Sx
set_option linter.unusedVariables false
set_option maxRecDepth 100000
set_option maxHeartbeats 0
noncomputable def ti1 : TI := ⟨Try.t1.desc, 1, 8, [.nf]⟩
theorem ti1_ok : TyOK Try.prog 1 ti1 := TyOK.of (inf := Try.t1) Try.underlying1 (by kernel_rfl) (by kernel_rfl) (by kernel_rfl) (by kernel_rfl)
noncomputable def ti2 : TI := ⟨Try.t2.desc, 1, 8, [.it .i64 (0 : Int)]⟩
theorem ti2_ok : TyOK Try.prog 2 ti2 := TyOK.of (inf := Try.t2) Try.underlying2 (by kernel_rfl) (by kernel_rfl) (by kernel_rfl) (by kernel_rfl)
noncomputable def ti3 : TI := ⟨Try.t3.desc, 1, 8, [.it .i64 (0 : Int)]⟩
theorem ti3_ok : TyOK Try.prog 3 ti3 := TyOK.of (inf := Try.t3) Try.underlying3 (by kernel_rfl) (by kernel_rfl) (by kernel_rfl) (by kernel_rfl)
noncomputable def ti4 : TI := ⟨Try.t4.desc, 1, 1, [.kb false]⟩
theorem ti4_ok : TyOK Try.prog 4 ti4 := TyOK.of (inf := Try.t4) Try.underlying4 (by kernel_rfl) (by kernel_rfl) (by kernel_rfl) (by kernel_rfl)
noncomputable def ti5 : TI := ⟨Try.t5.desc, 1, 1, [.it .u8 (0 : Int)]⟩
theorem ti5_ok : TyOK Try.prog 5 ti5 := TyOK.of (inf := Try.t5) Try.underlying5 (by kernel_rfl) (by kernel_rfl) (by kernel_rfl) (by kernel_rfl)
noncomputable def ti6 : TI := ⟨Try.t5.desc, 1, 1, [.it .u8 (0 : Int)]⟩
theorem ti6_ok : TyOK Try.prog 6 ti6 := TyOK.of (inf := Try.t6) Try.underlying6 (by kernel_rfl) (by kernel_rfl) (by kernel_rfl) (by kernel_rfl)
noncomputable def ti7 : TI := ⟨Try.t7.desc, 4, 24, [.it .i64 (0 : Int), .it .i64 (0 : Int), .kb false, .it .u8 (0 : Int)]⟩
theorem ti7_ok : TyOK Try.prog 7 ti7 := TyOK.of (inf := Try.t7) Try.underlying7 (by kernel_rfl) (by kernel_rfl) (by kernel_rfl) (by kernel_rfl)
noncomputable def ti8 : TI := ⟨Try.t7.desc, 4, 24, [.it .i64 (0 : Int), .it .i64 (0 : Int), .kb false, .it .u8 (0 : Int)]⟩
theorem ti8_ok : TyOK Try.prog 8 ti8 := TyOK.of (inf := Try.t8) Try.underlying8 (by kernel_rfl) (by kernel_rfl) (by kernel_rfl) (by kernel_rfl)
noncomputable def ti9 : TI := ⟨Try.t9.desc, 1, 16, [.st (ByteArray.mk #[])]⟩
theorem ti9_ok : TyOK Try.prog 9 ti9 := TyOK.of (inf := Try.t9) Try.underlying9 (by kernel_rfl) (by kernel_rfl) (by kernel_rfl) (by kernel_rfl)
noncomputable def ti10 : TI := ⟨Try.t9.desc, 1, 16, [.st (ByteArray.mk #[])]⟩
theorem ti10_ok : TyOK Try.prog 10 ti10 := TyOK.of (inf := Try.t10) Try.underlying10 (by kernel_rfl) (by kernel_rfl) (by kernel_rfl) (by kernel_rfl)
noncomputable def ti11 : TI := ⟨Try.t9.desc, 1, 16, [.st (ByteArray.mk #[])]⟩
theorem ti11_ok : TyOK Try.prog 11 ti11 := TyOK.of (inf := Try.t11) Try.underlying11 (by kernel_rfl) (by kernel_rfl) (by kernel_rfl) (by kernel_rfl)
noncomputable def ti12 : TI := ⟨Try.t12.desc, 1, 8, [.it .u64 (0 : Int)]⟩
theorem ti12_ok : TyOK Try.prog 12 ti12 := TyOK.of (inf := Try.t12) Try.underlying12 (by kernel_rfl) (by kernel_rfl) (by kernel_rfl) (by kernel_rfl)
noncomputable def ti13 : TI := ⟨Try.t13.desc, 2, 24, [.st (ByteArray.mk #[]), .it .u64 (0 : Int)]⟩
theorem ti13_ok : TyOK Try.prog 13 ti13 := TyOK.of (inf := Try.t13) Try.underlying13 (by kernel_rfl) (by kernel_rfl) (by kernel_rfl) (by kernel_rfl)
noncomputable def ti14 : TI := ⟨Try.t13.desc, 2, 24, [.st (ByteArray.mk #[]), .it .u64 (0 : Int)]⟩
theorem ti14_ok : TyOK Try.prog 14 ti14 := TyOK.of (inf := Try.t14) Try.underlying14 (by kernel_rfl) (by kernel_rfl) (by kernel_rfl) (by kernel_rfl)
noncomputable def ti15 : TI := ⟨Try.t15.desc, 1, 8, [.pn]⟩
theorem ti15_ok : TyOK Try.prog 15 ti15 := TyOK.of (inf := Try.t15) Try.underlying15 (by kernel_rfl) (by kernel_rfl) (by kernel_rfl) (by kernel_rfl)
noncomputable def ti16 : TI := ⟨Try.t16.desc, 1, 8, [.pn]⟩
theorem ti16_ok : TyOK Try.prog 16 ti16 := TyOK.of (inf := Try.t16) Try.underlying16 (by kernel_rfl) (by kernel_rfl) (by kernel_rfl) (by kernel_rfl)
noncomputable def ti17 : TI := ⟨Try.t17.desc, 1, 8, [.pn]⟩
theorem ti17_ok : TyOK Try.prog 17 ti17 := TyOK.of (inf := Try.t17) Try.underlying17 (by kernel_rfl) (by kernel_rfl) (by kernel_rfl) (by kernel_rfl)
noncomputable def ti18 : TI := ⟨Try.t18.desc, 1, 8, [.pn]⟩
theorem ti18_ok : TyOK Try.prog 18 ti18 := TyOK.of (inf := Try.t18) Try.underlying18 (by kernel_rfl) (by kernel_rfl) (by kernel_rfl) (by kernel_rfl)
noncomputable def ti19 : TI := ⟨Try.t18.desc, 1, 8, [.pn]⟩
theorem ti19_ok : TyOK Try.prog 19 ti19 := TyOK.of (inf := Try.t19) Try.underlying19 (by kernel_rfl) (by kernel_rfl) (by kernel_rfl) (by kernel_rfl)
noncomputable def ti21 : TI := ⟨Try.t21.desc, 1, 4, [.it .i32 (0 : Int)]⟩
theorem ti21_ok : TyOK Try.prog 21 ti21 := TyOK.of (inf := Try.t21) Try.underlying21 (by kernel_rfl) (by kernel_rfl) (by kernel_rfl) (by kernel_rfl)
noncomputable def ti22 : TI := ⟨Try.t22.desc, 1, 24, [.sn]⟩
theorem ti22_ok : TyOK Try.prog 22 ti22 := TyOK.of (inf := Try.t22) Try.underlying22 (by kernel_rfl) (by kernel_rfl) (by kernel_rfl) (by kernel_rfl)
noncomputable def ti23 : TI := ⟨Try.t23.desc, 1, 8, [.nf]⟩
theorem ti23_ok : TyOK Try.prog 23 ti23 := TyOK.of (inf := Try.t23) Try.underlying23 (by kernel_rfl) (by kernel_rfl) (by kernel_rfl) (by kernel_rfl)
noncomputable def ti24 : TI := ⟨Try.t24.desc, 1, 8, [.nf]⟩
theorem ti24_ok : TyOK Try.prog 24 ti24 := TyOK.of (inf := Try.t24) Try.underlying24 (by kernel_rfl) (by kernel_rfl) (by kernel_rfl) (by kernel_rfl)
noncomputable def ti25 : TI := ⟨Try.t25.desc, 1, 8, [.nf]⟩
theorem ti25_ok : TyOK Try.prog 25 ti25 := TyOK.of (inf := Try.t25) Try.underlying25 (by kernel_rfl) (by kernel_rfl) (by kernel_rfl) (by kernel_rfl)
noncomputable def ti26 : TI := ⟨Try.t26.desc, 1, 4, [.fl .f32 0]⟩
theorem ti26_ok : TyOK Try.prog 26 ti26 := TyOK.of (inf := Try.t26) Try.underlying26 (by kernel_rfl) (by kernel_rfl) (by kernel_rfl) (by kernel_rfl)
noncomputable def ti28 : TI := ⟨Try.t28.desc, 1, 8, [.nf]⟩
theorem ti28_ok : TyOK Try.prog 28 ti28 := TyOK.of (inf := Try.t28) Try.underlying28 (by kernel_rfl) (by kernel_rfl) (by kernel_rfl) (by kernel_rfl)
noncomputable def ti29 : TI := ⟨Try.t29.desc, 1, 8, [.nf]⟩
theorem ti29_ok : TyOK Try.prog 29 ti29 := TyOK.of (inf := Try.t29) Try.underlying29 (by kernel_rfl) (by kernel_rfl) (by kernel_rfl) (by kernel_rfl)
noncomputable def ti30 : TI := ⟨Try.t30.desc, 1, 8, [.fl .f64 0]⟩
theorem ti30_ok : TyOK Try.prog 30 ti30 := TyOK.of (inf := Try.t30) Try.underlying30 (by kernel_rfl) (by kernel_rfl) (by kernel_rfl) (by kernel_rfl)
noncomputable def ti31 : TI := ⟨Try.t31.desc, 1, 8, [.nf]⟩
theorem ti31_ok : TyOK Try.prog 31 ti31 := TyOK.of (inf := Try.t31) Try.underlying31 (by kernel_rfl) (by kernel_rfl) (by kernel_rfl) (by kernel_rfl)
noncomputable def ti32 : TI := ⟨Try.t32.desc, 2, 16, [.it .i64 (0 : Int), .it .i64 (0 : Int)]⟩
theorem ti32_ok : TyOK Try.prog 32 ti32 := TyOK.of (inf := Try.t32) Try.underlying32 (by kernel_rfl) (by kernel_rfl) (by kernel_rfl) (by kernel_rfl)
noncomputable def ti33 : TI := ⟨Try.t32.desc, 2, 16, [.it .i64 (0 : Int), .it .i64 (0 : Int)]⟩
theorem ti33_ok : TyOK Try.prog 33 ti33 := TyOK.of (inf := Try.t33) Try.underlying33 (by kernel_rfl) (by kernel_rfl) (by kernel_rfl) (by kernel_rfl)
noncomputable def ti35 : TI := ⟨Try.t35.desc, 1, 8, [.nf]⟩
theorem ti35_ok : TyOK Try.prog 35 ti35 := TyOK.of (inf := Try.t35) Try.underlying35 (by kernel_rfl) (by kernel_rfl) (by kernel_rfl) (by kernel_rfl)
noncomputable def ti36 : TI := ⟨Try.t36.desc, 1, 8, [.nf]⟩
theorem ti36_ok : TyOK Try.prog 36 ti36 := TyOK.of (inf := Try.t36) Try.underlying36 (by kernel_rfl) (by kernel_rfl) (by kernel_rfl) (by kernel_rfl)
noncomputable def ti37 : TI := ⟨Try.t37.desc, 1, 8, [.nf]⟩
theorem ti37_ok : TyOK Try.prog 37 ti37 := TyOK.of (inf := Try.t37) Try.underlying37 (by kernel_rfl) (by kernel_rfl) (by kernel_rfl) (by kernel_rfl)
noncomputable def ti38 : TI := ⟨Try.t38.desc, 1, 8, [.nf]⟩
theorem ti38_ok : TyOK Try.prog 38 ti38 := TyOK.of (inf := Try.t38) Try.underlying38 (by kernel_rfl) (by kernel_rfl) (by kernel_rfl) (by kernel_rfl)
noncomputable def ti39 : TI := ⟨Try.t39.desc, 1, 8, [.nf]⟩
theorem ti39_ok : TyOK Try.prog 39 ti39 := TyOK.of (inf := Try.t39) Try.underlying39 (by kernel_rfl) (by kernel_rfl) (by kernel_rfl) (by kernel_rfl)
noncomputable def ti40 : TI := ⟨Try.t40.desc, 1, 8, [.nf]⟩
theorem ti40_ok : TyOK Try.prog 40 ti40 := TyOK.of (inf := Try.t40) Try.underlying40 (by kernel_rfl) (by kernel_rfl) (by kernel_rfl) (by kernel_rfl)
noncomputable def ti41 : TI := ⟨Try.t41.desc, 1, 8, [.nf]⟩
theorem ti41_ok : TyOK Try.prog 41 ti41 := TyOK.of (inf := Try.t41) Try.underlying41 (by kernel_rfl) (by kernel_rfl) (by kernel_rfl) (by kernel_rfl)
noncomputable def ti42 : TI := ⟨Try.t42.desc, 1, 24, [.sn]⟩
theorem ti42_ok : TyOK Try.prog 42 ti42 := TyOK.of (inf := Try.t42) Try.underlying42 (by kernel_rfl) (by kernel_rfl) (by kernel_rfl) (by kernel_rfl)
noncomputable def ti44 : TI := ⟨Try.t44.desc, 1, 8, [.nf]⟩
theorem ti44_ok : TyOK Try.prog 44 ti44 := TyOK.of (inf := Try.t44) Try.underlying44 (by kernel_rfl) (by kernel_rfl) (by kernel_rfl) (by kernel_rfl)
noncomputable def ti45 : TI := ⟨Try.t45.desc, 1, 8, [.nf]⟩
theorem ti45_ok : TyOK Try.prog 45 ti45 := TyOK.of (inf := Try.t45) Try.underlying45 (by kernel_rfl) (by kernel_rfl) (by kernel_rfl) (by kernel_rfl)
noncomputable def ti46 : TI := ⟨Try.t46.desc, 1, 8, [.nf]⟩
theorem ti46_ok : TyOK Try.prog 46 ti46 := TyOK.of (inf := Try.t46) Try.underlying46 (by kernel_rfl) (by kernel_rfl) (by kernel_rfl) (by kernel_rfl)
noncomputable def ti47 : TI := ⟨Try.t47.desc, 1, 2, [.it .i16 (0 : Int)]⟩
theorem ti47_ok : TyOK Try.prog 47 ti47 := TyOK.of (inf := Try.t47) Try.underlying47 (by kernel_rfl) (by kernel_rfl) (by kernel_rfl) (by kernel_rfl)
noncomputable def ti48 : TI := ⟨Try.t48.desc, 4, 8, [.it .i16 (0 : Int), .it .i16 (0 : Int), .it .i16 (0 : Int), .it .i16 (0 : Int)]⟩
theorem ti48_ok : TyOK Try.prog 48 ti48 := TyOK.of (inf := Try.t48) Try.underlying48 (by kernel_rfl) (by kernel_rfl) (by kernel_rfl) (by kernel_rfl)
noncomputable def ti49 : TI := ⟨Try.t48.desc, 4, 8, [.it .i16 (0 : Int), .it .i16 (0 : Int), .it .i16 (0 : Int), .it .i16 (0 : Int)]⟩
theorem ti49_ok : TyOK Try.prog 49 ti49 := TyOK.of (inf := Try.t49) Try.underlying49 (by kernel_rfl) (by kernel_rfl) (by kernel_rfl) (by kernel_rfl)
noncomputable def ti50 : TI := ⟨Try.t50.desc, 1, 8, [.nf]⟩
theorem ti50_ok : TyOK Try.prog 50 ti50 := TyOK.of (inf := Try.t50) Try.underlying50 (by kernel_rfl) (by kernel_rfl) (by kernel_rfl) (by kernel_rfl)
noncomputable def ti51 : TI := ⟨Try.t48.desc, 4, 8, [.it .i16 (0 : Int), .it .i16 (0 : Int), .it .i16 (0 : Int), .it .i16 (0 : Int)]⟩
theorem ti51_ok : TyOK Try.prog 51 ti51 := TyOK.of (inf := Try.t51) Try.underlying51 (by kernel_rfl) (by kernel_rfl) (by kernel_rfl) (by kernel_rfl)
noncomputable def ti52 : TI := ⟨Try.t52.desc, 1, 8, [.nf]⟩
theorem ti52_ok : TyOK Try.prog 52 ti52 := TyOK.of (inf := Try.t52) Try.underlying52 (by kernel_rfl) (by kernel_rfl) (by kernel_rfl) (by kernel_rfl)
noncomputable def ti53 : TI := ⟨Try.t53.desc, 1, 8, [.nf]⟩
theorem ti53_ok : TyOK Try.prog 53 ti53 := TyOK.of (inf := Try.t53) Try.underlying53 (by kernel_rfl) (by kernel_rfl) (by kernel_rfl) (by kernel_rfl)
noncomputable def ti55 : TI := ⟨Try.t55.desc, 1, 8, [.nf]⟩
theorem ti55_ok : TyOK Try.prog 55 ti55 := TyOK.of (inf := Try.t55) Try.underlying55 (by kernel_rfl) (by kernel_rfl) (by kernel_rfl) (by kernel_rfl)
noncomputable def ti56 : TI := ⟨Try.t56.desc, 1, 8, [.nf]⟩
theorem ti56_ok : TyOK Try.prog 56 ti56 := TyOK.of (inf := Try.t56) Try.underlying56 (by kernel_rfl) (by kernel_rfl) (by kernel_rfl) (by kernel_rfl)
noncomputable def ti58 : TI := ⟨Try.t58.desc, 1, 8, [.nf]⟩
theorem ti58_ok : TyOK Try.prog 58 ti58 := TyOK.of (inf := Try.t58) Try.underlying58 (by kernel_rfl) (by kernel_rfl) (by kernel_rfl) (by kernel_rfl)
noncomputable def ti59 : TI := ⟨Try.t59.desc, 1, 8, [.nf]⟩
theorem ti59_ok : TyOK Try.prog 59 ti59 := TyOK.of (inf := Try.t59) Try.underlying59 (by kernel_rfl) (by kernel_rfl) (by kernel_rfl) (by kernel_rfl)
noncomputable def ti60 : TI := ⟨Try.t60.desc, 1, 24, [.sn]⟩
theorem ti60_ok : TyOK Try.prog 60 ti60 := TyOK.of (inf := Try.t60) Try.underlying60 (by kernel_rfl) (by kernel_rfl) (by kernel_rfl) (by kernel_rfl)
noncomputable def ti62 : TI := ⟨Try.t62.desc, 1, 8, [.nf]⟩
theorem ti62_ok : TyOK Try.prog 62 ti62 := TyOK.of (inf := Try.t62) Try.underlying62 (by kernel_rfl) (by kernel_rfl) (by kernel_rfl) (by kernel_rfl)
noncomputable def ti63 : TI := ⟨Try.t63.desc, 1, 8, [.nf]⟩
theorem ti63_ok : TyOK Try.prog 63 ti63 := TyOK.of (inf := Try.t63) Try.underlying63 (by kernel_rfl) (by kernel_rfl) (by kernel_rfl) (by kernel_rfl)
noncomputable def ti64 : TI := ⟨Try.t64.desc, 1, 8, [.nf]⟩
theorem ti64_ok : TyOK Try.prog 64 ti64 := TyOK.of (inf := Try.t64) Try.underlying64 (by kernel_rfl) (by kernel_rfl) (by kernel_rfl) (by kernel_rfl)
noncomputable def ti65 : TI := ⟨Try.t65.desc, 1, 8, [.nf]⟩
theorem ti65_ok : TyOK Try.prog 65 ti65 := TyOK.of (inf := Try.t65) Try.underlying65 (by kernel_rfl) (by kernel_rfl) (by kernel_rfl) (by kernel_rfl)
noncomputable def ti67 : TI := ⟨Try.t67.desc, 1, 8, [.nf]⟩
theorem ti67_ok : TyOK Try.prog 67 ti67 := TyOK.of (inf := Try.t67) Try.underlying67 (by kernel_rfl) (by kernel_rfl) (by kernel_rfl) (by kernel_rfl)
noncomputable def ti68 : TI := ⟨Try.t68.desc, 1, 8, [.nf]⟩
theorem ti68_ok : TyOK Try.prog 68 ti68 := TyOK.of (inf := Try.t68) Try.underlying68 (by kernel_rfl) (by kernel_rfl) (by kernel_rfl) (by kernel_rfl)
noncomputable def ti69 : TI := ⟨Try.t69.desc, 1, 24, [.sn]⟩
theorem ti69_ok : TyOK Try.prog 69 ti69 := TyOK.of (inf := Try.t69) Try.underlying69 (by kernel_rfl) (by kernel_rfl) (by kernel_rfl) (by kernel_rfl)
noncomputable def ti70 : TI := ⟨Try.t69.desc, 1, 24, [.sn]⟩
theorem ti70_ok : TyOK Try.prog 70 ti70 := TyOK.of (inf := Try.t70) Try.underlying70 (by kernel_rfl) (by kernel_rfl) (by kernel_rfl) (by kernel_rfl)
noncomputable def ti72 : TI := ⟨Try.t72.desc, 1, 8, [.nf]⟩
theorem ti72_ok : TyOK Try.prog 72 ti72 := TyOK.of (inf := Try.t72) Try.underlying72 (by kernel_rfl) (by kernel_rfl) (by kernel_rfl) (by kernel_rfl)
noncomputable def ti73 : TI := ⟨Try.t73.desc, 1, 8, [.nf]⟩
theorem ti73_ok : TyOK Try.prog 73 ti73 := TyOK.of (inf := Try.t73) Try.underlying73 (by kernel_rfl) (by kernel_rfl) (by kernel_rfl) (by kernel_rfl)
noncomputable def ti74 : TI := ⟨Try.t74.desc, 1, 8, [.nf]⟩
theorem ti74_ok : TyOK Try.prog 74 ti74 := TyOK.of (inf := Try.t74) Try.underlying74 (by kernel_rfl) (by kernel_rfl) (by kernel_rfl) (by kernel_rfl)
noncomputable def ti75 : TI := ⟨Try.t75.desc, 1, 8, [.nf]⟩
theorem ti75_ok : TyOK Try.prog 75 ti75 := TyOK.of (inf := Try.t75) Try.underlying75 (by kernel_rfl) (by kernel_rfl) (by kernel_rfl) (by kernel_rfl)
noncomputable def ti76 : TI := ⟨Try.t76.desc, 1, 8, [.nf]⟩
theorem ti76_ok : TyOK Try.prog 76 ti76 := TyOK.of (inf := Try.t76) Try.underlying76 (by kernel_rfl) (by kernel_rfl) (by kernel_rfl) (by kernel_rfl)
noncomputable def ti77 : TI := ⟨Try.t77.desc, 1, 8, [.nf]⟩
theorem ti77_ok : TyOK Try.prog 77 ti77 := TyOK.of (inf := Try.t77) Try.underlying77 (by kernel_rfl) (by kernel_rfl) (by kernel_rfl) (by kernel_rfl)
noncomputable def ti78 : TI := ⟨Try.t78.desc, 1, 8, [.nf]⟩
theorem ti78_ok : TyOK Try.prog 78 ti78 := TyOK.of (inf := Try.t78) Try.underlying78 (by kernel_rfl) (by kernel_rfl) (by kernel_rfl) (by kernel_rfl)
noncomputable def ti79 : TI := ⟨Try.t79.desc, 1, 8, [.nf]⟩
theorem ti79_ok : TyOK Try.prog 79 ti79 := TyOK.of (inf := Try.t79) Try.underlying79 (by kernel_rfl) (by kernel_rfl) (by kernel_rfl) (by kernel_rfl)
noncomputable def ti80 : TI := ⟨Try.t80.desc, 1, 8, [.nf]⟩
theorem ti80_ok : TyOK Try.prog 80 ti80 := TyOK.of (inf := Try.t80) Try.underlying80 (by kernel_rfl) (by kernel_rfl) (by kernel_rfl) (by kernel_rfl)
noncomputable def ti81 : TI := ⟨Try.t81.desc, 1, 8, [.nf]⟩
theorem ti81_ok : TyOK Try.prog 81 ti81 := TyOK.of (inf := Try.t81) Try.underlying81 (by kernel_rfl) (by kernel_rfl) (by kernel_rfl) (by kernel_rfl)
noncomputable def ti82 : TI := ⟨Try.t82.desc, 1, 8, [.nf]⟩
theorem ti82_ok : TyOK Try.prog 82 ti82 := TyOK.of (inf := Try.t82) Try.underlying82 (by kernel_rfl) (by kernel_rfl) (by kernel_rfl) (by kernel_rfl)
noncomputable def ti83 : TI := ⟨Try.t83.desc, 1, 8, [.nf]⟩
theorem ti83_ok : TyOK Try.prog 83 ti83 := TyOK.of (inf := Try.t83) Try.underlying83 (by kernel_rfl) (by kernel_rfl) (by kernel_rfl) (by kernel_rfl)
noncomputable def ti84 : TI := ⟨Try.t84.desc, 1, 8, [.nf]⟩
theorem ti84_ok : TyOK Try.prog 84 ti84 := TyOK.of (inf := Try.t84) Try.underlying84 (by kernel_rfl) (by kernel_rfl) (by kernel_rfl) (by kernel_rfl)
noncomputable def ti85 : TI := ⟨Try.t85.desc, 1, 8, [.nf]⟩
theorem ti85_ok : TyOK Try.prog 85 ti85 := TyOK.of (inf := Try.t85) Try.underlying85 (by kernel_rfl) (by kernel_rfl) (by kernel_rfl) (by kernel_rfl)
noncomputable def ti86 : TI := ⟨Try.t86.desc, 1, 8, [.nf]⟩
theorem ti86_ok : TyOK Try.prog 86 ti86 := TyOK.of (inf := Try.t86) Try.underlying86 (by kernel_rfl) (by kernel_rfl) (by kernel_rfl) (by kernel_rfl)
noncomputable def ti87 : TI := ⟨Try.t87.desc, 1, 8, [.nf]⟩
theorem ti87_ok : TyOK Try.prog 87 ti87 := TyOK.of (inf := Try.t87) Try.underlying87 (by kernel_rfl) (by kernel_rfl) (by kernel_rfl) (by kernel_rfl)
noncomputable def ti88 : TI := ⟨Try.t88.desc, 1, 8, [.nf]⟩
theorem ti88_ok : TyOK Try.prog 88 ti88 := TyOK.of (inf := Try.t88) Try.underlying88 (by kernel_rfl) (by kernel_rfl) (by kernel_rfl) (by kernel_rfl)
noncomputable def ti90 : TI := ⟨Try.t90.desc, 1, 8, [.nf]⟩
theorem ti90_ok : TyOK Try.prog 90 ti90 := TyOK.of (inf := Try.t90) Try.underlying90 (by kernel_rfl) (by kernel_rfl) (by kernel_rfl) (by kernel_rfl)
noncomputable def ti91 : TI := ⟨Try.t91.desc, 1, 8, [.nf]⟩
theorem ti91_ok : TyOK Try.prog 91 ti91 := TyOK.of (inf := Try.t91) Try.underlying91 (by kernel_rfl) (by kernel_rfl) (by kernel_rfl) (by kernel_rfl)
noncomputable def ti93 : TI := ⟨Try.t93.desc, 1, 8, [.nf]⟩
theorem ti93_ok : TyOK Try.prog 93 ti93 := TyOK.of (inf := Try.t93) Try.underlying93 (by kernel_rfl) (by kernel_rfl) (by kernel_rfl) (by kernel_rfl)
noncomputable def ti94 : TI := ⟨Try.t94.desc, 1, 24, [.sn]⟩
theorem ti94_ok : TyOK Try.prog 94 ti94 := TyOK.of (inf := Try.t94) Try.underlying94 (by kernel_rfl) (by kernel_rfl) (by kernel_rfl) (by kernel_rfl)
noncomputable def ti95 : TI := ⟨Try.t95.desc, 1, 8, [.nf]⟩
theorem ti95_ok : TyOK Try.prog 95 ti95 := TyOK.of (inf := Try.t95) Try.underlying95 (by kernel_rfl) (by kernel_rfl) (by kernel_rfl) (by kernel_rfl)
noncomputable def ti96 : TI := ⟨Try.t96.desc, 1, 8, [.nf]⟩
theorem ti96_ok : TyOK Try.prog 96 ti96 := TyOK.of (inf := Try.t96) Try.underlying96 (by kernel_rfl) (by kernel_rfl) (by kernel_rfl) (by kernel_rfl)
noncomputable def ti97 : TI := ⟨Try.t97.desc, 1, 8, [.nf]⟩
theorem ti97_ok : TyOK Try.prog 97 ti97 := TyOK.of (inf := Try.t97) Try.underlying97 (by kernel_rfl) (by kernel_rfl) (by kernel_rfl) (by kernel_rfl)
noncomputable def ti98 : TI := ⟨Try.t98.desc, 2, 16, [.it .i64 (0 : Int), .it .i64 (0 : Int)]⟩
theorem ti98_ok : TyOK Try.prog 98 ti98 := TyOK.of (inf := Try.t98) Try.underlying98 (by kernel_rfl) (by kernel_rfl) (by kernel_rfl) (by kernel_rfl)
noncomputable def ti99 : TI := ⟨Try.t99.desc, 1, 8, [.nf]⟩
theorem ti99_ok : TyOK Try.prog 99 ti99 := TyOK.of (inf := Try.t99) Try.underlying99 (by kernel_rfl) (by kernel_rfl) (by kernel_rfl) (by kernel_rfl)
noncomputable def ti100 : TI := ⟨Try.t100.desc, 1, 8, [.nf]⟩
theorem ti100_ok : TyOK Try.prog 100 ti100 := TyOK.of (inf := Try.t100) Try.underlying100 (by kernel_rfl) (by kernel_rfl) (by kernel_rfl) (by kernel_rfl)
noncomputable def ti101 : TI := ⟨Try.t101.desc, 1, 8, [.nf]⟩
theorem ti101_ok : TyOK Try.prog 101 ti101 := TyOK.of (inf := Try.t101) Try.underlying101 (by kernel_rfl) (by kernel_rfl) (by kernel_rfl) (by kernel_rfl)
noncomputable def ti102 : TI := ⟨Try.t102.desc, 3, 8, [.it .i16 (0 : Int), .it .i16 (0 : Int), .fl .f32 0]⟩
theorem ti102_ok : TyOK Try.prog 102 ti102 := TyOK.of (inf := Try.t102) Try.underlying102 (by kernel_rfl) (by kernel_rfl) (by kernel_rfl) (by kernel_rfl)
noncomputable def ti103 : TI := ⟨Try.t102.desc, 3, 8, [.it .i16 (0 : Int), .it .i16 (0 : Int), .fl .f32 0]⟩
theorem ti103_ok : TyOK Try.prog 103 ti103 := TyOK.of (inf := Try.t103) Try.underlying103 (by kernel_rfl) (by kernel_rfl) (by kernel_rfl) (by kernel_rfl)
noncomputable def ti104 : TI := ⟨Try.t104.desc, 1, 8, [.nf]⟩
theorem ti104_ok : TyOK Try.prog 104 ti104 := TyOK.of (inf := Try.t104) Try.underlying104 (by kernel_rfl) (by kernel_rfl) (by kernel_rfl) (by kernel_rfl)
noncomputable def ti105 : TI := ⟨Try.t105.desc, 1, 8, [.nf]⟩
theorem ti105_ok : TyOK Try.prog 105 ti105 := TyOK.of (inf := Try.t105) Try.underlying105 (by kernel_rfl) (by kernel_rfl) (by kernel_rfl) (by kernel_rfl)
noncomputable def ti106 : TI := ⟨Try.t106.desc, 1, 8, [.nf]⟩
theorem ti106_ok : TyOK Try.prog 106 ti106 := TyOK.of (inf := Try.t106) Try.underlying106 (by kernel_rfl) (by kernel_rfl) (by kernel_rfl) (by kernel_rfl)
noncomputable def ti107 : TI := ⟨Try.t107.desc, 1, 4, [.it .u32 (0 : Int)]⟩
theorem ti107_ok : TyOK Try.prog 107 ti107 := TyOK.of (inf := Try.t107) Try.underlying107 (by kernel_rfl) (by kernel_rfl) (by kernel_rfl) (by kernel_rfl)
noncomputable def ti108 : TI := ⟨Try.t108.desc, 1, 8, [.nf]⟩
theorem ti108_ok : TyOK Try.prog 108 ti108 := TyOK.of (inf := Try.t108) Try.underlying108 (by kernel_rfl) (by kernel_rfl) (by kernel_rfl) (by kernel_rfl)
noncomputable def ti109 : TI := ⟨Try.t109.desc, 1, 8, [.nf]⟩
theorem ti109_ok : TyOK Try.prog 109 ti109 := TyOK.of (inf := Try.t109) Try.underlying109 (by kernel_rfl) (by kernel_rfl) (by kernel_rfl) (by kernel_rfl)
noncomputable def ti110 : TI := ⟨Try.t110.desc, 1, 24, [.sn]⟩
theorem ti110_ok : TyOK Try.prog 110 ti110 := TyOK.of (inf := Try.t110) Try.underlying110 (by kernel_rfl) (by kernel_rfl) (by kernel_rfl) (by kernel_rfl)
noncomputable def ti111 : TI := ⟨Try.t111.desc, 1, 8, [.nf]⟩
theorem ti111_ok : TyOK Try.prog 111 ti111 := TyOK.of (inf := Try.t111) Try.underlying111 (by kernel_rfl) (by kernel_rfl) (by kernel_rfl) (by kernel_rfl)
noncomputable def ti112 : TI := ⟨Try.t112.desc, 1, 8, [.nf]⟩
theorem ti112_ok : TyOK Try.prog 112 ti112 := TyOK.of (inf := Try.t112) Try.underlying112 (by kernel_rfl) (by kernel_rfl) (by kernel_rfl) (by kernel_rfl)
noncomputable def ti113 : TI := ⟨Try.t113.desc, 1, 8, [.pn]⟩
theorem ti113_ok : TyOK Try.prog 113 ti113 := TyOK.of (inf := Try.t113) Try.underlying113 (by kernel_rfl) (by kernel_rfl) (by kernel_rfl) (by kernel_rfl)
noncomputable def ti114 : TI := ⟨Try.t114.desc, 1, 8, [.nf]⟩
theorem ti114_ok : TyOK Try.prog 114 ti114 := TyOK.of (inf := Try.t114) Try.underlying114 (by kernel_rfl) (by kernel_rfl) (by kernel_rfl) (by kernel_rfl)
noncomputable def ti115 : TI := ⟨Try.t115.desc, 1, 8, [.nf]⟩
theorem ti115_ok : TyOK Try.prog 115 ti115 := TyOK.of (inf := Try.t115) Try.underlying115 (by kernel_rfl) (by kernel_rfl) (by kernel_rfl) (by kernel_rfl)
noncomputable def ti116 : TI := ⟨Try.t116.desc, 1, 8, [.nf]⟩
theorem ti116_ok : TyOK Try.prog 116 ti116 := TyOK.of (inf := Try.t116) Try.underlying116 (by kernel_rfl) (by kernel_rfl) (by kernel_rfl) (by kernel_rfl)
noncomputable def ti117 : TI := ⟨Try.t117.desc, 4, 40, [.pn, .pn, .pn, .st (ByteArray.mk #[])]⟩
theorem ti117_ok : TyOK Try.prog 117 ti117 := TyOK.of (inf := Try.t117) Try.underlying117 (by kernel_rfl) (by kernel_rfl) (by kernel_rfl) (by kernel_rfl)
noncomputable def ti118 : TI := ⟨Try.t117.desc, 4, 40, [.pn, .pn, .pn, .st (ByteArray.mk #[])]⟩
theorem ti118_ok : TyOK Try.prog 118 ti118 := TyOK.of (inf := Try.t118) Try.underlying118 (by kernel_rfl) (by kernel_rfl) (by kernel_rfl) (by kernel_rfl)
noncomputable def ti119 : TI := ⟨Try.t119.desc, 0, 0, []⟩
theorem ti119_ok : TyOK Try.prog 119 ti119 := TyOK.of (inf := Try.t119) Try.underlying119 (by kernel_rfl) (by kernel_rfl) (by kernel_rfl) (by kernel_rfl)
noncomputable def ti120 : TI := ⟨Try.t120.desc, 0, 0, []⟩
theorem ti120_ok : TyOK Try.prog 120 ti120 := TyOK.of (inf := Try.t120) Try.underlying120 (by kernel_rfl) (by kernel_rfl) (by kernel_rfl) (by kernel_rfl)
noncomputable def ti121 : TI := ⟨Try.t120.desc, 0, 0, []⟩
theorem ti121_ok : TyOK Try.prog 121 ti121 := TyOK.of (inf := Try.t121) Try.underlying121 (by kernel_rfl) (by kernel_rfl) (by kernel_rfl) (by kernel_rfl)
noncomputable def ti122 : TI := ⟨Try.t122.desc, 1, 8, [.nf]⟩
theorem ti122_ok : TyOK Try.prog 122 ti122 := TyOK.of (inf := Try.t122) Try.underlying122 (by kernel_rfl) (by kernel_rfl) (by kernel_rfl) (by kernel_rfl)
noncomputable def ti123 : TI := ⟨Try.t5.desc, 1, 1, [.it .u8 (0 : Int)]⟩
theorem ti123_ok : TyOK Try.prog 123 ti123 := TyOK.of (inf := Try.t123) Try.underlying123 (by kernel_rfl) (by kernel_rfl) (by kernel_rfl) (by kernel_rfl)
noncomputable def ti124 : TI := ⟨Try.t5.desc, 1, 1, [.it .u8 (0 : Int)]⟩
theorem ti124_ok : TyOK Try.prog 124 ti124 := TyOK.of (inf := Try.t124) Try.underlying124 (by kernel_rfl) (by kernel_rfl) (by kernel_rfl) (by kernel_rfl)
noncomputable def ti125 : TI := ⟨Try.t125.desc, 1, 8, [.nf]⟩
theorem ti125_ok : TyOK Try.prog 125 ti125 := TyOK.of (inf := Try.t125) Try.underlying125 (by kernel_rfl) (by kernel_rfl) (by kernel_rfl) (by kernel_rfl)
noncomputable def ti126 : TI := ⟨Try.t126.desc, 1, 8, [.pn]⟩
theorem ti126_ok : TyOK Try.prog 126 ti126 := TyOK.of (inf := Try.t126) Try.underlying126 (by kernel_rfl) (by kernel_rfl) (by kernel_rfl) (by kernel_rfl)
noncomputable def ti127 : TI := ⟨Try.t21.desc, 1, 4, [.it .i32 (0 : Int)]⟩
theorem ti127_ok : TyOK Try.prog 127 ti127 := TyOK.of (inf := Try.t127) Try.underlying127 (by kernel_rfl) (by kernel_rfl) (by kernel_rfl) (by kernel_rfl)
noncomputable def ti128 : TI := ⟨Try.t21.desc, 1, 4, [.it .i32 (0 : Int)]⟩
theorem ti128_ok : TyOK Try.prog 128 ti128 := TyOK.of (inf := Try.t128) Try.underlying128 (by kernel_rfl) (by kernel_rfl) (by kernel_rfl) (by kernel_rfl)
noncomputable def ti129 : TI := ⟨Try.t129.desc, 11, 48, [.it .u64 (0 : Int), .it .u64 (0 : Int), .it .u32 (0 : Int), .it .u8 (0 : Int), .it .u8 (0 : Int), .it .u8 (0 : Int), .it .u8 (0 : Int), .nf, .pn, .it .i32 (0 : Int), .it .i32 (0 : Int)]⟩
theorem ti129_ok : TyOK Try.prog 129 ti129 := TyOK.of (inf := Try.t129) Try.underlying129 (by kernel_rfl) (by kernel_rfl) (by kernel_rfl) (by kernel_rfl)
noncomputable def ti130 : TI := ⟨Try.t129.desc, 11, 48, [.it .u64 (0 : Int), .it .u64 (0 : Int), .it .u32 (0 : Int), .it .u8 (0 : Int), .it .u8 (0 : Int), .it .u8 (0 : Int), .it .u8 (0 : Int), .nf, .pn, .it .i32 (0 : Int), .it .i32 (0 : Int)]⟩
theorem ti130_ok : TyOK Try.prog 130 ti130 := TyOK.of (inf := Try.t130) Try.underlying130 (by kernel_rfl) (by kernel_rfl) (by kernel_rfl) (by kernel_rfl)
noncomputable def ti131 : TI := ⟨Try.t131.desc, 1, 8, [.pn]⟩
theorem ti131_ok : TyOK Try.prog 131 ti131 := TyOK.of (inf := Try.t131) Try.underlying131 (by kernel_rfl) (by kernel_rfl) (by kernel_rfl) (by kernel_rfl)
noncomputable def tys : List (Nat × TI) := [(1, ti1), (2, ti2), (3, ti3), (4, ti4), (5, ti5), (6, ti6), (7, ti7), (8, ti8), (9, ti9), (10, ti10), (11, ti11), (12, ti12), (13, ti13), (14, ti14), (15, ti15), (16, ti16), (17, ti17), (18, ti18), (19, ti19), (21, ti21), (22, ti22), (23, ti23), (24, ti24), (25, ti25), (26, ti26), (28, ti28), (29, ti29), (30, ti30), (31, ti31), (32, ti32), (33, ti33), (35, ti35), (36, ti36), (37, ti37), (38, ti38), (39, ti39), (40, ti40), (41, ti41), (42, ti42), (44, ti44), (45, ti45), (46, ti46), (47, ti47), (48, ti48), (49, ti49), (50, ti50), (51, ti51), (52, ti52), (53, ti53), (55, ti55), (56, ti56), (58, ti58), (59, ti59), (60, ti60), (62, ti62), (63, ti63), (64, ti64), (65, ti65), (67, ti67), (68, ti68), (69, ti69), (70, ti70), (72, ti72), (73, ti73), (74, ti74), (75, ti75), (76, ti76), (77, ti77), (78, ti78), (79, ti79), (80, ti80), (81, ti81), (82, ti82), (83, ti83), (84, ti84), (85, ti85), (86, ti86), (87, ti87), (88, ti88), (90, ti90), (91, ti91), (93, ti93), (94, ti94), (95, ti95), (96, ti96), (97, ti97), (98, ti98), (99, ti99), (100, ti100), (101, ti101), (102, ti102), (103, ti103), (104, ti104), (105, ti105), (106, ti106), (107, ti107), (108, ti108), (109, ti109), (110, ti110), (111, ti111), (112, ti112), (113, ti113), (114, ti114), (115, ti115), (116, ti116), (117, ti117), (118, ti118), (119, ti119), (120, ti120), (121, ti121), (122, ti122), (123, ti123), (124, ti124), (125, ti125), (126, ti126), (127, ti127), (128, ti128), (129, ti129), (130, ti130), (131, ti131)]
theorem mo : Try.prog.follows .mixedOrders = true := by kernel_rfl
theorem tys_ok : TysOK Try.prog tys := (TysOK.cons ti1_ok (TysOK.cons ti2_ok (TysOK.cons ti3_ok (TysOK.cons ti4_ok (TysOK.cons ti5_ok (TysOK.cons ti6_ok (TysOK.cons ti7_ok (TysOK.cons ti8_ok (TysOK.cons ti9_ok (TysOK.cons ti10_ok (TysOK.cons ti11_ok (TysOK.cons ti12_ok (TysOK.cons ti13_ok (TysOK.cons ti14_ok (TysOK.cons ti15_ok (TysOK.cons ti16_ok (TysOK.cons ti17_ok (TysOK.cons ti18_ok (TysOK.cons ti19_ok (TysOK.cons ti21_ok (TysOK.cons ti22_ok (TysOK.cons ti23_ok (TysOK.cons ti24_ok (TysOK.cons ti25_ok (TysOK.cons ti26_ok (TysOK.cons ti28_ok (TysOK.cons ti29_ok (TysOK.cons ti30_ok (TysOK.cons ti31_ok (TysOK.cons ti32_ok (TysOK.cons ti33_ok (TysOK.cons ti35_ok (TysOK.cons ti36_ok (TysOK.cons ti37_ok (TysOK.cons ti38_ok (TysOK.cons ti39_ok (TysOK.cons ti40_ok (TysOK.cons ti41_ok (TysOK.cons ti42_ok (TysOK.cons ti44_ok (TysOK.cons ti45_ok (TysOK.cons ti46_ok (TysOK.cons ti47_ok (TysOK.cons ti48_ok (TysOK.cons ti49_ok (TysOK.cons ti50_ok (TysOK.cons ti51_ok (TysOK.cons ti52_ok (TysOK.cons ti53_ok (TysOK.cons ti55_ok (TysOK.cons ti56_ok (TysOK.cons ti58_ok (TysOK.cons ti59_ok (TysOK.cons ti60_ok (TysOK.cons ti62_ok (TysOK.cons ti63_ok (TysOK.cons ti64_ok (TysOK.cons ti65_ok (TysOK.cons ti67_ok (TysOK.cons ti68_ok (TysOK.cons ti69_ok (TysOK.cons ti70_ok (TysOK.cons ti72_ok (TysOK.cons ti73_ok (TysOK.cons ti74_ok (TysOK.cons ti75_ok (TysOK.cons ti76_ok (TysOK.cons ti77_ok (TysOK.cons ti78_ok (TysOK.cons ti79_ok (TysOK.cons ti80_ok (TysOK.cons ti81_ok (TysOK.cons ti82_ok (TysOK.cons ti83_ok (TysOK.cons ti84_ok (TysOK.cons ti85_ok (TysOK.cons ti86_ok (TysOK.cons ti87_ok (TysOK.cons ti88_ok (TysOK.cons ti90_ok (TysOK.cons ti91_ok (TysOK.cons ti93_ok (TysOK.cons ti94_ok (TysOK.cons ti95_ok (TysOK.cons ti96_ok (TysOK.cons ti97_ok (TysOK.cons ti98_ok (TysOK.cons ti99_ok (TysOK.cons ti100_ok (TysOK.cons ti101_ok (TysOK.cons ti102_ok (TysOK.cons ti103_ok (TysOK.cons ti104_ok (TysOK.cons ti105_ok (TysOK.cons ti106_ok (TysOK.cons ti107_ok (TysOK.cons ti108_ok (TysOK.cons ti109_ok (TysOK.cons ti110_ok (TysOK.cons ti111_ok (TysOK.cons ti112_ok (TysOK.cons ti113_ok (TysOK.cons ti114_ok (TysOK.cons ti115_ok (TysOK.cons ti116_ok (TysOK.cons ti117_ok (TysOK.cons ti118_ok (TysOK.cons ti119_ok (TysOK.cons ti120_ok (TysOK.cons ti121_ok (TysOK.cons ti122_ok (TysOK.cons ti123_ok (TysOK.cons ti124_ok (TysOK.cons ti125_ok (TysOK.cons ti126_ok (TysOK.cons ti127_ok (TysOK.cons ti128_ok (TysOK.cons ti129_ok (TysOK.cons ti130_ok (TysOK.cons ti131_ok TysOK.nil))))))))))))))))))))))))))))))))))))))))))))))))))))))))))))))))))))))))))))))))))))))))))))))))))))))))))))))))))))))))
/-! ### spec_l05Target -/
noncomputable def spec_l05Target.b : Code := bodyOf Try.f58
noncomputable def spec_l05Target.C : Ctx := { ty := tys, fn := [], lp := [], n := 9, k := 0 }
theorem spec_l05Target.hC : CtxOK Try.prog spec_l05Target.C := CtxOK.of mo tys_ok FnsOK.nil
theorem spec_l05Target.lp : LpOK Try.prog spec_l05Target.C spec_l05Target.b := (LpOK.nil (by kernel_rfl))
noncomputable def spec_l05Target.t (x0 : Nat) : T Bool :=
  .br (fge .f32 x0 981467136)
  (.leaf (fle .f32 x0 1149239296))
  (.leaf false)
noncomputable def spec_l05Target (x0 : Nat) : Bool := (spec_l05Target.t x0).val
def spec_l05Target.cd : Cd Nat (List V × Hp) := Cd.iso (Cd.pair (Cd.cons (Cd.fl .f32) Cd.nil) Cd.nil) (fun a => a.1.1) (fun a => ((a, ()), ())) (fun _ => rfl)
noncomputable def spec_l05Target.tr (a : Nat) : T Bool := spec_l05Target.t a
def spec_l05Target.enc : Nat → Bool → V := fun a r => .bo r
noncomputable def spec_l05Target.c : List V → Hp → T V := cdQ spec_l05Target.cd (fun a => .leaf (spec_l05Target.enc a (spec_l05Target a)))
theorem spec_l05Target.run (a : Nat) : runF spec_l05Target.C Try.f58.results.toList spec_l05Target.b (spec_l05Target.cd.enc a).1 (spec_l05Target.cd.enc a).2 = (spec_l05Target.tr a).map fun r => (spec_l05Target.enc a r, (spec_l05Target.cd.enc a).2) := by kernel_rfl
theorem spec_l05Target.cok : OKq Try.prog 58 spec_l05Target.c := con_q' spec_l05Target.cd spec_l05Target.hC Try.func58 (by kernel_rfl) (by kernel_rfl) (by kernel_rfl) spec_l05Target.lp (fun a => by kernel_rfl) spec_l05Target.run (Tells.val (tree := spec_l05Target.tr) fun a => by kernel_rfl)
/-! ### spec_l01Common -/
noncomputable def spec_l01Common.b : Code := bodyOf Try.f96
noncomputable def spec_l01Common.l1.s (x0 : Int) (x1 : Int) : T ((Int × Int) ⊕ Int) :=
  .br (decide (x1 > (0 : Int)))
  (.br (x1 == 0)
   .bad
   (.leaf (.inl (x1, (Int.tmod x0 x1)))))
  (.leaf (.inr x0))
noncomputable def spec_l01Common.l1.st (p : Unit) (x : Int × Int) : T ((Int × Int) ⊕ Int) := spec_l01Common.l1.s x.1 x.2
noncomputable def spec_l01Common.l1.r (p : Unit) (x : Int × Int) : Option Int := iterT (spec_l01Common.l1.st p) manyRounds x
def spec_l01Common.l1.cd : Cd (Unit × (Int × Int)) (List V × Hp) := Cd.iso (Cd.pair (Cd.cons (Cd.it .i64) (Cd.cons (Cd.it .i64) Cd.nil)) Cd.nil) (fun a => ((), (a.1.1, a.1.2.1))) (fun a => ((a.2.1, (a.2.2, ())), ())) (fun _ => rfl)
def spec_l01Common.l1.out (p : Unit) : Int → X × List V × Hp := (fun r => (.ex 0, [.it .i64 r], []))
def spec_l01Common.l1.ex (p : Unit) : Int → T (X × List V × Hp) := leafT (fun r => (.ex 0, [.it .i64 r], []))
noncomputable def spec_l01Common.l1.c : List V → Hp → T (X × List V × Hp) := cdL spec_l01Common.l1.cd fun x => optT (spec_l01Common.l1.r x.1 x.2) (spec_l01Common.l1.ex x.1)
noncomputable def spec_l01Common.C : Ctx := { ty := tys, fn := [], lp := [(1, ⟨[0, 1], [0], spec_l01Common.l1.c⟩)], n := 14, k := 0 }
theorem spec_l01Common.hC : CtxOK Try.prog spec_l01Common.C := CtxOK.of mo tys_ok FnsOK.nil
noncomputable def spec_l01Common.b1 : Code := (nthC (loopsOf spec_l01Common.b) 0)
theorem spec_l01Common.lp1 : LpOK Try.prog spec_l01Common.C spec_l01Common.b1 := (LpOK.nil (by kernel_rfl))
theorem spec_l01Common.l1.round (p : Unit) (s : Int × Int) : roundL spec_l01Common.C [0, 1] [0] spec_l01Common.b1 (spec_l01Common.l1.cd.enc (p, s)).1 (spec_l01Common.l1.cd.enc (p, s)).2 = (spec_l01Common.l1.st p s).map (encSum (fun s => spec_l01Common.l1.cd.enc (p, s)) (spec_l01Common.l1.out p)) := by kernel_rfl
theorem spec_l01Common.l1.lok : LoopOK Try.prog spec_l01Common.C ⟨[0, 1], [0], spec_l01Common.l1.c⟩ spec_l01Common.b1 := loop_cd spec_l01Common.l1.cd spec_l01Common.hC spec_l01Common.lp1 spec_l01Common.l1.round fun p => Gets.leaf
theorem spec_l01Common.lp : LpOK Try.prog spec_l01Common.C spec_l01Common.b := lp_of (by kernel_rfl) (LpsOK.cons (k := 1) (by kernel_rfl) (by kernel_rfl) spec_l01Common.l1.lok LpsOK.nil)
noncomputable def spec_l01Common.t (x0 : Int) (x1 : Int) : T Int :=
  .br (Option.isSome (spec_l01Common.l1.r () (x0, x1)))
  (.leaf (Option.getD (spec_l01Common.l1.r () (x0, x1)) default))
  .bad
noncomputable def spec_l01Common (x0 : Int) (x1 : Int) : Int := (spec_l01Common.t x0 x1).val
noncomputable def spec_l01Common.ok (x0 : Int) (x1 : Int) : Bool := (spec_l01Common.t x0 x1).ok
def spec_l01Common.cd : Cd (Int × Int) (List V × Hp) := Cd.iso (Cd.pair (Cd.cons (Cd.it .i64) (Cd.cons (Cd.it .i64) Cd.nil)) Cd.nil) (fun a => (a.1.1, a.1.2.1)) (fun a => ((a.1, (a.2, ())), ())) (fun _ => rfl)
noncomputable def spec_l01Common.tr (a : Int × Int) : T Int := spec_l01Common.t a.1 a.2
def spec_l01Common.enc : (Int × Int) → Int → V := fun a r => .it .i64 r
noncomputable def spec_l01Common.c : List V → Hp → T V := cdQ spec_l01Common.cd (fun a => .br (spec_l01Common.ok a.1 a.2) (.leaf (spec_l01Common.enc a (spec_l01Common a.1 a.2))) .bad)
theorem spec_l01Common.run (a : Int × Int) : runF spec_l01Common.C Try.f96.results.toList spec_l01Common.b (spec_l01Common.cd.enc a).1 (spec_l01Common.cd.enc a).2 = (spec_l01Common.tr a).map fun r => (spec_l01Common.enc a r, (spec_l01Common.cd.enc a).2) := by kernel_rfl
theorem spec_l01Common.cok : OKq Try.prog 96 spec_l01Common.c := con_q' spec_l01Common.cd spec_l01Common.hC Try.func96 (by kernel_rfl) (by kernel_rfl) (by kernel_rfl) spec_l01Common.lp (fun a => by kernel_rfl) spec_l01Common.run (Tells.ok (tree := spec_l01Common.tr))
/-! ### spec_l05Exact -/
noncomputable def spec_l05Exact.b : Code := bodyOf Try.f64
noncomputable def spec_l05Exact.l5.s (x0 : Int) (x1 : Int) (x2 : Int) (x3 : Int) (x4 : Int) : T ((Int × Int) ⊕ Int) :=
  .br (decide (x2 < (150 : Int)))
  (.leaf (.inl ((IntKind.wrap .i64 (x1 * (2 : Int))), (IntKind.wrap .i64 (x2 + (1 : Int))))))
  (.leaf (.inr x1))
noncomputable def spec_l05Exact.l5.st (p : Int × Int × Int) (x : Int × Int) : T ((Int × Int) ⊕ Int) := spec_l05Exact.l5.s p.1 x.1 x.2 p.2.1 p.2.2
noncomputable def spec_l05Exact.l5.r (p : Int × Int × Int) (x : Int × Int) : Option Int := iterT (spec_l05Exact.l5.st p) manyRounds x
def spec_l05Exact.l5.cd : Cd ((Int × Int × Int) × (Int × Int)) (List V × Hp) := Cd.iso (Cd.pair (Cd.cons (Cd.pt 0 (Cd.natc 0)) (Cd.cons (Cd.it .i64) (Cd.cons (Cd.it .i64) (Cd.cons (Cd.it .i64) Cd.nil)))) (Cd.cons (Cd.rw 33 2 (Cd.vs (Cd.cons (Cd.it .i64) (Cd.cons (Cd.it .i64) Cd.nil)))) Cd.nil)) (fun a => ((a.1.2.1, a.2.1.1, a.2.1.2.1), (a.1.2.2.1, a.1.2.2.2.1))) (fun a => (((), (a.1.1, (a.2.1, (a.2.2, ())))), ((a.1.2.1, (a.1.2.2, ())), ()))) (fun _ => rfl)
def spec_l05Exact.l5.out (p : Int × Int × Int) : Int → X × List V × Hp := (fun r => (.ex 0, [.pt 0 0, .it .i64 p.1, .it .i64 r], [some ⟨true, 33, 2, .vs [.it .i64 p.2.1, .it .i64 p.2.2]⟩]))
def spec_l05Exact.l5.ex (p : Int × Int × Int) : Int → T (X × List V × Hp) := leafT (fun r => (.ex 0, [.pt 0 0, .it .i64 p.1, .it .i64 r], [some ⟨true, 33, 2, .vs [.it .i64 p.2.1, .it .i64 p.2.2]⟩]))
noncomputable def spec_l05Exact.l5.c : List V → Hp → T (X × List V × Hp) := cdL spec_l05Exact.l5.cd fun x => optT (spec_l05Exact.l5.r x.1 x.2) (spec_l05Exact.l5.ex x.1)
noncomputable def spec_l05Exact.C : Ctx := { ty := tys, fn := [(95, .q f32bitsC), (96, .q spec_l01Common.c)], lp := [(5, ⟨[2, 4, 5, 6], [2, 4, 5], spec_l05Exact.l5.c⟩)], n := 32, k := 0 }
theorem spec_l05Exact.hC : CtxOK Try.prog spec_l05Exact.C := CtxOK.of mo tys_ok (FnsOK.cons (f32bits_ok Try.func95 (by kernel_rfl) (by kernel_rfl) (by kernel_rfl) (by kernel_rfl)) (FnsOK.cons spec_l01Common.cok FnsOK.nil))
noncomputable def spec_l05Exact.b5 : Code := (nthC (loopsOf spec_l05Exact.b) 0)
theorem spec_l05Exact.lp5 : LpOK Try.prog spec_l05Exact.C spec_l05Exact.b5 := (LpOK.nil (by kernel_rfl))
theorem spec_l05Exact.l5.round (p : Int × Int × Int) (s : Int × Int) : roundL spec_l05Exact.C [2, 4, 5, 6] [2, 4, 5] spec_l05Exact.b5 (spec_l05Exact.l5.cd.enc (p, s)).1 (spec_l05Exact.l5.cd.enc (p, s)).2 = (spec_l05Exact.l5.st p s).map (encSum (fun s => spec_l05Exact.l5.cd.enc (p, s)) (spec_l05Exact.l5.out p)) := by kernel_rfl
theorem spec_l05Exact.l5.lok : LoopOK Try.prog spec_l05Exact.C ⟨[2, 4, 5, 6], [2, 4, 5], spec_l05Exact.l5.c⟩ spec_l05Exact.b5 := loop_cd spec_l05Exact.l5.cd spec_l05Exact.hC spec_l05Exact.lp5 spec_l05Exact.l5.round fun p => Gets.leaf
theorem spec_l05Exact.lp : LpOK Try.prog spec_l05Exact.C spec_l05Exact.b := lp_of (by kernel_rfl) (LpsOK.cons (k := 5) (by kernel_rfl) (by kernel_rfl) spec_l05Exact.l5.lok LpsOK.nil)
noncomputable def spec_l05Exact.t (x0 : Nat) : T (Int × Int) :=
  .br (isNaN .f32 x0)
  .bad
  (.br (Option.isSome (spec_l05Exact.l5.r ((IntKind.wrap .i64 ((Int.tmod (IntKind.wrap .i64 ((x0 : Nat) : Int)) (8388608 : Int)) + (8388608 : Int))), (0 : Int), (0 : Int)) ((1 : Int), (IntKind.wrap .i64 (Int.tdiv (IntKind.wrap .i64 ((x0 : Nat) : Int)) (8388608 : Int))))))
   (.br (spec_l01Common.ok (IntKind.wrap .i64 ((Int.tmod (IntKind.wrap .i64 ((x0 : Nat) : Int)) (8388608 : Int)) + (8388608 : Int))) (Option.getD (spec_l05Exact.l5.r ((IntKind.wrap .i64 ((Int.tmod (IntKind.wrap .i64 ((x0 : Nat) : Int)) (8388608 : Int)) + (8388608 : Int))), (0 : Int), (0 : Int)) ((1 : Int), (IntKind.wrap .i64 (Int.tdiv (IntKind.wrap .i64 ((x0 : Nat) : Int)) (8388608 : Int))))) default))
    (.br ((spec_l01Common (IntKind.wrap .i64 ((Int.tmod (IntKind.wrap .i64 ((x0 : Nat) : Int)) (8388608 : Int)) + (8388608 : Int))) (Option.getD (spec_l05Exact.l5.r ((IntKind.wrap .i64 ((Int.tmod (IntKind.wrap .i64 ((x0 : Nat) : Int)) (8388608 : Int)) + (8388608 : Int))), (0 : Int), (0 : Int)) ((1 : Int), (IntKind.wrap .i64 (Int.tdiv (IntKind.wrap .i64 ((x0 : Nat) : Int)) (8388608 : Int))))) default)) == 0)
     .bad
     (.br ((spec_l01Common (IntKind.wrap .i64 ((Int.tmod (IntKind.wrap .i64 ((x0 : Nat) : Int)) (8388608 : Int)) + (8388608 : Int))) (Option.getD (spec_l05Exact.l5.r ((IntKind.wrap .i64 ((Int.tmod (IntKind.wrap .i64 ((x0 : Nat) : Int)) (8388608 : Int)) + (8388608 : Int))), (0 : Int), (0 : Int)) ((1 : Int), (IntKind.wrap .i64 (Int.tdiv (IntKind.wrap .i64 ((x0 : Nat) : Int)) (8388608 : Int))))) default)) == 0)
      .bad
      (.leaf ((IntKind.wrap .i64 (Int.tdiv (IntKind.wrap .i64 ((Int.tmod (IntKind.wrap .i64 ((x0 : Nat) : Int)) (8388608 : Int)) + (8388608 : Int))) (spec_l01Common (IntKind.wrap .i64 ((Int.tmod (IntKind.wrap .i64 ((x0 : Nat) : Int)) (8388608 : Int)) + (8388608 : Int))) (Option.getD (spec_l05Exact.l5.r ((IntKind.wrap .i64 ((Int.tmod (IntKind.wrap .i64 ((x0 : Nat) : Int)) (8388608 : Int)) + (8388608 : Int))), (0 : Int), (0 : Int)) ((1 : Int), (IntKind.wrap .i64 (Int.tdiv (IntKind.wrap .i64 ((x0 : Nat) : Int)) (8388608 : Int))))) default)))), (IntKind.wrap .i64 (Int.tdiv (Option.getD (spec_l05Exact.l5.r ((IntKind.wrap .i64 ((Int.tmod (IntKind.wrap .i64 ((x0 : Nat) : Int)) (8388608 : Int)) + (8388608 : Int))), (0 : Int), (0 : Int)) ((1 : Int), (IntKind.wrap .i64 (Int.tdiv (IntKind.wrap .i64 ((x0 : Nat) : Int)) (8388608 : Int))))) default) (spec_l01Common (IntKind.wrap .i64 ((Int.tmod (IntKind.wrap .i64 ((x0 : Nat) : Int)) (8388608 : Int)) + (8388608 : Int))) (Option.getD (spec_l05Exact.l5.r ((IntKind.wrap .i64 ((Int.tmod (IntKind.wrap .i64 ((x0 : Nat) : Int)) (8388608 : Int)) + (8388608 : Int))), (0 : Int), (0 : Int)) ((1 : Int), (IntKind.wrap .i64 (Int.tdiv (IntKind.wrap .i64 ((x0 : Nat) : Int)) (8388608 : Int))))) default))))))))
    .bad)
   .bad)
noncomputable def spec_l05Exact (x0 : Nat) : Int × Int := (spec_l05Exact.t x0).val
noncomputable def spec_l05Exact.ok (x0 : Nat) : Bool := (spec_l05Exact.t x0).ok
def spec_l05Exact.cd : Cd Nat (List V × Hp) := Cd.iso (Cd.pair (Cd.cons (Cd.fl .f32) Cd.nil) Cd.nil) (fun a => a.1.1) (fun a => ((a, ()), ())) (fun _ => rfl)
noncomputable def spec_l05Exact.tr (a : Nat) : T (Int × Int) := spec_l05Exact.t a
def spec_l05Exact.enc : Nat → (Int × Int) → V := fun a r => .agg [.it .i64 r.1, .it .i64 r.2]
noncomputable def spec_l05Exact.c : List V → Hp → T V := cdQ spec_l05Exact.cd (fun a => .br (spec_l05Exact.ok a) (.leaf (spec_l05Exact.enc a (spec_l05Exact a))) .bad)
theorem spec_l05Exact.run (a : Nat) : runF spec_l05Exact.C Try.f64.results.toList spec_l05Exact.b (spec_l05Exact.cd.enc a).1 (spec_l05Exact.cd.enc a).2 = (spec_l05Exact.tr a).map fun r => (spec_l05Exact.enc a r, (spec_l05Exact.cd.enc a).2) := by kernel_rfl
theorem spec_l05Exact.cok : OKq Try.prog 64 spec_l05Exact.c := con_q' spec_l05Exact.cd spec_l05Exact.hC Try.func64 (by kernel_rfl) (by kernel_rfl) (by kernel_rfl) spec_l05Exact.lp (fun a => by kernel_rfl) spec_l05Exact.run (Tells.ok (tree := spec_l05Exact.tr))
/-! ### spec_ExactOf -/
noncomputable def spec_ExactOf.b : Code := bodyOf Try.f22
noncomputable def spec_ExactOf.C : Ctx := { ty := tys, fn := [(58, .q spec_l05Target.c), (64, .q spec_l05Exact.c)], lp := [], n := 10, k := 0 }
theorem spec_ExactOf.hC : CtxOK Try.prog spec_ExactOf.C := CtxOK.of mo tys_ok (FnsOK.cons spec_l05Target.cok (FnsOK.cons spec_l05Exact.cok FnsOK.nil))
theorem spec_ExactOf.lp : LpOK Try.prog spec_ExactOf.C spec_ExactOf.b := (LpOK.nil (by kernel_rfl))
noncomputable def spec_ExactOf.t (x0 : Nat) : T (Int × Int × Int) :=
  .br (!(spec_l05Target x0))
  (.leaf ((0 : Int), (0 : Int), (2 : Int)))
  (.br (spec_l05Exact.ok x0)
   (.leaf ((spec_l05Exact x0).1, (spec_l05Exact x0).2, (0 : Int)))
   .bad)
noncomputable def spec_ExactOf (x0 : Nat) : Int × Int × Int := (spec_ExactOf.t x0).val
noncomputable def spec_ExactOf.ok (x0 : Nat) : Bool := (spec_ExactOf.t x0).ok
def spec_ExactOf.cd : Cd Nat (List V × Hp) := Cd.iso (Cd.pair (Cd.cons (Cd.fl .f32) Cd.nil) Cd.nil) (fun a => a.1.1) (fun a => ((a, ()), ())) (fun _ => rfl)
noncomputable def spec_ExactOf.tr (a : Nat) : T (Int × Int × Int) := spec_ExactOf.t a
def spec_ExactOf.enc : Nat → (Int × Int × Int) → V := fun a r => .tup [.agg [.it .i64 r.1, .it .i64 r.2.1], .it .i64 r.2.2]
noncomputable def spec_ExactOf.c : List V → Hp → T V := cdQ spec_ExactOf.cd (fun a => .br (spec_ExactOf.ok a) (.leaf (spec_ExactOf.enc a (spec_ExactOf a))) .bad)
theorem spec_ExactOf.run (a : Nat) : runF spec_ExactOf.C Try.f22.results.toList spec_ExactOf.b (spec_ExactOf.cd.enc a).1 (spec_ExactOf.cd.enc a).2 = (spec_ExactOf.tr a).map fun r => (spec_ExactOf.enc a r, (spec_ExactOf.cd.enc a).2) := by kernel_rfl
theorem spec_ExactOf.cok : OKq Try.prog 22 spec_ExactOf.c := con_q' spec_ExactOf.cd spec_ExactOf.hC Try.func22 (by kernel_rfl) (by kernel_rfl) (by kernel_rfl) spec_ExactOf.lp (fun a => by kernel_rfl) spec_ExactOf.run (Tells.ok (tree := spec_ExactOf.tr))
/-! ### impl_between -/
noncomputable def impl_between.b : Code := bodyOf Try.f93
noncomputable def impl_between.C : Ctx := { ty := tys, fn := [], lp := [], n := 15, k := 0 }
theorem impl_between.hC : CtxOK Try.prog impl_between.C := CtxOK.of mo tys_ok FnsOK.nil
theorem impl_between.lp : LpOK Try.prog impl_between.C impl_between.b := (LpOK.nil (by kernel_rfl))
noncomputable def impl_between.t (x0 : Nat) (x1 : Nat) (x2 : Nat) : T Bool :=
  .br (fle .f32 x1 x0)
  (.leaf (fle .f32 x0 x2))
  (.leaf false)
noncomputable def impl_between (x0 : Nat) (x1 : Nat) (x2 : Nat) : Bool := (impl_between.t x0 x1 x2).val
def impl_between.cd : Cd (Nat × Nat × Nat) (List V × Hp) := Cd.iso (Cd.pair (Cd.cons (Cd.fl .f32) (Cd.cons (Cd.fl .f32) (Cd.cons (Cd.fl .f32) Cd.nil))) Cd.nil) (fun a => (a.1.1, a.1.2.1, a.1.2.2.1)) (fun a => ((a.1, (a.2.1, (a.2.2, ()))), ())) (fun _ => rfl)
noncomputable def impl_between.tr (a : Nat × Nat × Nat) : T Bool := impl_between.t a.1 a.2.1 a.2.2
def impl_between.enc : (Nat × Nat × Nat) → Bool → V := fun a r => .bo r
noncomputable def impl_between.c : List V → Hp → T V := cdQ impl_between.cd (fun a => .leaf (impl_between.enc a (impl_between a.1 a.2.1 a.2.2)))
theorem impl_between.run (a : Nat × Nat × Nat) : runF impl_between.C Try.f93.results.toList impl_between.b (impl_between.cd.enc a).1 (impl_between.cd.enc a).2 = (impl_between.tr a).map fun r => (impl_between.enc a r, (impl_between.cd.enc a).2) := by kernel_rfl
theorem impl_between.cok : OKq Try.prog 93 impl_between.c := con_q' impl_between.cd impl_between.hC Try.func93 (by kernel_rfl) (by kernel_rfl) (by kernel_rfl) impl_between.lp (fun a => by kernel_rfl) impl_between.run (Tells.val (tree := impl_between.tr) fun a => by kernel_rfl)
/-! ### impl_isTarget -/
noncomputable def impl_isTarget.b : Code := bodyOf Try.f62
noncomputable def impl_isTarget.C : Ctx := { ty := tys, fn := [(93, .q impl_between.c)], lp := [], n := 5, k := 0 }
theorem impl_isTarget.hC : CtxOK Try.prog impl_isTarget.C := CtxOK.of mo tys_ok (FnsOK.cons impl_between.cok FnsOK.nil)
theorem impl_isTarget.lp : LpOK Try.prog impl_isTarget.C impl_isTarget.b := (LpOK.nil (by kernel_rfl))
noncomputable def impl_isTarget.t (x0 : Nat) : T Bool :=
  .leaf (impl_between x0 981467136 1149239296)
noncomputable def impl_isTarget (x0 : Nat) : Bool := (impl_isTarget.t x0).val
def impl_isTarget.cd : Cd Nat (List V × Hp) := Cd.iso (Cd.pair (Cd.cons (Cd.fl .f32) Cd.nil) Cd.nil) (fun a => a.1.1) (fun a => ((a, ()), ())) (fun _ => rfl)
noncomputable def impl_isTarget.tr (a : Nat) : T Bool := impl_isTarget.t a
def impl_isTarget.enc : Nat → Bool → V := fun a r => .bo r
noncomputable def impl_isTarget.c : List V → Hp → T V := cdQ impl_isTarget.cd (fun a => .leaf (impl_isTarget.enc a (impl_isTarget a)))
theorem impl_isTarget.run (a : Nat) : runF impl_isTarget.C Try.f62.results.toList impl_isTarget.b (impl_isTarget.cd.enc a).1 (impl_isTarget.cd.enc a).2 = (impl_isTarget.tr a).map fun r => (impl_isTarget.enc a r, (impl_isTarget.cd.enc a).2) := by kernel_rfl
theorem impl_isTarget.cok : OKq Try.prog 62 impl_isTarget.c := con_q' impl_isTarget.cd impl_isTarget.hC Try.func62 (by kernel_rfl) (by kernel_rfl) (by kernel_rfl) impl_isTarget.lp (fun a => by kernel_rfl) impl_isTarget.run (Tells.val (tree := impl_isTarget.tr) fun a => by kernel_rfl)
/-! ### impl_exact -/
noncomputable def impl_exact.b : Code := bodyOf Try.f65
noncomputable def impl_exact.l2.s (x0 : Nat) (x1 : Int) (x2 : Int) (x3 : Int) : T ((Nat × Int) ⊕ (Nat × Int)) :=
  .br (ftoiOk .f64 .i64 x0)
  (.br (fne .f64 x0 (fofint .f64 (ftoi .f64 .i64 x0)))
   (.leaf (.inl ((fmul .f64 x0 4611686018427387904), (IntKind.wrap .i64 (x1 * (2 : Int))))))
   (.leaf (.inr (x0, x1))))
  .bad
noncomputable def impl_exact.l2.st (p : Int × Int) (x : Nat × Int) : T ((Nat × Int) ⊕ (Nat × Int)) := impl_exact.l2.s x.1 x.2 p.1 p.2
noncomputable def impl_exact.l2.r (p : Int × Int) (x : Nat × Int) : Option (Nat × Int) := iterT (impl_exact.l2.st p) manyRounds x
def impl_exact.l2.cd : Cd ((Int × Int) × (Nat × Int)) (List V × Hp) := Cd.iso (Cd.pair (Cd.cons (Cd.pt 0 (Cd.natc 0)) (Cd.cons (Cd.fl .f64) (Cd.cons (Cd.it .i64) Cd.nil))) (Cd.cons (Cd.rw 33 2 (Cd.vs (Cd.cons (Cd.it .i64) (Cd.cons (Cd.it .i64) Cd.nil)))) Cd.nil)) (fun a => ((a.2.1.1, a.2.1.2.1), (a.1.2.1, a.1.2.2.1))) (fun a => (((), (a.2.1, (a.2.2, ()))), ((a.1.1, (a.1.2, ())), ()))) (fun _ => rfl)
def impl_exact.l2.out (p : Int × Int) : (Nat × Int) → X × List V × Hp := (fun r => (.ex 0, [.pt 0 0, .fl .f64 r.1, .it .i64 r.2], [some ⟨true, 33, 2, .vs [.it .i64 p.1, .it .i64 p.2]⟩]))
def impl_exact.l2.ex (p : Int × Int) : (Nat × Int) → T (X × List V × Hp) := leafT (fun r => (.ex 0, [.pt 0 0, .fl .f64 r.1, .it .i64 r.2], [some ⟨true, 33, 2, .vs [.it .i64 p.1, .it .i64 p.2]⟩]))
noncomputable def impl_exact.l2.c : List V → Hp → T (X × List V × Hp) := cdL impl_exact.l2.cd fun x => optT (impl_exact.l2.r x.1 x.2) (impl_exact.l2.ex x.1)
noncomputable def impl_exact.C : Ctx := { ty := tys, fn := [], lp := [(2, ⟨[2, 3, 4], [2, 3, 4], impl_exact.l2.c⟩)], n := 20, k := 0 }
theorem impl_exact.hC : CtxOK Try.prog impl_exact.C := CtxOK.of mo tys_ok FnsOK.nil
noncomputable def impl_exact.b2 : Code := (nthC (loopsOf impl_exact.b) 0)
theorem impl_exact.lp2 : LpOK Try.prog impl_exact.C impl_exact.b2 := (LpOK.nil (by kernel_rfl))
theorem impl_exact.l2.round (p : Int × Int) (s : Nat × Int) : roundL impl_exact.C [2, 3, 4] [2, 3, 4] impl_exact.b2 (impl_exact.l2.cd.enc (p, s)).1 (impl_exact.l2.cd.enc (p, s)).2 = (impl_exact.l2.st p s).map (encSum (fun s => impl_exact.l2.cd.enc (p, s)) (impl_exact.l2.out p)) := by kernel_rfl
theorem impl_exact.l2.lok : LoopOK Try.prog impl_exact.C ⟨[2, 3, 4], [2, 3, 4], impl_exact.l2.c⟩ impl_exact.b2 := loop_cd impl_exact.l2.cd impl_exact.hC impl_exact.lp2 impl_exact.l2.round fun p => Gets.leaf
theorem impl_exact.lp : LpOK Try.prog impl_exact.C impl_exact.b := lp_of (by kernel_rfl) (LpsOK.cons (k := 2) (by kernel_rfl) (by kernel_rfl) impl_exact.l2.lok LpsOK.nil)
noncomputable def impl_exact.t (x0 : Nat) : T (Int × Int) :=
  .br (fcvOpen .f32 .f64 x0)
  .bad
  (.br (Option.isSome (impl_exact.l2.r ((0 : Int), (0 : Int)) ((fcv .f32 .f64 x0), (1 : Int))))
   (.br (ftoiOk .f64 .i64 (Option.getD (impl_exact.l2.r ((0 : Int), (0 : Int)) ((fcv .f32 .f64 x0), (1 : Int))) default).1)
    (.leaf ((ftoi .f64 .i64 (Option.getD (impl_exact.l2.r ((0 : Int), (0 : Int)) ((fcv .f32 .f64 x0), (1 : Int))) default).1), (Option.getD (impl_exact.l2.r ((0 : Int), (0 : Int)) ((fcv .f32 .f64 x0), (1 : Int))) default).2))
    .bad)
   .bad)
noncomputable def impl_exact (x0 : Nat) : Int × Int := (impl_exact.t x0).val
noncomputable def impl_exact.ok (x0 : Nat) : Bool := (impl_exact.t x0).ok
def impl_exact.cd : Cd Nat (List V × Hp) := Cd.iso (Cd.pair (Cd.cons (Cd.fl .f32) Cd.nil) Cd.nil) (fun a => a.1.1) (fun a => ((a, ()), ())) (fun _ => rfl)
noncomputable def impl_exact.tr (a : Nat) : T (Int × Int) := impl_exact.t a
def impl_exact.enc : Nat → (Int × Int) → V := fun a r => .agg [.it .i64 r.1, .it .i64 r.2]
noncomputable def impl_exact.c : List V → Hp → T V := cdQ impl_exact.cd (fun a => .br (impl_exact.ok a) (.leaf (impl_exact.enc a (impl_exact a))) .bad)
theorem impl_exact.run (a : Nat) : runF impl_exact.C Try.f65.results.toList impl_exact.b (impl_exact.cd.enc a).1 (impl_exact.cd.enc a).2 = (impl_exact.tr a).map fun r => (impl_exact.enc a r, (impl_exact.cd.enc a).2) := by kernel_rfl
theorem impl_exact.cok : OKq Try.prog 65 impl_exact.c := con_q' impl_exact.cd impl_exact.hC Try.func65 (by kernel_rfl) (by kernel_rfl) (by kernel_rfl) impl_exact.lp (fun a => by kernel_rfl) impl_exact.run (Tells.ok (tree := impl_exact.tr))
/-! ### impl_ExactOf -/
noncomputable def impl_ExactOf.b : Code := bodyOf Try.f23
noncomputable def impl_ExactOf.C : Ctx := { ty := tys, fn := [(62, .q impl_isTarget.c), (65, .q impl_exact.c)], lp := [], n := 10, k := 0 }
theorem impl_ExactOf.hC : CtxOK Try.prog impl_ExactOf.C := CtxOK.of mo tys_ok (FnsOK.cons impl_isTarget.cok (FnsOK.cons impl_exact.cok FnsOK.nil))
theorem impl_ExactOf.lp : LpOK Try.prog impl_ExactOf.C impl_ExactOf.b := (LpOK.nil (by kernel_rfl))
noncomputable def impl_ExactOf.t (x0 : Nat) : T (Int × Int × Int) :=
  .br (!(impl_isTarget x0))
  (.leaf ((0 : Int), (0 : Int), (2 : Int)))
  (.br (impl_exact.ok x0)
   (.leaf ((impl_exact x0).1, (impl_exact x0).2, (0 : Int)))
   .bad)
noncomputable def impl_ExactOf (x0 : Nat) : Int × Int × Int := (impl_ExactOf.t x0).val
noncomputable def impl_ExactOf.ok (x0 : Nat) : Bool := (impl_ExactOf.t x0).ok
def impl_ExactOf.cd : Cd Nat (List V × Hp) := Cd.iso (Cd.pair (Cd.cons (Cd.fl .f32) Cd.nil) Cd.nil) (fun a => a.1.1) (fun a => ((a, ()), ())) (fun _ => rfl)
noncomputable def impl_ExactOf.tr (a : Nat) : T (Int × Int × Int) := impl_ExactOf.t a
def impl_ExactOf.enc : Nat → (Int × Int × Int) → V := fun a r => .tup [.agg [.it .i64 r.1, .it .i64 r.2.1], .it .i64 r.2.2]
noncomputable def impl_ExactOf.c : List V → Hp → T V := cdQ impl_ExactOf.cd (fun a => .br (impl_ExactOf.ok a) (.leaf (impl_ExactOf.enc a (impl_ExactOf a))) .bad)
theorem impl_ExactOf.run (a : Nat) : runF impl_ExactOf.C Try.f23.results.toList impl_ExactOf.b (impl_ExactOf.cd.enc a).1 (impl_ExactOf.cd.enc a).2 = (impl_ExactOf.tr a).map fun r => (impl_ExactOf.enc a r, (impl_ExactOf.cd.enc a).2) := by kernel_rfl
theorem impl_ExactOf.cok : OKq Try.prog 23 impl_ExactOf.c := con_q' impl_ExactOf.cd impl_ExactOf.hC Try.func23 (by kernel_rfl) (by kernel_rfl) (by kernel_rfl) impl_ExactOf.lp (fun a => by kernel_rfl) impl_ExactOf.run (Tells.ok (tree := impl_ExactOf.tr))
/-! ### laws_eqFraction -/
noncomputable def laws_eqFraction.b : Code := bodyOf Try.f24
noncomputable def laws_eqFraction.C : Ctx := { ty := tys, fn := [], lp := [], n := 15, k := 0 }
theorem laws_eqFraction.hC : CtxOK Try.prog laws_eqFraction.C := CtxOK.of mo tys_ok FnsOK.nil
theorem laws_eqFraction.lp : LpOK Try.prog laws_eqFraction.C laws_eqFraction.b := (LpOK.nil (by kernel_rfl))
noncomputable def laws_eqFraction.t (x0 : Int) (x1 : Int) (x2 : Int) (x3 : Int) : T Bool :=
  .br (x0 != x2)
  (.leaf false)
  (.br (x1 != x3)
   (.leaf false)
   (.leaf true))
noncomputable def laws_eqFraction (x0 : Int) (x1 : Int) (x2 : Int) (x3 : Int) : Bool := (laws_eqFraction.t x0 x1 x2 x3).val
def laws_eqFraction.cd : Cd (Int × Int × Int × Int) (List V × Hp) := Cd.iso (Cd.pair (Cd.cons (Cd.agg (Cd.cons (Cd.it .i64) (Cd.cons (Cd.it .i64) Cd.nil))) (Cd.cons (Cd.agg (Cd.cons (Cd.it .i64) (Cd.cons (Cd.it .i64) Cd.nil))) Cd.nil)) Cd.nil) (fun a => (a.1.1.1, a.1.1.2.1, a.1.2.1.1, a.1.2.1.2.1)) (fun a => (((a.1, (a.2.1, ())), ((a.2.2.1, (a.2.2.2, ())), ())), ())) (fun _ => rfl)
noncomputable def laws_eqFraction.tr (a : Int × Int × Int × Int) : T Bool := laws_eqFraction.t a.1 a.2.1 a.2.2.1 a.2.2.2
def laws_eqFraction.enc : (Int × Int × Int × Int) → Bool → V := fun a r => .bo r
noncomputable def laws_eqFraction.c : List V → Hp → T V := cdQ laws_eqFraction.cd (fun a => .leaf (laws_eqFraction.enc a (laws_eqFraction a.1 a.2.1 a.2.2.1 a.2.2.2)))
theorem laws_eqFraction.run (a : Int × Int × Int × Int) : runF laws_eqFraction.C Try.f24.results.toList laws_eqFraction.b (laws_eqFraction.cd.enc a).1 (laws_eqFraction.cd.enc a).2 = (laws_eqFraction.tr a).map fun r => (laws_eqFraction.enc a r, (laws_eqFraction.cd.enc a).2) := by kernel_rfl
theorem laws_eqFraction.cok : OKq Try.prog 24 laws_eqFraction.c := con_q' laws_eqFraction.cd laws_eqFraction.hC Try.func24 (by kernel_rfl) (by kernel_rfl) (by kernel_rfl) laws_eqFraction.lp (fun a => by kernel_rfl) laws_eqFraction.run (Tells.val (tree := laws_eqFraction.tr) fun a => by kernel_rfl)
/-! ### laws_FnExactExactOf -/
noncomputable def laws_FnExactExactOf.b : Code := bodyOf Try.f5
noncomputable def laws_FnExactExactOf.C : Ctx := { ty := tys, fn := [(22, .q spec_ExactOf.c), (23, .q impl_ExactOf.c), (24, .q laws_eqFraction.c)], lp := [], n := 26, k := 0 }
theorem laws_FnExactExactOf.hC : CtxOK Try.prog laws_FnExactExactOf.C := CtxOK.of mo tys_ok (FnsOK.cons spec_ExactOf.cok (FnsOK.cons impl_ExactOf.cok (FnsOK.cons laws_eqFraction.cok FnsOK.nil)))
theorem laws_FnExactExactOf.lp : LpOK Try.prog laws_FnExactExactOf.C laws_FnExactExactOf.b := (LpOK.nil (by kernel_rfl))
noncomputable def laws_FnExactExactOf.t (x0 : Nat) : T Bool :=
  .br (spec_ExactOf.ok x0)
  (.br (impl_ExactOf.ok x0)
   (.br (!(laws_eqFraction ((impl_ExactOf x0).1) ((impl_ExactOf x0).2.1) ((spec_ExactOf x0).1) ((spec_ExactOf x0).2.1)))
    (.leaf false)
    (.br ((impl_ExactOf x0).2.2 != (spec_ExactOf x0).2.2)
     (.leaf false)
     (.leaf true)))
   .bad)
  .bad
noncomputable def laws_FnExactExactOf (x0 : Nat) : Bool := (laws_FnExactExactOf.t x0).val
noncomputable def laws_FnExactExactOf.ok (x0 : Nat) : Bool := (laws_FnExactExactOf.t x0).ok
def laws_FnExactExactOf.cd : Cd Nat (List V × Hp) := Cd.iso (Cd.pair (Cd.cons (Cd.fl .f32) Cd.nil) Cd.nil) (fun a => a.1.1) (fun a => ((a, ()), ())) (fun _ => rfl)
noncomputable def laws_FnExactExactOf.tr (a : Nat) : T Bool := laws_FnExactExactOf.t a
def laws_FnExactExactOf.enc : Nat → Bool → V := fun a r => .bo r
noncomputable def laws_FnExactExactOf.c : List V → Hp → T V := cdQ laws_FnExactExactOf.cd (fun a => .br (laws_FnExactExactOf.ok a) (.leaf (laws_FnExactExactOf.enc a (laws_FnExactExactOf a))) .bad)
theorem laws_FnExactExactOf.run (a : Nat) : runF laws_FnExactExactOf.C Try.f5.results.toList laws_FnExactExactOf.b (laws_FnExactExactOf.cd.enc a).1 (laws_FnExactExactOf.cd.enc a).2 = (laws_FnExactExactOf.tr a).map fun r => (laws_FnExactExactOf.enc a r, (laws_FnExactExactOf.cd.enc a).2) := by kernel_rfl
theorem laws_FnExactExactOf.cok : OKq Try.prog 5 laws_FnExactExactOf.c := con_q' laws_FnExactExactOf.cd laws_FnExactExactOf.hC Try.func5 (by kernel_rfl) (by kernel_rfl) (by kernel_rfl) laws_FnExactExactOf.lp (fun a => by kernel_rfl) laws_FnExactExactOf.run (Tells.ok (tree := laws_FnExactExactOf.tr))
theorem laws_FnExactExactOf.walk (a : Nat) (h : (laws_FnExactExactOf.tr a).get = some true) {ρ : Nat → Option Sx.Loc} {w : World} {vs : List Value} (hargs : V.Rs ρ (laws_FnExactExactOf.cd.enc a).1 vs) (hh : HpR ρ (laws_FnExactExactOf.cd.enc a).2 w) :
    Calls Try.prog 5 vs.toArray w fun e w' => e = .returned (.bool true) ∧ Below w.heap.size w w' :=
  law_cd laws_FnExactExactOf.cd laws_FnExactExactOf.hC Try.func5 (by kernel_rfl) (by kernel_rfl) laws_FnExactExactOf.lp (fun a => by kernel_rfl) laws_FnExactExactOf.run (fun a => by kernel_rfl) a (by kernel_rfl) h hargs hh
end Go.Proofs.Ythllapodgemlfaa
