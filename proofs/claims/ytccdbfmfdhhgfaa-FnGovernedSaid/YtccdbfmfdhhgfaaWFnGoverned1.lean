/- The walk of FnGoverned, part 1. -/
import Derived.Test.YtccdbfmfdhhgfaaSxP
import Derived.Test.YtccdbfmfdhhgfaaChecked
namespace Go.Proofs.Ytccdbfmfdhhgfaa
open Go Go.RowKit Sx
set_option linter.unusedVariables false
set_option maxRecDepth 100000
set_option maxHeartbeats 0
noncomputable def ti1 : TI := ⟨Try.t1.desc, 1, 8, [.nf]⟩
theorem ti1_ok : TyOK Try.prog 1 ti1 := TyOK.of (inf := Try.t1) Try.underlying1 (by kernel_rfl) (by kernel_rfl) (by kernel_rfl) (by kernel_rfl)
noncomputable def ti2 : TI := ⟨Try.t2.desc, 1, 8, [.it .i64 (0 : Int)]⟩
theorem ti2_ok : TyOK Try.prog 2 ti2 := TyOK.of (inf := Try.t2) Try.underlying2 (by kernel_rfl) (by kernel_rfl) (by kernel_rfl) (by kernel_rfl)
noncomputable def ti3 : TI := ⟨Try.t3.desc, 1, 8, [.it .i64 (0 : Int)]⟩
theorem ti3_ok : TyOK Try.prog 3 ti3 := TyOK.of (inf := Try.t3) Try.underlying3 (by kernel_rfl) (by kernel_rfl) (by kernel_rfl) (by kernel_rfl)
noncomputable def ti4 : TI := ⟨Try.t4.desc, 1, 1, [.kb false]⟩
theorem ti4_ok : TyOK Try.prog 4 ti4 := TyOK.of (inf := Try.t4) Try.underlying4 (by kernel_rfl) (by kernel_rfl) (by kernel_rfl) (by kernel_rfl)
noncomputable def ti5 : TI := ⟨Try.t5.desc, 1, 1, [.it .u8 (0 : Int)]⟩
theorem ti5_ok : TyOK Try.prog 5 ti5 := TyOK.of (inf := Try.t5) Try.underlying5 (by kernel_rfl) (by kernel_rfl) (by kernel_rfl) (by kernel_rfl)
noncomputable def ti6 : TI := ⟨Try.t5.desc, 1, 1, [.it .u8 (0 : Int)]⟩
theorem ti6_ok : TyOK Try.prog 6 ti6 := TyOK.of (inf := Try.t6) Try.underlying6 (by kernel_rfl) (by kernel_rfl) (by kernel_rfl) (by kernel_rfl)
noncomputable def ti7 : TI := ⟨Try.t7.desc, 4, 24, [.it .i64 (0 : Int), .it .i64 (0 : Int), .kb false, .it .u8 (0 : Int)]⟩
theorem ti7_ok : TyOK Try.prog 7 ti7 := TyOK.of (inf := Try.t7) Try.underlying7 (by kernel_rfl) (by kernel_rfl) (by kernel_rfl) (by kernel_rfl)
noncomputable def ti8 : TI := ⟨Try.t7.desc, 4, 24, [.it .i64 (0 : Int), .it .i64 (0 : Int), .kb false, .it .u8 (0 : Int)]⟩
theorem ti8_ok : TyOK Try.prog 8 ti8 := TyOK.of (inf := Try.t8) Try.underlying8 (by kernel_rfl) (by kernel_rfl) (by kernel_rfl) (by kernel_rfl)
noncomputable def ti9 : TI := ⟨Try.t9.desc, 1, 16, [.st (ByteArray.mk #[])]⟩
theorem ti9_ok : TyOK Try.prog 9 ti9 := TyOK.of (inf := Try.t9) Try.underlying9 (by kernel_rfl) (by kernel_rfl) (by kernel_rfl) (by kernel_rfl)
noncomputable def ti10 : TI := ⟨Try.t9.desc, 1, 16, [.st (ByteArray.mk #[])]⟩
theorem ti10_ok : TyOK Try.prog 10 ti10 := TyOK.of (inf := Try.t10) Try.underlying10 (by kernel_rfl) (by kernel_rfl) (by kernel_rfl) (by kernel_rfl)
noncomputable def ti11 : TI := ⟨Try.t9.desc, 1, 16, [.st (ByteArray.mk #[])]⟩
theorem ti11_ok : TyOK Try.prog 11 ti11 := TyOK.of (inf := Try.t11) Try.underlying11 (by kernel_rfl) (by kernel_rfl) (by kernel_rfl) (by kernel_rfl)
noncomputable def ti12 : TI := ⟨Try.t12.desc, 1, 8, [.it .u64 (0 : Int)]⟩
theorem ti12_ok : TyOK Try.prog 12 ti12 := TyOK.of (inf := Try.t12) Try.underlying12 (by kernel_rfl) (by kernel_rfl) (by kernel_rfl) (by kernel_rfl)
noncomputable def ti13 : TI := ⟨Try.t13.desc, 2, 24, [.st (ByteArray.mk #[]), .it .u64 (0 : Int)]⟩
theorem ti13_ok : TyOK Try.prog 13 ti13 := TyOK.of (inf := Try.t13) Try.underlying13 (by kernel_rfl) (by kernel_rfl) (by kernel_rfl) (by kernel_rfl)
noncomputable def ti14 : TI := ⟨Try.t13.desc, 2, 24, [.st (ByteArray.mk #[]), .it .u64 (0 : Int)]⟩
theorem ti14_ok : TyOK Try.prog 14 ti14 := TyOK.of (inf := Try.t14) Try.underlying14 (by kernel_rfl) (by kernel_rfl) (by kernel_rfl) (by kernel_rfl)
noncomputable def ti15 : TI := ⟨Try.t15.desc, 1, 8, [.pn]⟩
theorem ti15_ok : TyOK Try.prog 15 ti15 := TyOK.of (inf := Try.t15) Try.underlying15 (by kernel_rfl) (by kernel_rfl) (by kernel_rfl) (by kernel_rfl)
noncomputable def ti16 : TI := ⟨Try.t16.desc, 1, 8, [.pn]⟩
theorem ti16_ok : TyOK Try.prog 16 ti16 := TyOK.of (inf := Try.t16) Try.underlying16 (by kernel_rfl) (by kernel_rfl) (by kernel_rfl) (by kernel_rfl)
noncomputable def ti17 : TI := ⟨Try.t17.desc, 1, 8, [.pn]⟩
theorem ti17_ok : TyOK Try.prog 17 ti17 := TyOK.of (inf := Try.t17) Try.underlying17 (by kernel_rfl) (by kernel_rfl) (by kernel_rfl) (by kernel_rfl)
noncomputable def ti18 : TI := ⟨Try.t18.desc, 1, 8, [.pn]⟩
theorem ti18_ok : TyOK Try.prog 18 ti18 := TyOK.of (inf := Try.t18) Try.underlying18 (by kernel_rfl) (by kernel_rfl) (by kernel_rfl) (by kernel_rfl)
noncomputable def ti19 : TI := ⟨Try.t18.desc, 1, 8, [.pn]⟩
theorem ti19_ok : TyOK Try.prog 19 ti19 := TyOK.of (inf := Try.t19) Try.underlying19 (by kernel_rfl) (by kernel_rfl) (by kernel_rfl) (by kernel_rfl)
noncomputable def ti21 : TI := ⟨Try.t21.desc, 1, 4, [.it .i32 (0 : Int)]⟩
theorem ti21_ok : TyOK Try.prog 21 ti21 := TyOK.of (inf := Try.t21) Try.underlying21 (by kernel_rfl) (by kernel_rfl) (by kernel_rfl) (by kernel_rfl)
noncomputable def ti22 : TI := ⟨Try.t22.desc, 1, 24, [.sn]⟩
theorem ti22_ok : TyOK Try.prog 22 ti22 := TyOK.of (inf := Try.t22) Try.underlying22 (by kernel_rfl) (by kernel_rfl) (by kernel_rfl) (by kernel_rfl)
noncomputable def ti23 : TI := ⟨Try.t23.desc, 1, 8, [.nf]⟩
theorem ti23_ok : TyOK Try.prog 23 ti23 := TyOK.of (inf := Try.t23) Try.underlying23 (by kernel_rfl) (by kernel_rfl) (by kernel_rfl) (by kernel_rfl)
noncomputable def ti24 : TI := ⟨Try.t24.desc, 1, 2, [.it .i16 (0 : Int)]⟩
theorem ti24_ok : TyOK Try.prog 24 ti24 := TyOK.of (inf := Try.t24) Try.underlying24 (by kernel_rfl) (by kernel_rfl) (by kernel_rfl) (by kernel_rfl)
noncomputable def ti25 : TI := ⟨Try.t25.desc, 1, 4, [.fl .f32 0]⟩
theorem ti25_ok : TyOK Try.prog 25 ti25 := TyOK.of (inf := Try.t25) Try.underlying25 (by kernel_rfl) (by kernel_rfl) (by kernel_rfl) (by kernel_rfl)
noncomputable def ti26 : TI := ⟨Try.t26.desc, 3, 12, [.it .i16 (0 : Int), .fl .f32 0, .fl .f32 0]⟩
theorem ti26_ok : TyOK Try.prog 26 ti26 := TyOK.of (inf := Try.t26) Try.underlying26 (by kernel_rfl) (by kernel_rfl) (by kernel_rfl) (by kernel_rfl)
noncomputable def ti27 : TI := ⟨Try.t26.desc, 3, 12, [.it .i16 (0 : Int), .fl .f32 0, .fl .f32 0]⟩
theorem ti27_ok : TyOK Try.prog 27 ti27 := TyOK.of (inf := Try.t27) Try.underlying27 (by kernel_rfl) (by kernel_rfl) (by kernel_rfl) (by kernel_rfl)
noncomputable def ti28 : TI := ⟨Try.t28.desc, 8, 32, [.it .i16 (0 : Int), .fl .f32 0, .fl .f32 0, .fl .f32 0, .fl .f32 0, .fl .f32 0, .fl .f32 0, .fl .f32 0]⟩
theorem ti28_ok : TyOK Try.prog 28 ti28 := TyOK.of (inf := Try.t28) Try.underlying28 (by kernel_rfl) (by kernel_rfl) (by kernel_rfl) (by kernel_rfl)
noncomputable def ti29 : TI := ⟨Try.t28.desc, 8, 32, [.it .i16 (0 : Int), .fl .f32 0, .fl .f32 0, .fl .f32 0, .fl .f32 0, .fl .f32 0, .fl .f32 0, .fl .f32 0]⟩
theorem ti29_ok : TyOK Try.prog 29 ti29 := TyOK.of (inf := Try.t29) Try.underlying29 (by kernel_rfl) (by kernel_rfl) (by kernel_rfl) (by kernel_rfl)
noncomputable def ti30 : TI := ⟨Try.t30.desc, 1, 8, [.nf]⟩
theorem ti30_ok : TyOK Try.prog 30 ti30 := TyOK.of (inf := Try.t30) Try.underlying30 (by kernel_rfl) (by kernel_rfl) (by kernel_rfl) (by kernel_rfl)
noncomputable def ti31 : TI := ⟨Try.t31.desc, 1, 1, [.it .i8 (0 : Int)]⟩
theorem ti31_ok : TyOK Try.prog 31 ti31 := TyOK.of (inf := Try.t31) Try.underlying31 (by kernel_rfl) (by kernel_rfl) (by kernel_rfl) (by kernel_rfl)
noncomputable def ti32 : TI := ⟨Try.t32.desc, 2, 8, [.fl .f32 0, .it .i8 (0 : Int)]⟩
theorem ti32_ok : TyOK Try.prog 32 ti32 := TyOK.of (inf := Try.t32) Try.underlying32 (by kernel_rfl) (by kernel_rfl) (by kernel_rfl) (by kernel_rfl)
noncomputable def ti33 : TI := ⟨Try.t32.desc, 2, 8, [.fl .f32 0, .it .i8 (0 : Int)]⟩
theorem ti33_ok : TyOK Try.prog 33 ti33 := TyOK.of (inf := Try.t33) Try.underlying33 (by kernel_rfl) (by kernel_rfl) (by kernel_rfl) (by kernel_rfl)
noncomputable def ti34 : TI := ⟨Try.t34.desc, 1, 8, [.nf]⟩
theorem ti34_ok : TyOK Try.prog 34 ti34 := TyOK.of (inf := Try.t34) Try.underlying34 (by kernel_rfl) (by kernel_rfl) (by kernel_rfl) (by kernel_rfl)
noncomputable def ti35 : TI := ⟨Try.t35.desc, 1, 24, [.sn]⟩
theorem ti35_ok : TyOK Try.prog 35 ti35 := TyOK.of (inf := Try.t35) Try.underlying35 (by kernel_rfl) (by kernel_rfl) (by kernel_rfl) (by kernel_rfl)
noncomputable def ti36 : TI := ⟨Try.t36.desc, 1, 8, [.nf]⟩
theorem ti36_ok : TyOK Try.prog 36 ti36 := TyOK.of (inf := Try.t36) Try.underlying36 (by kernel_rfl) (by kernel_rfl) (by kernel_rfl) (by kernel_rfl)
noncomputable def ti37 : TI := ⟨Try.t37.desc, 1, 24, [.sn]⟩
theorem ti37_ok : TyOK Try.prog 37 ti37 := TyOK.of (inf := Try.t37) Try.underlying37 (by kernel_rfl) (by kernel_rfl) (by kernel_rfl) (by kernel_rfl)
noncomputable def ti39 : TI := ⟨Try.t39.desc, 1, 8, [.nf]⟩
theorem ti39_ok : TyOK Try.prog 39 ti39 := TyOK.of (inf := Try.t39) Try.underlying39 (by kernel_rfl) (by kernel_rfl) (by kernel_rfl) (by kernel_rfl)
noncomputable def ti40 : TI := ⟨Try.t40.desc, 1, 8, [.nf]⟩
theorem ti40_ok : TyOK Try.prog 40 ti40 := TyOK.of (inf := Try.t40) Try.underlying40 (by kernel_rfl) (by kernel_rfl) (by kernel_rfl) (by kernel_rfl)
noncomputable def ti41 : TI := ⟨Try.t41.desc, 1, 8, [.nf]⟩
theorem ti41_ok : TyOK Try.prog 41 ti41 := TyOK.of (inf := Try.t41) Try.underlying41 (by kernel_rfl) (by kernel_rfl) (by kernel_rfl) (by kernel_rfl)
noncomputable def ti42 : TI := ⟨Try.t42.desc, 1, 8, [.nf]⟩
theorem ti42_ok : TyOK Try.prog 42 ti42 := TyOK.of (inf := Try.t42) Try.underlying42 (by kernel_rfl) (by kernel_rfl) (by kernel_rfl) (by kernel_rfl)
noncomputable def ti44 : TI := ⟨Try.t44.desc, 1, 8, [.nf]⟩
theorem ti44_ok : TyOK Try.prog 44 ti44 := TyOK.of (inf := Try.t44) Try.underlying44 (by kernel_rfl) (by kernel_rfl) (by kernel_rfl) (by kernel_rfl)
noncomputable def ti46 : TI := ⟨Try.t46.desc, 1, 8, [.nf]⟩
theorem ti46_ok : TyOK Try.prog 46 ti46 := TyOK.of (inf := Try.t46) Try.underlying46 (by kernel_rfl) (by kernel_rfl) (by kernel_rfl) (by kernel_rfl)
noncomputable def ti47 : TI := ⟨Try.t47.desc, 1, 8, [.nf]⟩
theorem ti47_ok : TyOK Try.prog 47 ti47 := TyOK.of (inf := Try.t47) Try.underlying47 (by kernel_rfl) (by kernel_rfl) (by kernel_rfl) (by kernel_rfl)
noncomputable def ti48 : TI := ⟨Try.t48.desc, 1, 8, [.nf]⟩
theorem ti48_ok : TyOK Try.prog 48 ti48 := TyOK.of (inf := Try.t48) Try.underlying48 (by kernel_rfl) (by kernel_rfl) (by kernel_rfl) (by kernel_rfl)
noncomputable def ti49 : TI := ⟨Try.t49.desc, 1, 8, [.nf]⟩
theorem ti49_ok : TyOK Try.prog 49 ti49 := TyOK.of (inf := Try.t49) Try.underlying49 (by kernel_rfl) (by kernel_rfl) (by kernel_rfl) (by kernel_rfl)
noncomputable def ti51 : TI := ⟨Try.t51.desc, 1, 8, [.nf]⟩
theorem ti51_ok : TyOK Try.prog 51 ti51 := TyOK.of (inf := Try.t51) Try.underlying51 (by kernel_rfl) (by kernel_rfl) (by kernel_rfl) (by kernel_rfl)
noncomputable def ti52 : TI := ⟨Try.t52.desc, 1, 8, [.nf]⟩
theorem ti52_ok : TyOK Try.prog 52 ti52 := TyOK.of (inf := Try.t52) Try.underlying52 (by kernel_rfl) (by kernel_rfl) (by kernel_rfl) (by kernel_rfl)
noncomputable def ti54 : TI := ⟨Try.t54.desc, 1, 8, [.nf]⟩
theorem ti54_ok : TyOK Try.prog 54 ti54 := TyOK.of (inf := Try.t54) Try.underlying54 (by kernel_rfl) (by kernel_rfl) (by kernel_rfl) (by kernel_rfl)
noncomputable def ti55 : TI := ⟨Try.t55.desc, 1, 8, [.nf]⟩
theorem ti55_ok : TyOK Try.prog 55 ti55 := TyOK.of (inf := Try.t55) Try.underlying55 (by kernel_rfl) (by kernel_rfl) (by kernel_rfl) (by kernel_rfl)
noncomputable def ti56 : TI := ⟨Try.t56.desc, 1, 8, [.nf]⟩
theorem ti56_ok : TyOK Try.prog 56 ti56 := TyOK.of (inf := Try.t56) Try.underlying56 (by kernel_rfl) (by kernel_rfl) (by kernel_rfl) (by kernel_rfl)
noncomputable def ti57 : TI := ⟨Try.t57.desc, 1, 8, [.nf]⟩
theorem ti57_ok : TyOK Try.prog 57 ti57 := TyOK.of (inf := Try.t57) Try.underlying57 (by kernel_rfl) (by kernel_rfl) (by kernel_rfl) (by kernel_rfl)
noncomputable def ti58 : TI := ⟨Try.t58.desc, 1, 8, [.pn]⟩
theorem ti58_ok : TyOK Try.prog 58 ti58 := TyOK.of (inf := Try.t58) Try.underlying58 (by kernel_rfl) (by kernel_rfl) (by kernel_rfl) (by kernel_rfl)
noncomputable def ti59 : TI := ⟨Try.t59.desc, 1, 8, [.nf]⟩
theorem ti59_ok : TyOK Try.prog 59 ti59 := TyOK.of (inf := Try.t59) Try.underlying59 (by kernel_rfl) (by kernel_rfl) (by kernel_rfl) (by kernel_rfl)
noncomputable def ti60 : TI := ⟨Try.t60.desc, 1, 8, [.nf]⟩
theorem ti60_ok : TyOK Try.prog 60 ti60 := TyOK.of (inf := Try.t60) Try.underlying60 (by kernel_rfl) (by kernel_rfl) (by kernel_rfl) (by kernel_rfl)
noncomputable def ti61 : TI := ⟨Try.t61.desc, 1, 8, [.nf]⟩
theorem ti61_ok : TyOK Try.prog 61 ti61 := TyOK.of (inf := Try.t61) Try.underlying61 (by kernel_rfl) (by kernel_rfl) (by kernel_rfl) (by kernel_rfl)
noncomputable def ti62 : TI := ⟨Try.t62.desc, 1, 8, [.nf]⟩
theorem ti62_ok : TyOK Try.prog 62 ti62 := TyOK.of (inf := Try.t62) Try.underlying62 (by kernel_rfl) (by kernel_rfl) (by kernel_rfl) (by kernel_rfl)
noncomputable def ti63 : TI := ⟨Try.t63.desc, 1, 8, [.nf]⟩
theorem ti63_ok : TyOK Try.prog 63 ti63 := TyOK.of (inf := Try.t63) Try.underlying63 (by kernel_rfl) (by kernel_rfl) (by kernel_rfl) (by kernel_rfl)
noncomputable def ti64 : TI := ⟨Try.t64.desc, 1, 8, [.nf]⟩
theorem ti64_ok : TyOK Try.prog 64 ti64 := TyOK.of (inf := Try.t64) Try.underlying64 (by kernel_rfl) (by kernel_rfl) (by kernel_rfl) (by kernel_rfl)
noncomputable def ti65 : TI := ⟨Try.t65.desc, 1, 8, [.nf]⟩
theorem ti65_ok : TyOK Try.prog 65 ti65 := TyOK.of (inf := Try.t65) Try.underlying65 (by kernel_rfl) (by kernel_rfl) (by kernel_rfl) (by kernel_rfl)
noncomputable def ti66 : TI := ⟨Try.t66.desc, 1, 8, [.nf]⟩
theorem ti66_ok : TyOK Try.prog 66 ti66 := TyOK.of (inf := Try.t66) Try.underlying66 (by kernel_rfl) (by kernel_rfl) (by kernel_rfl) (by kernel_rfl)
noncomputable def ti67 : TI := ⟨Try.t67.desc, 1, 8, [.nf]⟩
theorem ti67_ok : TyOK Try.prog 67 ti67 := TyOK.of (inf := Try.t67) Try.underlying67 (by kernel_rfl) (by kernel_rfl) (by kernel_rfl) (by kernel_rfl)
noncomputable def ti68 : TI := ⟨Try.t68.desc, 1, 8, [.nf]⟩
theorem ti68_ok : TyOK Try.prog 68 ti68 := TyOK.of (inf := Try.t68) Try.underlying68 (by kernel_rfl) (by kernel_rfl) (by kernel_rfl) (by kernel_rfl)
noncomputable def ti69 : TI := ⟨Try.t69.desc, 1, 8, [.nf]⟩
theorem ti69_ok : TyOK Try.prog 69 ti69 := TyOK.of (inf := Try.t69) Try.underlying69 (by kernel_rfl) (by kernel_rfl) (by kernel_rfl) (by kernel_rfl)
noncomputable def ti70 : TI := ⟨Try.t70.desc, 1, 8, [.nf]⟩
theorem ti70_ok : TyOK Try.prog 70 ti70 := TyOK.of (inf := Try.t70) Try.underlying70 (by kernel_rfl) (by kernel_rfl) (by kernel_rfl) (by kernel_rfl)
noncomputable def ti71 : TI := ⟨Try.t71.desc, 1, 8, [.nf]⟩
theorem ti71_ok : TyOK Try.prog 71 ti71 := TyOK.of (inf := Try.t71) Try.underlying71 (by kernel_rfl) (by kernel_rfl) (by kernel_rfl) (by kernel_rfl)
noncomputable def ti72 : TI := ⟨Try.t72.desc, 1, 8, [.nf]⟩
theorem ti72_ok : TyOK Try.prog 72 ti72 := TyOK.of (inf := Try.t72) Try.underlying72 (by kernel_rfl) (by kernel_rfl) (by kernel_rfl) (by kernel_rfl)
noncomputable def ti73 : TI := ⟨Try.t73.desc, 1, 8, [.nf]⟩
theorem ti73_ok : TyOK Try.prog 73 ti73 := TyOK.of (inf := Try.t73) Try.underlying73 (by kernel_rfl) (by kernel_rfl) (by kernel_rfl) (by kernel_rfl)
noncomputable def ti74 : TI := ⟨Try.t74.desc, 1, 8, [.nf]⟩
theorem ti74_ok : TyOK Try.prog 74 ti74 := TyOK.of (inf := Try.t74) Try.underlying74 (by kernel_rfl) (by kernel_rfl) (by kernel_rfl) (by kernel_rfl)
noncomputable def ti75 : TI := ⟨Try.t75.desc, 1, 8, [.nf]⟩
theorem ti75_ok : TyOK Try.prog 75 ti75 := TyOK.of (inf := Try.t75) Try.underlying75 (by kernel_rfl) (by kernel_rfl) (by kernel_rfl) (by kernel_rfl)
noncomputable def ti76 : TI := ⟨Try.t76.desc, 1, 8, [.nf]⟩
theorem ti76_ok : TyOK Try.prog 76 ti76 := TyOK.of (inf := Try.t76) Try.underlying76 (by kernel_rfl) (by kernel_rfl) (by kernel_rfl) (by kernel_rfl)
noncomputable def ti77 : TI := ⟨Try.t77.desc, 1, 8, [.it .u64 (0 : Int)]⟩
theorem ti77_ok : TyOK Try.prog 77 ti77 := TyOK.of (inf := Try.t77) Try.underlying77 (by kernel_rfl) (by kernel_rfl) (by kernel_rfl) (by kernel_rfl)
noncomputable def ti78 : TI := ⟨Try.t78.desc, 3, 40, [.sn, .it .i64 (0 : Int), .it .u64 (0 : Int)]⟩
theorem ti78_ok : TyOK Try.prog 78 ti78 := TyOK.of (inf := Try.t78) Try.underlying78 (by kernel_rfl) (by kernel_rfl) (by kernel_rfl) (by kernel_rfl)
noncomputable def ti79 : TI := ⟨Try.t78.desc, 3, 40, [.sn, .it .i64 (0 : Int), .it .u64 (0 : Int)]⟩
theorem ti79_ok : TyOK Try.prog 79 ti79 := TyOK.of (inf := Try.t79) Try.underlying79 (by kernel_rfl) (by kernel_rfl) (by kernel_rfl) (by kernel_rfl)
noncomputable def ti80 : TI := ⟨Try.t80.desc, 1, 8, [.nf]⟩
theorem ti80_ok : TyOK Try.prog 80 ti80 := TyOK.of (inf := Try.t80) Try.underlying80 (by kernel_rfl) (by kernel_rfl) (by kernel_rfl) (by kernel_rfl)
noncomputable def ti81 : TI := ⟨Try.t81.desc, 1, 8, [.nf]⟩
theorem ti81_ok : TyOK Try.prog 81 ti81 := TyOK.of (inf := Try.t81) Try.underlying81 (by kernel_rfl) (by kernel_rfl) (by kernel_rfl) (by kernel_rfl)
noncomputable def ti82 : TI := ⟨Try.t82.desc, 1, 8, [.pn]⟩
theorem ti82_ok : TyOK Try.prog 82 ti82 := TyOK.of (inf := Try.t82) Try.underlying82 (by kernel_rfl) (by kernel_rfl) (by kernel_rfl) (by kernel_rfl)
noncomputable def ti83 : TI := ⟨Try.t83.desc, 1, 4, [.it .u32 (0 : Int)]⟩
theorem ti83_ok : TyOK Try.prog 83 ti83 := TyOK.of (inf := Try.t83) Try.underlying83 (by kernel_rfl) (by kernel_rfl) (by kernel_rfl) (by kernel_rfl)
noncomputable def ti84 : TI := ⟨Try.t84.desc, 1, 8, [.nf]⟩
theorem ti84_ok : TyOK Try.prog 84 ti84 := TyOK.of (inf := Try.t84) Try.underlying84 (by kernel_rfl) (by kernel_rfl) (by kernel_rfl) (by kernel_rfl)
noncomputable def ti85 : TI := ⟨Try.t85.desc, 1, 8, [.nf]⟩
theorem ti85_ok : TyOK Try.prog 85 ti85 := TyOK.of (inf := Try.t85) Try.underlying85 (by kernel_rfl) (by kernel_rfl) (by kernel_rfl) (by kernel_rfl)
noncomputable def ti86 : TI := ⟨Try.t86.desc, 1, 8, [.nf]⟩
theorem ti86_ok : TyOK Try.prog 86 ti86 := TyOK.of (inf := Try.t86) Try.underlying86 (by kernel_rfl) (by kernel_rfl) (by kernel_rfl) (by kernel_rfl)
noncomputable def ti87 : TI := ⟨Try.t87.desc, 1, 8, [.nf]⟩
theorem ti87_ok : TyOK Try.prog 87 ti87 := TyOK.of (inf := Try.t87) Try.underlying87 (by kernel_rfl) (by kernel_rfl) (by kernel_rfl) (by kernel_rfl)
noncomputable def ti88 : TI := ⟨Try.t88.desc, 1, 8, [.it .u64 (0 : Int)]⟩
theorem ti88_ok : TyOK Try.prog 88 ti88 := TyOK.of (inf := Try.t88) Try.underlying88 (by kernel_rfl) (by kernel_rfl) (by kernel_rfl) (by kernel_rfl)
noncomputable def ti89 : TI := ⟨Try.t89.desc, 1, 8, [.nf]⟩
theorem ti89_ok : TyOK Try.prog 89 ti89 := TyOK.of (inf := Try.t89) Try.underlying89 (by kernel_rfl) (by kernel_rfl) (by kernel_rfl) (by kernel_rfl)
noncomputable def ti90 : TI := ⟨Try.t90.desc, 1, 8, [.nf]⟩
theorem ti90_ok : TyOK Try.prog 90 ti90 := TyOK.of (inf := Try.t90) Try.underlying90 (by kernel_rfl) (by kernel_rfl) (by kernel_rfl) (by kernel_rfl)
noncomputable def ti91 : TI := ⟨Try.t91.desc, 1, 8, [.pn]⟩
theorem ti91_ok : TyOK Try.prog 91 ti91 := TyOK.of (inf := Try.t91) Try.underlying91 (by kernel_rfl) (by kernel_rfl) (by kernel_rfl) (by kernel_rfl)
noncomputable def ti92 : TI := ⟨Try.t92.desc, 1, 8, [.fl .f64 0]⟩
theorem ti92_ok : TyOK Try.prog 92 ti92 := TyOK.of (inf := Try.t92) Try.underlying92 (by kernel_rfl) (by kernel_rfl) (by kernel_rfl) (by kernel_rfl)
noncomputable def ti93 : TI := ⟨Try.t93.desc, 1, 8, [.nf]⟩
theorem ti93_ok : TyOK Try.prog 93 ti93 := TyOK.of (inf := Try.t93) Try.underlying93 (by kernel_rfl) (by kernel_rfl) (by kernel_rfl) (by kernel_rfl)
noncomputable def ti94 : TI := ⟨Try.t94.desc, 1, 8, [.nf]⟩
theorem ti94_ok : TyOK Try.prog 94 ti94 := TyOK.of (inf := Try.t94) Try.underlying94 (by kernel_rfl) (by kernel_rfl) (by kernel_rfl) (by kernel_rfl)
noncomputable def ti95 : TI := ⟨Try.t95.desc, 4, 40, [.pn, .pn, .pn, .st (ByteArray.mk #[])]⟩
theorem ti95_ok : TyOK Try.prog 95 ti95 := TyOK.of (inf := Try.t95) Try.underlying95 (by kernel_rfl) (by kernel_rfl) (by kernel_rfl) (by kernel_rfl)
noncomputable def ti96 : TI := ⟨Try.t95.desc, 4, 40, [.pn, .pn, .pn, .st (ByteArray.mk #[])]⟩
theorem ti96_ok : TyOK Try.prog 96 ti96 := TyOK.of (inf := Try.t96) Try.underlying96 (by kernel_rfl) (by kernel_rfl) (by kernel_rfl) (by kernel_rfl)
noncomputable def ti97 : TI := ⟨Try.t97.desc, 0, 0, []⟩
theorem ti97_ok : TyOK Try.prog 97 ti97 := TyOK.of (inf := Try.t97) Try.underlying97 (by kernel_rfl) (by kernel_rfl) (by kernel_rfl) (by kernel_rfl)
noncomputable def ti98 : TI := ⟨Try.t98.desc, 0, 0, []⟩
theorem ti98_ok : TyOK Try.prog 98 ti98 := TyOK.of (inf := Try.t98) Try.underlying98 (by kernel_rfl) (by kernel_rfl) (by kernel_rfl) (by kernel_rfl)
noncomputable def ti99 : TI := ⟨Try.t98.desc, 0, 0, []⟩
theorem ti99_ok : TyOK Try.prog 99 ti99 := TyOK.of (inf := Try.t99) Try.underlying99 (by kernel_rfl) (by kernel_rfl) (by kernel_rfl) (by kernel_rfl)
noncomputable def ti100 : TI := ⟨Try.t100.desc, 1, 8, [.nf]⟩
theorem ti100_ok : TyOK Try.prog 100 ti100 := TyOK.of (inf := Try.t100) Try.underlying100 (by kernel_rfl) (by kernel_rfl) (by kernel_rfl) (by kernel_rfl)
noncomputable def ti101 : TI := ⟨Try.t5.desc, 1, 1, [.it .u8 (0 : Int)]⟩
theorem ti101_ok : TyOK Try.prog 101 ti101 := TyOK.of (inf := Try.t101) Try.underlying101 (by kernel_rfl) (by kernel_rfl) (by kernel_rfl) (by kernel_rfl)
noncomputable def ti102 : TI := ⟨Try.t5.desc, 1, 1, [.it .u8 (0 : Int)]⟩
theorem ti102_ok : TyOK Try.prog 102 ti102 := TyOK.of (inf := Try.t102) Try.underlying102 (by kernel_rfl) (by kernel_rfl) (by kernel_rfl) (by kernel_rfl)
noncomputable def ti103 : TI := ⟨Try.t103.desc, 1, 8, [.nf]⟩
theorem ti103_ok : TyOK Try.prog 103 ti103 := TyOK.of (inf := Try.t103) Try.underlying103 (by kernel_rfl) (by kernel_rfl) (by kernel_rfl) (by kernel_rfl)
noncomputable def ti104 : TI := ⟨Try.t104.desc, 1, 8, [.pn]⟩
theorem ti104_ok : TyOK Try.prog 104 ti104 := TyOK.of (inf := Try.t104) Try.underlying104 (by kernel_rfl) (by kernel_rfl) (by kernel_rfl) (by kernel_rfl)
noncomputable def ti105 : TI := ⟨Try.t21.desc, 1, 4, [.it .i32 (0 : Int)]⟩
theorem ti105_ok : TyOK Try.prog 105 ti105 := TyOK.of (inf := Try.t105) Try.underlying105 (by kernel_rfl) (by kernel_rfl) (by kernel_rfl) (by kernel_rfl)
noncomputable def ti106 : TI := ⟨Try.t21.desc, 1, 4, [.it .i32 (0 : Int)]⟩
theorem ti106_ok : TyOK Try.prog 106 ti106 := TyOK.of (inf := Try.t106) Try.underlying106 (by kernel_rfl) (by kernel_rfl) (by kernel_rfl) (by kernel_rfl)
noncomputable def ti107 : TI := ⟨Try.t107.desc, 11, 48, [.it .u64 (0 : Int), .it .u64 (0 : Int), .it .u32 (0 : Int), .it .u8 (0 : Int), .it .u8 (0 : Int), .it .u8 (0 : Int), .it .u8 (0 : Int), .nf, .pn, .it .i32 (0 : Int), .it .i32 (0 : Int)]⟩
theorem ti107_ok : TyOK Try.prog 107 ti107 := TyOK.of (inf := Try.t107) Try.underlying107 (by kernel_rfl) (by kernel_rfl) (by kernel_rfl) (by kernel_rfl)
noncomputable def ti108 : TI := ⟨Try.t107.desc, 11, 48, [.it .u64 (0 : Int), .it .u64 (0 : Int), .it .u32 (0 : Int), .it .u8 (0 : Int), .it .u8 (0 : Int), .it .u8 (0 : Int), .it .u8 (0 : Int), .nf, .pn, .it .i32 (0 : Int), .it .i32 (0 : Int)]⟩
theorem ti108_ok : TyOK Try.prog 108 ti108 := TyOK.of (inf := Try.t108) Try.underlying108 (by kernel_rfl) (by kernel_rfl) (by kernel_rfl) (by kernel_rfl)
noncomputable def ti109 : TI := ⟨Try.t109.desc, 1, 8, [.pn]⟩
theorem ti109_ok : TyOK Try.prog 109 ti109 := TyOK.of (inf := Try.t109) Try.underlying109 (by kernel_rfl) (by kernel_rfl) (by kernel_rfl) (by kernel_rfl)
noncomputable def tys : List (Nat × TI) := [(1, ti1), (2, ti2), (3, ti3), (4, ti4), (5, ti5), (6, ti6), (7, ti7), (8, ti8), (9, ti9), (10, ti10), (11, ti11), (12, ti12), (13, ti13), (14, ti14), (15, ti15), (16, ti16), (17, ti17), (18, ti18), (19, ti19), (21, ti21), (22, ti22), (23, ti23), (24, ti24), (25, ti25), (26, ti26), (27, ti27), (28, ti28), (29, ti29), (30, ti30), (31, ti31), (32, ti32), (33, ti33), (34, ti34), (35, ti35), (36, ti36), (37, ti37), (39, ti39), (40, ti40), (41, ti41), (42, ti42), (44, ti44), (46, ti46), (47, ti47), (48, ti48), (49, ti49), (51, ti51), (52, ti52), (54, ti54), (55, ti55), (56, ti56), (57, ti57), (58, ti58), (59, ti59), (60, ti60), (61, ti61), (62, ti62), (63, ti63), (64, ti64), (65, ti65), (66, ti66), (67, ti67), (68, ti68), (69, ti69), (70, ti70), (71, ti71), (72, ti72), (73, ti73), (74, ti74), (75, ti75), (76, ti76), (77, ti77), (78, ti78), (79, ti79), (80, ti80), (81, ti81), (82, ti82), (83, ti83), (84, ti84), (85, ti85), (86, ti86), (87, ti87), (88, ti88), (89, ti89), (90, ti90), (91, ti91), (92, ti92), (93, ti93), (94, ti94), (95, ti95), (96, ti96), (97, ti97), (98, ti98), (99, ti99), (100, ti100), (101, ti101), (102, ti102), (103, ti103), (104, ti104), (105, ti105), (106, ti106), (107, ti107), (108, ti108), (109, ti109)]
theorem mo : Try.prog.follows .mixedOrders = true := by kernel_rfl
theorem tys_ok : TysOK Try.prog tys := (TysOK.cons ti1_ok (TysOK.cons ti2_ok (TysOK.cons ti3_ok (TysOK.cons ti4_ok (TysOK.cons ti5_ok (TysOK.cons ti6_ok (TysOK.cons ti7_ok (TysOK.cons ti8_ok (TysOK.cons ti9_ok (TysOK.cons ti10_ok (TysOK.cons ti11_ok (TysOK.cons ti12_ok (TysOK.cons ti13_ok (TysOK.cons ti14_ok (TysOK.cons ti15_ok (TysOK.cons ti16_ok (TysOK.cons ti17_ok (TysOK.cons ti18_ok (TysOK.cons ti19_ok (TysOK.cons ti21_ok (TysOK.cons ti22_ok (TysOK.cons ti23_ok (TysOK.cons ti24_ok (TysOK.cons ti25_ok (TysOK.cons ti26_ok (TysOK.cons ti27_ok (TysOK.cons ti28_ok (TysOK.cons ti29_ok (TysOK.cons ti30_ok (TysOK.cons ti31_ok (TysOK.cons ti32_ok (TysOK.cons ti33_ok (TysOK.cons ti34_ok (TysOK.cons ti35_ok (TysOK.cons ti36_ok (TysOK.cons ti37_ok (TysOK.cons ti39_ok (TysOK.cons ti40_ok (TysOK.cons ti41_ok (TysOK.cons ti42_ok (TysOK.cons ti44_ok (TysOK.cons ti46_ok (TysOK.cons ti47_ok (TysOK.cons ti48_ok (TysOK.cons ti49_ok (TysOK.cons ti51_ok (TysOK.cons ti52_ok (TysOK.cons ti54_ok (TysOK.cons ti55_ok (TysOK.cons ti56_ok (TysOK.cons ti57_ok (TysOK.cons ti58_ok (TysOK.cons ti59_ok (TysOK.cons ti60_ok (TysOK.cons ti61_ok (TysOK.cons ti62_ok (TysOK.cons ti63_ok (TysOK.cons ti64_ok (TysOK.cons ti65_ok (TysOK.cons ti66_ok (TysOK.cons ti67_ok (TysOK.cons ti68_ok (TysOK.cons ti69_ok (TysOK.cons ti70_ok (TysOK.cons ti71_ok (TysOK.cons ti72_ok (TysOK.cons ti73_ok (TysOK.cons ti74_ok (TysOK.cons ti75_ok (TysOK.cons ti76_ok (TysOK.cons ti77_ok (TysOK.cons ti78_ok (TysOK.cons ti79_ok (TysOK.cons ti80_ok (TysOK.cons ti81_ok (TysOK.cons ti82_ok (TysOK.cons ti83_ok (TysOK.cons ti84_ok (TysOK.cons ti85_ok (TysOK.cons ti86_ok (TysOK.cons ti87_ok (TysOK.cons ti88_ok (TysOK.cons ti89_ok (TysOK.cons ti90_ok (TysOK.cons ti91_ok (TysOK.cons ti92_ok (TysOK.cons ti93_ok (TysOK.cons ti94_ok (TysOK.cons ti95_ok (TysOK.cons ti96_ok (TysOK.cons ti97_ok (TysOK.cons ti98_ok (TysOK.cons ti99_ok (TysOK.cons ti100_ok (TysOK.cons ti101_ok (TysOK.cons ti102_ok (TysOK.cons ti103_ok (TysOK.cons ti104_ok (TysOK.cons ti105_ok (TysOK.cons ti106_ok (TysOK.cons ti107_ok (TysOK.cons ti108_ok (TysOK.cons ti109_ok TysOK.nil)))))))))))))))))))))))))))))))))))))))))))))))))))))))))))))))))))))))))))))))))))))))))))))))))))))))
/-! ### laws_f6big -/
noncomputable def laws_f6big.b : Code := bodyOf Try.f4
noncomputable def laws_f6big.C : Ctx := { ty := tys, fn := [], lp := [], n := 6, k := 1 }
theorem laws_f6big.hC : CtxOK Try.prog laws_f6big.C := CtxOK.of mo tys_ok FnsOK.nil
theorem laws_f6big.lp : LpOK Try.prog laws_f6big.C laws_f6big.b := (LpOK.nil (by kernel_rfl))
noncomputable def laws_f6big.t (x0 : Nat) (x1 : List Int) : T Bool :=
  .leaf (decide (((x0 : Nat) : Int) > (4096 : Int)))
noncomputable def laws_f6big (x0 : Nat) (x1 : List Int) : Bool := (laws_f6big.t x0 x1).val
def laws_f6big.cd : Cd (Nat × List Int) (List V × Hp) := Cd.iso (Cd.pair (Cd.cons (Cd.sl 0 (Cd.natc 0)) Cd.nil) (Cd.cons (Cd.ro 0 0 (Cd.is .u8)) Cd.nil)) (fun a => (a.1.1.2, a.2.1)) (fun a => ((((), a.1), ()), (a.2, ()))) (fun _ => rfl)
noncomputable def laws_f6big.tr (a : Nat × List Int) : T Bool := laws_f6big.t a.1 a.2
def laws_f6big.enc : (Nat × List Int) → Bool → V := fun a r => .bo r
noncomputable def laws_f6big.c : List V → Hp → T V := cdQ laws_f6big.cd (fun a => .leaf (laws_f6big.enc a (laws_f6big a.1 a.2)))
theorem laws_f6big.run (a : Nat × List Int) : runF laws_f6big.C Try.f4.results.toList laws_f6big.b (laws_f6big.cd.enc a).1 (laws_f6big.cd.enc a).2 = (laws_f6big.tr a).map fun r => (laws_f6big.enc a r, (laws_f6big.cd.enc a).2) := by kernel_rfl
theorem laws_f6big.cok : OKq Try.prog 4 laws_f6big.c := con_q' laws_f6big.cd laws_f6big.hC Try.func4 (by kernel_rfl) (by kernel_rfl) (by kernel_rfl) laws_f6big.lp (fun a => by kernel_rfl) laws_f6big.run (Tells.val (tree := laws_f6big.tr) fun a => by kernel_rfl)
/-! ### spec_l00From -/
noncomputable def spec_l00From.b : Code := bodyOf Try.f30
noncomputable def spec_l00From.C : Ctx := { ty := tys, fn := [], lp := [], n := 6, k := 1 }
theorem spec_l00From.hC : CtxOK Try.prog spec_l00From.C := CtxOK.of mo tys_ok FnsOK.nil
theorem spec_l00From.lp : LpOK Try.prog spec_l00From.C spec_l00From.b := (LpOK.nil (by kernel_rfl))
noncomputable def spec_l00From.t (x0 : Nat) (x1 : List Int) : T (Nat × Int × Int) :=
  .leaf (x0, (0 : Int), (0 : Int))
noncomputable def spec_l00From (x0 : Nat) (x1 : List Int) : Nat × Int × Int := (spec_l00From.t x0 x1).val
def spec_l00From.cd : Cd (Nat × List Int) (List V × Hp) := Cd.iso (Cd.pair (Cd.cons (Cd.sl 0 (Cd.natc 0)) Cd.nil) (Cd.cons (Cd.ro 0 0 (Cd.is .u8)) Cd.nil)) (fun a => (a.1.1.2, a.2.1)) (fun a => ((((), a.1), ()), (a.2, ()))) (fun _ => rfl)
noncomputable def spec_l00From.tr (a : Nat × List Int) : T (Nat × Int × Int) := spec_l00From.t a.1 a.2
def spec_l00From.enc : (Nat × List Int) → (Nat × Int × Int) → V × Hp := fun a r => (.pt 1 0, [some ⟨false, 0, 0, .is .u8 a.2⟩, some ⟨true, 79, 3, .vs [.sl 0 0 r.1, .it .i64 r.2.1, .it .u64 r.2.2]⟩])
noncomputable def spec_l00From.c : List V → Hp → T (V × Hp) := cdE spec_l00From.cd (fun a => .leaf (spec_l00From.enc a (spec_l00From a.1 a.2)))
theorem spec_l00From.run (a : Nat × List Int) : runF spec_l00From.C Try.f30.results.toList spec_l00From.b (spec_l00From.cd.enc a).1 (spec_l00From.cd.enc a).2 = (spec_l00From.tr a).map (spec_l00From.enc a) := by kernel_rfl
theorem spec_l00From.cok : OKe Try.prog 30 spec_l00From.c := con_e' spec_l00From.cd spec_l00From.hC Try.func30 (by kernel_rfl) (by kernel_rfl) (by kernel_rfl) spec_l00From.lp (fun a => by kernel_rfl) spec_l00From.run (Tells.val (tree := spec_l00From.tr) fun a => by kernel_rfl)
/-! ### spec_l00Src_next -/
noncomputable def spec_l00Src_next.b : Code := bodyOf Try.f54
noncomputable def spec_l00Src_next.C : Ctx := { ty := tys, fn := [], lp := [], n := 62, k := 2 }
theorem spec_l00Src_next.hC : CtxOK Try.prog spec_l00Src_next.C := CtxOK.of mo tys_ok FnsOK.nil
theorem spec_l00Src_next.lp : LpOK Try.prog spec_l00Src_next.C spec_l00Src_next.b := (LpOK.nil (by kernel_rfl))
noncomputable def spec_l00Src_next.t (x0 : Nat) (x1 : Int) (x2 : Int) (x3 : List Int) : T (Int × Nat × Int × Int) :=
  .br (decide (x1 < ((x0 : Nat) : Int)))
  (.br (bounds x1 x0)
   (.br (Nat.ble ((0 + (Int.toNat x1 * 1)) + 1) (List.length x3))
    (.br (decide ((IntKind.wrap .i64 (x1 + (1 : Int))) ≤ ((x0 : Nat) : Int)))
     (.leaf ((IntKind.wrap .i64 (List.getD x3 (0 + (Int.toNat x1 * 1)) 0)), x0, (IntKind.wrap .i64 (x1 + (1 : Int))), (IntKind.wrap .u64 ((IntKind.wrap .u64 ((IntKind.wrap .u64 (x2 * (6364136223846793005 : Int))) + (IntKind.wrap .u64 (IntKind.wrap .i64 (List.getD x3 (0 + (Int.toNat x1 * 1)) 0))))) + (1442695040888963407 : Int)))))
     (.leaf ((IntKind.wrap .i64 (ibits .and .u64 (Int.fdiv (IntKind.wrap .u64 ((IntKind.wrap .u64 ((IntKind.wrap .u64 (x2 * (6364136223846793005 : Int))) + (IntKind.wrap .u64 (IntKind.wrap .i64 (List.getD x3 (0 + (Int.toNat x1 * 1)) 0))))) + (1442695040888963407 : Int))) (2 ^ min (Int.toNat (40 : Int)) 64)) (255 : Int))), x0, (IntKind.wrap .i64 (x1 + (1 : Int))), (IntKind.wrap .u64 ((IntKind.wrap .u64 ((IntKind.wrap .u64 (x2 * (6364136223846793005 : Int))) + (IntKind.wrap .u64 (IntKind.wrap .i64 (List.getD x3 (0 + (Int.toNat x1 * 1)) 0))))) + (1442695040888963407 : Int))))))
    .bad)
   .bad)
  (.br (decide ((IntKind.wrap .i64 (x1 + (1 : Int))) ≤ ((x0 : Nat) : Int)))
   (.leaf ((0 : Int), x0, (IntKind.wrap .i64 (x1 + (1 : Int))), (IntKind.wrap .u64 ((IntKind.wrap .u64 ((IntKind.wrap .u64 (x2 * (6364136223846793005 : Int))) + (IntKind.wrap .u64 (0 : Int)))) + (1442695040888963407 : Int)))))
   (.leaf ((IntKind.wrap .i64 (ibits .and .u64 (Int.fdiv (IntKind.wrap .u64 ((IntKind.wrap .u64 ((IntKind.wrap .u64 (x2 * (6364136223846793005 : Int))) + (IntKind.wrap .u64 (0 : Int)))) + (1442695040888963407 : Int))) (2 ^ min (Int.toNat (40 : Int)) 64)) (255 : Int))), x0, (IntKind.wrap .i64 (x1 + (1 : Int))), (IntKind.wrap .u64 ((IntKind.wrap .u64 ((IntKind.wrap .u64 (x2 * (6364136223846793005 : Int))) + (IntKind.wrap .u64 (0 : Int)))) + (1442695040888963407 : Int))))))
noncomputable def spec_l00Src_next (x0 : Nat) (x1 : Int) (x2 : Int) (x3 : List Int) : Int × Nat × Int × Int := (spec_l00Src_next.t x0 x1 x2 x3).val
noncomputable def spec_l00Src_next.ok (x0 : Nat) (x1 : Int) (x2 : Int) (x3 : List Int) : Bool := (spec_l00Src_next.t x0 x1 x2 x3).ok
def spec_l00Src_next.cd : Cd (Nat × Int × Int × List Int) (List V × Hp) := Cd.iso (Cd.pair (Cd.cons (Cd.pt 0 (Cd.natc 0)) Cd.nil) (Cd.cons (Cd.rw 79 3 (Cd.vs (Cd.cons (Cd.sl 1 (Cd.natc 0)) (Cd.cons (Cd.it .i64) (Cd.cons (Cd.it .u64) Cd.nil))))) (Cd.cons (Cd.ro 0 0 (Cd.is .u8)) Cd.nil))) (fun a => (a.2.1.1.2, a.2.1.2.1, a.2.1.2.2.1, a.2.2.1)) (fun a => (((), ()), ((((), a.1), (a.2.1, (a.2.2.1, ()))), (a.2.2.2, ())))) (fun _ => rfl)
noncomputable def spec_l00Src_next.tr (a : Nat × Int × Int × List Int) : T (Int × Nat × Int × Int) := spec_l00Src_next.t a.1 a.2.1 a.2.2.1 a.2.2.2
def spec_l00Src_next.enc : (Nat × Int × Int × List Int) → (Int × Nat × Int × Int) → V × Hp := fun a r => (.it .i64 r.1, [some ⟨true, 79, 3, .vs [.sl 1 0 r.2.1, .it .i64 r.2.2.1, .it .u64 r.2.2.2]⟩, some ⟨false, 0, 0, .is .u8 a.2.2.2⟩])
noncomputable def spec_l00Src_next.c : List V → Hp → T (V × Hp) := cdE spec_l00Src_next.cd (fun a => .br (spec_l00Src_next.ok a.1 a.2.1 a.2.2.1 a.2.2.2) (.leaf (spec_l00Src_next.enc a (spec_l00Src_next a.1 a.2.1 a.2.2.1 a.2.2.2))) .bad)
theorem spec_l00Src_next.run (a : Nat × Int × Int × List Int) : runF spec_l00Src_next.C Try.f54.results.toList spec_l00Src_next.b (spec_l00Src_next.cd.enc a).1 (spec_l00Src_next.cd.enc a).2 = (spec_l00Src_next.tr a).map (spec_l00Src_next.enc a) := by kernel_rfl
theorem spec_l00Src_next.cok : OKe Try.prog 54 spec_l00Src_next.c := con_e' spec_l00Src_next.cd spec_l00Src_next.hC Try.func54 (by kernel_rfl) (by kernel_rfl) (by kernel_rfl) spec_l00Src_next.lp (fun a => by kernel_rfl) spec_l00Src_next.run (Tells.ok (tree := spec_l00Src_next.tr))
/-! ### spec_l00Src_pick -/
noncomputable def spec_l00Src_pick.b : Code := bodyOf Try.f32
noncomputable def spec_l00Src_pick.C : Ctx := { ty := tys, fn := [(54, .e spec_l00Src_next.c)], lp := [], n := 20, k := 2 }
theorem spec_l00Src_pick.hC : CtxOK Try.prog spec_l00Src_pick.C := CtxOK.of mo tys_ok (FnsOK.cons spec_l00Src_next.cok FnsOK.nil)
theorem spec_l00Src_pick.lp : LpOK Try.prog spec_l00Src_pick.C spec_l00Src_pick.b := (LpOK.nil (by kernel_rfl))
noncomputable def spec_l00Src_pick.t (x0 : Int) (x1 : Nat) (x2 : Int) (x3 : Int) (x4 : List Int) : T (Int × Nat × Int × Int) :=
  .br (decide (x0 ≤ (1 : Int)))
  (.leaf ((0 : Int), x1, x2, x3))
  (.br (spec_l00Src_next.ok x1 x2 x3 x4)
   (.br (decide (x0 > (200 : Int)))
    (.br (spec_l00Src_next.ok ((spec_l00Src_next x1 x2 x3 x4).2.1) ((spec_l00Src_next x1 x2 x3 x4).2.2.1) ((spec_l00Src_next x1 x2 x3 x4).2.2.2) x4)
     (.br (x0 == 0)
      .bad
      (.leaf ((Int.tmod (IntKind.wrap .i64 ((IntKind.wrap .i64 ((spec_l00Src_next x1 x2 x3 x4).1 * (256 : Int))) + (spec_l00Src_next ((spec_l00Src_next x1 x2 x3 x4).2.1) ((spec_l00Src_next x1 x2 x3 x4).2.2.1) ((spec_l00Src_next x1 x2 x3 x4).2.2.2) x4).1)) x0), (spec_l00Src_next ((spec_l00Src_next x1 x2 x3 x4).2.1) ((spec_l00Src_next x1 x2 x3 x4).2.2.1) ((spec_l00Src_next x1 x2 x3 x4).2.2.2) x4).2.1, (spec_l00Src_next ((spec_l00Src_next x1 x2 x3 x4).2.1) ((spec_l00Src_next x1 x2 x3 x4).2.2.1) ((spec_l00Src_next x1 x2 x3 x4).2.2.2) x4).2.2.1, (spec_l00Src_next ((spec_l00Src_next x1 x2 x3 x4).2.1) ((spec_l00Src_next x1 x2 x3 x4).2.2.1) ((spec_l00Src_next x1 x2 x3 x4).2.2.2) x4).2.2.2)))
     .bad)
    (.br (x0 == 0)
     .bad
     (.leaf ((Int.tmod (spec_l00Src_next x1 x2 x3 x4).1 x0), (spec_l00Src_next x1 x2 x3 x4).2.1, (spec_l00Src_next x1 x2 x3 x4).2.2.1, (spec_l00Src_next x1 x2 x3 x4).2.2.2))))
   .bad)
noncomputable def spec_l00Src_pick (x0 : Int) (x1 : Nat) (x2 : Int) (x3 : Int) (x4 : List Int) : Int × Nat × Int × Int := (spec_l00Src_pick.t x0 x1 x2 x3 x4).val
noncomputable def spec_l00Src_pick.ok (x0 : Int) (x1 : Nat) (x2 : Int) (x3 : Int) (x4 : List Int) : Bool := (spec_l00Src_pick.t x0 x1 x2 x3 x4).ok
def spec_l00Src_pick.cd : Cd (Int × Nat × Int × Int × List Int) (List V × Hp) := Cd.iso (Cd.pair (Cd.cons (Cd.pt 0 (Cd.natc 0)) (Cd.cons (Cd.it .i64) Cd.nil)) (Cd.cons (Cd.rw 79 3 (Cd.vs (Cd.cons (Cd.sl 1 (Cd.natc 0)) (Cd.cons (Cd.it .i64) (Cd.cons (Cd.it .u64) Cd.nil))))) (Cd.cons (Cd.ro 0 0 (Cd.is .u8)) Cd.nil))) (fun a => (a.1.2.1, a.2.1.1.2, a.2.1.2.1, a.2.1.2.2.1, a.2.2.1)) (fun a => (((), (a.1, ())), ((((), a.2.1), (a.2.2.1, (a.2.2.2.1, ()))), (a.2.2.2.2, ())))) (fun _ => rfl)
noncomputable def spec_l00Src_pick.tr (a : Int × Nat × Int × Int × List Int) : T (Int × Nat × Int × Int) := spec_l00Src_pick.t a.1 a.2.1 a.2.2.1 a.2.2.2.1 a.2.2.2.2
def spec_l00Src_pick.enc : (Int × Nat × Int × Int × List Int) → (Int × Nat × Int × Int) → V × Hp := fun a r => (.it .i64 r.1, [some ⟨true, 79, 3, .vs [.sl 1 0 r.2.1, .it .i64 r.2.2.1, .it .u64 r.2.2.2]⟩, some ⟨false, 0, 0, .is .u8 a.2.2.2.2⟩])
noncomputable def spec_l00Src_pick.c : List V → Hp → T (V × Hp) := cdE spec_l00Src_pick.cd (fun a => .br (spec_l00Src_pick.ok a.1 a.2.1 a.2.2.1 a.2.2.2.1 a.2.2.2.2) (.leaf (spec_l00Src_pick.enc a (spec_l00Src_pick a.1 a.2.1 a.2.2.1 a.2.2.2.1 a.2.2.2.2))) .bad)
theorem spec_l00Src_pick.run (a : Int × Nat × Int × Int × List Int) : runF spec_l00Src_pick.C Try.f32.results.toList spec_l00Src_pick.b (spec_l00Src_pick.cd.enc a).1 (spec_l00Src_pick.cd.enc a).2 = (spec_l00Src_pick.tr a).map (spec_l00Src_pick.enc a) := by kernel_rfl
theorem spec_l00Src_pick.cok : OKe Try.prog 32 spec_l00Src_pick.c := con_e' spec_l00Src_pick.cd spec_l00Src_pick.hC Try.func32 (by kernel_rfl) (by kernel_rfl) (by kernel_rfl) spec_l00Src_pick.lp (fun a => by kernel_rfl) spec_l00Src_pick.run (Tells.ok (tree := spec_l00Src_pick.tr))
/-! ### spec_l03Long -/
noncomputable def spec_l03Long.b : Code := bodyOf Try.f53
noncomputable def spec_l03Long.C : Ctx := { ty := tys, fn := [(32, .e spec_l00Src_pick.c)], lp := [], n := 8, k := 2 }
theorem spec_l03Long.hC : CtxOK Try.prog spec_l03Long.C := CtxOK.of mo tys_ok (FnsOK.cons spec_l00Src_pick.cok FnsOK.nil)
theorem spec_l03Long.lp : LpOK Try.prog spec_l03Long.C spec_l03Long.b := (LpOK.nil (by kernel_rfl))
noncomputable def spec_l03Long.t (x0 : Nat) (x1 : Int) (x2 : Int) (x3 : List Int) : T (Nat × Nat × Int × Int) :=
  .br (spec_l00Src_pick.ok (64 : Int) x0 x1 x2 x3)
  (.leaf ((fdiv .f32 (fofint .f32 (IntKind.wrap .i64 ((1 : Int) + (spec_l00Src_pick (64 : Int) x0 x1 x2 x3).1))) 1090519040), (spec_l00Src_pick (64 : Int) x0 x1 x2 x3).2.1, (spec_l00Src_pick (64 : Int) x0 x1 x2 x3).2.2.1, (spec_l00Src_pick (64 : Int) x0 x1 x2 x3).2.2.2))
  .bad
noncomputable def spec_l03Long (x0 : Nat) (x1 : Int) (x2 : Int) (x3 : List Int) : Nat × Nat × Int × Int := (spec_l03Long.t x0 x1 x2 x3).val
noncomputable def spec_l03Long.ok (x0 : Nat) (x1 : Int) (x2 : Int) (x3 : List Int) : Bool := (spec_l03Long.t x0 x1 x2 x3).ok
def spec_l03Long.cd : Cd (Nat × Int × Int × List Int) (List V × Hp) := Cd.iso (Cd.pair (Cd.cons (Cd.pt 0 (Cd.natc 0)) Cd.nil) (Cd.cons (Cd.rw 79 3 (Cd.vs (Cd.cons (Cd.sl 1 (Cd.natc 0)) (Cd.cons (Cd.it .i64) (Cd.cons (Cd.it .u64) Cd.nil))))) (Cd.cons (Cd.ro 0 0 (Cd.is .u8)) Cd.nil))) (fun a => (a.2.1.1.2, a.2.1.2.1, a.2.1.2.2.1, a.2.2.1)) (fun a => (((), ()), ((((), a.1), (a.2.1, (a.2.2.1, ()))), (a.2.2.2, ())))) (fun _ => rfl)
noncomputable def spec_l03Long.tr (a : Nat × Int × Int × List Int) : T (Nat × Nat × Int × Int) := spec_l03Long.t a.1 a.2.1 a.2.2.1 a.2.2.2
def spec_l03Long.enc : (Nat × Int × Int × List Int) → (Nat × Nat × Int × Int) → V × Hp := fun a r => (.fl .f32 r.1, [some ⟨true, 79, 3, .vs [.sl 1 0 r.2.1, .it .i64 r.2.2.1, .it .u64 r.2.2.2]⟩, some ⟨false, 0, 0, .is .u8 a.2.2.2⟩])
noncomputable def spec_l03Long.c : List V → Hp → T (V × Hp) := cdE spec_l03Long.cd (fun a => .br (spec_l03Long.ok a.1 a.2.1 a.2.2.1 a.2.2.2) (.leaf (spec_l03Long.enc a (spec_l03Long a.1 a.2.1 a.2.2.1 a.2.2.2))) .bad)
theorem spec_l03Long.run (a : Nat × Int × Int × List Int) : runF spec_l03Long.C Try.f53.results.toList spec_l03Long.b (spec_l03Long.cd.enc a).1 (spec_l03Long.cd.enc a).2 = (spec_l03Long.tr a).map (spec_l03Long.enc a) := by kernel_rfl
theorem spec_l03Long.cok : OKe Try.prog 53 spec_l03Long.c := con_e' spec_l03Long.cd spec_l03Long.hC Try.func53 (by kernel_rfl) (by kernel_rfl) (by kernel_rfl) spec_l03Long.lp (fun a => by kernel_rfl) spec_l03Long.run (Tells.ok (tree := spec_l03Long.tr))
/-! ### spec_l03Wheel -/
noncomputable def spec_l03Wheel.b : Code := bodyOf Try.f52
noncomputable def spec_l03Wheel.C : Ctx := { ty := tys, fn := [(32, .e spec_l00Src_pick.c), (53, .e spec_l03Long.c)], lp := [], n := 15, k := 2 }
theorem spec_l03Wheel.hC : CtxOK Try.prog spec_l03Wheel.C := CtxOK.of mo tys_ok (FnsOK.cons spec_l00Src_pick.cok (FnsOK.cons spec_l03Long.cok FnsOK.nil))
theorem spec_l03Wheel.lp : LpOK Try.prog spec_l03Wheel.C spec_l03Wheel.b := (LpOK.nil (by kernel_rfl))
noncomputable def spec_l03Wheel.t (x0 : Nat) (x1 : Int) (x2 : Int) (x3 : List Int) : T (Int × Nat × Nat × Nat × Int × Int) :=
  let y4 := (spec_l00Src_pick (20 : Int) x0 x1 x2 x3)
  .br (spec_l00Src_pick.ok (20 : Int) x0 x1 x2 x3)
  (let y5 := (spec_l03Long y4.2.1 y4.2.2.1 y4.2.2.2 x3)
   .br (spec_l03Long.ok y4.2.1 y4.2.2.1 y4.2.2.2 x3)
   (let y6 := (spec_l03Long y5.2.1 y5.2.2.1 y5.2.2.2 x3)
    .br (spec_l03Long.ok y5.2.1 y5.2.2.1 y5.2.2.2 x3)
    (.leaf ((IntKind.wrap .i16 (IntKind.wrap .i64 ((4 : Int) + y4.1))), y5.1, y6.1, y6.2.1, y6.2.2.1, y6.2.2.2))
    .bad)
   .bad)
  .bad
noncomputable def spec_l03Wheel (x0 : Nat) (x1 : Int) (x2 : Int) (x3 : List Int) : Int × Nat × Nat × Nat × Int × Int := (spec_l03Wheel.t x0 x1 x2 x3).val
noncomputable def spec_l03Wheel.ok (x0 : Nat) (x1 : Int) (x2 : Int) (x3 : List Int) : Bool := (spec_l03Wheel.t x0 x1 x2 x3).ok
def spec_l03Wheel.cd : Cd (Nat × Int × Int × List Int) (List V × Hp) := Cd.iso (Cd.pair (Cd.cons (Cd.pt 0 (Cd.natc 0)) Cd.nil) (Cd.cons (Cd.rw 79 3 (Cd.vs (Cd.cons (Cd.sl 1 (Cd.natc 0)) (Cd.cons (Cd.it .i64) (Cd.cons (Cd.it .u64) Cd.nil))))) (Cd.cons (Cd.ro 0 0 (Cd.is .u8)) Cd.nil))) (fun a => (a.2.1.1.2, a.2.1.2.1, a.2.1.2.2.1, a.2.2.1)) (fun a => (((), ()), ((((), a.1), (a.2.1, (a.2.2.1, ()))), (a.2.2.2, ())))) (fun _ => rfl)
noncomputable def spec_l03Wheel.tr (a : Nat × Int × Int × List Int) : T (Int × Nat × Nat × Nat × Int × Int) := spec_l03Wheel.t a.1 a.2.1 a.2.2.1 a.2.2.2
def spec_l03Wheel.enc : (Nat × Int × Int × List Int) → (Int × Nat × Nat × Nat × Int × Int) → V × Hp := fun a r => (.agg [.it .i16 r.1, .fl .f32 r.2.1, .fl .f32 r.2.2.1], [some ⟨true, 79, 3, .vs [.sl 1 0 r.2.2.2.1, .it .i64 r.2.2.2.2.1, .it .u64 r.2.2.2.2.2]⟩, some ⟨false, 0, 0, .is .u8 a.2.2.2⟩])
noncomputable def spec_l03Wheel.c : List V → Hp → T (V × Hp) := cdE spec_l03Wheel.cd (fun a => .br (spec_l03Wheel.ok a.1 a.2.1 a.2.2.1 a.2.2.2) (.leaf (spec_l03Wheel.enc a (spec_l03Wheel a.1 a.2.1 a.2.2.1 a.2.2.2))) .bad)
theorem spec_l03Wheel.run (a : Nat × Int × Int × List Int) : runF spec_l03Wheel.C Try.f52.results.toList spec_l03Wheel.b (spec_l03Wheel.cd.enc a).1 (spec_l03Wheel.cd.enc a).2 = (spec_l03Wheel.tr a).map (spec_l03Wheel.enc a) := by kernel_rfl
theorem spec_l03Wheel.cok : OKe Try.prog 52 spec_l03Wheel.c := con_e' spec_l03Wheel.cd spec_l03Wheel.hC Try.func52 (by kernel_rfl) (by kernel_rfl) (by kernel_rfl) spec_l03Wheel.lp (fun a => by kernel_rfl) spec_l03Wheel.run (Tells.ok (tree := spec_l03Wheel.tr))
/-! ### spec_l03Drawn -/
noncomputable def spec_l03Drawn.b : Code := bodyOf Try.f29
noncomputable def spec_l03Drawn.C : Ctx := { ty := tys, fn := [(52, .e spec_l03Wheel.c), (53, .e spec_l03Long.c), (32, .e spec_l00Src_pick.c)], lp := [], n := 32, k := 2 }
theorem spec_l03Drawn.hC : CtxOK Try.prog spec_l03Drawn.C := CtxOK.of mo tys_ok (FnsOK.cons spec_l03Wheel.cok (FnsOK.cons spec_l03Long.cok (FnsOK.cons spec_l00Src_pick.cok FnsOK.nil)))
theorem spec_l03Drawn.lp : LpOK Try.prog spec_l03Drawn.C spec_l03Drawn.b := (LpOK.nil (by kernel_rfl))
noncomputable def spec_l03Drawn.t (x0 : Nat) (x1 : Int) (x2 : Int) (x3 : List Int) : T (Int × Nat × Nat × Nat × Nat × Nat × Nat × Nat × Nat × Int × Int) :=
  let y7 := (spec_l03Wheel x0 x1 x2 x3)
  .br (spec_l03Wheel.ok x0 x1 x2 x3)
  (let y8 := (spec_l03Long y7.2.2.2.1 y7.2.2.2.2.1 y7.2.2.2.2.2 x3)
   .br (spec_l03Long.ok y7.2.2.2.1 y7.2.2.2.2.1 y7.2.2.2.2.2 x3)
   (let y9 := (spec_l03Long y8.2.1 y8.2.2.1 y8.2.2.2 x3)
    .br (spec_l03Long.ok y8.2.1 y8.2.2.1 y8.2.2.2 x3)
    (let y10 := (spec_l00Src_pick (40 : Int) y9.2.1 y9.2.2.1 y9.2.2.2 x3)
     .br (spec_l00Src_pick.ok (40 : Int) y9.2.1 y9.2.2.1 y9.2.2.2 x3)
     (let y11 := (spec_l00Src_pick (20 : Int) y10.2.1 y10.2.2.1 y10.2.2.2 x3)
      .br (spec_l00Src_pick.ok (20 : Int) y10.2.1 y10.2.2.1 y10.2.2.2 x3)
      (let y12 := (spec_l00Src_pick (900 : Int) y11.2.1 y11.2.2.1 y11.2.2.2 x3)
       .br (spec_l00Src_pick.ok (900 : Int) y11.2.1 y11.2.2.1 y11.2.2.2 x3)
       (.leaf (y7.1, y7.2.1, y7.2.2.1, y8.1, y9.1, (fdiv .f32 (fofint .f32 y10.1) 1073741824), (fadd .f32 (fdiv .f32 (fofint .f32 y10.1) 1073741824) (fdiv .f32 (fofint .f32 (IntKind.wrap .i64 ((1 : Int) + y11.1))) 1073741824)), (fofint .f32 (IntKind.wrap .i64 ((1 : Int) + y12.1))), y12.2.1, y12.2.2.1, y12.2.2.2))
       .bad)
      .bad)
     .bad)
    .bad)
   .bad)
  .bad
noncomputable def spec_l03Drawn (x0 : Nat) (x1 : Int) (x2 : Int) (x3 : List Int) : Int × Nat × Nat × Nat × Nat × Nat × Nat × Nat × Nat × Int × Int := (spec_l03Drawn.t x0 x1 x2 x3).val
noncomputable def spec_l03Drawn.ok (x0 : Nat) (x1 : Int) (x2 : Int) (x3 : List Int) : Bool := (spec_l03Drawn.t x0 x1 x2 x3).ok
def spec_l03Drawn.cd : Cd (Nat × Int × Int × List Int) (List V × Hp) := Cd.iso (Cd.pair (Cd.cons (Cd.pt 0 (Cd.natc 0)) Cd.nil) (Cd.cons (Cd.rw 79 3 (Cd.vs (Cd.cons (Cd.sl 1 (Cd.natc 0)) (Cd.cons (Cd.it .i64) (Cd.cons (Cd.it .u64) Cd.nil))))) (Cd.cons (Cd.ro 0 0 (Cd.is .u8)) Cd.nil))) (fun a => (a.2.1.1.2, a.2.1.2.1, a.2.1.2.2.1, a.2.2.1)) (fun a => (((), ()), ((((), a.1), (a.2.1, (a.2.2.1, ()))), (a.2.2.2, ())))) (fun _ => rfl)
noncomputable def spec_l03Drawn.tr (a : Nat × Int × Int × List Int) : T (Int × Nat × Nat × Nat × Nat × Nat × Nat × Nat × Nat × Int × Int) := spec_l03Drawn.t a.1 a.2.1 a.2.2.1 a.2.2.2
def spec_l03Drawn.enc : (Nat × Int × Int × List Int) → (Int × Nat × Nat × Nat × Nat × Nat × Nat × Nat × Nat × Int × Int) → V × Hp := fun a r => (.agg [.it .i16 r.1, .fl .f32 r.2.1, .fl .f32 r.2.2.1, .fl .f32 r.2.2.2.1, .fl .f32 r.2.2.2.2.1, .fl .f32 r.2.2.2.2.2.1, .fl .f32 r.2.2.2.2.2.2.1, .fl .f32 r.2.2.2.2.2.2.2.1], [some ⟨true, 79, 3, .vs [.sl 1 0 r.2.2.2.2.2.2.2.2.1, .it .i64 r.2.2.2.2.2.2.2.2.2.1, .it .u64 r.2.2.2.2.2.2.2.2.2.2]⟩, some ⟨false, 0, 0, .is .u8 a.2.2.2⟩])
noncomputable def spec_l03Drawn.c : List V → Hp → T (V × Hp) := cdE spec_l03Drawn.cd (fun a => .br (spec_l03Drawn.ok a.1 a.2.1 a.2.2.1 a.2.2.2) (.leaf (spec_l03Drawn.enc a (spec_l03Drawn a.1 a.2.1 a.2.2.1 a.2.2.2))) .bad)
theorem spec_l03Drawn.run (a : Nat × Int × Int × List Int) : runF spec_l03Drawn.C Try.f29.results.toList spec_l03Drawn.b (spec_l03Drawn.cd.enc a).1 (spec_l03Drawn.cd.enc a).2 = (spec_l03Drawn.tr a).map (spec_l03Drawn.enc a) := by kernel_rfl
theorem spec_l03Drawn.cok : OKe Try.prog 29 spec_l03Drawn.c := con_e' spec_l03Drawn.cd spec_l03Drawn.hC Try.func29 (by kernel_rfl) (by kernel_rfl) (by kernel_rfl) spec_l03Drawn.lp (fun a => by kernel_rfl) spec_l03Drawn.run (Tells.ok (tree := spec_l03Drawn.tr))
/-! ### spec_P6Governor -/
noncomputable def spec_P6Governor.b : Code := bodyOf Try.f5
noncomputable def spec_P6Governor.C : Ctx := { ty := tys, fn := [(30, .e spec_l00From.c), (29, .e spec_l03Drawn.c)], lp := [], n := 6, k := 1 }
theorem spec_P6Governor.hC : CtxOK Try.prog spec_P6Governor.C := CtxOK.of mo tys_ok (FnsOK.cons spec_l00From.cok (FnsOK.cons spec_l03Drawn.cok FnsOK.nil))
theorem spec_P6Governor.lp : LpOK Try.prog spec_P6Governor.C spec_P6Governor.b := (LpOK.nil (by kernel_rfl))
noncomputable def spec_P6Governor.t (x0 : Nat) (x1 : List Int) : T (Int × Nat × Nat × Nat × Nat × Nat × Nat × Nat) :=
  let y3 := (spec_l00From x0 x1)
  let y13 := (spec_l03Drawn y3.1 y3.2.1 y3.2.2 x1)
  .br (spec_l03Drawn.ok y3.1 y3.2.1 y3.2.2 x1)
  (.leaf (y13.1, y13.2.1, y13.2.2.1, y13.2.2.2.1, y13.2.2.2.2.1, y13.2.2.2.2.2.1, y13.2.2.2.2.2.2.1, y13.2.2.2.2.2.2.2.1))
  .bad
noncomputable def spec_P6Governor (x0 : Nat) (x1 : List Int) : Int × Nat × Nat × Nat × Nat × Nat × Nat × Nat := (spec_P6Governor.t x0 x1).val
noncomputable def spec_P6Governor.ok (x0 : Nat) (x1 : List Int) : Bool := (spec_P6Governor.t x0 x1).ok
def spec_P6Governor.cd : Cd (Nat × List Int) (List V × Hp) := Cd.iso (Cd.pair (Cd.cons (Cd.sl 0 (Cd.natc 0)) Cd.nil) (Cd.cons (Cd.ro 0 0 (Cd.is .u8)) Cd.nil)) (fun a => (a.1.1.2, a.2.1)) (fun a => ((((), a.1), ()), (a.2, ()))) (fun _ => rfl)
noncomputable def spec_P6Governor.tr (a : Nat × List Int) : T (Int × Nat × Nat × Nat × Nat × Nat × Nat × Nat) := spec_P6Governor.t a.1 a.2
def spec_P6Governor.enc : (Nat × List Int) → (Int × Nat × Nat × Nat × Nat × Nat × Nat × Nat) → V := fun a r => .agg [.it .i16 r.1, .fl .f32 r.2.1, .fl .f32 r.2.2.1, .fl .f32 r.2.2.2.1, .fl .f32 r.2.2.2.2.1, .fl .f32 r.2.2.2.2.2.1, .fl .f32 r.2.2.2.2.2.2.1, .fl .f32 r.2.2.2.2.2.2.2]
noncomputable def spec_P6Governor.c : List V → Hp → T V := cdQ spec_P6Governor.cd (fun a => .br (spec_P6Governor.ok a.1 a.2) (.leaf (spec_P6Governor.enc a (spec_P6Governor a.1 a.2))) .bad)
theorem spec_P6Governor.run (a : Nat × List Int) : runF spec_P6Governor.C Try.f5.results.toList spec_P6Governor.b (spec_P6Governor.cd.enc a).1 (spec_P6Governor.cd.enc a).2 = (spec_P6Governor.tr a).map fun r => (spec_P6Governor.enc a r, (spec_P6Governor.cd.enc a).2) := by kernel_rfl
theorem spec_P6Governor.cok : OKq Try.prog 5 spec_P6Governor.c := con_q' spec_P6Governor.cd spec_P6Governor.hC Try.func5 (by kernel_rfl) (by kernel_rfl) (by kernel_rfl) spec_P6Governor.lp (fun a => by kernel_rfl) spec_P6Governor.run (Tells.ok (tree := spec_P6Governor.tr))
/-! ### spec_l03StateDrawn -/
noncomputable def spec_l03StateDrawn.b : Code := bodyOf Try.f31
noncomputable def spec_l03StateDrawn.C : Ctx := { ty := tys, fn := [(32, .e spec_l00Src_pick.c)], lp := [], n := 13, k := 2 }
theorem spec_l03StateDrawn.hC : CtxOK Try.prog spec_l03StateDrawn.C := CtxOK.of mo tys_ok (FnsOK.cons spec_l00Src_pick.cok FnsOK.nil)
theorem spec_l03StateDrawn.lp : LpOK Try.prog spec_l03StateDrawn.C spec_l03StateDrawn.b := (LpOK.nil (by kernel_rfl))
noncomputable def spec_l03StateDrawn.t (x0 : Nat) (x1 : Int) (x2 : Int) (x3 : List Int) : T (Nat × Int × Nat × Int × Int) :=
  let y16 := (spec_l00Src_pick (120 : Int) x0 x1 x2 x3)
  .br (spec_l00Src_pick.ok (120 : Int) x0 x1 x2 x3)
  (let y17 := (spec_l00Src_pick (17 : Int) y16.2.1 y16.2.2.1 y16.2.2.2 x3)
   .br (spec_l00Src_pick.ok (17 : Int) y16.2.1 y16.2.2.1 y16.2.2.2 x3)
   (.leaf ((fdiv .f32 (fofint .f32 y16.1) 1082130432), (IntKind.wrap .i8 y17.1), y17.2.1, y17.2.2.1, y17.2.2.2))
   .bad)
  .bad
noncomputable def spec_l03StateDrawn (x0 : Nat) (x1 : Int) (x2 : Int) (x3 : List Int) : Nat × Int × Nat × Int × Int := (spec_l03StateDrawn.t x0 x1 x2 x3).val
noncomputable def spec_l03StateDrawn.ok (x0 : Nat) (x1 : Int) (x2 : Int) (x3 : List Int) : Bool := (spec_l03StateDrawn.t x0 x1 x2 x3).ok
def spec_l03StateDrawn.cd : Cd (Nat × Int × Int × List Int) (List V × Hp) := Cd.iso (Cd.pair (Cd.cons (Cd.pt 0 (Cd.natc 0)) Cd.nil) (Cd.cons (Cd.rw 79 3 (Cd.vs (Cd.cons (Cd.sl 1 (Cd.natc 0)) (Cd.cons (Cd.it .i64) (Cd.cons (Cd.it .u64) Cd.nil))))) (Cd.cons (Cd.ro 0 0 (Cd.is .u8)) Cd.nil))) (fun a => (a.2.1.1.2, a.2.1.2.1, a.2.1.2.2.1, a.2.2.1)) (fun a => (((), ()), ((((), a.1), (a.2.1, (a.2.2.1, ()))), (a.2.2.2, ())))) (fun _ => rfl)
noncomputable def spec_l03StateDrawn.tr (a : Nat × Int × Int × List Int) : T (Nat × Int × Nat × Int × Int) := spec_l03StateDrawn.t a.1 a.2.1 a.2.2.1 a.2.2.2
def spec_l03StateDrawn.enc : (Nat × Int × Int × List Int) → (Nat × Int × Nat × Int × Int) → V × Hp := fun a r => (.agg [.fl .f32 r.1, .it .i8 r.2.1], [some ⟨true, 79, 3, .vs [.sl 1 0 r.2.2.1, .it .i64 r.2.2.2.1, .it .u64 r.2.2.2.2]⟩, some ⟨false, 0, 0, .is .u8 a.2.2.2⟩])
noncomputable def spec_l03StateDrawn.c : List V → Hp → T (V × Hp) := cdE spec_l03StateDrawn.cd (fun a => .br (spec_l03StateDrawn.ok a.1 a.2.1 a.2.2.1 a.2.2.2) (.leaf (spec_l03StateDrawn.enc a (spec_l03StateDrawn a.1 a.2.1 a.2.2.1 a.2.2.2))) .bad)
theorem spec_l03StateDrawn.run (a : Nat × Int × Int × List Int) : runF spec_l03StateDrawn.C Try.f31.results.toList spec_l03StateDrawn.b (spec_l03StateDrawn.cd.enc a).1 (spec_l03StateDrawn.cd.enc a).2 = (spec_l03StateDrawn.tr a).map (spec_l03StateDrawn.enc a) := by kernel_rfl
theorem spec_l03StateDrawn.cok : OKe Try.prog 31 spec_l03StateDrawn.c := con_e' spec_l03StateDrawn.cd spec_l03StateDrawn.hC Try.func31 (by kernel_rfl) (by kernel_rfl) (by kernel_rfl) spec_l03StateDrawn.lp (fun a => by kernel_rfl) spec_l03StateDrawn.run (Tells.ok (tree := spec_l03StateDrawn.tr))
/-! ### spec_P6State -/
noncomputable def spec_P6State.b : Code := bodyOf Try.f6
noncomputable def spec_P6State.C : Ctx := { ty := tys, fn := [(30, .e spec_l00From.c), (31, .e spec_l03StateDrawn.c)], lp := [], n := 6, k := 1 }
theorem spec_P6State.hC : CtxOK Try.prog spec_P6State.C := CtxOK.of mo tys_ok (FnsOK.cons spec_l00From.cok (FnsOK.cons spec_l03StateDrawn.cok FnsOK.nil))
theorem spec_P6State.lp : LpOK Try.prog spec_P6State.C spec_P6State.b := (LpOK.nil (by kernel_rfl))
noncomputable def spec_P6State.t (x0 : Nat) (x1 : List Int) : T (Nat × Int) :=
  let y15 := (spec_l00From x0 x1)
  let y18 := (spec_l03StateDrawn y15.1 y15.2.1 y15.2.2 x1)
  .br (spec_l03StateDrawn.ok y15.1 y15.2.1 y15.2.2 x1)
  (.leaf (y18.1, y18.2.1))
  .bad
noncomputable def spec_P6State (x0 : Nat) (x1 : List Int) : Nat × Int := (spec_P6State.t x0 x1).val
noncomputable def spec_P6State.ok (x0 : Nat) (x1 : List Int) : Bool := (spec_P6State.t x0 x1).ok
def spec_P6State.cd : Cd (Nat × List Int) (List V × Hp) := Cd.iso (Cd.pair (Cd.cons (Cd.sl 0 (Cd.natc 0)) Cd.nil) (Cd.cons (Cd.ro 0 0 (Cd.is .u8)) Cd.nil)) (fun a => (a.1.1.2, a.2.1)) (fun a => ((((), a.1), ()), (a.2, ()))) (fun _ => rfl)
noncomputable def spec_P6State.tr (a : Nat × List Int) : T (Nat × Int) := spec_P6State.t a.1 a.2
def spec_P6State.enc : (Nat × List Int) → (Nat × Int) → V := fun a r => .agg [.fl .f32 r.1, .it .i8 r.2]
noncomputable def spec_P6State.c : List V → Hp → T V := cdQ spec_P6State.cd (fun a => .br (spec_P6State.ok a.1 a.2) (.leaf (spec_P6State.enc a (spec_P6State a.1 a.2))) .bad)
theorem spec_P6State.run (a : Nat × List Int) : runF spec_P6State.C Try.f6.results.toList spec_P6State.b (spec_P6State.cd.enc a).1 (spec_P6State.cd.enc a).2 = (spec_P6State.tr a).map fun r => (spec_P6State.enc a r, (spec_P6State.cd.enc a).2) := by kernel_rfl
theorem spec_P6State.cok : OKq Try.prog 6 spec_P6State.c := con_q' spec_P6State.cd spec_P6State.hC Try.func6 (by kernel_rfl) (by kernel_rfl) (by kernel_rfl) spec_P6State.lp (fun a => by kernel_rfl) spec_P6State.run (Tells.ok (tree := spec_P6State.tr))
/-! ### spec_P6Torques -/
noncomputable def spec_P6Torques.b : Code := bodyOf Try.f7
noncomputable def spec_P6Torques.l4.s (x0 : Nat) (x1 : Int) (x2 : List Int) (x3 : Nat) (x4 : Int) (x5 : Int) (x6 : List Nat) : T ((Nat × Int × Nat × Int × Int × List Nat) ⊕ (Nat × List Nat)) :=
  .br (decide (x1 > (0 : Int)))
  (let y22 := (spec_l00Src_pick (200 : Int) x3 x4 x5 x2)
   .br (spec_l00Src_pick.ok (200 : Int) x3 x4 x5 x2)
   (.br ((Nat.ble 1 (List.length [(fdiv .f32 (fofint .f32 y22.1) 1082130432)])) && (Nat.beq (List.length x6) (x0 * 1) && Nat.ble ((x0 + 1) * 4) 35184372088832 && Nat.ble (x0 + 1) 35184372088832))
    (.leaf (.inl ((x0 + 1), (IntKind.wrap .i64 (x1 - (1 : Int))), y22.2.1, y22.2.2.1, y22.2.2.2, (x6 ++ (List.take 1 (List.drop 0 [(fdiv .f32 (fofint .f32 y22.1) 1082130432)]))))))
    .bad)
   .bad)
  (.leaf (.inr (x0, x6)))
noncomputable def spec_P6Torques.l4.st (p : List Int) (x : Nat × Int × Nat × Int × Int × List Nat) : T ((Nat × Int × Nat × Int × Int × List Nat) ⊕ (Nat × List Nat)) := spec_P6Torques.l4.s x.1 x.2.1 p x.2.2.1 x.2.2.2.1 x.2.2.2.2.1 x.2.2.2.2.2
noncomputable def spec_P6Torques.l4.r (p : List Int) (x : Nat × Int × Nat × Int × Int × List Nat) : Option (Nat × List Nat) := iterT (spec_P6Torques.l4.st p) manyRounds x
def spec_P6Torques.l4.cd : Cd ((List Int) × (Nat × Int × Nat × Int × Int × List Nat)) (List V × Hp) := Cd.iso (Cd.pair (Cd.cons (Cd.pt 1 (Cd.natc 0)) (Cd.cons (Cd.own 2) (Cd.cons (Cd.it .i64) Cd.nil))) (Cd.cons (Cd.ro 0 0 (Cd.is .u8)) (Cd.cons (Cd.rw 79 3 (Cd.vs (Cd.cons (Cd.sl 0 (Cd.natc 0)) (Cd.cons (Cd.it .i64) (Cd.cons (Cd.it .u64) Cd.nil))))) (Cd.cons (Cd.rw 25 1 (Cd.fs .f32)) Cd.nil)))) (fun a => (a.2.1, (a.1.2.1, a.1.2.2.1, a.2.2.1.1.2, a.2.2.1.2.1, a.2.2.1.2.2.1, a.2.2.2.1))) (fun a => (((), (a.2.1, (a.2.2.1, ()))), (a.1, ((((), a.2.2.2.1), (a.2.2.2.2.1, (a.2.2.2.2.2.1, ()))), (a.2.2.2.2.2.2, ()))))) (fun _ => rfl)
def spec_P6Torques.l4.out (p : List Int) : (Nat × List Nat) → X × List V × Hp := (fun r => (.ex 0, [.own 1 r.1], [some ⟨false, 0, 0, .is .u8 p⟩, some ⟨true, 25, 1, .fs .f32 r.2⟩]))
def spec_P6Torques.l4.ex (p : List Int) : (Nat × List Nat) → T (X × List V × Hp) := leafT (fun r => (.ex 0, [.own 1 r.1], [some ⟨false, 0, 0, .is .u8 p⟩, some ⟨true, 25, 1, .fs .f32 r.2⟩]))
noncomputable def spec_P6Torques.l4.c : List V → Hp → T (X × List V × Hp) := cdL spec_P6Torques.l4.cd fun x => optT (spec_P6Torques.l4.r x.1 x.2) (spec_P6Torques.l4.ex x.1)
noncomputable def spec_P6Torques.C : Ctx := { ty := tys, fn := [(30, .e spec_l00From.c), (32, .e spec_l00Src_pick.c)], lp := [(4, ⟨[3, 4, 5], [4], spec_P6Torques.l4.c⟩)], n := 23, k := 1 }
theorem spec_P6Torques.hC : CtxOK Try.prog spec_P6Torques.C := CtxOK.of mo tys_ok (FnsOK.cons spec_l00From.cok (FnsOK.cons spec_l00Src_pick.cok FnsOK.nil))
noncomputable def spec_P6Torques.b4 : Code := (nthC (loopsOf spec_P6Torques.b) 0)
theorem spec_P6Torques.lp4 : LpOK Try.prog spec_P6Torques.C spec_P6Torques.b4 := (LpOK.nil (by kernel_rfl))
theorem spec_P6Torques.l4.round (p : List Int) (s : Nat × Int × Nat × Int × Int × List Nat) : roundL spec_P6Torques.C [3, 4, 5] [4] spec_P6Torques.b4 (spec_P6Torques.l4.cd.enc (p, s)).1 (spec_P6Torques.l4.cd.enc (p, s)).2 = (spec_P6Torques.l4.st p s).map (encSum (fun s => spec_P6Torques.l4.cd.enc (p, s)) (spec_P6Torques.l4.out p)) := by kernel_rfl
theorem spec_P6Torques.l4.lok : LoopOK Try.prog spec_P6Torques.C ⟨[3, 4, 5], [4], spec_P6Torques.l4.c⟩ spec_P6Torques.b4 := loop_cd spec_P6Torques.l4.cd spec_P6Torques.hC spec_P6Torques.lp4 spec_P6Torques.l4.round fun p => Gets.leaf
theorem spec_P6Torques.lp : LpOK Try.prog spec_P6Torques.C spec_P6Torques.b := lp_of (by kernel_rfl) (LpsOK.cons (k := 4) (by kernel_rfl) (by kernel_rfl) spec_P6Torques.l4.lok LpsOK.nil)
noncomputable def spec_P6Torques.t (x0 : Nat) (x1 : List Int) : T (Nat × List Nat) :=
  let y20 := (spec_l00From x0 x1)
  let y21 := (spec_l00Src_pick (7 : Int) y20.1 y20.2.1 y20.2.2 x1)
  .br (spec_l00Src_pick.ok (7 : Int) y20.1 y20.2.1 y20.2.2 x1)
  (let y23 := (spec_P6Torques.l4.r x1 (0, y21.1, y21.2.1, y21.2.2.1, y21.2.2.2, []))
   .br (Option.isSome y23)
   (.leaf ((Option.getD y23 default).1, (Option.getD y23 default).2))
   .bad)
  .bad
noncomputable def spec_P6Torques (x0 : Nat) (x1 : List Int) : Nat × List Nat := (spec_P6Torques.t x0 x1).val
noncomputable def spec_P6Torques.ok (x0 : Nat) (x1 : List Int) : Bool := (spec_P6Torques.t x0 x1).ok
def spec_P6Torques.cd : Cd (Nat × List Int) (List V × Hp) := Cd.iso (Cd.pair (Cd.cons (Cd.sl 0 (Cd.natc 0)) Cd.nil) (Cd.cons (Cd.ro 0 0 (Cd.is .u8)) Cd.nil)) (fun a => (a.1.1.2, a.2.1)) (fun a => ((((), a.1), ()), (a.2, ()))) (fun _ => rfl)
noncomputable def spec_P6Torques.tr (a : Nat × List Int) : T (Nat × List Nat) := spec_P6Torques.t a.1 a.2
def spec_P6Torques.enc : (Nat × List Int) → (Nat × List Nat) → V × Hp := fun a r => (.own 1 r.1, [some ⟨false, 0, 0, .is .u8 a.2⟩, some ⟨true, 25, 1, .fs .f32 r.2⟩])
noncomputable def spec_P6Torques.c : List V → Hp → T (V × Hp) := cdE spec_P6Torques.cd (fun a => .br (spec_P6Torques.ok a.1 a.2) (.leaf (spec_P6Torques.enc a (spec_P6Torques a.1 a.2))) .bad)
theorem spec_P6Torques.run (a : Nat × List Int) : runF spec_P6Torques.C Try.f7.results.toList spec_P6Torques.b (spec_P6Torques.cd.enc a).1 (spec_P6Torques.cd.enc a).2 = (spec_P6Torques.tr a).map (spec_P6Torques.enc a) := by kernel_rfl
theorem spec_P6Torques.cok : OKe Try.prog 7 spec_P6Torques.c := con_e' spec_P6Torques.cd spec_P6Torques.hC Try.func7 (by kernel_rfl) (by kernel_rfl) (by kernel_rfl) spec_P6Torques.lp (fun a => by kernel_rfl) spec_P6Torques.run (Tells.ok (tree := spec_P6Torques.tr))
/-! ### impl_within -/
noncomputable def impl_within.b : Code := bodyOf Try.f41
noncomputable def impl_within.C : Ctx := { ty := tys, fn := [], lp := [], n := 15, k := 0 }
theorem impl_within.hC : CtxOK Try.prog impl_within.C := CtxOK.of mo tys_ok FnsOK.nil
theorem impl_within.lp : LpOK Try.prog impl_within.C impl_within.b := (LpOK.nil (by kernel_rfl))
noncomputable def impl_within.t (x0 : Int) (x1 : Int) (x2 : Int) : T Bool :=
  .br (decide (x1 ≤ x0))
  (.leaf (decide (x0 ≤ x2)))
  (.leaf false)
noncomputable def impl_within (x0 : Int) (x1 : Int) (x2 : Int) : Bool := (impl_within.t x0 x1 x2).val
def impl_within.cd : Cd (Int × Int × Int) (List V × Hp) := Cd.iso (Cd.pair (Cd.cons (Cd.it .i64) (Cd.cons (Cd.it .i64) (Cd.cons (Cd.it .i64) Cd.nil))) Cd.nil) (fun a => (a.1.1, a.1.2.1, a.1.2.2.1)) (fun a => ((a.1, (a.2.1, (a.2.2, ()))), ())) (fun _ => rfl)
noncomputable def impl_within.tr (a : Int × Int × Int) : T Bool := impl_within.t a.1 a.2.1 a.2.2
def impl_within.enc : (Int × Int × Int) → Bool → V := fun a r => .bo r
noncomputable def impl_within.c : List V → Hp → T V := cdQ impl_within.cd (fun a => .leaf (impl_within.enc a (impl_within a.1 a.2.1 a.2.2)))
theorem impl_within.run (a : Int × Int × Int) : runF impl_within.C Try.f41.results.toList impl_within.b (impl_within.cd.enc a).1 (impl_within.cd.enc a).2 = (impl_within.tr a).map fun r => (impl_within.enc a r, (impl_within.cd.enc a).2) := by kernel_rfl
theorem impl_within.cok : OKq Try.prog 41 impl_within.c := con_q' impl_within.cd impl_within.hC Try.func41 (by kernel_rfl) (by kernel_rfl) (by kernel_rfl) impl_within.lp (fun a => by kernel_rfl) impl_within.run (Tells.val (tree := impl_within.tr) fun a => by kernel_rfl)
/-! ### impl_between -/
noncomputable def impl_between.b : Code := bodyOf Try.f45
noncomputable def impl_between.C : Ctx := { ty := tys, fn := [], lp := [], n := 15, k := 0 }
theorem impl_between.hC : CtxOK Try.prog impl_between.C := CtxOK.of mo tys_ok FnsOK.nil
theorem impl_between.lp : LpOK Try.prog impl_between.C impl_between.b := (LpOK.nil (by kernel_rfl))
noncomputable def impl_between.t (x0 : Nat) (x1 : Nat) (x2 : Nat) : T Bool :=
  .br (fle .f32 x1 x0)
  (.leaf (fle .f32 x0 x2))
  (.leaf false)
noncomputable def impl_between (x0 : Nat) (x1 : Nat) (x2 : Nat) : Bool := (impl_between.t x0 x1 x2).val
def impl_between.cd : Cd (Nat × Nat × Nat) (List V × Hp) := Cd.iso (Cd.pair (Cd.cons (Cd.fl .f32) (Cd.cons (Cd.fl .f32) (Cd.cons (Cd.fl .f32) Cd.nil))) Cd.nil) (fun a => (a.1.1, a.1.2.1, a.1.2.2.1)) (fun a => ((a.1, (a.2.1, (a.2.2, ()))), ())) (fun _ => rfl)
noncomputable def impl_between.tr (a : Nat × Nat × Nat) : T Bool := impl_between.t a.1 a.2.1 a.2.2
def impl_between.enc : (Nat × Nat × Nat) → Bool → V := fun a r => .bo r
noncomputable def impl_between.c : List V → Hp → T V := cdQ impl_between.cd (fun a => .leaf (impl_between.enc a (impl_between a.1 a.2.1 a.2.2)))
theorem impl_between.run (a : Nat × Nat × Nat) : runF impl_between.C Try.f45.results.toList impl_between.b (impl_between.cd.enc a).1 (impl_between.cd.enc a).2 = (impl_between.tr a).map fun r => (impl_between.enc a r, (impl_between.cd.enc a).2) := by kernel_rfl
theorem impl_between.cok : OKq Try.prog 45 impl_between.c := con_q' impl_between.cd impl_between.hC Try.func45 (by kernel_rfl) (by kernel_rfl) (by kernel_rfl) impl_between.lp (fun a => by kernel_rfl) impl_between.run (Tells.val (tree := impl_between.tr) fun a => by kernel_rfl)
/-! ### impl_IsLength -/
noncomputable def impl_IsLength.b : Code := bodyOf Try.f39
noncomputable def impl_IsLength.C : Ctx := { ty := tys, fn := [(45, .q impl_between.c)], lp := [], n := 5, k := 0 }
theorem impl_IsLength.hC : CtxOK Try.prog impl_IsLength.C := CtxOK.of mo tys_ok (FnsOK.cons impl_between.cok FnsOK.nil)
theorem impl_IsLength.lp : LpOK Try.prog impl_IsLength.C impl_IsLength.b := (LpOK.nil (by kernel_rfl))
noncomputable def impl_IsLength.t (x0 : Nat) : T Bool :=
  .leaf (impl_between x0 1031798784 1149239296)
noncomputable def impl_IsLength (x0 : Nat) : Bool := (impl_IsLength.t x0).val
def impl_IsLength.cd : Cd Nat (List V × Hp) := Cd.iso (Cd.pair (Cd.cons (Cd.fl .f32) Cd.nil) Cd.nil) (fun a => a.1.1) (fun a => ((a, ()), ())) (fun _ => rfl)
noncomputable def impl_IsLength.tr (a : Nat) : T Bool := impl_IsLength.t a
def impl_IsLength.enc : Nat → Bool → V := fun a r => .bo r
noncomputable def impl_IsLength.c : List V → Hp → T V := cdQ impl_IsLength.cd (fun a => .leaf (impl_IsLength.enc a (impl_IsLength a)))
theorem impl_IsLength.run (a : Nat) : runF impl_IsLength.C Try.f39.results.toList impl_IsLength.b (impl_IsLength.cd.enc a).1 (impl_IsLength.cd.enc a).2 = (impl_IsLength.tr a).map fun r => (impl_IsLength.enc a r, (impl_IsLength.cd.enc a).2) := by kernel_rfl
theorem impl_IsLength.cok : OKq Try.prog 39 impl_IsLength.c := con_q' impl_IsLength.cd impl_IsLength.hC Try.func39 (by kernel_rfl) (by kernel_rfl) (by kernel_rfl) impl_IsLength.lp (fun a => by kernel_rfl) impl_IsLength.run (Tells.val (tree := impl_IsLength.tr) fun a => by kernel_rfl)
/-! ### impl_ValidMill -/
noncomputable def impl_ValidMill.b : Code := bodyOf Try.f38
noncomputable def impl_ValidMill.C : Ctx := { ty := tys, fn := [(41, .q impl_within.c), (39, .q impl_IsLength.c)], lp := [], n := 17, k := 0 }
theorem impl_ValidMill.hC : CtxOK Try.prog impl_ValidMill.C := CtxOK.of mo tys_ok (FnsOK.cons impl_within.cok (FnsOK.cons impl_IsLength.cok FnsOK.nil))
theorem impl_ValidMill.lp : LpOK Try.prog impl_ValidMill.C impl_ValidMill.b := (LpOK.nil (by kernel_rfl))
noncomputable def impl_ValidMill.t (x0 : Int) (x1 : Nat) (x2 : Nat) : T Bool :=
  .br (impl_within (IntKind.wrap .i64 x0) (4 : Int) (48 : Int))
  (.br (impl_IsLength x1)
   (.leaf (impl_IsLength x2))
   (.leaf false))
  (.leaf false)
noncomputable def impl_ValidMill (x0 : Int) (x1 : Nat) (x2 : Nat) : Bool := (impl_ValidMill.t x0 x1 x2).val
def impl_ValidMill.cd : Cd (Int × Nat × Nat) (List V × Hp) := Cd.iso (Cd.pair (Cd.cons (Cd.agg (Cd.cons (Cd.it .i16) (Cd.cons (Cd.fl .f32) (Cd.cons (Cd.fl .f32) Cd.nil)))) Cd.nil) Cd.nil) (fun a => (a.1.1.1, a.1.1.2.1, a.1.1.2.2.1)) (fun a => (((a.1, (a.2.1, (a.2.2, ()))), ()), ())) (fun _ => rfl)
noncomputable def impl_ValidMill.tr (a : Int × Nat × Nat) : T Bool := impl_ValidMill.t a.1 a.2.1 a.2.2
def impl_ValidMill.enc : (Int × Nat × Nat) → Bool → V := fun a r => .bo r
noncomputable def impl_ValidMill.c : List V → Hp → T V := cdQ impl_ValidMill.cd (fun a => .leaf (impl_ValidMill.enc a (impl_ValidMill a.1 a.2.1 a.2.2)))
theorem impl_ValidMill.run (a : Int × Nat × Nat) : runF impl_ValidMill.C Try.f38.results.toList impl_ValidMill.b (impl_ValidMill.cd.enc a).1 (impl_ValidMill.cd.enc a).2 = (impl_ValidMill.tr a).map fun r => (impl_ValidMill.enc a r, (impl_ValidMill.cd.enc a).2) := by kernel_rfl
theorem impl_ValidMill.cok : OKq Try.prog 38 impl_ValidMill.c := con_q' impl_ValidMill.cd impl_ValidMill.hC Try.func38 (by kernel_rfl) (by kernel_rfl) (by kernel_rfl) impl_ValidMill.lp (fun a => by kernel_rfl) impl_ValidMill.run (Tells.val (tree := impl_ValidMill.tr) fun a => by kernel_rfl)
/-! ### impl_ValidGovernor -/
noncomputable def impl_ValidGovernor.b : Code := bodyOf Try.f11
noncomputable def impl_ValidGovernor.C : Ctx := { ty := tys, fn := [(38, .q impl_ValidMill.c), (39, .q impl_IsLength.c)], lp := [], n := 38, k := 0 }
theorem impl_ValidGovernor.hC : CtxOK Try.prog impl_ValidGovernor.C := CtxOK.of mo tys_ok (FnsOK.cons impl_ValidMill.cok (FnsOK.cons impl_IsLength.cok FnsOK.nil))
theorem impl_ValidGovernor.lp : LpOK Try.prog impl_ValidGovernor.C impl_ValidGovernor.b := (LpOK.nil (by kernel_rfl))
noncomputable def impl_ValidGovernor.t (x0 : Int) (x1 : Nat) (x2 : Nat) (x3 : Nat) (x4 : Nat) (x5 : Nat) (x6 : Nat) (x7 : Nat) : T Bool :=
  .br (impl_ValidMill x0 x1 x2)
  (.br (impl_IsLength x3)
   (.br (impl_IsLength x4)
    (.br (impl_IsLength x7)
     (.br (fge .f32 x5 0)
      (.br (fle .f32 x6 1149239296)
       (.leaf (flt .f32 x5 x6))
       (.leaf false))
      (.leaf false))
     (.leaf false))
    (.leaf false))
   (.leaf false))
  (.leaf false)
noncomputable def impl_ValidGovernor (x0 : Int) (x1 : Nat) (x2 : Nat) (x3 : Nat) (x4 : Nat) (x5 : Nat) (x6 : Nat) (x7 : Nat) : Bool := (impl_ValidGovernor.t x0 x1 x2 x3 x4 x5 x6 x7).val
def impl_ValidGovernor.cd : Cd (Int × Nat × Nat × Nat × Nat × Nat × Nat × Nat) (List V × Hp) := Cd.iso (Cd.pair (Cd.cons (Cd.agg (Cd.cons (Cd.it .i16) (Cd.cons (Cd.fl .f32) (Cd.cons (Cd.fl .f32) (Cd.cons (Cd.fl .f32) (Cd.cons (Cd.fl .f32) (Cd.cons (Cd.fl .f32) (Cd.cons (Cd.fl .f32) (Cd.cons (Cd.fl .f32) Cd.nil))))))))) Cd.nil) Cd.nil) (fun a => (a.1.1.1, a.1.1.2.1, a.1.1.2.2.1, a.1.1.2.2.2.1, a.1.1.2.2.2.2.1, a.1.1.2.2.2.2.2.1, a.1.1.2.2.2.2.2.2.1, a.1.1.2.2.2.2.2.2.2.1)) (fun a => (((a.1, (a.2.1, (a.2.2.1, (a.2.2.2.1, (a.2.2.2.2.1, (a.2.2.2.2.2.1, (a.2.2.2.2.2.2.1, (a.2.2.2.2.2.2.2, ())))))))), ()), ())) (fun _ => rfl)
noncomputable def impl_ValidGovernor.tr (a : Int × Nat × Nat × Nat × Nat × Nat × Nat × Nat) : T Bool := impl_ValidGovernor.t a.1 a.2.1 a.2.2.1 a.2.2.2.1 a.2.2.2.2.1 a.2.2.2.2.2.1 a.2.2.2.2.2.2.1 a.2.2.2.2.2.2.2
def impl_ValidGovernor.enc : (Int × Nat × Nat × Nat × Nat × Nat × Nat × Nat) → Bool → V := fun a r => .bo r
noncomputable def impl_ValidGovernor.c : List V → Hp → T V := cdQ impl_ValidGovernor.cd (fun a => .leaf (impl_ValidGovernor.enc a (impl_ValidGovernor a.1 a.2.1 a.2.2.1 a.2.2.2.1 a.2.2.2.2.1 a.2.2.2.2.2.1 a.2.2.2.2.2.2.1 a.2.2.2.2.2.2.2)))
theorem impl_ValidGovernor.run (a : Int × Nat × Nat × Nat × Nat × Nat × Nat × Nat) : runF impl_ValidGovernor.C Try.f11.results.toList impl_ValidGovernor.b (impl_ValidGovernor.cd.enc a).1 (impl_ValidGovernor.cd.enc a).2 = (impl_ValidGovernor.tr a).map fun r => (impl_ValidGovernor.enc a r, (impl_ValidGovernor.cd.enc a).2) := by kernel_rfl
theorem impl_ValidGovernor.cok : OKq Try.prog 11 impl_ValidGovernor.c := con_q' impl_ValidGovernor.cd impl_ValidGovernor.hC Try.func11 (by kernel_rfl) (by kernel_rfl) (by kernel_rfl) impl_ValidGovernor.lp (fun a => by kernel_rfl) impl_ValidGovernor.run (Tells.val (tree := impl_ValidGovernor.tr) fun a => by kernel_rfl)
/-! ### impl_isSpeed -/
noncomputable def impl_isSpeed.b : Code := bodyOf Try.f40
noncomputable def impl_isSpeed.C : Ctx := { ty := tys, fn := [(45, .q impl_between.c)], lp := [], n := 5, k := 0 }
theorem impl_isSpeed.hC : CtxOK Try.prog impl_isSpeed.C := CtxOK.of mo tys_ok (FnsOK.cons impl_between.cok FnsOK.nil)
theorem impl_isSpeed.lp : LpOK Try.prog impl_isSpeed.C impl_isSpeed.b := (LpOK.nil (by kernel_rfl))
noncomputable def impl_isSpeed.t (x0 : Nat) : T Bool :=
  .leaf (impl_between x0 0 1149239296)
noncomputable def impl_isSpeed (x0 : Nat) : Bool := (impl_isSpeed.t x0).val
def impl_isSpeed.cd : Cd Nat (List V × Hp) := Cd.iso (Cd.pair (Cd.cons (Cd.fl .f32) Cd.nil) Cd.nil) (fun a => a.1.1) (fun a => ((a, ()), ())) (fun _ => rfl)
noncomputable def impl_isSpeed.tr (a : Nat) : T Bool := impl_isSpeed.t a
def impl_isSpeed.enc : Nat → Bool → V := fun a r => .bo r
noncomputable def impl_isSpeed.c : List V → Hp → T V := cdQ impl_isSpeed.cd (fun a => .leaf (impl_isSpeed.enc a (impl_isSpeed a)))
theorem impl_isSpeed.run (a : Nat) : runF impl_isSpeed.C Try.f40.results.toList impl_isSpeed.b (impl_isSpeed.cd.enc a).1 (impl_isSpeed.cd.enc a).2 = (impl_isSpeed.tr a).map fun r => (impl_isSpeed.enc a r, (impl_isSpeed.cd.enc a).2) := by kernel_rfl
theorem impl_isSpeed.cok : OKq Try.prog 40 impl_isSpeed.c := con_q' impl_isSpeed.cd impl_isSpeed.hC Try.func40 (by kernel_rfl) (by kernel_rfl) (by kernel_rfl) impl_isSpeed.lp (fun a => by kernel_rfl) impl_isSpeed.run (Tells.val (tree := impl_isSpeed.tr) fun a => by kernel_rfl)
/-! ### impl_ValidState -/
noncomputable def impl_ValidState.b : Code := bodyOf Try.f12
noncomputable def impl_ValidState.C : Ctx := { ty := tys, fn := [(40, .q impl_isSpeed.c), (41, .q impl_within.c)], lp := [], n := 12, k := 0 }
theorem impl_ValidState.hC : CtxOK Try.prog impl_ValidState.C := CtxOK.of mo tys_ok (FnsOK.cons impl_isSpeed.cok (FnsOK.cons impl_within.cok FnsOK.nil))
theorem impl_ValidState.lp : LpOK Try.prog impl_ValidState.C impl_ValidState.b := (LpOK.nil (by kernel_rfl))
noncomputable def impl_ValidState.t (x0 : Nat) (x1 : Int) : T Bool :=
  .br (impl_isSpeed x0)
  (.leaf (impl_within (IntKind.wrap .i64 x1) (0 : Int) (16 : Int)))
  (.leaf false)
noncomputable def impl_ValidState (x0 : Nat) (x1 : Int) : Bool := (impl_ValidState.t x0 x1).val
def impl_ValidState.cd : Cd (Nat × Int) (List V × Hp) := Cd.iso (Cd.pair (Cd.cons (Cd.agg (Cd.cons (Cd.fl .f32) (Cd.cons (Cd.it .i8) Cd.nil))) Cd.nil) Cd.nil) (fun a => (a.1.1.1, a.1.1.2.1)) (fun a => (((a.1, (a.2, ())), ()), ())) (fun _ => rfl)
noncomputable def impl_ValidState.tr (a : Nat × Int) : T Bool := impl_ValidState.t a.1 a.2
def impl_ValidState.enc : (Nat × Int) → Bool → V := fun a r => .bo r
noncomputable def impl_ValidState.c : List V → Hp → T V := cdQ impl_ValidState.cd (fun a => .leaf (impl_ValidState.enc a (impl_ValidState a.1 a.2)))
theorem impl_ValidState.run (a : Nat × Int) : runF impl_ValidState.C Try.f12.results.toList impl_ValidState.b (impl_ValidState.cd.enc a).1 (impl_ValidState.cd.enc a).2 = (impl_ValidState.tr a).map fun r => (impl_ValidState.enc a r, (impl_ValidState.cd.enc a).2) := by kernel_rfl
theorem impl_ValidState.cok : OKq Try.prog 12 impl_ValidState.c := con_q' impl_ValidState.cd impl_ValidState.hC Try.func12 (by kernel_rfl) (by kernel_rfl) (by kernel_rfl) impl_ValidState.lp (fun a => by kernel_rfl) impl_ValidState.run (Tells.val (tree := impl_ValidState.tr) fun a => by kernel_rfl)
/-! ### impl_isAmount -/
noncomputable def impl_isAmount.b : Code := bodyOf Try.f57
noncomputable def impl_isAmount.C : Ctx := { ty := tys, fn := [(45, .q impl_between.c)], lp := [], n := 5, k := 0 }
theorem impl_isAmount.hC : CtxOK Try.prog impl_isAmount.C := CtxOK.of mo tys_ok (FnsOK.cons impl_between.cok FnsOK.nil)
theorem impl_isAmount.lp : LpOK Try.prog impl_isAmount.C impl_isAmount.b := (LpOK.nil (by kernel_rfl))
noncomputable def impl_isAmount.t (x0 : Nat) : T Bool :=
  .leaf (impl_between x0 0 1233125376)
noncomputable def impl_isAmount (x0 : Nat) : Bool := (impl_isAmount.t x0).val
def impl_isAmount.cd : Cd Nat (List V × Hp) := Cd.iso (Cd.pair (Cd.cons (Cd.fl .f32) Cd.nil) Cd.nil) (fun a => a.1.1) (fun a => ((a, ()), ())) (fun _ => rfl)
noncomputable def impl_isAmount.tr (a : Nat) : T Bool := impl_isAmount.t a
def impl_isAmount.enc : Nat → Bool → V := fun a r => .bo r
noncomputable def impl_isAmount.c : List V → Hp → T V := cdQ impl_isAmount.cd (fun a => .leaf (impl_isAmount.enc a (impl_isAmount a)))
theorem impl_isAmount.run (a : Nat) : runF impl_isAmount.C Try.f57.results.toList impl_isAmount.b (impl_isAmount.cd.enc a).1 (impl_isAmount.cd.enc a).2 = (impl_isAmount.tr a).map fun r => (impl_isAmount.enc a r, (impl_isAmount.cd.enc a).2) := by kernel_rfl
theorem impl_isAmount.cok : OKq Try.prog 57 impl_isAmount.c := con_q' impl_isAmount.cd impl_isAmount.hC Try.func57 (by kernel_rfl) (by kernel_rfl) (by kernel_rfl) impl_isAmount.lp (fun a => by kernel_rfl) impl_isAmount.run (Tells.val (tree := impl_isAmount.tr) fun a => by kernel_rfl)
/-! ### impl_governorCode_1 -/
noncomputable def impl_governorCode_1.b : Code := bodyOf Try.f56
noncomputable def impl_governorCode_1.C : Ctx := { ty := tys, fn := [(57, .q impl_isAmount.c)], lp := [], n := 6, k := 0 }
theorem impl_governorCode_1.hC : CtxOK Try.prog impl_governorCode_1.C := CtxOK.of mo tys_ok (FnsOK.cons impl_isAmount.cok FnsOK.nil)
theorem impl_governorCode_1.lp : LpOK Try.prog impl_governorCode_1.C impl_governorCode_1.b := (LpOK.nil (by kernel_rfl))
noncomputable def impl_governorCode_1.t (x0 : Nat) : T Bool :=
  .leaf (!(impl_isAmount x0))
noncomputable def impl_governorCode_1 (x0 : Nat) : Bool := (impl_governorCode_1.t x0).val
def impl_governorCode_1.cd : Cd Nat (List V × Hp) := Cd.iso (Cd.pair (Cd.cons (Cd.fl .f32) Cd.nil) Cd.nil) (fun a => a.1.1) (fun a => ((a, ()), ())) (fun _ => rfl)
noncomputable def impl_governorCode_1.tr (a : Nat) : T Bool := impl_governorCode_1.t a
def impl_governorCode_1.enc : Nat → Bool → V := fun a r => .bo r
noncomputable def impl_governorCode_1.c : List V → Hp → T V := cdQ impl_governorCode_1.cd (fun a => .leaf (impl_governorCode_1.enc a (impl_governorCode_1 a)))
theorem impl_governorCode_1.run (a : Nat) : runF impl_governorCode_1.C Try.f56.results.toList impl_governorCode_1.b (impl_governorCode_1.cd.enc a).1 (impl_governorCode_1.cd.enc a).2 = (impl_governorCode_1.tr a).map fun r => (impl_governorCode_1.enc a r, (impl_governorCode_1.cd.enc a).2) := by kernel_rfl
theorem impl_governorCode_1.cok : OKq Try.prog 56 impl_governorCode_1.c := con_q' impl_governorCode_1.cd impl_governorCode_1.hC Try.func56 (by kernel_rfl) (by kernel_rfl) (by kernel_rfl) impl_governorCode_1.lp (fun a => by kernel_rfl) impl_governorCode_1.run (Tells.val (tree := impl_governorCode_1.tr) fun a => by kernel_rfl)
/-! ### slices_IndexFunc_float32_float32 -/
noncomputable def slices_IndexFunc_float32_float32.b : Code := bodyOf Try.f69
noncomputable def slices_IndexFunc_float32_float32.l2.s (x0 : Nat) (x1 : Int) (x2 : Int) (x3 : List Nat) : T (Int ⊕ (Int ⊕ Unit)) :=
  .br (decide (x2 < x1))
  (.br (bounds x2 x0)
   (.br (Nat.ble ((Int.toNat x2 * 1) + 1) (List.length x3))
    (.br (impl_governorCode_1 (List.getD x3 (Int.toNat x2 * 1) 0))
     (.leaf (.inr (.inl x2)))
     (.leaf (.inl (IntKind.wrap .i64 (x2 + (1 : Int))))))
    .bad)
   .bad)
  (.leaf (.inr (.inr ())))
noncomputable def slices_IndexFunc_float32_float32.l2.st (p : Nat × Int × List Nat) (x : Int) : T (Int ⊕ (Int ⊕ Unit)) := slices_IndexFunc_float32_float32.l2.s p.1 p.2.1 x p.2.2
noncomputable def slices_IndexFunc_float32_float32.l2.r (p : Nat × Int × List Nat) (x : Int) : Option (Int ⊕ Unit) := iterT (slices_IndexFunc_float32_float32.l2.st p) manyRounds x
def slices_IndexFunc_float32_float32.l2.cd : Cd ((Nat × Int × List Nat) × Int) (List V × Hp) := Cd.iso (Cd.pair (Cd.cons (Cd.own 0) (Cd.cons (Cd.fu 56 Cd.nil) (Cd.cons (Cd.it .i64) (Cd.cons (Cd.it .i64) Cd.nil)))) (Cd.cons (Cd.rw 25 1 (Cd.fs .f32)) Cd.nil)) (fun a => ((a.1.1, a.1.2.2.1, a.2.1), a.1.2.2.2.1)) (fun a => ((a.1.1, ((), (a.1.2.1, (a.2, ())))), (a.1.2.2, ()))) (fun _ => rfl)
def slices_IndexFunc_float32_float32.l2.out (p : Nat × Int × List Nat) : (Int ⊕ Unit) → X × List V × Hp := sumO (fun r => (.ret, [.it .i64 r], [some ⟨true, 25, 1, .fs .f32 p.2.2⟩])) (fun r => (.ex 0, [.unk], [some ⟨true, 25, 1, .fs .f32 p.2.2⟩]))
def slices_IndexFunc_float32_float32.l2.ex (p : Nat × Int × List Nat) : (Int ⊕ Unit) → T (X × List V × Hp) := sumT (leafT (fun r => (.ret, [.it .i64 r], [some ⟨true, 25, 1, .fs .f32 p.2.2⟩]))) (leafT (fun r => (.ex 0, [.unk], [some ⟨true, 25, 1, .fs .f32 p.2.2⟩])))
noncomputable def slices_IndexFunc_float32_float32.l2.c : List V → Hp → T (X × List V × Hp) := cdL slices_IndexFunc_float32_float32.l2.cd fun x => optT (slices_IndexFunc_float32_float32.l2.r x.1 x.2) (slices_IndexFunc_float32_float32.l2.ex x.1)
noncomputable def slices_IndexFunc_float32_float32.C : Ctx := { ty := tys, fn := [(56, .q impl_governorCode_1.c)], lp := [(2, ⟨[0, 1, 7, 8], [4], slices_IndexFunc_float32_float32.l2.c⟩)], n := 19, k := 1 }
theorem slices_IndexFunc_float32_float32.hC : CtxOK Try.prog slices_IndexFunc_float32_float32.C := CtxOK.of mo tys_ok (FnsOK.cons impl_governorCode_1.cok FnsOK.nil)
noncomputable def slices_IndexFunc_float32_float32.b2 : Code := (nthC (loopsOf slices_IndexFunc_float32_float32.b) 0)
theorem slices_IndexFunc_float32_float32.lp2 : LpOK Try.prog slices_IndexFunc_float32_float32.C slices_IndexFunc_float32_float32.b2 := (LpOK.nil (by kernel_rfl))
theorem slices_IndexFunc_float32_float32.l2.round (p : Nat × Int × List Nat) (s : Int) : roundL slices_IndexFunc_float32_float32.C [0, 1, 7, 8] [4] slices_IndexFunc_float32_float32.b2 (slices_IndexFunc_float32_float32.l2.cd.enc (p, s)).1 (slices_IndexFunc_float32_float32.l2.cd.enc (p, s)).2 = (slices_IndexFunc_float32_float32.l2.st p s).map (encSum (fun s => slices_IndexFunc_float32_float32.l2.cd.enc (p, s)) (slices_IndexFunc_float32_float32.l2.out p)) := by kernel_rfl
theorem slices_IndexFunc_float32_float32.l2.lok : LoopOK Try.prog slices_IndexFunc_float32_float32.C ⟨[0, 1, 7, 8], [4], slices_IndexFunc_float32_float32.l2.c⟩ slices_IndexFunc_float32_float32.b2 := loop_cd slices_IndexFunc_float32_float32.l2.cd slices_IndexFunc_float32_float32.hC slices_IndexFunc_float32_float32.lp2 slices_IndexFunc_float32_float32.l2.round fun p => (Gets.sum Gets.leaf Gets.leaf)
theorem slices_IndexFunc_float32_float32.lp : LpOK Try.prog slices_IndexFunc_float32_float32.C slices_IndexFunc_float32_float32.b := lp_of (by kernel_rfl) (LpsOK.cons (k := 2) (by kernel_rfl) (by kernel_rfl) slices_IndexFunc_float32_float32.l2.lok LpsOK.nil)
noncomputable def slices_IndexFunc_float32_float32.t (x0 : Nat) (x1 : List Nat) : T Int :=
  .br (Option.isSome (slices_IndexFunc_float32_float32.l2.r (x0, ((x0 : Nat) : Int), x1) (0 : Int)))
  (.br (Sum.isLeft (Option.getD (slices_IndexFunc_float32_float32.l2.r (x0, ((x0 : Nat) : Int), x1) (0 : Int)) default))
   (.leaf (getLeftD (Option.getD (slices_IndexFunc_float32_float32.l2.r (x0, ((x0 : Nat) : Int), x1) (0 : Int)) default)))
   (.leaf (-1 : Int)))
  .bad
noncomputable def slices_IndexFunc_float32_float32 (x0 : Nat) (x1 : List Nat) : Int := (slices_IndexFunc_float32_float32.t x0 x1).val
noncomputable def slices_IndexFunc_float32_float32.ok (x0 : Nat) (x1 : List Nat) : Bool := (slices_IndexFunc_float32_float32.t x0 x1).ok
def slices_IndexFunc_float32_float32.cd : Cd (Nat × List Nat) (List V × Hp) := Cd.iso (Cd.pair (Cd.cons (Cd.own 0) (Cd.cons (Cd.fu 56 Cd.nil) Cd.nil)) (Cd.cons (Cd.rw 25 1 (Cd.fs .f32)) Cd.nil)) (fun a => (a.1.1, a.2.1)) (fun a => ((a.1, ((), ())), (a.2, ()))) (fun _ => rfl)
noncomputable def slices_IndexFunc_float32_float32.tr (a : Nat × List Nat) : T Int := slices_IndexFunc_float32_float32.t a.1 a.2
def slices_IndexFunc_float32_float32.enc : (Nat × List Nat) → Int → V := fun a r => .it .i64 r
noncomputable def slices_IndexFunc_float32_float32.c : List V → Hp → T V := cdQ slices_IndexFunc_float32_float32.cd (fun a => .br (slices_IndexFunc_float32_float32.ok a.1 a.2) (.leaf (slices_IndexFunc_float32_float32.enc a (slices_IndexFunc_float32_float32 a.1 a.2))) .bad)
theorem slices_IndexFunc_float32_float32.run (a : Nat × List Nat) : runF slices_IndexFunc_float32_float32.C Try.f69.results.toList slices_IndexFunc_float32_float32.b (slices_IndexFunc_float32_float32.cd.enc a).1 (slices_IndexFunc_float32_float32.cd.enc a).2 = (slices_IndexFunc_float32_float32.tr a).map fun r => (slices_IndexFunc_float32_float32.enc a r, (slices_IndexFunc_float32_float32.cd.enc a).2) := by kernel_rfl
theorem slices_IndexFunc_float32_float32.cok : OKq Try.prog 69 slices_IndexFunc_float32_float32.c := con_q' slices_IndexFunc_float32_float32.cd slices_IndexFunc_float32_float32.hC Try.func69 (by kernel_rfl) (by kernel_rfl) (by kernel_rfl) slices_IndexFunc_float32_float32.lp (fun a => by kernel_rfl) slices_IndexFunc_float32_float32.run (Tells.ok (tree := slices_IndexFunc_float32_float32.tr))
/-! ### slices_ContainsFunc_float32_float32 -/
noncomputable def slices_ContainsFunc_float32_float32.b : Code := bodyOf Try.f55
noncomputable def slices_ContainsFunc_float32_float32.C : Ctx := { ty := tys, fn := [(69, .q slices_IndexFunc_float32_float32.c)], lp := [], n := 9, k := 1 }
theorem slices_ContainsFunc_float32_float32.hC : CtxOK Try.prog slices_ContainsFunc_float32_float32.C := CtxOK.of mo tys_ok (FnsOK.cons slices_IndexFunc_float32_float32.cok FnsOK.nil)
theorem slices_ContainsFunc_float32_float32.lp : LpOK Try.prog slices_ContainsFunc_float32_float32.C slices_ContainsFunc_float32_float32.b := (LpOK.nil (by kernel_rfl))
noncomputable def slices_ContainsFunc_float32_float32.t (x0 : Nat) (x1 : List Nat) : T Bool :=
  .br (slices_IndexFunc_float32_float32.ok x0 x1)
  (.leaf (decide ((slices_IndexFunc_float32_float32 x0 x1) ≥ (0 : Int))))
  .bad
noncomputable def slices_ContainsFunc_float32_float32 (x0 : Nat) (x1 : List Nat) : Bool := (slices_ContainsFunc_float32_float32.t x0 x1).val
noncomputable def slices_ContainsFunc_float32_float32.ok (x0 : Nat) (x1 : List Nat) : Bool := (slices_ContainsFunc_float32_float32.t x0 x1).ok
def slices_ContainsFunc_float32_float32.cd : Cd (Nat × List Nat) (List V × Hp) := Cd.iso (Cd.pair (Cd.cons (Cd.own 0) (Cd.cons (Cd.fu 56 Cd.nil) Cd.nil)) (Cd.cons (Cd.rw 25 1 (Cd.fs .f32)) Cd.nil)) (fun a => (a.1.1, a.2.1)) (fun a => ((a.1, ((), ())), (a.2, ()))) (fun _ => rfl)
noncomputable def slices_ContainsFunc_float32_float32.tr (a : Nat × List Nat) : T Bool := slices_ContainsFunc_float32_float32.t a.1 a.2
def slices_ContainsFunc_float32_float32.enc : (Nat × List Nat) → Bool → V := fun a r => .bo r
noncomputable def slices_ContainsFunc_float32_float32.c : List V → Hp → T V := cdQ slices_ContainsFunc_float32_float32.cd (fun a => .br (slices_ContainsFunc_float32_float32.ok a.1 a.2) (.leaf (slices_ContainsFunc_float32_float32.enc a (slices_ContainsFunc_float32_float32 a.1 a.2))) .bad)
theorem slices_ContainsFunc_float32_float32.run (a : Nat × List Nat) : runF slices_ContainsFunc_float32_float32.C Try.f55.results.toList slices_ContainsFunc_float32_float32.b (slices_ContainsFunc_float32_float32.cd.enc a).1 (slices_ContainsFunc_float32_float32.cd.enc a).2 = (slices_ContainsFunc_float32_float32.tr a).map fun r => (slices_ContainsFunc_float32_float32.enc a r, (slices_ContainsFunc_float32_float32.cd.enc a).2) := by kernel_rfl
theorem slices_ContainsFunc_float32_float32.cok : OKq Try.prog 55 slices_ContainsFunc_float32_float32.c := con_q' slices_ContainsFunc_float32_float32.cd slices_ContainsFunc_float32_float32.hC Try.func55 (by kernel_rfl) (by kernel_rfl) (by kernel_rfl) slices_ContainsFunc_float32_float32.lp (fun a => by kernel_rfl) slices_ContainsFunc_float32_float32.run (Tells.ok (tree := slices_ContainsFunc_float32_float32.tr))
/-! ### impl_governorCode -/
noncomputable def impl_governorCode.b : Code := bodyOf Try.f33
noncomputable def impl_governorCode.C : Ctx := { ty := tys, fn := [(11, .q impl_ValidGovernor.c), (12, .q impl_ValidState.c), (55, .q slices_ContainsFunc_float32_float32.c)], lp := [], n := 19, k := 1 }
theorem impl_governorCode.hC : CtxOK Try.prog impl_governorCode.C := CtxOK.of mo tys_ok (FnsOK.cons impl_ValidGovernor.cok (FnsOK.cons impl_ValidState.cok (FnsOK.cons slices_ContainsFunc_float32_float32.cok FnsOK.nil)))
theorem impl_governorCode.lp : LpOK Try.prog impl_governorCode.C impl_governorCode.b := (LpOK.nil (by kernel_rfl))
noncomputable def impl_governorCode.t (x0 : Int) (x1 : Nat) (x2 : Nat) (x3 : Nat) (x4 : Nat) (x5 : Nat) (x6 : Nat) (x7 : Nat) (x8 : Nat) (x9 : Int) (x10 : Nat) (x11 : List Nat) : T Int :=
  .br (!(impl_ValidGovernor x0 x1 x2 x3 x4 x5 x6 x7))
  (.leaf (1 : Int))
  (.br (!(impl_ValidState x8 x9))
   (.leaf (1 : Int))
   (.br (slices_ContainsFunc_float32_float32.ok x10 x11)
    (.br (slices_ContainsFunc_float32_float32 x10 x11)
     (.leaf (2 : Int))
     (.leaf (0 : Int)))
    .bad))
noncomputable def impl_governorCode (x0 : Int) (x1 : Nat) (x2 : Nat) (x3 : Nat) (x4 : Nat) (x5 : Nat) (x6 : Nat) (x7 : Nat) (x8 : Nat) (x9 : Int) (x10 : Nat) (x11 : List Nat) : Int := (impl_governorCode.t x0 x1 x2 x3 x4 x5 x6 x7 x8 x9 x10 x11).val
noncomputable def impl_governorCode.ok (x0 : Int) (x1 : Nat) (x2 : Nat) (x3 : Nat) (x4 : Nat) (x5 : Nat) (x6 : Nat) (x7 : Nat) (x8 : Nat) (x9 : Int) (x10 : Nat) (x11 : List Nat) : Bool := (impl_governorCode.t x0 x1 x2 x3 x4 x5 x6 x7 x8 x9 x10 x11).ok
def impl_governorCode.cd : Cd (Int × Nat × Nat × Nat × Nat × Nat × Nat × Nat × Nat × Int × Nat × List Nat) (List V × Hp) := Cd.iso (Cd.pair (Cd.cons (Cd.agg (Cd.cons (Cd.it .i16) (Cd.cons (Cd.fl .f32) (Cd.cons (Cd.fl .f32) (Cd.cons (Cd.fl .f32) (Cd.cons (Cd.fl .f32) (Cd.cons (Cd.fl .f32) (Cd.cons (Cd.fl .f32) (Cd.cons (Cd.fl .f32) Cd.nil))))))))) (Cd.cons (Cd.agg (Cd.cons (Cd.fl .f32) (Cd.cons (Cd.it .i8) Cd.nil))) (Cd.cons (Cd.own 0) Cd.nil))) (Cd.cons (Cd.rw 25 1 (Cd.fs .f32)) Cd.nil)) (fun a => (a.1.1.1, a.1.1.2.1, a.1.1.2.2.1, a.1.1.2.2.2.1, a.1.1.2.2.2.2.1, a.1.1.2.2.2.2.2.1, a.1.1.2.2.2.2.2.2.1, a.1.1.2.2.2.2.2.2.2.1, a.1.2.1.1, a.1.2.1.2.1, a.1.2.2.1, a.2.1)) (fun a => (((a.1, (a.2.1, (a.2.2.1, (a.2.2.2.1, (a.2.2.2.2.1, (a.2.2.2.2.2.1, (a.2.2.2.2.2.2.1, (a.2.2.2.2.2.2.2.1, ())))))))), ((a.2.2.2.2.2.2.2.2.1, (a.2.2.2.2.2.2.2.2.2.1, ())), (a.2.2.2.2.2.2.2.2.2.2.1, ()))), (a.2.2.2.2.2.2.2.2.2.2.2, ()))) (fun _ => rfl)
noncomputable def impl_governorCode.tr (a : Int × Nat × Nat × Nat × Nat × Nat × Nat × Nat × Nat × Int × Nat × List Nat) : T Int := impl_governorCode.t a.1 a.2.1 a.2.2.1 a.2.2.2.1 a.2.2.2.2.1 a.2.2.2.2.2.1 a.2.2.2.2.2.2.1 a.2.2.2.2.2.2.2.1 a.2.2.2.2.2.2.2.2.1 a.2.2.2.2.2.2.2.2.2.1 a.2.2.2.2.2.2.2.2.2.2.1 a.2.2.2.2.2.2.2.2.2.2.2
def impl_governorCode.enc : (Int × Nat × Nat × Nat × Nat × Nat × Nat × Nat × Nat × Int × Nat × List Nat) → Int → V := fun a r => .it .i64 r
noncomputable def impl_governorCode.c : List V → Hp → T V := cdQ impl_governorCode.cd (fun a => .br (impl_governorCode.ok a.1 a.2.1 a.2.2.1 a.2.2.2.1 a.2.2.2.2.1 a.2.2.2.2.2.1 a.2.2.2.2.2.2.1 a.2.2.2.2.2.2.2.1 a.2.2.2.2.2.2.2.2.1 a.2.2.2.2.2.2.2.2.2.1 a.2.2.2.2.2.2.2.2.2.2.1 a.2.2.2.2.2.2.2.2.2.2.2) (.leaf (impl_governorCode.enc a (impl_governorCode a.1 a.2.1 a.2.2.1 a.2.2.2.1 a.2.2.2.2.1 a.2.2.2.2.2.1 a.2.2.2.2.2.2.1 a.2.2.2.2.2.2.2.1 a.2.2.2.2.2.2.2.2.1 a.2.2.2.2.2.2.2.2.2.1 a.2.2.2.2.2.2.2.2.2.2.1 a.2.2.2.2.2.2.2.2.2.2.2))) .bad)
theorem impl_governorCode.run (a : Int × Nat × Nat × Nat × Nat × Nat × Nat × Nat × Nat × Int × Nat × List Nat) : runF impl_governorCode.C Try.f33.results.toList impl_governorCode.b (impl_governorCode.cd.enc a).1 (impl_governorCode.cd.enc a).2 = (impl_governorCode.tr a).map fun r => (impl_governorCode.enc a r, (impl_governorCode.cd.enc a).2) := by kernel_rfl
theorem impl_governorCode.cok : OKq Try.prog 33 impl_governorCode.c := con_q' impl_governorCode.cd impl_governorCode.hC Try.func33 (by kernel_rfl) (by kernel_rfl) (by kernel_rfl) impl_governorCode.lp (fun a => by kernel_rfl) impl_governorCode.run (Tells.ok (tree := impl_governorCode.tr))
/-! ### impl_Governor_gateBehind -/
noncomputable def impl_Governor_gateBehind.b : Code := bodyOf Try.f42
noncomputable def impl_Governor_gateBehind.C : Ctx := { ty := tys, fn := [], lp := [], n := 32, k := 1 }
theorem impl_Governor_gateBehind.hC : CtxOK Try.prog impl_Governor_gateBehind.C := CtxOK.of mo tys_ok FnsOK.nil
theorem impl_Governor_gateBehind.lp : LpOK Try.prog impl_Governor_gateBehind.C impl_Governor_gateBehind.b := (LpOK.nil (by kernel_rfl))
noncomputable def impl_Governor_gateBehind.t (x0 : Nat) (x1 : Int) (x2 : Int) (x3 : Nat) (x4 : Nat) (x5 : Nat) (x6 : Nat) (x7 : Nat) (x8 : Nat) (x9 : Nat) : T Int :=
  .br (fgt .f32 x0 x8)
  (.leaf (if (0 : Int) > (IntKind.wrap .i64 ((IntKind.wrap .i64 x1) - (1 : Int))) then (0 : Int) else (IntKind.wrap .i64 ((IntKind.wrap .i64 x1) - (1 : Int)))))
  (.br (flt .f32 x0 x7)
   (.leaf (if (16 : Int) < (IntKind.wrap .i64 ((IntKind.wrap .i64 x1) + (1 : Int))) then (16 : Int) else (IntKind.wrap .i64 ((IntKind.wrap .i64 x1) + (1 : Int)))))
   (.leaf (IntKind.wrap .i64 x1)))
noncomputable def impl_Governor_gateBehind (x0 : Nat) (x1 : Int) (x2 : Int) (x3 : Nat) (x4 : Nat) (x5 : Nat) (x6 : Nat) (x7 : Nat) (x8 : Nat) (x9 : Nat) : Int := (impl_Governor_gateBehind.t x0 x1 x2 x3 x4 x5 x6 x7 x8 x9).val
def impl_Governor_gateBehind.cd : Cd (Nat × Int × Int × Nat × Nat × Nat × Nat × Nat × Nat × Nat) (List V × Hp) := Cd.iso (Cd.pair (Cd.cons (Cd.pt 0 (Cd.natc 0)) (Cd.cons (Cd.agg (Cd.cons (Cd.fl .f32) (Cd.cons (Cd.it .i8) Cd.nil))) Cd.nil)) (Cd.cons (Cd.rw 29 8 (Cd.vs (Cd.cons (Cd.it .i16) (Cd.cons (Cd.fl .f32) (Cd.cons (Cd.fl .f32) (Cd.cons (Cd.fl .f32) (Cd.cons (Cd.fl .f32) (Cd.cons (Cd.fl .f32) (Cd.cons (Cd.fl .f32) (Cd.cons (Cd.fl .f32) Cd.nil)))))))))) Cd.nil)) (fun a => (a.1.2.1.1, a.1.2.1.2.1, a.2.1.1, a.2.1.2.1, a.2.1.2.2.1, a.2.1.2.2.2.1, a.2.1.2.2.2.2.1, a.2.1.2.2.2.2.2.1, a.2.1.2.2.2.2.2.2.1, a.2.1.2.2.2.2.2.2.2.1)) (fun a => (((), ((a.1, (a.2.1, ())), ())), ((a.2.2.1, (a.2.2.2.1, (a.2.2.2.2.1, (a.2.2.2.2.2.1, (a.2.2.2.2.2.2.1, (a.2.2.2.2.2.2.2.1, (a.2.2.2.2.2.2.2.2.1, (a.2.2.2.2.2.2.2.2.2, ())))))))), ()))) (fun _ => rfl)
noncomputable def impl_Governor_gateBehind.tr (a : Nat × Int × Int × Nat × Nat × Nat × Nat × Nat × Nat × Nat) : T Int := impl_Governor_gateBehind.t a.1 a.2.1 a.2.2.1 a.2.2.2.1 a.2.2.2.2.1 a.2.2.2.2.2.1 a.2.2.2.2.2.2.1 a.2.2.2.2.2.2.2.1 a.2.2.2.2.2.2.2.2.1 a.2.2.2.2.2.2.2.2.2
def impl_Governor_gateBehind.enc : (Nat × Int × Int × Nat × Nat × Nat × Nat × Nat × Nat × Nat) → Int → V := fun a r => .it .i64 r
noncomputable def impl_Governor_gateBehind.c : List V → Hp → T V := cdQ impl_Governor_gateBehind.cd (fun a => .leaf (impl_Governor_gateBehind.enc a (impl_Governor_gateBehind a.1 a.2.1 a.2.2.1 a.2.2.2.1 a.2.2.2.2.1 a.2.2.2.2.2.1 a.2.2.2.2.2.2.1 a.2.2.2.2.2.2.2.1 a.2.2.2.2.2.2.2.2.1 a.2.2.2.2.2.2.2.2.2)))
theorem impl_Governor_gateBehind.run (a : Nat × Int × Int × Nat × Nat × Nat × Nat × Nat × Nat × Nat) : runF impl_Governor_gateBehind.C Try.f42.results.toList impl_Governor_gateBehind.b (impl_Governor_gateBehind.cd.enc a).1 (impl_Governor_gateBehind.cd.enc a).2 = (impl_Governor_gateBehind.tr a).map fun r => (impl_Governor_gateBehind.enc a r, (impl_Governor_gateBehind.cd.enc a).2) := by kernel_rfl
theorem impl_Governor_gateBehind.cok : OKq Try.prog 42 impl_Governor_gateBehind.c := con_q' impl_Governor_gateBehind.cd impl_Governor_gateBehind.hC Try.func42 (by kernel_rfl) (by kernel_rfl) (by kernel_rfl) impl_Governor_gateBehind.lp (fun a => by kernel_rfl) impl_Governor_gateBehind.run (Tells.val (tree := impl_Governor_gateBehind.tr) fun a => by kernel_rfl)
/-! ### math_Sqrt -/
noncomputable def math_Sqrt.b : Code := bodyOf Try.f79
noncomputable def math_Sqrt.C : Ctx := { ty := tys, fn := [(81, .q sqrtC)], lp := [], n := 5, k := 0 }
theorem math_Sqrt.hC : CtxOK Try.prog math_Sqrt.C := CtxOK.of mo tys_ok (FnsOK.cons (sqrt_ok Try.func81 (by kernel_rfl) (by kernel_rfl) (by kernel_rfl) (by kernel_rfl)) FnsOK.nil)
theorem math_Sqrt.lp : LpOK Try.prog math_Sqrt.C math_Sqrt.b := (LpOK.nil (by kernel_rfl))
noncomputable def math_Sqrt.t (x0 : Nat) : T Nat :=
  .leaf (fsqrt x0)
noncomputable def math_Sqrt (x0 : Nat) : Nat := (math_Sqrt.t x0).val
def math_Sqrt.cd : Cd Nat (List V × Hp) := Cd.iso (Cd.pair (Cd.cons (Cd.fl .f64) Cd.nil) Cd.nil) (fun a => a.1.1) (fun a => ((a, ()), ())) (fun _ => rfl)
noncomputable def math_Sqrt.tr (a : Nat) : T Nat := math_Sqrt.t a
def math_Sqrt.enc : Nat → Nat → V := fun a r => .fl .f64 r
noncomputable def math_Sqrt.c : List V → Hp → T V := cdQ math_Sqrt.cd (fun a => .leaf (math_Sqrt.enc a (math_Sqrt a)))
theorem math_Sqrt.run (a : Nat) : runF math_Sqrt.C Try.f79.results.toList math_Sqrt.b (math_Sqrt.cd.enc a).1 (math_Sqrt.cd.enc a).2 = (math_Sqrt.tr a).map fun r => (math_Sqrt.enc a r, (math_Sqrt.cd.enc a).2) := by kernel_rfl
theorem math_Sqrt.cok : OKq Try.prog 79 math_Sqrt.c := con_q' math_Sqrt.cd math_Sqrt.hC Try.func79 (by kernel_rfl) (by kernel_rfl) (by kernel_rfl) math_Sqrt.lp (fun a => by kernel_rfl) math_Sqrt.run (Tells.val (tree := math_Sqrt.tr) fun a => by kernel_rfl)
/-! ### impl_waterSpeed -/
noncomputable def impl_waterSpeed.b : Code := bodyOf Try.f76
noncomputable def impl_waterSpeed.C : Ctx := { ty := tys, fn := [(79, .q math_Sqrt.c)], lp := [], n := 8, k := 0 }
theorem impl_waterSpeed.hC : CtxOK Try.prog impl_waterSpeed.C := CtxOK.of mo tys_ok (FnsOK.cons math_Sqrt.cok FnsOK.nil)
theorem impl_waterSpeed.lp : LpOK Try.prog impl_waterSpeed.C impl_waterSpeed.b := (LpOK.nil (by kernel_rfl))
noncomputable def impl_waterSpeed.t (x0 : Nat) : T Nat :=
  .br (fcvOpen .f32 .f64 (fmul .f32 1100808192 x0))
  .bad
  (.br (fcvOpen .f64 .f32 (math_Sqrt (fcv .f32 .f64 (fmul .f32 1100808192 x0))))
   .bad
   (.leaf (fcv .f64 .f32 (math_Sqrt (fcv .f32 .f64 (fmul .f32 1100808192 x0))))))
noncomputable def impl_waterSpeed (x0 : Nat) : Nat := (impl_waterSpeed.t x0).val
noncomputable def impl_waterSpeed.ok (x0 : Nat) : Bool := (impl_waterSpeed.t x0).ok
def impl_waterSpeed.cd : Cd Nat (List V × Hp) := Cd.iso (Cd.pair (Cd.cons (Cd.fl .f32) Cd.nil) Cd.nil) (fun a => a.1.1) (fun a => ((a, ()), ())) (fun _ => rfl)
noncomputable def impl_waterSpeed.tr (a : Nat) : T Nat := impl_waterSpeed.t a
def impl_waterSpeed.enc : Nat → Nat → V := fun a r => .fl .f32 r
noncomputable def impl_waterSpeed.c : List V → Hp → T V := cdQ impl_waterSpeed.cd (fun a => .br (impl_waterSpeed.ok a) (.leaf (impl_waterSpeed.enc a (impl_waterSpeed a))) .bad)
theorem impl_waterSpeed.run (a : Nat) : runF impl_waterSpeed.C Try.f76.results.toList impl_waterSpeed.b (impl_waterSpeed.cd.enc a).1 (impl_waterSpeed.cd.enc a).2 = (impl_waterSpeed.tr a).map fun r => (impl_waterSpeed.enc a r, (impl_waterSpeed.cd.enc a).2) := by kernel_rfl
theorem impl_waterSpeed.cok : OKq Try.prog 76 impl_waterSpeed.c := con_q' impl_waterSpeed.cd impl_waterSpeed.hC Try.func76 (by kernel_rfl) (by kernel_rfl) (by kernel_rfl) impl_waterSpeed.lp (fun a => by kernel_rfl) impl_waterSpeed.run (Tells.ok (tree := impl_waterSpeed.tr))
/-! ### impl_flowThrough -/
noncomputable def impl_flowThrough.b : Code := bodyOf Try.f65
noncomputable def impl_flowThrough.C : Ctx := { ty := tys, fn := [(76, .q impl_waterSpeed.c)], lp := [], n := 15, k := 0 }
theorem impl_flowThrough.hC : CtxOK Try.prog impl_flowThrough.C := CtxOK.of mo tys_ok (FnsOK.cons impl_waterSpeed.cok FnsOK.nil)
theorem impl_flowThrough.lp : LpOK Try.prog impl_flowThrough.C impl_flowThrough.b := (LpOK.nil (by kernel_rfl))
noncomputable def impl_flowThrough.t (x0 : Nat) (x1 : Nat) (x2 : Int) : T Nat :=
  .br (impl_waterSpeed.ok x1)
  (.leaf (fmul .f32 (fdiv .f32 (fmul .f32 x0 (fofint .f32 x2)) 1098907648) (impl_waterSpeed x1)))
  .bad
noncomputable def impl_flowThrough (x0 : Nat) (x1 : Nat) (x2 : Int) : Nat := (impl_flowThrough.t x0 x1 x2).val
noncomputable def impl_flowThrough.ok (x0 : Nat) (x1 : Nat) (x2 : Int) : Bool := (impl_flowThrough.t x0 x1 x2).ok
def impl_flowThrough.cd : Cd (Nat × Nat × Int) (List V × Hp) := Cd.iso (Cd.pair (Cd.cons (Cd.fl .f32) (Cd.cons (Cd.fl .f32) (Cd.cons (Cd.it .i64) Cd.nil))) Cd.nil) (fun a => (a.1.1, a.1.2.1, a.1.2.2.1)) (fun a => ((a.1, (a.2.1, (a.2.2, ()))), ())) (fun _ => rfl)
noncomputable def impl_flowThrough.tr (a : Nat × Nat × Int) : T Nat := impl_flowThrough.t a.1 a.2.1 a.2.2
def impl_flowThrough.enc : (Nat × Nat × Int) → Nat → V := fun a r => .fl .f32 r
noncomputable def impl_flowThrough.c : List V → Hp → T V := cdQ impl_flowThrough.cd (fun a => .br (impl_flowThrough.ok a.1 a.2.1 a.2.2) (.leaf (impl_flowThrough.enc a (impl_flowThrough a.1 a.2.1 a.2.2))) .bad)
theorem impl_flowThrough.run (a : Nat × Nat × Int) : runF impl_flowThrough.C Try.f65.results.toList impl_flowThrough.b (impl_flowThrough.cd.enc a).1 (impl_flowThrough.cd.enc a).2 = (impl_flowThrough.tr a).map fun r => (impl_flowThrough.enc a r, (impl_flowThrough.cd.enc a).2) := by kernel_rfl
theorem impl_flowThrough.cok : OKq Try.prog 65 impl_flowThrough.c := con_q' impl_flowThrough.cd impl_flowThrough.hC Try.func65 (by kernel_rfl) (by kernel_rfl) (by kernel_rfl) impl_flowThrough.lp (fun a => by kernel_rfl) impl_flowThrough.run (Tells.ok (tree := impl_flowThrough.tr))
/-! ### impl_Mill_fill -/
noncomputable def impl_Mill_fill.b : Code := bodyOf Try.f75
noncomputable def impl_Mill_fill.C : Ctx := { ty := tys, fn := [], lp := [], n := 31, k := 1 }
theorem impl_Mill_fill.hC : CtxOK Try.prog impl_Mill_fill.C := CtxOK.of mo tys_ok FnsOK.nil
theorem impl_Mill_fill.lp : LpOK Try.prog impl_Mill_fill.C impl_Mill_fill.b := (LpOK.nil (by kernel_rfl))
noncomputable def impl_Mill_fill.t (x0 : Nat) (x1 : Nat) (x2 : Int) (x3 : Nat) (x4 : Nat) (x5 : Nat) (x6 : Nat) (x7 : Nat) (x8 : Nat) (x9 : Nat) : T Nat :=
  .br (feq .f32 x0 0)
  (.leaf 0)
  (.br (feq .f32 x1 0)
   (.leaf x3)
   (.leaf (fmin .f32 (fdiv .f32 x0 (fmul .f32 x1 (fofint .f32 x2))) x3)))
noncomputable def impl_Mill_fill (x0 : Nat) (x1 : Nat) (x2 : Int) (x3 : Nat) (x4 : Nat) (x5 : Nat) (x6 : Nat) (x7 : Nat) (x8 : Nat) (x9 : Nat) : Nat := (impl_Mill_fill.t x0 x1 x2 x3 x4 x5 x6 x7 x8 x9).val
def impl_Mill_fill.cd : Cd (Nat × Nat × Int × Nat × Nat × Nat × Nat × Nat × Nat × Nat) (List V × Hp) := Cd.iso (Cd.pair (Cd.cons (Cd.pt 0 (Cd.natc 0)) (Cd.cons (Cd.fl .f32) (Cd.cons (Cd.fl .f32) Cd.nil))) (Cd.cons (Cd.rw 29 8 (Cd.vs (Cd.cons (Cd.it .i16) (Cd.cons (Cd.fl .f32) (Cd.cons (Cd.fl .f32) (Cd.cons (Cd.fl .f32) (Cd.cons (Cd.fl .f32) (Cd.cons (Cd.fl .f32) (Cd.cons (Cd.fl .f32) (Cd.cons (Cd.fl .f32) Cd.nil)))))))))) Cd.nil)) (fun a => (a.1.2.1, a.1.2.2.1, a.2.1.1, a.2.1.2.1, a.2.1.2.2.1, a.2.1.2.2.2.1, a.2.1.2.2.2.2.1, a.2.1.2.2.2.2.2.1, a.2.1.2.2.2.2.2.2.1, a.2.1.2.2.2.2.2.2.2.1)) (fun a => (((), (a.1, (a.2.1, ()))), ((a.2.2.1, (a.2.2.2.1, (a.2.2.2.2.1, (a.2.2.2.2.2.1, (a.2.2.2.2.2.2.1, (a.2.2.2.2.2.2.2.1, (a.2.2.2.2.2.2.2.2.1, (a.2.2.2.2.2.2.2.2.2, ())))))))), ()))) (fun _ => rfl)
noncomputable def impl_Mill_fill.tr (a : Nat × Nat × Int × Nat × Nat × Nat × Nat × Nat × Nat × Nat) : T Nat := impl_Mill_fill.t a.1 a.2.1 a.2.2.1 a.2.2.2.1 a.2.2.2.2.1 a.2.2.2.2.2.1 a.2.2.2.2.2.2.1 a.2.2.2.2.2.2.2.1 a.2.2.2.2.2.2.2.2.1 a.2.2.2.2.2.2.2.2.2
def impl_Mill_fill.enc : (Nat × Nat × Int × Nat × Nat × Nat × Nat × Nat × Nat × Nat) → Nat → V := fun a r => .fl .f32 r
noncomputable def impl_Mill_fill.c : List V → Hp → T V := cdQ impl_Mill_fill.cd (fun a => .leaf (impl_Mill_fill.enc a (impl_Mill_fill a.1 a.2.1 a.2.2.1 a.2.2.2.1 a.2.2.2.2.1 a.2.2.2.2.2.1 a.2.2.2.2.2.2.1 a.2.2.2.2.2.2.2.1 a.2.2.2.2.2.2.2.2.1 a.2.2.2.2.2.2.2.2.2)))
theorem impl_Mill_fill.run (a : Nat × Nat × Int × Nat × Nat × Nat × Nat × Nat × Nat × Nat) : runF impl_Mill_fill.C Try.f75.results.toList impl_Mill_fill.b (impl_Mill_fill.cd.enc a).1 (impl_Mill_fill.cd.enc a).2 = (impl_Mill_fill.tr a).map fun r => (impl_Mill_fill.enc a r, (impl_Mill_fill.cd.enc a).2) := by kernel_rfl
theorem impl_Mill_fill.cok : OKq Try.prog 75 impl_Mill_fill.c := con_q' impl_Mill_fill.cd impl_Mill_fill.hC Try.func75 (by kernel_rfl) (by kernel_rfl) (by kernel_rfl) impl_Mill_fill.lp (fun a => by kernel_rfl) impl_Mill_fill.run (Tells.val (tree := impl_Mill_fill.tr) fun a => by kernel_rfl)
/-! ### impl_Mill_torque -/
noncomputable def impl_Mill_torque.b : Code := bodyOf Try.f64
noncomputable def impl_Mill_torque.C : Ctx := { ty := tys, fn := [(75, .q impl_Mill_fill.c)], lp := [], n := 27, k := 1 }
theorem impl_Mill_torque.hC : CtxOK Try.prog impl_Mill_torque.C := CtxOK.of mo tys_ok (FnsOK.cons impl_Mill_fill.cok FnsOK.nil)
theorem impl_Mill_torque.lp : LpOK Try.prog impl_Mill_torque.C impl_Mill_torque.b := (LpOK.nil (by kernel_rfl))
noncomputable def impl_Mill_torque.t (x0 : Nat) (x1 : Nat) (x2 : Int) (x3 : Nat) (x4 : Nat) (x5 : Nat) (x6 : Nat) (x7 : Nat) (x8 : Nat) (x9 : Nat) : T Nat :=
  .leaf (fmul .f32 (fmul .f32 (fmul .f32 (fmul .f32 (impl_Mill_fill x0 x1 x2 x3 x4 x5 x6 x7 x8 x9) 1092419584) (fofint .f32 (IntKind.wrap .i16 (Int.tdiv x2 (2 : Int))))) x4) 1059061760)
noncomputable def impl_Mill_torque (x0 : Nat) (x1 : Nat) (x2 : Int) (x3 : Nat) (x4 : Nat) (x5 : Nat) (x6 : Nat) (x7 : Nat) (x8 : Nat) (x9 : Nat) : Nat := (impl_Mill_torque.t x0 x1 x2 x3 x4 x5 x6 x7 x8 x9).val
def impl_Mill_torque.cd : Cd (Nat × Nat × Int × Nat × Nat × Nat × Nat × Nat × Nat × Nat) (List V × Hp) := Cd.iso (Cd.pair (Cd.cons (Cd.pt 0 (Cd.natc 0)) (Cd.cons (Cd.fl .f32) (Cd.cons (Cd.fl .f32) Cd.nil))) (Cd.cons (Cd.rw 29 8 (Cd.vs (Cd.cons (Cd.it .i16) (Cd.cons (Cd.fl .f32) (Cd.cons (Cd.fl .f32) (Cd.cons (Cd.fl .f32) (Cd.cons (Cd.fl .f32) (Cd.cons (Cd.fl .f32) (Cd.cons (Cd.fl .f32) (Cd.cons (Cd.fl .f32) Cd.nil)))))))))) Cd.nil)) (fun a => (a.1.2.1, a.1.2.2.1, a.2.1.1, a.2.1.2.1, a.2.1.2.2.1, a.2.1.2.2.2.1, a.2.1.2.2.2.2.1, a.2.1.2.2.2.2.2.1, a.2.1.2.2.2.2.2.2.1, a.2.1.2.2.2.2.2.2.2.1)) (fun a => (((), (a.1, (a.2.1, ()))), ((a.2.2.1, (a.2.2.2.1, (a.2.2.2.2.1, (a.2.2.2.2.2.1, (a.2.2.2.2.2.2.1, (a.2.2.2.2.2.2.2.1, (a.2.2.2.2.2.2.2.2.1, (a.2.2.2.2.2.2.2.2.2, ())))))))), ()))) (fun _ => rfl)
noncomputable def impl_Mill_torque.tr (a : Nat × Nat × Int × Nat × Nat × Nat × Nat × Nat × Nat × Nat) : T Nat := impl_Mill_torque.t a.1 a.2.1 a.2.2.1 a.2.2.2.1 a.2.2.2.2.1 a.2.2.2.2.2.1 a.2.2.2.2.2.2.1 a.2.2.2.2.2.2.2.1 a.2.2.2.2.2.2.2.2.1 a.2.2.2.2.2.2.2.2.2
def impl_Mill_torque.enc : (Nat × Nat × Int × Nat × Nat × Nat × Nat × Nat × Nat × Nat) → Nat → V := fun a r => .fl .f32 r
noncomputable def impl_Mill_torque.c : List V → Hp → T V := cdQ impl_Mill_torque.cd (fun a => .leaf (impl_Mill_torque.enc a (impl_Mill_torque a.1 a.2.1 a.2.2.1 a.2.2.2.1 a.2.2.2.2.1 a.2.2.2.2.2.1 a.2.2.2.2.2.2.1 a.2.2.2.2.2.2.2.1 a.2.2.2.2.2.2.2.2.1 a.2.2.2.2.2.2.2.2.2)))
theorem impl_Mill_torque.run (a : Nat × Nat × Int × Nat × Nat × Nat × Nat × Nat × Nat × Nat) : runF impl_Mill_torque.C Try.f64.results.toList impl_Mill_torque.b (impl_Mill_torque.cd.enc a).1 (impl_Mill_torque.cd.enc a).2 = (impl_Mill_torque.tr a).map fun r => (impl_Mill_torque.enc a r, (impl_Mill_torque.cd.enc a).2) := by kernel_rfl
theorem impl_Mill_torque.cok : OKq Try.prog 64 impl_Mill_torque.c := con_q' impl_Mill_torque.cd impl_Mill_torque.hC Try.func64 (by kernel_rfl) (by kernel_rfl) (by kernel_rfl) impl_Mill_torque.lp (fun a => by kernel_rfl) impl_Mill_torque.run (Tells.val (tree := impl_Mill_torque.tr) fun a => by kernel_rfl)
/-! ### impl_Governor_torqueAt -/
noncomputable def impl_Governor_torqueAt.b : Code := bodyOf Try.f48
noncomputable def impl_Governor_torqueAt.C : Ctx := { ty := tys, fn := [(65, .q impl_flowThrough.c), (64, .q impl_Mill_torque.c)], lp := [], n := 22, k := 1 }
theorem impl_Governor_torqueAt.hC : CtxOK Try.prog impl_Governor_torqueAt.C := CtxOK.of mo tys_ok (FnsOK.cons impl_flowThrough.cok (FnsOK.cons impl_Mill_torque.cok FnsOK.nil))
theorem impl_Governor_torqueAt.lp : LpOK Try.prog impl_Governor_torqueAt.C impl_Governor_torqueAt.b := (LpOK.nil (by kernel_rfl))
noncomputable def impl_Governor_torqueAt.t (x0 : Nat) (x1 : Int) (x2 : Int) (x3 : Nat) (x4 : Nat) (x5 : Nat) (x6 : Nat) (x7 : Nat) (x8 : Nat) (x9 : Nat) : T Nat :=
  .br (impl_flowThrough.ok x5 x6 x1)
  (.leaf (impl_Mill_torque (impl_flowThrough x5 x6 x1) x0 x2 x3 x4 x5 x6 x7 x8 x9))
  .bad
noncomputable def impl_Governor_torqueAt (x0 : Nat) (x1 : Int) (x2 : Int) (x3 : Nat) (x4 : Nat) (x5 : Nat) (x6 : Nat) (x7 : Nat) (x8 : Nat) (x9 : Nat) : Nat := (impl_Governor_torqueAt.t x0 x1 x2 x3 x4 x5 x6 x7 x8 x9).val
noncomputable def impl_Governor_torqueAt.ok (x0 : Nat) (x1 : Int) (x2 : Int) (x3 : Nat) (x4 : Nat) (x5 : Nat) (x6 : Nat) (x7 : Nat) (x8 : Nat) (x9 : Nat) : Bool := (impl_Governor_torqueAt.t x0 x1 x2 x3 x4 x5 x6 x7 x8 x9).ok
def impl_Governor_torqueAt.cd : Cd (Nat × Int × Int × Nat × Nat × Nat × Nat × Nat × Nat × Nat) (List V × Hp) := Cd.iso (Cd.pair (Cd.cons (Cd.pt 0 (Cd.natc 0)) (Cd.cons (Cd.fl .f32) (Cd.cons (Cd.it .i64) Cd.nil))) (Cd.cons (Cd.rw 29 8 (Cd.vs (Cd.cons (Cd.it .i16) (Cd.cons (Cd.fl .f32) (Cd.cons (Cd.fl .f32) (Cd.cons (Cd.fl .f32) (Cd.cons (Cd.fl .f32) (Cd.cons (Cd.fl .f32) (Cd.cons (Cd.fl .f32) (Cd.cons (Cd.fl .f32) Cd.nil)))))))))) Cd.nil)) (fun a => (a.1.2.1, a.1.2.2.1, a.2.1.1, a.2.1.2.1, a.2.1.2.2.1, a.2.1.2.2.2.1, a.2.1.2.2.2.2.1, a.2.1.2.2.2.2.2.1, a.2.1.2.2.2.2.2.2.1, a.2.1.2.2.2.2.2.2.2.1)) (fun a => (((), (a.1, (a.2.1, ()))), ((a.2.2.1, (a.2.2.2.1, (a.2.2.2.2.1, (a.2.2.2.2.2.1, (a.2.2.2.2.2.2.1, (a.2.2.2.2.2.2.2.1, (a.2.2.2.2.2.2.2.2.1, (a.2.2.2.2.2.2.2.2.2, ())))))))), ()))) (fun _ => rfl)
noncomputable def impl_Governor_torqueAt.tr (a : Nat × Int × Int × Nat × Nat × Nat × Nat × Nat × Nat × Nat) : T Nat := impl_Governor_torqueAt.t a.1 a.2.1 a.2.2.1 a.2.2.2.1 a.2.2.2.2.1 a.2.2.2.2.2.1 a.2.2.2.2.2.2.1 a.2.2.2.2.2.2.2.1 a.2.2.2.2.2.2.2.2.1 a.2.2.2.2.2.2.2.2.2
def impl_Governor_torqueAt.enc : (Nat × Int × Int × Nat × Nat × Nat × Nat × Nat × Nat × Nat) → Nat → V := fun a r => .fl .f32 r
noncomputable def impl_Governor_torqueAt.c : List V → Hp → T V := cdQ impl_Governor_torqueAt.cd (fun a => .br (impl_Governor_torqueAt.ok a.1 a.2.1 a.2.2.1 a.2.2.2.1 a.2.2.2.2.1 a.2.2.2.2.2.1 a.2.2.2.2.2.2.1 a.2.2.2.2.2.2.2.1 a.2.2.2.2.2.2.2.2.1 a.2.2.2.2.2.2.2.2.2) (.leaf (impl_Governor_torqueAt.enc a (impl_Governor_torqueAt a.1 a.2.1 a.2.2.1 a.2.2.2.1 a.2.2.2.2.1 a.2.2.2.2.2.1 a.2.2.2.2.2.2.1 a.2.2.2.2.2.2.2.1 a.2.2.2.2.2.2.2.2.1 a.2.2.2.2.2.2.2.2.2))) .bad)
theorem impl_Governor_torqueAt.run (a : Nat × Int × Int × Nat × Nat × Nat × Nat × Nat × Nat × Nat) : runF impl_Governor_torqueAt.C Try.f48.results.toList impl_Governor_torqueAt.b (impl_Governor_torqueAt.cd.enc a).1 (impl_Governor_torqueAt.cd.enc a).2 = (impl_Governor_torqueAt.tr a).map fun r => (impl_Governor_torqueAt.enc a r, (impl_Governor_torqueAt.cd.enc a).2) := by kernel_rfl
theorem impl_Governor_torqueAt.cok : OKq Try.prog 48 impl_Governor_torqueAt.c := con_q' impl_Governor_torqueAt.cd impl_Governor_torqueAt.hC Try.func48 (by kernel_rfl) (by kernel_rfl) (by kernel_rfl) impl_Governor_torqueAt.lp (fun a => by kernel_rfl) impl_Governor_torqueAt.run (Tells.ok (tree := impl_Governor_torqueAt.tr))
/-! ### impl_atLeast0 -/
noncomputable def impl_atLeast0.b : Code := bodyOf Try.f58
noncomputable def impl_atLeast0.C : Ctx := { ty := tys, fn := [], lp := [], n := 6, k := 0 }
theorem impl_atLeast0.hC : CtxOK Try.prog impl_atLeast0.C := CtxOK.of mo tys_ok FnsOK.nil
theorem impl_atLeast0.lp : LpOK Try.prog impl_atLeast0.C impl_atLeast0.b := (LpOK.nil (by kernel_rfl))
noncomputable def impl_atLeast0.t (x0 : Nat) : T Nat :=
  .br (fgt .f32 x0 0)
  (.leaf x0)
  (.leaf 0)
noncomputable def impl_atLeast0 (x0 : Nat) : Nat := (impl_atLeast0.t x0).val
def impl_atLeast0.cd : Cd Nat (List V × Hp) := Cd.iso (Cd.pair (Cd.cons (Cd.fl .f32) Cd.nil) Cd.nil) (fun a => a.1.1) (fun a => ((a, ()), ())) (fun _ => rfl)
noncomputable def impl_atLeast0.tr (a : Nat) : T Nat := impl_atLeast0.t a
def impl_atLeast0.enc : Nat → Nat → V := fun a r => .fl .f32 r
noncomputable def impl_atLeast0.c : List V → Hp → T V := cdQ impl_atLeast0.cd (fun a => .leaf (impl_atLeast0.enc a (impl_atLeast0 a)))
theorem impl_atLeast0.run (a : Nat) : runF impl_atLeast0.C Try.f58.results.toList impl_atLeast0.b (impl_atLeast0.cd.enc a).1 (impl_atLeast0.cd.enc a).2 = (impl_atLeast0.tr a).map fun r => (impl_atLeast0.enc a r, (impl_atLeast0.cd.enc a).2) := by kernel_rfl
theorem impl_atLeast0.cok : OKq Try.prog 58 impl_atLeast0.c := con_q' impl_atLeast0.cd impl_atLeast0.hC Try.func58 (by kernel_rfl) (by kernel_rfl) (by kernel_rfl) impl_atLeast0.lp (fun a => by kernel_rfl) impl_atLeast0.run (Tells.val (tree := impl_atLeast0.tr) fun a => by kernel_rfl)
/-! ### impl_Governor_tick -/
noncomputable def impl_Governor_tick.b : Code := bodyOf Try.f34
noncomputable def impl_Governor_tick.C : Ctx := { ty := tys, fn := [(42, .q impl_Governor_gateBehind.c), (48, .q impl_Governor_torqueAt.c), (58, .q impl_atLeast0.c)], lp := [], n := 33, k := 1 }
theorem impl_Governor_tick.hC : CtxOK Try.prog impl_Governor_tick.C := CtxOK.of mo tys_ok (FnsOK.cons impl_Governor_gateBehind.cok (FnsOK.cons impl_Governor_torqueAt.cok (FnsOK.cons impl_atLeast0.cok FnsOK.nil)))
theorem impl_Governor_tick.lp : LpOK Try.prog impl_Governor_tick.C impl_Governor_tick.b := (LpOK.nil (by kernel_rfl))
noncomputable def impl_Governor_tick.t (x0 : Nat) (x1 : Int) (x2 : Nat) (x3 : Int) (x4 : Nat) (x5 : Nat) (x6 : Nat) (x7 : Nat) (x8 : Nat) (x9 : Nat) (x10 : Nat) : T (Nat × Int) :=
  .br (impl_Governor_torqueAt.ok x0 (impl_Governor_gateBehind x0 x1 x3 x4 x5 x6 x7 x8 x9 x10) x3 x4 x5 x6 x7 x8 x9 x10)
  (.leaf ((fmin .f32 (impl_atLeast0 (fadd .f32 x0 (fdiv .f32 (fsub .f32 (impl_Governor_torqueAt x0 (impl_Governor_gateBehind x0 x1 x3 x4 x5 x6 x7 x8 x9 x10) x3 x4 x5 x6 x7 x8 x9 x10) x2) x10))) 1149239296), (IntKind.wrap .i8 (impl_Governor_gateBehind x0 x1 x3 x4 x5 x6 x7 x8 x9 x10))))
  .bad
noncomputable def impl_Governor_tick (x0 : Nat) (x1 : Int) (x2 : Nat) (x3 : Int) (x4 : Nat) (x5 : Nat) (x6 : Nat) (x7 : Nat) (x8 : Nat) (x9 : Nat) (x10 : Nat) : Nat × Int := (impl_Governor_tick.t x0 x1 x2 x3 x4 x5 x6 x7 x8 x9 x10).val
noncomputable def impl_Governor_tick.ok (x0 : Nat) (x1 : Int) (x2 : Nat) (x3 : Int) (x4 : Nat) (x5 : Nat) (x6 : Nat) (x7 : Nat) (x8 : Nat) (x9 : Nat) (x10 : Nat) : Bool := (impl_Governor_tick.t x0 x1 x2 x3 x4 x5 x6 x7 x8 x9 x10).ok
def impl_Governor_tick.cd : Cd (Nat × Int × Nat × Int × Nat × Nat × Nat × Nat × Nat × Nat × Nat) (List V × Hp) := Cd.iso (Cd.pair (Cd.cons (Cd.pt 0 (Cd.natc 0)) (Cd.cons (Cd.agg (Cd.cons (Cd.fl .f32) (Cd.cons (Cd.it .i8) Cd.nil))) (Cd.cons (Cd.fl .f32) Cd.nil))) (Cd.cons (Cd.rw 29 8 (Cd.vs (Cd.cons (Cd.it .i16) (Cd.cons (Cd.fl .f32) (Cd.cons (Cd.fl .f32) (Cd.cons (Cd.fl .f32) (Cd.cons (Cd.fl .f32) (Cd.cons (Cd.fl .f32) (Cd.cons (Cd.fl .f32) (Cd.cons (Cd.fl .f32) Cd.nil)))))))))) Cd.nil)) (fun a => (a.1.2.1.1, a.1.2.1.2.1, a.1.2.2.1, a.2.1.1, a.2.1.2.1, a.2.1.2.2.1, a.2.1.2.2.2.1, a.2.1.2.2.2.2.1, a.2.1.2.2.2.2.2.1, a.2.1.2.2.2.2.2.2.1, a.2.1.2.2.2.2.2.2.2.1)) (fun a => (((), ((a.1, (a.2.1, ())), (a.2.2.1, ()))), ((a.2.2.2.1, (a.2.2.2.2.1, (a.2.2.2.2.2.1, (a.2.2.2.2.2.2.1, (a.2.2.2.2.2.2.2.1, (a.2.2.2.2.2.2.2.2.1, (a.2.2.2.2.2.2.2.2.2.1, (a.2.2.2.2.2.2.2.2.2.2, ())))))))), ()))) (fun _ => rfl)
noncomputable def impl_Governor_tick.tr (a : Nat × Int × Nat × Int × Nat × Nat × Nat × Nat × Nat × Nat × Nat) : T (Nat × Int) := impl_Governor_tick.t a.1 a.2.1 a.2.2.1 a.2.2.2.1 a.2.2.2.2.1 a.2.2.2.2.2.1 a.2.2.2.2.2.2.1 a.2.2.2.2.2.2.2.1 a.2.2.2.2.2.2.2.2.1 a.2.2.2.2.2.2.2.2.2.1 a.2.2.2.2.2.2.2.2.2.2
def impl_Governor_tick.enc : (Nat × Int × Nat × Int × Nat × Nat × Nat × Nat × Nat × Nat × Nat) → (Nat × Int) → V := fun a r => .agg [.fl .f32 r.1, .it .i8 r.2]
noncomputable def impl_Governor_tick.c : List V → Hp → T V := cdQ impl_Governor_tick.cd (fun a => .br (impl_Governor_tick.ok a.1 a.2.1 a.2.2.1 a.2.2.2.1 a.2.2.2.2.1 a.2.2.2.2.2.1 a.2.2.2.2.2.2.1 a.2.2.2.2.2.2.2.1 a.2.2.2.2.2.2.2.2.1 a.2.2.2.2.2.2.2.2.2.1 a.2.2.2.2.2.2.2.2.2.2) (.leaf (impl_Governor_tick.enc a (impl_Governor_tick a.1 a.2.1 a.2.2.1 a.2.2.2.1 a.2.2.2.2.1 a.2.2.2.2.2.1 a.2.2.2.2.2.2.1 a.2.2.2.2.2.2.2.1 a.2.2.2.2.2.2.2.2.1 a.2.2.2.2.2.2.2.2.2.1 a.2.2.2.2.2.2.2.2.2.2))) .bad)
theorem impl_Governor_tick.run (a : Nat × Int × Nat × Int × Nat × Nat × Nat × Nat × Nat × Nat × Nat) : runF impl_Governor_tick.C Try.f34.results.toList impl_Governor_tick.b (impl_Governor_tick.cd.enc a).1 (impl_Governor_tick.cd.enc a).2 = (impl_Governor_tick.tr a).map fun r => (impl_Governor_tick.enc a r, (impl_Governor_tick.cd.enc a).2) := by kernel_rfl
theorem impl_Governor_tick.cok : OKq Try.prog 34 impl_Governor_tick.c := con_q' impl_Governor_tick.cd impl_Governor_tick.hC Try.func34 (by kernel_rfl) (by kernel_rfl) (by kernel_rfl) impl_Governor_tick.lp (fun a => by kernel_rfl) impl_Governor_tick.run (Tells.ok (tree := impl_Governor_tick.tr))
/-! ### impl_TickAll -/
noncomputable def impl_TickAll.b : Code := bodyOf Try.f8
noncomputable def impl_TickAll.l8.s (x0 : Nat) (x1 : Nat) (x2 : Int) (x3 : Int) (x4 : List Nat) (x5 : Int) (x6 : Nat) (x7 : Nat) (x8 : Nat) (x9 : Nat) (x10 : Nat) (x11 : Nat) (x12 : Nat) (x13 : Nat) (x14 : Int) (x15 : List (List Sc)) : T ((Nat × Int × Nat × Int × List (List Sc)) ⊕ (Nat × List (List Sc))) :=
  .br (decide (x3 < x2))
  (.br (bounds x3 x1)
   (.br (Nat.ble ((Int.toNat x3 * 1) + 1) (List.length x4))
    (.br (impl_Governor_tick.ok x13 x14 (List.getD x4 (Int.toNat x3 * 1) 0) x5 x6 x7 x8 x9 x10 x11 x12)
     (.br ((Nat.beq 2 (List.length [[Sc.n ((impl_Governor_tick x13 x14 (List.getD x4 (Int.toNat x3 * 1) 0) x5 x6 x7 x8 x9 x10 x11 x12).1), Sc.i ((impl_Governor_tick x13 x14 (List.getD x4 (Int.toNat x3 * 1) 0) x5 x6 x7 x8 x9 x10 x11 x12).2)]] * 2)) && (Nat.beq (List.length x15 * 2) (x0 * 2) && Nat.ble ((x0 + 1) * 8) 35184372088832 && Nat.ble (x0 + 1) 35184372088832))
      (.leaf (.inl ((x0 + 1), (IntKind.wrap .i64 (x3 + (1 : Int))), (impl_Governor_tick x13 x14 (List.getD x4 (Int.toNat x3 * 1) 0) x5 x6 x7 x8 x9 x10 x11 x12).1, (impl_Governor_tick x13 x14 (List.getD x4 (Int.toNat x3 * 1) 0) x5 x6 x7 x8 x9 x10 x11 x12).2, (x15 ++ [[Sc.n ((impl_Governor_tick x13 x14 (List.getD x4 (Int.toNat x3 * 1) 0) x5 x6 x7 x8 x9 x10 x11 x12).1), Sc.i ((impl_Governor_tick x13 x14 (List.getD x4 (Int.toNat x3 * 1) 0) x5 x6 x7 x8 x9 x10 x11 x12).2)]]))))
      .bad)
     .bad)
    .bad)
   .bad)
  (.leaf (.inr (x0, x15)))
noncomputable def impl_TickAll.l8.st (p : Nat × Int × List Nat × Int × Nat × Nat × Nat × Nat × Nat × Nat × Nat) (x : Nat × Int × Nat × Int × List (List Sc)) : T ((Nat × Int × Nat × Int × List (List Sc)) ⊕ (Nat × List (List Sc))) := impl_TickAll.l8.s x.1 p.1 p.2.1 x.2.1 p.2.2.1 p.2.2.2.1 p.2.2.2.2.1 p.2.2.2.2.2.1 p.2.2.2.2.2.2.1 p.2.2.2.2.2.2.2.1 p.2.2.2.2.2.2.2.2.1 p.2.2.2.2.2.2.2.2.2.1 p.2.2.2.2.2.2.2.2.2.2 x.2.2.1 x.2.2.2.1 x.2.2.2.2
noncomputable def impl_TickAll.l8.r (p : Nat × Int × List Nat × Int × Nat × Nat × Nat × Nat × Nat × Nat × Nat) (x : Nat × Int × Nat × Int × List (List Sc)) : Option (Nat × List (List Sc)) := iterT (impl_TickAll.l8.st p) manyRounds x
def impl_TickAll.l8.cd : Cd ((Nat × Int × List Nat × Int × Nat × Nat × Nat × Nat × Nat × Nat × Nat) × (Nat × Int × Nat × Int × List (List Sc))) (List V × Hp) := Cd.iso (Cd.pair (Cd.cons (Cd.pt 1 (Cd.natc 0)) (Cd.cons (Cd.pt 2 (Cd.natc 0)) (Cd.cons (Cd.own 3) (Cd.cons (Cd.own 0) (Cd.cons (Cd.it .i64) (Cd.cons (Cd.it .i64) Cd.nil)))))) (Cd.cons (Cd.rw 25 1 (Cd.fs .f32)) (Cd.cons (Cd.rw 29 8 (Cd.vs (Cd.cons (Cd.it .i16) (Cd.cons (Cd.fl .f32) (Cd.cons (Cd.fl .f32) (Cd.cons (Cd.fl .f32) (Cd.cons (Cd.fl .f32) (Cd.cons (Cd.fl .f32) (Cd.cons (Cd.fl .f32) (Cd.cons (Cd.fl .f32) Cd.nil)))))))))) (Cd.cons (Cd.rw 33 2 (Cd.vs (Cd.cons (Cd.fl .f32) (Cd.cons (Cd.it .i8) Cd.nil)))) (Cd.cons (Cd.rw 33 2 (Cd.mx [.fl .f32, .it .i8])) Cd.nil))))) (fun a => ((a.1.2.2.2.1, a.1.2.2.2.2.1, a.2.1, a.2.2.1.1, a.2.2.1.2.1, a.2.2.1.2.2.1, a.2.2.1.2.2.2.1, a.2.2.1.2.2.2.2.1, a.2.2.1.2.2.2.2.2.1, a.2.2.1.2.2.2.2.2.2.1, a.2.2.1.2.2.2.2.2.2.2.1), (a.1.2.2.1, a.1.2.2.2.2.2.1, a.2.2.2.1.1, a.2.2.2.1.2.1, a.2.2.2.2.1))) (fun a => (((), ((), (a.2.1, (a.1.1, (a.1.2.1, (a.2.2.1, ())))))), (a.1.2.2.1, ((a.1.2.2.2.1, (a.1.2.2.2.2.1, (a.1.2.2.2.2.2.1, (a.1.2.2.2.2.2.2.1, (a.1.2.2.2.2.2.2.2.1, (a.1.2.2.2.2.2.2.2.2.1, (a.1.2.2.2.2.2.2.2.2.2.1, (a.1.2.2.2.2.2.2.2.2.2.2, ())))))))), ((a.2.2.2.1, (a.2.2.2.2.1, ())), (a.2.2.2.2.2, ())))))) (fun _ => rfl)
def impl_TickAll.l8.out (p : Nat × Int × List Nat × Int × Nat × Nat × Nat × Nat × Nat × Nat × Nat) : (Nat × List (List Sc)) → X × List V × Hp := (fun r => (.ex 1, [.own 1 r.1], [some ⟨true, 25, 1, .fs .f32 p.2.2.1⟩, some ⟨true, 33, 2, .mx [.fl .f32, .it .i8] r.2⟩]))
def impl_TickAll.l8.ex (p : Nat × Int × List Nat × Int × Nat × Nat × Nat × Nat × Nat × Nat × Nat) : (Nat × List (List Sc)) → T (X × List V × Hp) := leafT (fun r => (.ex 1, [.own 1 r.1], [some ⟨true, 25, 1, .fs .f32 p.2.2.1⟩, some ⟨true, 33, 2, .mx [.fl .f32, .it .i8] r.2⟩]))
noncomputable def impl_TickAll.l8.c : List V → Hp → T (X × List V × Hp) := cdL impl_TickAll.l8.cd fun x => optT (impl_TickAll.l8.r x.1 x.2) (impl_TickAll.l8.ex x.1)
noncomputable def impl_TickAll.C : Ctx := { ty := tys, fn := [(33, .q impl_governorCode.c), (34, .q impl_Governor_tick.c)], lp := [(8, ⟨[3, 4, 9, 25, 26, 27], [9], impl_TickAll.l8.c⟩)], n := 40, k := 1 }
theorem impl_TickAll.hC : CtxOK Try.prog impl_TickAll.C := CtxOK.of mo tys_ok (FnsOK.cons impl_governorCode.cok (FnsOK.cons impl_Governor_tick.cok FnsOK.nil))
noncomputable def impl_TickAll.b8 : Code := (nthC (loopsOf impl_TickAll.b) 0)
theorem impl_TickAll.lp8 : LpOK Try.prog impl_TickAll.C impl_TickAll.b8 := (LpOK.nil (by kernel_rfl))
theorem impl_TickAll.l8.round (p : Nat × Int × List Nat × Int × Nat × Nat × Nat × Nat × Nat × Nat × Nat) (s : Nat × Int × Nat × Int × List (List Sc)) : roundL impl_TickAll.C [3, 4, 9, 25, 26, 27] [9] impl_TickAll.b8 (impl_TickAll.l8.cd.enc (p, s)).1 (impl_TickAll.l8.cd.enc (p, s)).2 = (impl_TickAll.l8.st p s).map (encSum (fun s => impl_TickAll.l8.cd.enc (p, s)) (impl_TickAll.l8.out p)) := by kernel_rfl
theorem impl_TickAll.l8.lok : LoopOK Try.prog impl_TickAll.C ⟨[3, 4, 9, 25, 26, 27], [9], impl_TickAll.l8.c⟩ impl_TickAll.b8 := loop_cd impl_TickAll.l8.cd impl_TickAll.hC impl_TickAll.lp8 impl_TickAll.l8.round fun p => Gets.leaf
theorem impl_TickAll.lp : LpOK Try.prog impl_TickAll.C impl_TickAll.b := lp_of (by kernel_rfl) (LpsOK.cons (k := 8) (by kernel_rfl) (by kernel_rfl) impl_TickAll.l8.lok LpsOK.nil)
noncomputable def impl_TickAll.t (x0 : Int) (x1 : Nat) (x2 : Nat) (x3 : Nat) (x4 : Nat) (x5 : Nat) (x6 : Nat) (x7 : Nat) (x8 : Nat) (x9 : Int) (x10 : Nat) (x11 : List Nat) : T (Int ⊕ (Nat × Int × List (List Sc))) :=
  .br (impl_governorCode.ok x0 x1 x2 x3 x4 x5 x6 x7 x8 x9 x10 x11)
  (.br ((impl_governorCode x0 x1 x2 x3 x4 x5 x6 x7 x8 x9 x10 x11) != (0 : Int))
   (.leaf (.inl (impl_governorCode x0 x1 x2 x3 x4 x5 x6 x7 x8 x9 x10 x11)))
   (.br (decide (((x10 : Nat) : Int) > (100 : Int)))
    (.leaf (.inl (3 : Int)))
    (.br (Option.isSome (impl_TickAll.l8.r (x10, ((x10 : Nat) : Int), x11, x0, x1, x2, x3, x4, x5, x6, x7) (0, (0 : Int), x8, x9, [])))
     (.leaf (.inr ((Option.getD (impl_TickAll.l8.r (x10, ((x10 : Nat) : Int), x11, x0, x1, x2, x3, x4, x5, x6, x7) (0, (0 : Int), x8, x9, [])) default).1, (0 : Int), (Option.getD (impl_TickAll.l8.r (x10, ((x10 : Nat) : Int), x11, x0, x1, x2, x3, x4, x5, x6, x7) (0, (0 : Int), x8, x9, [])) default).2)))
     .bad)))
  .bad
noncomputable def impl_TickAll (x0 : Int) (x1 : Nat) (x2 : Nat) (x3 : Nat) (x4 : Nat) (x5 : Nat) (x6 : Nat) (x7 : Nat) (x8 : Nat) (x9 : Int) (x10 : Nat) (x11 : List Nat) : Int ⊕ (Nat × Int × List (List Sc)) := (impl_TickAll.t x0 x1 x2 x3 x4 x5 x6 x7 x8 x9 x10 x11).val
noncomputable def impl_TickAll.ok (x0 : Int) (x1 : Nat) (x2 : Nat) (x3 : Nat) (x4 : Nat) (x5 : Nat) (x6 : Nat) (x7 : Nat) (x8 : Nat) (x9 : Int) (x10 : Nat) (x11 : List Nat) : Bool := (impl_TickAll.t x0 x1 x2 x3 x4 x5 x6 x7 x8 x9 x10 x11).ok
def impl_TickAll.cd : Cd (Int × Nat × Nat × Nat × Nat × Nat × Nat × Nat × Nat × Int × Nat × List Nat) (List V × Hp) := Cd.iso (Cd.pair (Cd.cons (Cd.agg (Cd.cons (Cd.it .i16) (Cd.cons (Cd.fl .f32) (Cd.cons (Cd.fl .f32) (Cd.cons (Cd.fl .f32) (Cd.cons (Cd.fl .f32) (Cd.cons (Cd.fl .f32) (Cd.cons (Cd.fl .f32) (Cd.cons (Cd.fl .f32) Cd.nil))))))))) (Cd.cons (Cd.agg (Cd.cons (Cd.fl .f32) (Cd.cons (Cd.it .i8) Cd.nil))) (Cd.cons (Cd.own 0) Cd.nil))) (Cd.cons (Cd.rw 25 1 (Cd.fs .f32)) Cd.nil)) (fun a => (a.1.1.1, a.1.1.2.1, a.1.1.2.2.1, a.1.1.2.2.2.1, a.1.1.2.2.2.2.1, a.1.1.2.2.2.2.2.1, a.1.1.2.2.2.2.2.2.1, a.1.1.2.2.2.2.2.2.2.1, a.1.2.1.1, a.1.2.1.2.1, a.1.2.2.1, a.2.1)) (fun a => (((a.1, (a.2.1, (a.2.2.1, (a.2.2.2.1, (a.2.2.2.2.1, (a.2.2.2.2.2.1, (a.2.2.2.2.2.2.1, (a.2.2.2.2.2.2.2.1, ())))))))), ((a.2.2.2.2.2.2.2.2.1, (a.2.2.2.2.2.2.2.2.2.1, ())), (a.2.2.2.2.2.2.2.2.2.2.1, ()))), (a.2.2.2.2.2.2.2.2.2.2.2, ()))) (fun _ => rfl)
noncomputable def impl_TickAll.tr (a : Int × Nat × Nat × Nat × Nat × Nat × Nat × Nat × Nat × Int × Nat × List Nat) : T (Int ⊕ (Nat × Int × List (List Sc))) := impl_TickAll.t a.1 a.2.1 a.2.2.1 a.2.2.2.1 a.2.2.2.2.1 a.2.2.2.2.2.1 a.2.2.2.2.2.2.1 a.2.2.2.2.2.2.2.1 a.2.2.2.2.2.2.2.2.1 a.2.2.2.2.2.2.2.2.2.1 a.2.2.2.2.2.2.2.2.2.2.1 a.2.2.2.2.2.2.2.2.2.2.2
def impl_TickAll.enc : (Int × Nat × Nat × Nat × Nat × Nat × Nat × Nat × Nat × Int × Nat × List Nat) → (Int ⊕ (Nat × Int × List (List Sc))) → V × Hp := fun a => sumO (fun r => (.tup [.sn, .it .i64 r], [some ⟨true, 25, 1, .fs .f32 a.2.2.2.2.2.2.2.2.2.2.2⟩])) (fun r => (.tup [.own 1 r.1, .it .i64 r.2.1], [some ⟨true, 25, 1, .fs .f32 a.2.2.2.2.2.2.2.2.2.2.2⟩, some ⟨true, 33, 2, .mx [.fl .f32, .it .i8] r.2.2⟩]))
noncomputable def impl_TickAll.ex : (Int × Nat × Nat × Nat × Nat × Nat × Nat × Nat × Nat × Int × Nat × List Nat) → (Int ⊕ (Nat × Int × List (List Sc))) → T (V × Hp) := fun a => sumT (leafT (fun r => (.tup [.sn, .it .i64 r], [some ⟨true, 25, 1, .fs .f32 a.2.2.2.2.2.2.2.2.2.2.2⟩]))) (leafT (fun r => (.tup [.own 1 r.1, .it .i64 r.2.1], [some ⟨true, 25, 1, .fs .f32 a.2.2.2.2.2.2.2.2.2.2.2⟩, some ⟨true, 33, 2, .mx [.fl .f32, .it .i8] r.2.2⟩])))
noncomputable def impl_TickAll.c : List V → Hp → T (V × Hp) := cdE impl_TickAll.cd (fun a => .br (impl_TickAll.ok a.1 a.2.1 a.2.2.1 a.2.2.2.1 a.2.2.2.2.1 a.2.2.2.2.2.1 a.2.2.2.2.2.2.1 a.2.2.2.2.2.2.2.1 a.2.2.2.2.2.2.2.2.1 a.2.2.2.2.2.2.2.2.2.1 a.2.2.2.2.2.2.2.2.2.2.1 a.2.2.2.2.2.2.2.2.2.2.2) (impl_TickAll.ex a (impl_TickAll a.1 a.2.1 a.2.2.1 a.2.2.2.1 a.2.2.2.2.1 a.2.2.2.2.2.1 a.2.2.2.2.2.2.1 a.2.2.2.2.2.2.2.1 a.2.2.2.2.2.2.2.2.1 a.2.2.2.2.2.2.2.2.2.1 a.2.2.2.2.2.2.2.2.2.2.1 a.2.2.2.2.2.2.2.2.2.2.2)) .bad)
theorem impl_TickAll.run (a : Int × Nat × Nat × Nat × Nat × Nat × Nat × Nat × Nat × Int × Nat × List Nat) : runF impl_TickAll.C Try.f8.results.toList impl_TickAll.b (impl_TickAll.cd.enc a).1 (impl_TickAll.cd.enc a).2 = (impl_TickAll.tr a).map (impl_TickAll.enc a) := by kernel_rfl
theorem impl_TickAll.cok : OKe Try.prog 8 impl_TickAll.c := con_e' impl_TickAll.cd impl_TickAll.hC Try.func8 (by kernel_rfl) (by kernel_rfl) (by kernel_rfl) impl_TickAll.lp (fun a => by kernel_rfl) impl_TickAll.run (Tells.okS (tree := impl_TickAll.tr) (ex := impl_TickAll.ex) fun a => (Gets.sum Gets.leaf Gets.leaf))
/-! ### spec_l00In -/
noncomputable def spec_l00In.b : Code := bodyOf Try.f72
noncomputable def spec_l00In.C : Ctx := { ty := tys, fn := [], lp := [], n := 15, k := 0 }
theorem spec_l00In.hC : CtxOK Try.prog spec_l00In.C := CtxOK.of mo tys_ok FnsOK.nil
theorem spec_l00In.lp : LpOK Try.prog spec_l00In.C spec_l00In.b := (LpOK.nil (by kernel_rfl))
noncomputable def spec_l00In.t (x0 : Int) (x1 : Int) (x2 : Int) : T Bool :=
  .br (decide (x0 ≥ x1))
  (.leaf (decide (x0 ≤ x2)))
  (.leaf false)
noncomputable def spec_l00In (x0 : Int) (x1 : Int) (x2 : Int) : Bool := (spec_l00In.t x0 x1 x2).val
def spec_l00In.cd : Cd (Int × Int × Int) (List V × Hp) := Cd.iso (Cd.pair (Cd.cons (Cd.it .i64) (Cd.cons (Cd.it .i64) (Cd.cons (Cd.it .i64) Cd.nil))) Cd.nil) (fun a => (a.1.1, a.1.2.1, a.1.2.2.1)) (fun a => ((a.1, (a.2.1, (a.2.2, ()))), ())) (fun _ => rfl)
noncomputable def spec_l00In.tr (a : Int × Int × Int) : T Bool := spec_l00In.t a.1 a.2.1 a.2.2
def spec_l00In.enc : (Int × Int × Int) → Bool → V := fun a r => .bo r
noncomputable def spec_l00In.c : List V → Hp → T V := cdQ spec_l00In.cd (fun a => .leaf (spec_l00In.enc a (spec_l00In a.1 a.2.1 a.2.2)))
theorem spec_l00In.run (a : Int × Int × Int) : runF spec_l00In.C Try.f72.results.toList spec_l00In.b (spec_l00In.cd.enc a).1 (spec_l00In.cd.enc a).2 = (spec_l00In.tr a).map fun r => (spec_l00In.enc a r, (spec_l00In.cd.enc a).2) := by kernel_rfl
theorem spec_l00In.cok : OKq Try.prog 72 spec_l00In.c := con_q' spec_l00In.cd spec_l00In.hC Try.func72 (by kernel_rfl) (by kernel_rfl) (by kernel_rfl) spec_l00In.lp (fun a => by kernel_rfl) spec_l00In.run (Tells.val (tree := spec_l00In.tr) fun a => by kernel_rfl)
/-! ### spec_l03Length -/
noncomputable def spec_l03Length.b : Code := bodyOf Try.f71
noncomputable def spec_l03Length.C : Ctx := { ty := tys, fn := [], lp := [], n := 9, k := 0 }
theorem spec_l03Length.hC : CtxOK Try.prog spec_l03Length.C := CtxOK.of mo tys_ok FnsOK.nil
theorem spec_l03Length.lp : LpOK Try.prog spec_l03Length.C spec_l03Length.b := (LpOK.nil (by kernel_rfl))
noncomputable def spec_l03Length.t (x0 : Nat) : T Bool :=
  .br (fge .f32 x0 1031798784)
  (.leaf (fle .f32 x0 1149239296))
  (.leaf false)
noncomputable def spec_l03Length (x0 : Nat) : Bool := (spec_l03Length.t x0).val
def spec_l03Length.cd : Cd Nat (List V × Hp) := Cd.iso (Cd.pair (Cd.cons (Cd.fl .f32) Cd.nil) Cd.nil) (fun a => a.1.1) (fun a => ((a, ()), ())) (fun _ => rfl)
noncomputable def spec_l03Length.tr (a : Nat) : T Bool := spec_l03Length.t a
def spec_l03Length.enc : Nat → Bool → V := fun a r => .bo r
noncomputable def spec_l03Length.c : List V → Hp → T V := cdQ spec_l03Length.cd (fun a => .leaf (spec_l03Length.enc a (spec_l03Length a)))
theorem spec_l03Length.run (a : Nat) : runF spec_l03Length.C Try.f71.results.toList spec_l03Length.b (spec_l03Length.cd.enc a).1 (spec_l03Length.cd.enc a).2 = (spec_l03Length.tr a).map fun r => (spec_l03Length.enc a r, (spec_l03Length.cd.enc a).2) := by kernel_rfl
theorem spec_l03Length.cok : OKq Try.prog 71 spec_l03Length.c := con_q' spec_l03Length.cd spec_l03Length.hC Try.func71 (by kernel_rfl) (by kernel_rfl) (by kernel_rfl) spec_l03Length.lp (fun a => by kernel_rfl) spec_l03Length.run (Tells.val (tree := spec_l03Length.tr) fun a => by kernel_rfl)
/-! ### spec_l03Mill -/
noncomputable def spec_l03Mill.b : Code := bodyOf Try.f70
noncomputable def spec_l03Mill.C : Ctx := { ty := tys, fn := [(72, .q spec_l00In.c), (71, .q spec_l03Length.c)], lp := [], n := 17, k := 0 }
theorem spec_l03Mill.hC : CtxOK Try.prog spec_l03Mill.C := CtxOK.of mo tys_ok (FnsOK.cons spec_l00In.cok (FnsOK.cons spec_l03Length.cok FnsOK.nil))
theorem spec_l03Mill.lp : LpOK Try.prog spec_l03Mill.C spec_l03Mill.b := (LpOK.nil (by kernel_rfl))
noncomputable def spec_l03Mill.t (x0 : Int) (x1 : Nat) (x2 : Nat) : T Bool :=
  .br (spec_l00In (IntKind.wrap .i64 x0) (4 : Int) (48 : Int))
  (.br (spec_l03Length x1)
   (.leaf (spec_l03Length x2))
   (.leaf false))
  (.leaf false)
noncomputable def spec_l03Mill (x0 : Int) (x1 : Nat) (x2 : Nat) : Bool := (spec_l03Mill.t x0 x1 x2).val
def spec_l03Mill.cd : Cd (Int × Nat × Nat) (List V × Hp) := Cd.iso (Cd.pair (Cd.cons (Cd.agg (Cd.cons (Cd.it .i16) (Cd.cons (Cd.fl .f32) (Cd.cons (Cd.fl .f32) Cd.nil)))) Cd.nil) Cd.nil) (fun a => (a.1.1.1, a.1.1.2.1, a.1.1.2.2.1)) (fun a => (((a.1, (a.2.1, (a.2.2, ()))), ()), ())) (fun _ => rfl)
noncomputable def spec_l03Mill.tr (a : Int × Nat × Nat) : T Bool := spec_l03Mill.t a.1 a.2.1 a.2.2
def spec_l03Mill.enc : (Int × Nat × Nat) → Bool → V := fun a r => .bo r
noncomputable def spec_l03Mill.c : List V → Hp → T V := cdQ spec_l03Mill.cd (fun a => .leaf (spec_l03Mill.enc a (spec_l03Mill a.1 a.2.1 a.2.2)))
theorem spec_l03Mill.run (a : Int × Nat × Nat) : runF spec_l03Mill.C Try.f70.results.toList spec_l03Mill.b (spec_l03Mill.cd.enc a).1 (spec_l03Mill.cd.enc a).2 = (spec_l03Mill.tr a).map fun r => (spec_l03Mill.enc a r, (spec_l03Mill.cd.enc a).2) := by kernel_rfl
theorem spec_l03Mill.cok : OKq Try.prog 70 spec_l03Mill.c := con_q' spec_l03Mill.cd spec_l03Mill.hC Try.func70 (by kernel_rfl) (by kernel_rfl) (by kernel_rfl) spec_l03Mill.lp (fun a => by kernel_rfl) spec_l03Mill.run (Tells.val (tree := spec_l03Mill.tr) fun a => by kernel_rfl)
/-! ### spec_l03Ok -/
noncomputable def spec_l03Ok.b : Code := bodyOf Try.f59
noncomputable def spec_l03Ok.C : Ctx := { ty := tys, fn := [(70, .q spec_l03Mill.c), (71, .q spec_l03Length.c)], lp := [], n := 40, k := 0 }
theorem spec_l03Ok.hC : CtxOK Try.prog spec_l03Ok.C := CtxOK.of mo tys_ok (FnsOK.cons spec_l03Mill.cok (FnsOK.cons spec_l03Length.cok FnsOK.nil))
theorem spec_l03Ok.lp : LpOK Try.prog spec_l03Ok.C spec_l03Ok.b := (LpOK.nil (by kernel_rfl))
noncomputable def spec_l03Ok.t (x0 : Int) (x1 : Nat) (x2 : Nat) (x3 : Nat) (x4 : Nat) (x5 : Nat) (x6 : Nat) (x7 : Nat) : T Bool :=
  .br (!(spec_l03Mill x0 x1 x2))
  (.leaf false)
  (.br (!(spec_l03Length x3))
   (.leaf false)
   (.br (!(spec_l03Length x4))
    (.leaf false)
    (.br (!(spec_l03Length x7))
     (.leaf false)
     (.br (fge .f32 x5 0)
      (.br (fle .f32 x6 1149239296)
       (.leaf (flt .f32 x5 x6))
       (.leaf false))
      (.leaf false)))))
noncomputable def spec_l03Ok (x0 : Int) (x1 : Nat) (x2 : Nat) (x3 : Nat) (x4 : Nat) (x5 : Nat) (x6 : Nat) (x7 : Nat) : Bool := (spec_l03Ok.t x0 x1 x2 x3 x4 x5 x6 x7).val
def spec_l03Ok.cd : Cd (Int × Nat × Nat × Nat × Nat × Nat × Nat × Nat) (List V × Hp) := Cd.iso (Cd.pair (Cd.cons (Cd.agg (Cd.cons (Cd.it .i16) (Cd.cons (Cd.fl .f32) (Cd.cons (Cd.fl .f32) (Cd.cons (Cd.fl .f32) (Cd.cons (Cd.fl .f32) (Cd.cons (Cd.fl .f32) (Cd.cons (Cd.fl .f32) (Cd.cons (Cd.fl .f32) Cd.nil))))))))) Cd.nil) Cd.nil) (fun a => (a.1.1.1, a.1.1.2.1, a.1.1.2.2.1, a.1.1.2.2.2.1, a.1.1.2.2.2.2.1, a.1.1.2.2.2.2.2.1, a.1.1.2.2.2.2.2.2.1, a.1.1.2.2.2.2.2.2.2.1)) (fun a => (((a.1, (a.2.1, (a.2.2.1, (a.2.2.2.1, (a.2.2.2.2.1, (a.2.2.2.2.2.1, (a.2.2.2.2.2.2.1, (a.2.2.2.2.2.2.2, ())))))))), ()), ())) (fun _ => rfl)
noncomputable def spec_l03Ok.tr (a : Int × Nat × Nat × Nat × Nat × Nat × Nat × Nat) : T Bool := spec_l03Ok.t a.1 a.2.1 a.2.2.1 a.2.2.2.1 a.2.2.2.2.1 a.2.2.2.2.2.1 a.2.2.2.2.2.2.1 a.2.2.2.2.2.2.2
def spec_l03Ok.enc : (Int × Nat × Nat × Nat × Nat × Nat × Nat × Nat) → Bool → V := fun a r => .bo r
noncomputable def spec_l03Ok.c : List V → Hp → T V := cdQ spec_l03Ok.cd (fun a => .leaf (spec_l03Ok.enc a (spec_l03Ok a.1 a.2.1 a.2.2.1 a.2.2.2.1 a.2.2.2.2.1 a.2.2.2.2.2.1 a.2.2.2.2.2.2.1 a.2.2.2.2.2.2.2)))
theorem spec_l03Ok.run (a : Int × Nat × Nat × Nat × Nat × Nat × Nat × Nat) : runF spec_l03Ok.C Try.f59.results.toList spec_l03Ok.b (spec_l03Ok.cd.enc a).1 (spec_l03Ok.cd.enc a).2 = (spec_l03Ok.tr a).map fun r => (spec_l03Ok.enc a r, (spec_l03Ok.cd.enc a).2) := by kernel_rfl
theorem spec_l03Ok.cok : OKq Try.prog 59 spec_l03Ok.c := con_q' spec_l03Ok.cd spec_l03Ok.hC Try.func59 (by kernel_rfl) (by kernel_rfl) (by kernel_rfl) spec_l03Ok.lp (fun a => by kernel_rfl) spec_l03Ok.run (Tells.val (tree := spec_l03Ok.tr) fun a => by kernel_rfl)
/-! ### spec_l03Speed -/
noncomputable def spec_l03Speed.b : Code := bodyOf Try.f66
noncomputable def spec_l03Speed.C : Ctx := { ty := tys, fn := [], lp := [], n := 9, k := 0 }
theorem spec_l03Speed.hC : CtxOK Try.prog spec_l03Speed.C := CtxOK.of mo tys_ok FnsOK.nil
theorem spec_l03Speed.lp : LpOK Try.prog spec_l03Speed.C spec_l03Speed.b := (LpOK.nil (by kernel_rfl))
noncomputable def spec_l03Speed.t (x0 : Nat) : T Bool :=
  .br (fge .f32 x0 0)
  (.leaf (fle .f32 x0 1149239296))
  (.leaf false)
noncomputable def spec_l03Speed (x0 : Nat) : Bool := (spec_l03Speed.t x0).val
def spec_l03Speed.cd : Cd Nat (List V × Hp) := Cd.iso (Cd.pair (Cd.cons (Cd.fl .f32) Cd.nil) Cd.nil) (fun a => a.1.1) (fun a => ((a, ()), ())) (fun _ => rfl)
noncomputable def spec_l03Speed.tr (a : Nat) : T Bool := spec_l03Speed.t a
def spec_l03Speed.enc : Nat → Bool → V := fun a r => .bo r
noncomputable def spec_l03Speed.c : List V → Hp → T V := cdQ spec_l03Speed.cd (fun a => .leaf (spec_l03Speed.enc a (spec_l03Speed a)))
theorem spec_l03Speed.run (a : Nat) : runF spec_l03Speed.C Try.f66.results.toList spec_l03Speed.b (spec_l03Speed.cd.enc a).1 (spec_l03Speed.cd.enc a).2 = (spec_l03Speed.tr a).map fun r => (spec_l03Speed.enc a r, (spec_l03Speed.cd.enc a).2) := by kernel_rfl
theorem spec_l03Speed.cok : OKq Try.prog 66 spec_l03Speed.c := con_q' spec_l03Speed.cd spec_l03Speed.hC Try.func66 (by kernel_rfl) (by kernel_rfl) (by kernel_rfl) spec_l03Speed.lp (fun a => by kernel_rfl) spec_l03Speed.run (Tells.val (tree := spec_l03Speed.tr) fun a => by kernel_rfl)
/-! ### spec_l03State -/
noncomputable def spec_l03State.b : Code := bodyOf Try.f60
noncomputable def spec_l03State.C : Ctx := { ty := tys, fn := [(66, .q spec_l03Speed.c), (72, .q spec_l00In.c)], lp := [], n := 12, k := 0 }
theorem spec_l03State.hC : CtxOK Try.prog spec_l03State.C := CtxOK.of mo tys_ok (FnsOK.cons spec_l03Speed.cok (FnsOK.cons spec_l00In.cok FnsOK.nil))
theorem spec_l03State.lp : LpOK Try.prog spec_l03State.C spec_l03State.b := (LpOK.nil (by kernel_rfl))
noncomputable def spec_l03State.t (x0 : Nat) (x1 : Int) : T Bool :=
  .br (spec_l03Speed x0)
  (.leaf (spec_l00In (IntKind.wrap .i64 x1) (0 : Int) (16 : Int)))
  (.leaf false)
noncomputable def spec_l03State (x0 : Nat) (x1 : Int) : Bool := (spec_l03State.t x0 x1).val
def spec_l03State.cd : Cd (Nat × Int) (List V × Hp) := Cd.iso (Cd.pair (Cd.cons (Cd.agg (Cd.cons (Cd.fl .f32) (Cd.cons (Cd.it .i8) Cd.nil))) Cd.nil) Cd.nil) (fun a => (a.1.1.1, a.1.1.2.1)) (fun a => (((a.1, (a.2, ())), ()), ())) (fun _ => rfl)
noncomputable def spec_l03State.tr (a : Nat × Int) : T Bool := spec_l03State.t a.1 a.2
def spec_l03State.enc : (Nat × Int) → Bool → V := fun a r => .bo r
noncomputable def spec_l03State.c : List V → Hp → T V := cdQ spec_l03State.cd (fun a => .leaf (spec_l03State.enc a (spec_l03State a.1 a.2)))
theorem spec_l03State.run (a : Nat × Int) : runF spec_l03State.C Try.f60.results.toList spec_l03State.b (spec_l03State.cd.enc a).1 (spec_l03State.cd.enc a).2 = (spec_l03State.tr a).map fun r => (spec_l03State.enc a r, (spec_l03State.cd.enc a).2) := by kernel_rfl
theorem spec_l03State.cok : OKq Try.prog 60 spec_l03State.c := con_q' spec_l03State.cd spec_l03State.hC Try.func60 (by kernel_rfl) (by kernel_rfl) (by kernel_rfl) spec_l03State.lp (fun a => by kernel_rfl) spec_l03State.run (Tells.val (tree := spec_l03State.tr) fun a => by kernel_rfl)
/-! ### spec_l03Both -/
noncomputable def spec_l03Both.b : Code := bodyOf Try.f35
noncomputable def spec_l03Both.C : Ctx := { ty := tys, fn := [(59, .q spec_l03Ok.c), (60, .q spec_l03State.c)], lp := [], n := 13, k := 0 }
theorem spec_l03Both.hC : CtxOK Try.prog spec_l03Both.C := CtxOK.of mo tys_ok (FnsOK.cons spec_l03Ok.cok (FnsOK.cons spec_l03State.cok FnsOK.nil))
theorem spec_l03Both.lp : LpOK Try.prog spec_l03Both.C spec_l03Both.b := (LpOK.nil (by kernel_rfl))
noncomputable def spec_l03Both.t (x0 : Int) (x1 : Nat) (x2 : Nat) (x3 : Nat) (x4 : Nat) (x5 : Nat) (x6 : Nat) (x7 : Nat) (x8 : Nat) (x9 : Int) : T Int :=
  .br (!(spec_l03Ok x0 x1 x2 x3 x4 x5 x6 x7))
  (.leaf (1 : Int))
  (.br (!(spec_l03State x8 x9))
   (.leaf (1 : Int))
   (.leaf (0 : Int)))
noncomputable def spec_l03Both (x0 : Int) (x1 : Nat) (x2 : Nat) (x3 : Nat) (x4 : Nat) (x5 : Nat) (x6 : Nat) (x7 : Nat) (x8 : Nat) (x9 : Int) : Int := (spec_l03Both.t x0 x1 x2 x3 x4 x5 x6 x7 x8 x9).val
def spec_l03Both.cd : Cd (Int × Nat × Nat × Nat × Nat × Nat × Nat × Nat × Nat × Int) (List V × Hp) := Cd.iso (Cd.pair (Cd.cons (Cd.agg (Cd.cons (Cd.it .i16) (Cd.cons (Cd.fl .f32) (Cd.cons (Cd.fl .f32) (Cd.cons (Cd.fl .f32) (Cd.cons (Cd.fl .f32) (Cd.cons (Cd.fl .f32) (Cd.cons (Cd.fl .f32) (Cd.cons (Cd.fl .f32) Cd.nil))))))))) (Cd.cons (Cd.agg (Cd.cons (Cd.fl .f32) (Cd.cons (Cd.it .i8) Cd.nil))) Cd.nil)) Cd.nil) (fun a => (a.1.1.1, a.1.1.2.1, a.1.1.2.2.1, a.1.1.2.2.2.1, a.1.1.2.2.2.2.1, a.1.1.2.2.2.2.2.1, a.1.1.2.2.2.2.2.2.1, a.1.1.2.2.2.2.2.2.2.1, a.1.2.1.1, a.1.2.1.2.1)) (fun a => (((a.1, (a.2.1, (a.2.2.1, (a.2.2.2.1, (a.2.2.2.2.1, (a.2.2.2.2.2.1, (a.2.2.2.2.2.2.1, (a.2.2.2.2.2.2.2.1, ())))))))), ((a.2.2.2.2.2.2.2.2.1, (a.2.2.2.2.2.2.2.2.2, ())), ())), ())) (fun _ => rfl)
noncomputable def spec_l03Both.tr (a : Int × Nat × Nat × Nat × Nat × Nat × Nat × Nat × Nat × Int) : T Int := spec_l03Both.t a.1 a.2.1 a.2.2.1 a.2.2.2.1 a.2.2.2.2.1 a.2.2.2.2.2.1 a.2.2.2.2.2.2.1 a.2.2.2.2.2.2.2.1 a.2.2.2.2.2.2.2.2.1 a.2.2.2.2.2.2.2.2.2
def spec_l03Both.enc : (Int × Nat × Nat × Nat × Nat × Nat × Nat × Nat × Nat × Int) → Int → V := fun a r => .it .i64 r
noncomputable def spec_l03Both.c : List V → Hp → T V := cdQ spec_l03Both.cd (fun a => .leaf (spec_l03Both.enc a (spec_l03Both a.1 a.2.1 a.2.2.1 a.2.2.2.1 a.2.2.2.2.1 a.2.2.2.2.2.1 a.2.2.2.2.2.2.1 a.2.2.2.2.2.2.2.1 a.2.2.2.2.2.2.2.2.1 a.2.2.2.2.2.2.2.2.2)))
theorem spec_l03Both.run (a : Int × Nat × Nat × Nat × Nat × Nat × Nat × Nat × Nat × Int) : runF spec_l03Both.C Try.f35.results.toList spec_l03Both.b (spec_l03Both.cd.enc a).1 (spec_l03Both.cd.enc a).2 = (spec_l03Both.tr a).map fun r => (spec_l03Both.enc a r, (spec_l03Both.cd.enc a).2) := by kernel_rfl
theorem spec_l03Both.cok : OKq Try.prog 35 spec_l03Both.c := con_q' spec_l03Both.cd spec_l03Both.hC Try.func35 (by kernel_rfl) (by kernel_rfl) (by kernel_rfl) spec_l03Both.lp (fun a => by kernel_rfl) spec_l03Both.run (Tells.val (tree := spec_l03Both.tr) fun a => by kernel_rfl)
/-! ### spec_l03Amount -/
noncomputable def spec_l03Amount.b : Code := bodyOf Try.f36
noncomputable def spec_l03Amount.C : Ctx := { ty := tys, fn := [], lp := [], n := 9, k := 0 }
theorem spec_l03Amount.hC : CtxOK Try.prog spec_l03Amount.C := CtxOK.of mo tys_ok FnsOK.nil
theorem spec_l03Amount.lp : LpOK Try.prog spec_l03Amount.C spec_l03Amount.b := (LpOK.nil (by kernel_rfl))
noncomputable def spec_l03Amount.t (x0 : Nat) : T Bool :=
  .br (fge .f32 x0 0)
  (.leaf (fle .f32 x0 1233125376))
  (.leaf false)
noncomputable def spec_l03Amount (x0 : Nat) : Bool := (spec_l03Amount.t x0).val
def spec_l03Amount.cd : Cd Nat (List V × Hp) := Cd.iso (Cd.pair (Cd.cons (Cd.fl .f32) Cd.nil) Cd.nil) (fun a => a.1.1) (fun a => ((a, ()), ())) (fun _ => rfl)
noncomputable def spec_l03Amount.tr (a : Nat) : T Bool := spec_l03Amount.t a
def spec_l03Amount.enc : Nat → Bool → V := fun a r => .bo r
noncomputable def spec_l03Amount.c : List V → Hp → T V := cdQ spec_l03Amount.cd (fun a => .leaf (spec_l03Amount.enc a (spec_l03Amount a)))
theorem spec_l03Amount.run (a : Nat) : runF spec_l03Amount.C Try.f36.results.toList spec_l03Amount.b (spec_l03Amount.cd.enc a).1 (spec_l03Amount.cd.enc a).2 = (spec_l03Amount.tr a).map fun r => (spec_l03Amount.enc a r, (spec_l03Amount.cd.enc a).2) := by kernel_rfl
theorem spec_l03Amount.cok : OKq Try.prog 36 spec_l03Amount.c := con_q' spec_l03Amount.cd spec_l03Amount.hC Try.func36 (by kernel_rfl) (by kernel_rfl) (by kernel_rfl) spec_l03Amount.lp (fun a => by kernel_rfl) spec_l03Amount.run (Tells.val (tree := spec_l03Amount.tr) fun a => by kernel_rfl)
/-! ### spec_l00Max -/
noncomputable def spec_l00Max.b : Code := bodyOf Try.f73
noncomputable def spec_l00Max.C : Ctx := { ty := tys, fn := [], lp := [], n := 10, k := 0 }
theorem spec_l00Max.hC : CtxOK Try.prog spec_l00Max.C := CtxOK.of mo tys_ok FnsOK.nil
theorem spec_l00Max.lp : LpOK Try.prog spec_l00Max.C spec_l00Max.b := (LpOK.nil (by kernel_rfl))
noncomputable def spec_l00Max.t (x0 : Int) (x1 : Int) : T Int :=
  .br (decide (x0 > x1))
  (.leaf x0)
  (.leaf x1)
noncomputable def spec_l00Max (x0 : Int) (x1 : Int) : Int := (spec_l00Max.t x0 x1).val
def spec_l00Max.cd : Cd (Int × Int) (List V × Hp) := Cd.iso (Cd.pair (Cd.cons (Cd.it .i64) (Cd.cons (Cd.it .i64) Cd.nil)) Cd.nil) (fun a => (a.1.1, a.1.2.1)) (fun a => ((a.1, (a.2, ())), ())) (fun _ => rfl)
noncomputable def spec_l00Max.tr (a : Int × Int) : T Int := spec_l00Max.t a.1 a.2
def spec_l00Max.enc : (Int × Int) → Int → V := fun a r => .it .i64 r
noncomputable def spec_l00Max.c : List V → Hp → T V := cdQ spec_l00Max.cd (fun a => .leaf (spec_l00Max.enc a (spec_l00Max a.1 a.2)))
theorem spec_l00Max.run (a : Int × Int) : runF spec_l00Max.C Try.f73.results.toList spec_l00Max.b (spec_l00Max.cd.enc a).1 (spec_l00Max.cd.enc a).2 = (spec_l00Max.tr a).map fun r => (spec_l00Max.enc a r, (spec_l00Max.cd.enc a).2) := by kernel_rfl
theorem spec_l00Max.cok : OKq Try.prog 73 spec_l00Max.c := con_q' spec_l00Max.cd spec_l00Max.hC Try.func73 (by kernel_rfl) (by kernel_rfl) (by kernel_rfl) spec_l00Max.lp (fun a => by kernel_rfl) spec_l00Max.run (Tells.val (tree := spec_l00Max.tr) fun a => by kernel_rfl)
/-! ### spec_l00Min -/
noncomputable def spec_l00Min.b : Code := bodyOf Try.f74
noncomputable def spec_l00Min.C : Ctx := { ty := tys, fn := [], lp := [], n := 10, k := 0 }
theorem spec_l00Min.hC : CtxOK Try.prog spec_l00Min.C := CtxOK.of mo tys_ok FnsOK.nil
theorem spec_l00Min.lp : LpOK Try.prog spec_l00Min.C spec_l00Min.b := (LpOK.nil (by kernel_rfl))
noncomputable def spec_l00Min.t (x0 : Int) (x1 : Int) : T Int :=
  .br (decide (x0 < x1))
  (.leaf x0)
  (.leaf x1)
noncomputable def spec_l00Min (x0 : Int) (x1 : Int) : Int := (spec_l00Min.t x0 x1).val
def spec_l00Min.cd : Cd (Int × Int) (List V × Hp) := Cd.iso (Cd.pair (Cd.cons (Cd.it .i64) (Cd.cons (Cd.it .i64) Cd.nil)) Cd.nil) (fun a => (a.1.1, a.1.2.1)) (fun a => ((a.1, (a.2, ())), ())) (fun _ => rfl)
noncomputable def spec_l00Min.tr (a : Int × Int) : T Int := spec_l00Min.t a.1 a.2
def spec_l00Min.enc : (Int × Int) → Int → V := fun a r => .it .i64 r
noncomputable def spec_l00Min.c : List V → Hp → T V := cdQ spec_l00Min.cd (fun a => .leaf (spec_l00Min.enc a (spec_l00Min a.1 a.2)))
theorem spec_l00Min.run (a : Int × Int) : runF spec_l00Min.C Try.f74.results.toList spec_l00Min.b (spec_l00Min.cd.enc a).1 (spec_l00Min.cd.enc a).2 = (spec_l00Min.tr a).map fun r => (spec_l00Min.enc a r, (spec_l00Min.cd.enc a).2) := by kernel_rfl
theorem spec_l00Min.cok : OKq Try.prog 74 spec_l00Min.c := con_q' spec_l00Min.cd spec_l00Min.hC Try.func74 (by kernel_rfl) (by kernel_rfl) (by kernel_rfl) spec_l00Min.lp (fun a => by kernel_rfl) spec_l00Min.run (Tells.val (tree := spec_l00Min.tr) fun a => by kernel_rfl)
/-! ### spec_l03Gate -/
noncomputable def spec_l03Gate.b : Code := bodyOf Try.f61
noncomputable def spec_l03Gate.C : Ctx := { ty := tys, fn := [(73, .q spec_l00Max.c), (74, .q spec_l00Min.c)], lp := [], n := 26, k := 0 }
theorem spec_l03Gate.hC : CtxOK Try.prog spec_l03Gate.C := CtxOK.of mo tys_ok (FnsOK.cons spec_l00Max.cok (FnsOK.cons spec_l00Min.cok FnsOK.nil))
theorem spec_l03Gate.lp : LpOK Try.prog spec_l03Gate.C spec_l03Gate.b := (LpOK.nil (by kernel_rfl))
noncomputable def spec_l03Gate.t (x0 : Int) (x1 : Nat) (x2 : Nat) (x3 : Nat) (x4 : Nat) (x5 : Nat) (x6 : Nat) (x7 : Nat) (x8 : Nat) (x9 : Int) : T Int :=
  .br (fgt .f32 x8 x6)
  (.leaf (spec_l00Max (0 : Int) (IntKind.wrap .i64 ((IntKind.wrap .i64 x9) - (1 : Int)))))
  (.br (flt .f32 x8 x5)
   (.leaf (spec_l00Min (16 : Int) (IntKind.wrap .i64 ((IntKind.wrap .i64 x9) + (1 : Int)))))
   (.leaf (IntKind.wrap .i64 x9)))
noncomputable def spec_l03Gate (x0 : Int) (x1 : Nat) (x2 : Nat) (x3 : Nat) (x4 : Nat) (x5 : Nat) (x6 : Nat) (x7 : Nat) (x8 : Nat) (x9 : Int) : Int := (spec_l03Gate.t x0 x1 x2 x3 x4 x5 x6 x7 x8 x9).val
def spec_l03Gate.cd : Cd (Int × Nat × Nat × Nat × Nat × Nat × Nat × Nat × Nat × Int) (List V × Hp) := Cd.iso (Cd.pair (Cd.cons (Cd.agg (Cd.cons (Cd.it .i16) (Cd.cons (Cd.fl .f32) (Cd.cons (Cd.fl .f32) (Cd.cons (Cd.fl .f32) (Cd.cons (Cd.fl .f32) (Cd.cons (Cd.fl .f32) (Cd.cons (Cd.fl .f32) (Cd.cons (Cd.fl .f32) Cd.nil))))))))) (Cd.cons (Cd.agg (Cd.cons (Cd.fl .f32) (Cd.cons (Cd.it .i8) Cd.nil))) Cd.nil)) Cd.nil) (fun a => (a.1.1.1, a.1.1.2.1, a.1.1.2.2.1, a.1.1.2.2.2.1, a.1.1.2.2.2.2.1, a.1.1.2.2.2.2.2.1, a.1.1.2.2.2.2.2.2.1, a.1.1.2.2.2.2.2.2.2.1, a.1.2.1.1, a.1.2.1.2.1)) (fun a => (((a.1, (a.2.1, (a.2.2.1, (a.2.2.2.1, (a.2.2.2.2.1, (a.2.2.2.2.2.1, (a.2.2.2.2.2.2.1, (a.2.2.2.2.2.2.2.1, ())))))))), ((a.2.2.2.2.2.2.2.2.1, (a.2.2.2.2.2.2.2.2.2, ())), ())), ())) (fun _ => rfl)
noncomputable def spec_l03Gate.tr (a : Int × Nat × Nat × Nat × Nat × Nat × Nat × Nat × Nat × Int) : T Int := spec_l03Gate.t a.1 a.2.1 a.2.2.1 a.2.2.2.1 a.2.2.2.2.1 a.2.2.2.2.2.1 a.2.2.2.2.2.2.1 a.2.2.2.2.2.2.2.1 a.2.2.2.2.2.2.2.2.1 a.2.2.2.2.2.2.2.2.2
def spec_l03Gate.enc : (Int × Nat × Nat × Nat × Nat × Nat × Nat × Nat × Nat × Int) → Int → V := fun a r => .it .i64 r
noncomputable def spec_l03Gate.c : List V → Hp → T V := cdQ spec_l03Gate.cd (fun a => .leaf (spec_l03Gate.enc a (spec_l03Gate a.1 a.2.1 a.2.2.1 a.2.2.2.1 a.2.2.2.2.1 a.2.2.2.2.2.1 a.2.2.2.2.2.2.1 a.2.2.2.2.2.2.2.1 a.2.2.2.2.2.2.2.2.1 a.2.2.2.2.2.2.2.2.2)))
theorem spec_l03Gate.run (a : Int × Nat × Nat × Nat × Nat × Nat × Nat × Nat × Nat × Int) : runF spec_l03Gate.C Try.f61.results.toList spec_l03Gate.b (spec_l03Gate.cd.enc a).1 (spec_l03Gate.cd.enc a).2 = (spec_l03Gate.tr a).map fun r => (spec_l03Gate.enc a r, (spec_l03Gate.cd.enc a).2) := by kernel_rfl
theorem spec_l03Gate.cok : OKq Try.prog 61 spec_l03Gate.c := con_q' spec_l03Gate.cd spec_l03Gate.hC Try.func61 (by kernel_rfl) (by kernel_rfl) (by kernel_rfl) spec_l03Gate.lp (fun a => by kernel_rfl) spec_l03Gate.run (Tells.val (tree := spec_l03Gate.tr) fun a => by kernel_rfl)
/-! ### spec_l03Root -/
noncomputable def spec_l03Root.b : Code := bodyOf Try.f80
noncomputable def spec_l03Root.C : Ctx := { ty := tys, fn := [(79, .q math_Sqrt.c)], lp := [], n := 7, k := 0 }
theorem spec_l03Root.hC : CtxOK Try.prog spec_l03Root.C := CtxOK.of mo tys_ok (FnsOK.cons math_Sqrt.cok FnsOK.nil)
theorem spec_l03Root.lp : LpOK Try.prog spec_l03Root.C spec_l03Root.b := (LpOK.nil (by kernel_rfl))
noncomputable def spec_l03Root.t (x0 : Nat) : T Nat :=
  .br (fcvOpen .f32 .f64 x0)
  .bad
  (.br (fcvOpen .f64 .f32 (math_Sqrt (fcv .f32 .f64 x0)))
   .bad
   (.leaf (fcv .f64 .f32 (math_Sqrt (fcv .f32 .f64 x0)))))
noncomputable def spec_l03Root (x0 : Nat) : Nat := (spec_l03Root.t x0).val
noncomputable def spec_l03Root.ok (x0 : Nat) : Bool := (spec_l03Root.t x0).ok
def spec_l03Root.cd : Cd Nat (List V × Hp) := Cd.iso (Cd.pair (Cd.cons (Cd.fl .f32) Cd.nil) Cd.nil) (fun a => a.1.1) (fun a => ((a, ()), ())) (fun _ => rfl)
noncomputable def spec_l03Root.tr (a : Nat) : T Nat := spec_l03Root.t a
def spec_l03Root.enc : Nat → Nat → V := fun a r => .fl .f32 r
noncomputable def spec_l03Root.c : List V → Hp → T V := cdQ spec_l03Root.cd (fun a => .br (spec_l03Root.ok a) (.leaf (spec_l03Root.enc a (spec_l03Root a))) .bad)
theorem spec_l03Root.run (a : Nat) : runF spec_l03Root.C Try.f80.results.toList spec_l03Root.b (spec_l03Root.cd.enc a).1 (spec_l03Root.cd.enc a).2 = (spec_l03Root.tr a).map fun r => (spec_l03Root.enc a r, (spec_l03Root.cd.enc a).2) := by kernel_rfl
theorem spec_l03Root.cok : OKq Try.prog 80 spec_l03Root.c := con_q' spec_l03Root.cd spec_l03Root.hC Try.func80 (by kernel_rfl) (by kernel_rfl) (by kernel_rfl) spec_l03Root.lp (fun a => by kernel_rfl) spec_l03Root.run (Tells.ok (tree := spec_l03Root.tr))
/-! ### spec_l03Fast -/
noncomputable def spec_l03Fast.b : Code := bodyOf Try.f78
noncomputable def spec_l03Fast.C : Ctx := { ty := tys, fn := [(80, .q spec_l03Root.c)], lp := [], n := 6, k := 0 }
theorem spec_l03Fast.hC : CtxOK Try.prog spec_l03Fast.C := CtxOK.of mo tys_ok (FnsOK.cons spec_l03Root.cok FnsOK.nil)
theorem spec_l03Fast.lp : LpOK Try.prog spec_l03Fast.C spec_l03Fast.b := (LpOK.nil (by kernel_rfl))
noncomputable def spec_l03Fast.t (x0 : Nat) : T Nat :=
  .br (spec_l03Root.ok (fmul .f32 1100808192 x0))
  (.leaf (spec_l03Root (fmul .f32 1100808192 x0)))
  .bad
noncomputable def spec_l03Fast (x0 : Nat) : Nat := (spec_l03Fast.t x0).val
noncomputable def spec_l03Fast.ok (x0 : Nat) : Bool := (spec_l03Fast.t x0).ok
def spec_l03Fast.cd : Cd Nat (List V × Hp) := Cd.iso (Cd.pair (Cd.cons (Cd.fl .f32) Cd.nil) Cd.nil) (fun a => a.1.1) (fun a => ((a, ()), ())) (fun _ => rfl)
noncomputable def spec_l03Fast.tr (a : Nat) : T Nat := spec_l03Fast.t a
def spec_l03Fast.enc : Nat → Nat → V := fun a r => .fl .f32 r
noncomputable def spec_l03Fast.c : List V → Hp → T V := cdQ spec_l03Fast.cd (fun a => .br (spec_l03Fast.ok a) (.leaf (spec_l03Fast.enc a (spec_l03Fast a))) .bad)
theorem spec_l03Fast.run (a : Nat) : runF spec_l03Fast.C Try.f78.results.toList spec_l03Fast.b (spec_l03Fast.cd.enc a).1 (spec_l03Fast.cd.enc a).2 = (spec_l03Fast.tr a).map fun r => (spec_l03Fast.enc a r, (spec_l03Fast.cd.enc a).2) := by kernel_rfl
theorem spec_l03Fast.cok : OKq Try.prog 78 spec_l03Fast.c := con_q' spec_l03Fast.cd spec_l03Fast.hC Try.func78 (by kernel_rfl) (by kernel_rfl) (by kernel_rfl) spec_l03Fast.lp (fun a => by kernel_rfl) spec_l03Fast.run (Tells.ok (tree := spec_l03Fast.tr))
/-! ### spec_l03Flow -/
noncomputable def spec_l03Flow.b : Code := bodyOf Try.f68
noncomputable def spec_l03Flow.C : Ctx := { ty := tys, fn := [(78, .q spec_l03Fast.c)], lp := [], n := 15, k := 0 }
theorem spec_l03Flow.hC : CtxOK Try.prog spec_l03Flow.C := CtxOK.of mo tys_ok (FnsOK.cons spec_l03Fast.cok FnsOK.nil)
theorem spec_l03Flow.lp : LpOK Try.prog spec_l03Flow.C spec_l03Flow.b := (LpOK.nil (by kernel_rfl))
noncomputable def spec_l03Flow.t (x0 : Nat) (x1 : Nat) (x2 : Int) : T Nat :=
  .br (spec_l03Fast.ok x1)
  (.leaf (fmul .f32 (fdiv .f32 (fmul .f32 x0 (fofint .f32 x2)) 1098907648) (spec_l03Fast x1)))
  .bad
noncomputable def spec_l03Flow (x0 : Nat) (x1 : Nat) (x2 : Int) : Nat := (spec_l03Flow.t x0 x1 x2).val
noncomputable def spec_l03Flow.ok (x0 : Nat) (x1 : Nat) (x2 : Int) : Bool := (spec_l03Flow.t x0 x1 x2).ok
def spec_l03Flow.cd : Cd (Nat × Nat × Int) (List V × Hp) := Cd.iso (Cd.pair (Cd.cons (Cd.fl .f32) (Cd.cons (Cd.fl .f32) (Cd.cons (Cd.it .i64) Cd.nil))) Cd.nil) (fun a => (a.1.1, a.1.2.1, a.1.2.2.1)) (fun a => ((a.1, (a.2.1, (a.2.2, ()))), ())) (fun _ => rfl)
noncomputable def spec_l03Flow.tr (a : Nat × Nat × Int) : T Nat := spec_l03Flow.t a.1 a.2.1 a.2.2
def spec_l03Flow.enc : (Nat × Nat × Int) → Nat → V := fun a r => .fl .f32 r
noncomputable def spec_l03Flow.c : List V → Hp → T V := cdQ spec_l03Flow.cd (fun a => .br (spec_l03Flow.ok a.1 a.2.1 a.2.2) (.leaf (spec_l03Flow.enc a (spec_l03Flow a.1 a.2.1 a.2.2))) .bad)
theorem spec_l03Flow.run (a : Nat × Nat × Int) : runF spec_l03Flow.C Try.f68.results.toList spec_l03Flow.b (spec_l03Flow.cd.enc a).1 (spec_l03Flow.cd.enc a).2 = (spec_l03Flow.tr a).map fun r => (spec_l03Flow.enc a r, (spec_l03Flow.cd.enc a).2) := by kernel_rfl
theorem spec_l03Flow.cok : OKq Try.prog 68 spec_l03Flow.c := con_q' spec_l03Flow.cd spec_l03Flow.hC Try.func68 (by kernel_rfl) (by kernel_rfl) (by kernel_rfl) spec_l03Flow.lp (fun a => by kernel_rfl) spec_l03Flow.run (Tells.ok (tree := spec_l03Flow.tr))
/-! ### spec_l03Fill -/
noncomputable def spec_l03Fill.b : Code := bodyOf Try.f77
noncomputable def spec_l03Fill.C : Ctx := { ty := tys, fn := [], lp := [], n := 28, k := 0 }
theorem spec_l03Fill.hC : CtxOK Try.prog spec_l03Fill.C := CtxOK.of mo tys_ok FnsOK.nil
theorem spec_l03Fill.lp : LpOK Try.prog spec_l03Fill.C spec_l03Fill.b := (LpOK.nil (by kernel_rfl))
noncomputable def spec_l03Fill.t (x0 : Int) (x1 : Nat) (x2 : Nat) (x3 : Nat) (x4 : Nat) : T Nat :=
  .br (feq .f32 x3 0)
  (.leaf 0)
  (.br (feq .f32 x4 0)
   (.leaf x1)
   (.br (fgt .f32 (fdiv .f32 x3 (fmul .f32 x4 (fofint .f32 x0))) x1)
    (.leaf x1)
    (.leaf (fdiv .f32 x3 (fmul .f32 x4 (fofint .f32 x0))))))
noncomputable def spec_l03Fill (x0 : Int) (x1 : Nat) (x2 : Nat) (x3 : Nat) (x4 : Nat) : Nat := (spec_l03Fill.t x0 x1 x2 x3 x4).val
def spec_l03Fill.cd : Cd (Int × Nat × Nat × Nat × Nat) (List V × Hp) := Cd.iso (Cd.pair (Cd.cons (Cd.agg (Cd.cons (Cd.it .i16) (Cd.cons (Cd.fl .f32) (Cd.cons (Cd.fl .f32) Cd.nil)))) (Cd.cons (Cd.fl .f32) (Cd.cons (Cd.fl .f32) Cd.nil))) Cd.nil) (fun a => (a.1.1.1, a.1.1.2.1, a.1.1.2.2.1, a.1.2.1, a.1.2.2.1)) (fun a => (((a.1, (a.2.1, (a.2.2.1, ()))), (a.2.2.2.1, (a.2.2.2.2, ()))), ())) (fun _ => rfl)
noncomputable def spec_l03Fill.tr (a : Int × Nat × Nat × Nat × Nat) : T Nat := spec_l03Fill.t a.1 a.2.1 a.2.2.1 a.2.2.2.1 a.2.2.2.2
def spec_l03Fill.enc : (Int × Nat × Nat × Nat × Nat) → Nat → V := fun a r => .fl .f32 r
noncomputable def spec_l03Fill.c : List V → Hp → T V := cdQ spec_l03Fill.cd (fun a => .leaf (spec_l03Fill.enc a (spec_l03Fill a.1 a.2.1 a.2.2.1 a.2.2.2.1 a.2.2.2.2)))
theorem spec_l03Fill.run (a : Int × Nat × Nat × Nat × Nat) : runF spec_l03Fill.C Try.f77.results.toList spec_l03Fill.b (spec_l03Fill.cd.enc a).1 (spec_l03Fill.cd.enc a).2 = (spec_l03Fill.tr a).map fun r => (spec_l03Fill.enc a r, (spec_l03Fill.cd.enc a).2) := by kernel_rfl
theorem spec_l03Fill.cok : OKq Try.prog 77 spec_l03Fill.c := con_q' spec_l03Fill.cd spec_l03Fill.hC Try.func77 (by kernel_rfl) (by kernel_rfl) (by kernel_rfl) spec_l03Fill.lp (fun a => by kernel_rfl) spec_l03Fill.run (Tells.val (tree := spec_l03Fill.tr) fun a => by kernel_rfl)
/-! ### spec_l03Torque -/
noncomputable def spec_l03Torque.b : Code := bodyOf Try.f67
noncomputable def spec_l03Torque.C : Ctx := { ty := tys, fn := [(77, .q spec_l03Fill.c)], lp := [], n := 23, k := 0 }
theorem spec_l03Torque.hC : CtxOK Try.prog spec_l03Torque.C := CtxOK.of mo tys_ok (FnsOK.cons spec_l03Fill.cok FnsOK.nil)
theorem spec_l03Torque.lp : LpOK Try.prog spec_l03Torque.C spec_l03Torque.b := (LpOK.nil (by kernel_rfl))
noncomputable def spec_l03Torque.t (x0 : Int) (x1 : Nat) (x2 : Nat) (x3 : Nat) (x4 : Nat) : T Nat :=
  .leaf (fmul .f32 (fmul .f32 (fmul .f32 (fmul .f32 (spec_l03Fill x0 x1 x2 x3 x4) 1092419584) (fofint .f32 (IntKind.wrap .i16 (Int.tdiv x0 (2 : Int))))) x2) 1059061760)
noncomputable def spec_l03Torque (x0 : Int) (x1 : Nat) (x2 : Nat) (x3 : Nat) (x4 : Nat) : Nat := (spec_l03Torque.t x0 x1 x2 x3 x4).val
def spec_l03Torque.cd : Cd (Int × Nat × Nat × Nat × Nat) (List V × Hp) := Cd.iso (Cd.pair (Cd.cons (Cd.agg (Cd.cons (Cd.it .i16) (Cd.cons (Cd.fl .f32) (Cd.cons (Cd.fl .f32) Cd.nil)))) (Cd.cons (Cd.fl .f32) (Cd.cons (Cd.fl .f32) Cd.nil))) Cd.nil) (fun a => (a.1.1.1, a.1.1.2.1, a.1.1.2.2.1, a.1.2.1, a.1.2.2.1)) (fun a => (((a.1, (a.2.1, (a.2.2.1, ()))), (a.2.2.2.1, (a.2.2.2.2, ()))), ())) (fun _ => rfl)
noncomputable def spec_l03Torque.tr (a : Int × Nat × Nat × Nat × Nat) : T Nat := spec_l03Torque.t a.1 a.2.1 a.2.2.1 a.2.2.2.1 a.2.2.2.2
def spec_l03Torque.enc : (Int × Nat × Nat × Nat × Nat) → Nat → V := fun a r => .fl .f32 r
noncomputable def spec_l03Torque.c : List V → Hp → T V := cdQ spec_l03Torque.cd (fun a => .leaf (spec_l03Torque.enc a (spec_l03Torque a.1 a.2.1 a.2.2.1 a.2.2.2.1 a.2.2.2.2)))
theorem spec_l03Torque.run (a : Int × Nat × Nat × Nat × Nat) : runF spec_l03Torque.C Try.f67.results.toList spec_l03Torque.b (spec_l03Torque.cd.enc a).1 (spec_l03Torque.cd.enc a).2 = (spec_l03Torque.tr a).map fun r => (spec_l03Torque.enc a r, (spec_l03Torque.cd.enc a).2) := by kernel_rfl
theorem spec_l03Torque.cok : OKq Try.prog 67 spec_l03Torque.c := con_q' spec_l03Torque.cd spec_l03Torque.hC Try.func67 (by kernel_rfl) (by kernel_rfl) (by kernel_rfl) spec_l03Torque.lp (fun a => by kernel_rfl) spec_l03Torque.run (Tells.val (tree := spec_l03Torque.tr) fun a => by kernel_rfl)
/-! ### spec_l03At -/
noncomputable def spec_l03At.b : Code := bodyOf Try.f51
noncomputable def spec_l03At.C : Ctx := { ty := tys, fn := [(68, .q spec_l03Flow.c), (67, .q spec_l03Torque.c)], lp := [], n := 17, k := 0 }
theorem spec_l03At.hC : CtxOK Try.prog spec_l03At.C := CtxOK.of mo tys_ok (FnsOK.cons spec_l03Flow.cok (FnsOK.cons spec_l03Torque.cok FnsOK.nil))
theorem spec_l03At.lp : LpOK Try.prog spec_l03At.C spec_l03At.b := (LpOK.nil (by kernel_rfl))
noncomputable def spec_l03At.t (x0 : Int) (x1 : Nat) (x2 : Nat) (x3 : Nat) (x4 : Nat) (x5 : Nat) (x6 : Nat) (x7 : Nat) (x8 : Nat) (x9 : Int) : T Nat :=
  .br (spec_l03Flow.ok x3 x4 x9)
  (.leaf (spec_l03Torque x0 x1 x2 (spec_l03Flow x3 x4 x9) x8))
  .bad
noncomputable def spec_l03At (x0 : Int) (x1 : Nat) (x2 : Nat) (x3 : Nat) (x4 : Nat) (x5 : Nat) (x6 : Nat) (x7 : Nat) (x8 : Nat) (x9 : Int) : Nat := (spec_l03At.t x0 x1 x2 x3 x4 x5 x6 x7 x8 x9).val
noncomputable def spec_l03At.ok (x0 : Int) (x1 : Nat) (x2 : Nat) (x3 : Nat) (x4 : Nat) (x5 : Nat) (x6 : Nat) (x7 : Nat) (x8 : Nat) (x9 : Int) : Bool := (spec_l03At.t x0 x1 x2 x3 x4 x5 x6 x7 x8 x9).ok
def spec_l03At.cd : Cd (Int × Nat × Nat × Nat × Nat × Nat × Nat × Nat × Nat × Int) (List V × Hp) := Cd.iso (Cd.pair (Cd.cons (Cd.agg (Cd.cons (Cd.it .i16) (Cd.cons (Cd.fl .f32) (Cd.cons (Cd.fl .f32) (Cd.cons (Cd.fl .f32) (Cd.cons (Cd.fl .f32) (Cd.cons (Cd.fl .f32) (Cd.cons (Cd.fl .f32) (Cd.cons (Cd.fl .f32) Cd.nil))))))))) (Cd.cons (Cd.fl .f32) (Cd.cons (Cd.it .i64) Cd.nil))) Cd.nil) (fun a => (a.1.1.1, a.1.1.2.1, a.1.1.2.2.1, a.1.1.2.2.2.1, a.1.1.2.2.2.2.1, a.1.1.2.2.2.2.2.1, a.1.1.2.2.2.2.2.2.1, a.1.1.2.2.2.2.2.2.2.1, a.1.2.1, a.1.2.2.1)) (fun a => (((a.1, (a.2.1, (a.2.2.1, (a.2.2.2.1, (a.2.2.2.2.1, (a.2.2.2.2.2.1, (a.2.2.2.2.2.2.1, (a.2.2.2.2.2.2.2.1, ())))))))), (a.2.2.2.2.2.2.2.2.1, (a.2.2.2.2.2.2.2.2.2, ()))), ())) (fun _ => rfl)
noncomputable def spec_l03At.tr (a : Int × Nat × Nat × Nat × Nat × Nat × Nat × Nat × Nat × Int) : T Nat := spec_l03At.t a.1 a.2.1 a.2.2.1 a.2.2.2.1 a.2.2.2.2.1 a.2.2.2.2.2.1 a.2.2.2.2.2.2.1 a.2.2.2.2.2.2.2.1 a.2.2.2.2.2.2.2.2.1 a.2.2.2.2.2.2.2.2.2
def spec_l03At.enc : (Int × Nat × Nat × Nat × Nat × Nat × Nat × Nat × Nat × Int) → Nat → V := fun a r => .fl .f32 r
noncomputable def spec_l03At.c : List V → Hp → T V := cdQ spec_l03At.cd (fun a => .br (spec_l03At.ok a.1 a.2.1 a.2.2.1 a.2.2.2.1 a.2.2.2.2.1 a.2.2.2.2.2.1 a.2.2.2.2.2.2.1 a.2.2.2.2.2.2.2.1 a.2.2.2.2.2.2.2.2.1 a.2.2.2.2.2.2.2.2.2) (.leaf (spec_l03At.enc a (spec_l03At a.1 a.2.1 a.2.2.1 a.2.2.2.1 a.2.2.2.2.1 a.2.2.2.2.2.1 a.2.2.2.2.2.2.1 a.2.2.2.2.2.2.2.1 a.2.2.2.2.2.2.2.2.1 a.2.2.2.2.2.2.2.2.2))) .bad)
theorem spec_l03At.run (a : Int × Nat × Nat × Nat × Nat × Nat × Nat × Nat × Nat × Int) : runF spec_l03At.C Try.f51.results.toList spec_l03At.b (spec_l03At.cd.enc a).1 (spec_l03At.cd.enc a).2 = (spec_l03At.tr a).map fun r => (spec_l03At.enc a r, (spec_l03At.cd.enc a).2) := by kernel_rfl
theorem spec_l03At.cok : OKq Try.prog 51 spec_l03At.c := con_q' spec_l03At.cd spec_l03At.hC Try.func51 (by kernel_rfl) (by kernel_rfl) (by kernel_rfl) spec_l03At.lp (fun a => by kernel_rfl) spec_l03At.run (Tells.ok (tree := spec_l03At.tr))
/-! ### spec_l03Least -/
noncomputable def spec_l03Least.b : Code := bodyOf Try.f62
noncomputable def spec_l03Least.C : Ctx := { ty := tys, fn := [], lp := [], n := 6, k := 0 }
theorem spec_l03Least.hC : CtxOK Try.prog spec_l03Least.C := CtxOK.of mo tys_ok FnsOK.nil
theorem spec_l03Least.lp : LpOK Try.prog spec_l03Least.C spec_l03Least.b := (LpOK.nil (by kernel_rfl))
noncomputable def spec_l03Least.t (x0 : Nat) : T Nat :=
  .br (fgt .f32 x0 0)
  (.leaf x0)
  (.leaf 0)
noncomputable def spec_l03Least (x0 : Nat) : Nat := (spec_l03Least.t x0).val
def spec_l03Least.cd : Cd Nat (List V × Hp) := Cd.iso (Cd.pair (Cd.cons (Cd.fl .f32) Cd.nil) Cd.nil) (fun a => a.1.1) (fun a => ((a, ()), ())) (fun _ => rfl)
noncomputable def spec_l03Least.tr (a : Nat) : T Nat := spec_l03Least.t a
def spec_l03Least.enc : Nat → Nat → V := fun a r => .fl .f32 r
noncomputable def spec_l03Least.c : List V → Hp → T V := cdQ spec_l03Least.cd (fun a => .leaf (spec_l03Least.enc a (spec_l03Least a)))
theorem spec_l03Least.run (a : Nat) : runF spec_l03Least.C Try.f62.results.toList spec_l03Least.b (spec_l03Least.cd.enc a).1 (spec_l03Least.cd.enc a).2 = (spec_l03Least.tr a).map fun r => (spec_l03Least.enc a r, (spec_l03Least.cd.enc a).2) := by kernel_rfl
theorem spec_l03Least.cok : OKq Try.prog 62 spec_l03Least.c := con_q' spec_l03Least.cd spec_l03Least.hC Try.func62 (by kernel_rfl) (by kernel_rfl) (by kernel_rfl) spec_l03Least.lp (fun a => by kernel_rfl) spec_l03Least.run (Tells.val (tree := spec_l03Least.tr) fun a => by kernel_rfl)
/-! ### spec_l03Tick -/
noncomputable def spec_l03Tick.b : Code := bodyOf Try.f37
noncomputable def spec_l03Tick.C : Ctx := { ty := tys, fn := [(61, .q spec_l03Gate.c), (51, .q spec_l03At.c), (62, .q spec_l03Least.c)], lp := [], n := 32, k := 0 }
theorem spec_l03Tick.hC : CtxOK Try.prog spec_l03Tick.C := CtxOK.of mo tys_ok (FnsOK.cons spec_l03Gate.cok (FnsOK.cons spec_l03At.cok (FnsOK.cons spec_l03Least.cok FnsOK.nil)))
theorem spec_l03Tick.lp : LpOK Try.prog spec_l03Tick.C spec_l03Tick.b := (LpOK.nil (by kernel_rfl))
noncomputable def spec_l03Tick.t (x0 : Int) (x1 : Nat) (x2 : Nat) (x3 : Nat) (x4 : Nat) (x5 : Nat) (x6 : Nat) (x7 : Nat) (x8 : Nat) (x9 : Int) (x10 : Nat) : T (Nat × Int) :=
  .br (spec_l03At.ok x0 x1 x2 x3 x4 x5 x6 x7 x8 (spec_l03Gate x0 x1 x2 x3 x4 x5 x6 x7 x8 x9))
  (.br (fgt .f32 (fadd .f32 x8 (fdiv .f32 (fsub .f32 (spec_l03At x0 x1 x2 x3 x4 x5 x6 x7 x8 (spec_l03Gate x0 x1 x2 x3 x4 x5 x6 x7 x8 x9)) x10) x7)) 1149239296)
   (.leaf ((spec_l03Least 1149239296), (IntKind.wrap .i8 (spec_l03Gate x0 x1 x2 x3 x4 x5 x6 x7 x8 x9))))
   (.leaf ((spec_l03Least (fadd .f32 x8 (fdiv .f32 (fsub .f32 (spec_l03At x0 x1 x2 x3 x4 x5 x6 x7 x8 (spec_l03Gate x0 x1 x2 x3 x4 x5 x6 x7 x8 x9)) x10) x7))), (IntKind.wrap .i8 (spec_l03Gate x0 x1 x2 x3 x4 x5 x6 x7 x8 x9)))))
  .bad
noncomputable def spec_l03Tick (x0 : Int) (x1 : Nat) (x2 : Nat) (x3 : Nat) (x4 : Nat) (x5 : Nat) (x6 : Nat) (x7 : Nat) (x8 : Nat) (x9 : Int) (x10 : Nat) : Nat × Int := (spec_l03Tick.t x0 x1 x2 x3 x4 x5 x6 x7 x8 x9 x10).val
noncomputable def spec_l03Tick.ok (x0 : Int) (x1 : Nat) (x2 : Nat) (x3 : Nat) (x4 : Nat) (x5 : Nat) (x6 : Nat) (x7 : Nat) (x8 : Nat) (x9 : Int) (x10 : Nat) : Bool := (spec_l03Tick.t x0 x1 x2 x3 x4 x5 x6 x7 x8 x9 x10).ok
def spec_l03Tick.cd : Cd (Int × Nat × Nat × Nat × Nat × Nat × Nat × Nat × Nat × Int × Nat) (List V × Hp) := Cd.iso (Cd.pair (Cd.cons (Cd.agg (Cd.cons (Cd.it .i16) (Cd.cons (Cd.fl .f32) (Cd.cons (Cd.fl .f32) (Cd.cons (Cd.fl .f32) (Cd.cons (Cd.fl .f32) (Cd.cons (Cd.fl .f32) (Cd.cons (Cd.fl .f32) (Cd.cons (Cd.fl .f32) Cd.nil))))))))) (Cd.cons (Cd.agg (Cd.cons (Cd.fl .f32) (Cd.cons (Cd.it .i8) Cd.nil))) (Cd.cons (Cd.fl .f32) Cd.nil))) Cd.nil) (fun a => (a.1.1.1, a.1.1.2.1, a.1.1.2.2.1, a.1.1.2.2.2.1, a.1.1.2.2.2.2.1, a.1.1.2.2.2.2.2.1, a.1.1.2.2.2.2.2.2.1, a.1.1.2.2.2.2.2.2.2.1, a.1.2.1.1, a.1.2.1.2.1, a.1.2.2.1)) (fun a => (((a.1, (a.2.1, (a.2.2.1, (a.2.2.2.1, (a.2.2.2.2.1, (a.2.2.2.2.2.1, (a.2.2.2.2.2.2.1, (a.2.2.2.2.2.2.2.1, ())))))))), ((a.2.2.2.2.2.2.2.2.1, (a.2.2.2.2.2.2.2.2.2.1, ())), (a.2.2.2.2.2.2.2.2.2.2, ()))), ())) (fun _ => rfl)
noncomputable def spec_l03Tick.tr (a : Int × Nat × Nat × Nat × Nat × Nat × Nat × Nat × Nat × Int × Nat) : T (Nat × Int) := spec_l03Tick.t a.1 a.2.1 a.2.2.1 a.2.2.2.1 a.2.2.2.2.1 a.2.2.2.2.2.1 a.2.2.2.2.2.2.1 a.2.2.2.2.2.2.2.1 a.2.2.2.2.2.2.2.2.1 a.2.2.2.2.2.2.2.2.2.1 a.2.2.2.2.2.2.2.2.2.2
def spec_l03Tick.enc : (Int × Nat × Nat × Nat × Nat × Nat × Nat × Nat × Nat × Int × Nat) → (Nat × Int) → V := fun a r => .agg [.fl .f32 r.1, .it .i8 r.2]
noncomputable def spec_l03Tick.c : List V → Hp → T V := cdQ spec_l03Tick.cd (fun a => .br (spec_l03Tick.ok a.1 a.2.1 a.2.2.1 a.2.2.2.1 a.2.2.2.2.1 a.2.2.2.2.2.1 a.2.2.2.2.2.2.1 a.2.2.2.2.2.2.2.1 a.2.2.2.2.2.2.2.2.1 a.2.2.2.2.2.2.2.2.2.1 a.2.2.2.2.2.2.2.2.2.2) (.leaf (spec_l03Tick.enc a (spec_l03Tick a.1 a.2.1 a.2.2.1 a.2.2.2.1 a.2.2.2.2.1 a.2.2.2.2.2.1 a.2.2.2.2.2.2.1 a.2.2.2.2.2.2.2.1 a.2.2.2.2.2.2.2.2.1 a.2.2.2.2.2.2.2.2.2.1 a.2.2.2.2.2.2.2.2.2.2))) .bad)
theorem spec_l03Tick.run (a : Int × Nat × Nat × Nat × Nat × Nat × Nat × Nat × Nat × Int × Nat) : runF spec_l03Tick.C Try.f37.results.toList spec_l03Tick.b (spec_l03Tick.cd.enc a).1 (spec_l03Tick.cd.enc a).2 = (spec_l03Tick.tr a).map fun r => (spec_l03Tick.enc a r, (spec_l03Tick.cd.enc a).2) := by kernel_rfl
theorem spec_l03Tick.cok : OKq Try.prog 37 spec_l03Tick.c := con_q' spec_l03Tick.cd spec_l03Tick.hC Try.func37 (by kernel_rfl) (by kernel_rfl) (by kernel_rfl) spec_l03Tick.lp (fun a => by kernel_rfl) spec_l03Tick.run (Tells.ok (tree := spec_l03Tick.tr))
/-! ### spec_TickAll -/
noncomputable def spec_TickAll.b : Code := bodyOf Try.f9
noncomputable def spec_TickAll.l6.s (x0 : Nat) (x1 : Nat) (x2 : Int) (x3 : List Nat) (x4 : Int) (x5 : Nat) (x6 : Nat) (x7 : Nat) (x8 : Nat) (x9 : Nat) (x10 : Nat) (x11 : Nat) (x12 : Nat) (x13 : Int) (x14 : List (List Sc)) : T (Int ⊕ (Int ⊕ Unit)) :=
  .br (decide (x2 < ((x0 : Nat) : Int)))
  (.br (bounds x2 x0)
   (.br (Nat.ble ((Int.toNat x2 * 1) + 1) (List.length x3))
    (.br (!(spec_l03Amount (List.getD x3 (Int.toNat x2 * 1) 0)))
     (.leaf (.inr (.inl (2 : Int))))
     (.leaf (.inl (IntKind.wrap .i64 (x2 + (1 : Int))))))
    .bad)
   .bad)
  (.leaf (.inr (.inr ())))
noncomputable def spec_TickAll.l6.st (p : Nat × Nat × List Nat × Int × Nat × Nat × Nat × Nat × Nat × Nat × Nat × Nat × Int × List (List Sc)) (x : Int) : T (Int ⊕ (Int ⊕ Unit)) := spec_TickAll.l6.s p.1 p.2.1 x p.2.2.1 p.2.2.2.1 p.2.2.2.2.1 p.2.2.2.2.2.1 p.2.2.2.2.2.2.1 p.2.2.2.2.2.2.2.1 p.2.2.2.2.2.2.2.2.1 p.2.2.2.2.2.2.2.2.2.1 p.2.2.2.2.2.2.2.2.2.2.1 p.2.2.2.2.2.2.2.2.2.2.2.1 p.2.2.2.2.2.2.2.2.2.2.2.2.1 p.2.2.2.2.2.2.2.2.2.2.2.2.2
noncomputable def spec_TickAll.l6.r (p : Nat × Nat × List Nat × Int × Nat × Nat × Nat × Nat × Nat × Nat × Nat × Nat × Int × List (List Sc)) (x : Int) : Option (Int ⊕ Unit) := iterT (spec_TickAll.l6.st p) manyRounds x
def spec_TickAll.l6.cd : Cd ((Nat × Nat × List Nat × Int × Nat × Nat × Nat × Nat × Nat × Nat × Nat × Nat × Int × List (List Sc)) × Int) (List V × Hp) := Cd.iso (Cd.pair (Cd.cons (Cd.own 0) (Cd.cons (Cd.pt 1 (Cd.natc 0)) (Cd.cons (Cd.pt 2 (Cd.natc 0)) (Cd.cons (Cd.own 3) (Cd.cons (Cd.it .i64) Cd.nil))))) (Cd.cons (Cd.rw 25 1 (Cd.fs .f32)) (Cd.cons (Cd.rw 29 8 (Cd.vs (Cd.cons (Cd.it .i16) (Cd.cons (Cd.fl .f32) (Cd.cons (Cd.fl .f32) (Cd.cons (Cd.fl .f32) (Cd.cons (Cd.fl .f32) (Cd.cons (Cd.fl .f32) (Cd.cons (Cd.fl .f32) (Cd.cons (Cd.fl .f32) Cd.nil)))))))))) (Cd.cons (Cd.rw 33 2 (Cd.vs (Cd.cons (Cd.fl .f32) (Cd.cons (Cd.it .i8) Cd.nil)))) (Cd.cons (Cd.rw 33 2 (Cd.mx [.fl .f32, .it .i8])) Cd.nil))))) (fun a => ((a.1.1, a.1.2.2.2.1, a.2.1, a.2.2.1.1, a.2.2.1.2.1, a.2.2.1.2.2.1, a.2.2.1.2.2.2.1, a.2.2.1.2.2.2.2.1, a.2.2.1.2.2.2.2.2.1, a.2.2.1.2.2.2.2.2.2.1, a.2.2.1.2.2.2.2.2.2.2.1, a.2.2.2.1.1, a.2.2.2.1.2.1, a.2.2.2.2.1), a.1.2.2.2.2.1)) (fun a => ((a.1.1, ((), ((), (a.1.2.1, (a.2, ()))))), (a.1.2.2.1, ((a.1.2.2.2.1, (a.1.2.2.2.2.1, (a.1.2.2.2.2.2.1, (a.1.2.2.2.2.2.2.1, (a.1.2.2.2.2.2.2.2.1, (a.1.2.2.2.2.2.2.2.2.1, (a.1.2.2.2.2.2.2.2.2.2.1, (a.1.2.2.2.2.2.2.2.2.2.2.1, ())))))))), ((a.1.2.2.2.2.2.2.2.2.2.2.2.1, (a.1.2.2.2.2.2.2.2.2.2.2.2.2.1, ())), (a.1.2.2.2.2.2.2.2.2.2.2.2.2.2, ())))))) (fun _ => rfl)
def spec_TickAll.l6.out (p : Nat × Nat × List Nat × Int × Nat × Nat × Nat × Nat × Nat × Nat × Nat × Nat × Int × List (List Sc)) : (Int ⊕ Unit) → X × List V × Hp := sumO (fun r => (.ret, [.own 0 p.1, .pt 1 0, .pt 2 0, .own 3 p.2.1, .it .i64 r, .own 3 p.2.1], [some ⟨true, 25, 1, .fs .f32 p.2.2.1⟩, some ⟨true, 29, 8, .vs [.it .i16 p.2.2.2.1, .fl .f32 p.2.2.2.2.1, .fl .f32 p.2.2.2.2.2.1, .fl .f32 p.2.2.2.2.2.2.1, .fl .f32 p.2.2.2.2.2.2.2.1, .fl .f32 p.2.2.2.2.2.2.2.2.1, .fl .f32 p.2.2.2.2.2.2.2.2.2.1, .fl .f32 p.2.2.2.2.2.2.2.2.2.2.1]⟩, some ⟨true, 33, 2, .vs [.fl .f32 p.2.2.2.2.2.2.2.2.2.2.2.1, .it .i8 p.2.2.2.2.2.2.2.2.2.2.2.2.1]⟩, some ⟨true, 33, 2, .mx [.fl .f32, .it .i8] p.2.2.2.2.2.2.2.2.2.2.2.2.2⟩])) (fun r => (.ex 0, [.own 0 p.1, .pt 1 0, .pt 2 0, .unk, .unk, .own 3 p.2.1], [some ⟨true, 25, 1, .fs .f32 p.2.2.1⟩, some ⟨true, 29, 8, .vs [.it .i16 p.2.2.2.1, .fl .f32 p.2.2.2.2.1, .fl .f32 p.2.2.2.2.2.1, .fl .f32 p.2.2.2.2.2.2.1, .fl .f32 p.2.2.2.2.2.2.2.1, .fl .f32 p.2.2.2.2.2.2.2.2.1, .fl .f32 p.2.2.2.2.2.2.2.2.2.1, .fl .f32 p.2.2.2.2.2.2.2.2.2.2.1]⟩, some ⟨true, 33, 2, .vs [.fl .f32 p.2.2.2.2.2.2.2.2.2.2.2.1, .it .i8 p.2.2.2.2.2.2.2.2.2.2.2.2.1]⟩, some ⟨true, 33, 2, .mx [.fl .f32, .it .i8] p.2.2.2.2.2.2.2.2.2.2.2.2.2⟩]))
def spec_TickAll.l6.ex (p : Nat × Nat × List Nat × Int × Nat × Nat × Nat × Nat × Nat × Nat × Nat × Nat × Int × List (List Sc)) : (Int ⊕ Unit) → T (X × List V × Hp) := sumT (leafT (fun r => (.ret, [.own 0 p.1, .pt 1 0, .pt 2 0, .own 3 p.2.1, .it .i64 r, .own 3 p.2.1], [some ⟨true, 25, 1, .fs .f32 p.2.2.1⟩, some ⟨true, 29, 8, .vs [.it .i16 p.2.2.2.1, .fl .f32 p.2.2.2.2.1, .fl .f32 p.2.2.2.2.2.1, .fl .f32 p.2.2.2.2.2.2.1, .fl .f32 p.2.2.2.2.2.2.2.1, .fl .f32 p.2.2.2.2.2.2.2.2.1, .fl .f32 p.2.2.2.2.2.2.2.2.2.1, .fl .f32 p.2.2.2.2.2.2.2.2.2.2.1]⟩, some ⟨true, 33, 2, .vs [.fl .f32 p.2.2.2.2.2.2.2.2.2.2.2.1, .it .i8 p.2.2.2.2.2.2.2.2.2.2.2.2.1]⟩, some ⟨true, 33, 2, .mx [.fl .f32, .it .i8] p.2.2.2.2.2.2.2.2.2.2.2.2.2⟩]))) (leafT (fun r => (.ex 0, [.own 0 p.1, .pt 1 0, .pt 2 0, .unk, .unk, .own 3 p.2.1], [some ⟨true, 25, 1, .fs .f32 p.2.2.1⟩, some ⟨true, 29, 8, .vs [.it .i16 p.2.2.2.1, .fl .f32 p.2.2.2.2.1, .fl .f32 p.2.2.2.2.2.1, .fl .f32 p.2.2.2.2.2.2.1, .fl .f32 p.2.2.2.2.2.2.2.1, .fl .f32 p.2.2.2.2.2.2.2.2.1, .fl .f32 p.2.2.2.2.2.2.2.2.2.1, .fl .f32 p.2.2.2.2.2.2.2.2.2.2.1]⟩, some ⟨true, 33, 2, .vs [.fl .f32 p.2.2.2.2.2.2.2.2.2.2.2.1, .it .i8 p.2.2.2.2.2.2.2.2.2.2.2.2.1]⟩, some ⟨true, 33, 2, .mx [.fl .f32, .it .i8] p.2.2.2.2.2.2.2.2.2.2.2.2.2⟩])))
noncomputable def spec_TickAll.l6.c : List V → Hp → T (X × List V × Hp) := cdL spec_TickAll.l6.cd fun x => optT (spec_TickAll.l6.r x.1 x.2) (spec_TickAll.l6.ex x.1)
noncomputable def spec_TickAll.l13.s (x0 : Nat) (x1 : Nat) (x2 : Int) (x3 : List Nat) (x4 : Int) (x5 : Nat) (x6 : Nat) (x7 : Nat) (x8 : Nat) (x9 : Nat) (x10 : Nat) (x11 : Nat) (x12 : Nat) (x13 : Int) (x14 : List (List Sc)) : T ((Nat × Int × Nat × Int × List (List Sc)) ⊕ (Nat × List (List Sc))) :=
  .br (decide (x2 < ((x0 : Nat) : Int)))
  (.br (bounds x2 x0)
   (.br (Nat.ble ((Int.toNat x2 * 1) + 1) (List.length x3))
    (.br (spec_l03Tick.ok x4 x5 x6 x7 x8 x9 x10 x11 x12 x13 (List.getD x3 (Int.toNat x2 * 1) 0))
     (.br ((Nat.beq 2 (List.length [[Sc.n ((spec_l03Tick x4 x5 x6 x7 x8 x9 x10 x11 x12 x13 (List.getD x3 (Int.toNat x2 * 1) 0)).1), Sc.i ((spec_l03Tick x4 x5 x6 x7 x8 x9 x10 x11 x12 x13 (List.getD x3 (Int.toNat x2 * 1) 0)).2)]] * 2)) && (Nat.beq (List.length x14 * 2) (x1 * 2) && Nat.ble ((x1 + 1) * 8) 35184372088832 && Nat.ble (x1 + 1) 35184372088832))
      (.leaf (.inl ((x1 + 1), (IntKind.wrap .i64 (x2 + (1 : Int))), (spec_l03Tick x4 x5 x6 x7 x8 x9 x10 x11 x12 x13 (List.getD x3 (Int.toNat x2 * 1) 0)).1, (spec_l03Tick x4 x5 x6 x7 x8 x9 x10 x11 x12 x13 (List.getD x3 (Int.toNat x2 * 1) 0)).2, (x14 ++ [[Sc.n ((spec_l03Tick x4 x5 x6 x7 x8 x9 x10 x11 x12 x13 (List.getD x3 (Int.toNat x2 * 1) 0)).1), Sc.i ((spec_l03Tick x4 x5 x6 x7 x8 x9 x10 x11 x12 x13 (List.getD x3 (Int.toNat x2 * 1) 0)).2)]]))))
      .bad)
     .bad)
    .bad)
   .bad)
  (.leaf (.inr (x1, x14)))
noncomputable def spec_TickAll.l13.st (p : Nat × List Nat × Int × Nat × Nat × Nat × Nat × Nat × Nat × Nat) (x : Nat × Int × Nat × Int × List (List Sc)) : T ((Nat × Int × Nat × Int × List (List Sc)) ⊕ (Nat × List (List Sc))) := spec_TickAll.l13.s p.1 x.1 x.2.1 p.2.1 p.2.2.1 p.2.2.2.1 p.2.2.2.2.1 p.2.2.2.2.2.1 p.2.2.2.2.2.2.1 p.2.2.2.2.2.2.2.1 p.2.2.2.2.2.2.2.2.1 p.2.2.2.2.2.2.2.2.2 x.2.2.1 x.2.2.2.1 x.2.2.2.2
noncomputable def spec_TickAll.l13.r (p : Nat × List Nat × Int × Nat × Nat × Nat × Nat × Nat × Nat × Nat) (x : Nat × Int × Nat × Int × List (List Sc)) : Option (Nat × List (List Sc)) := iterT (spec_TickAll.l13.st p) manyRounds x
def spec_TickAll.l13.cd : Cd ((Nat × List Nat × Int × Nat × Nat × Nat × Nat × Nat × Nat × Nat) × (Nat × Int × Nat × Int × List (List Sc))) (List V × Hp) := Cd.iso (Cd.pair (Cd.cons (Cd.own 0) (Cd.cons (Cd.pt 1 (Cd.natc 0)) (Cd.cons (Cd.pt 2 (Cd.natc 0)) (Cd.cons (Cd.own 3) (Cd.cons (Cd.it .i64) Cd.nil))))) (Cd.cons (Cd.rw 25 1 (Cd.fs .f32)) (Cd.cons (Cd.rw 29 8 (Cd.vs (Cd.cons (Cd.it .i16) (Cd.cons (Cd.fl .f32) (Cd.cons (Cd.fl .f32) (Cd.cons (Cd.fl .f32) (Cd.cons (Cd.fl .f32) (Cd.cons (Cd.fl .f32) (Cd.cons (Cd.fl .f32) (Cd.cons (Cd.fl .f32) Cd.nil)))))))))) (Cd.cons (Cd.rw 33 2 (Cd.vs (Cd.cons (Cd.fl .f32) (Cd.cons (Cd.it .i8) Cd.nil)))) (Cd.cons (Cd.rw 33 2 (Cd.mx [.fl .f32, .it .i8])) Cd.nil))))) (fun a => ((a.1.1, a.2.1, a.2.2.1.1, a.2.2.1.2.1, a.2.2.1.2.2.1, a.2.2.1.2.2.2.1, a.2.2.1.2.2.2.2.1, a.2.2.1.2.2.2.2.2.1, a.2.2.1.2.2.2.2.2.2.1, a.2.2.1.2.2.2.2.2.2.2.1), (a.1.2.2.2.1, a.1.2.2.2.2.1, a.2.2.2.1.1, a.2.2.2.1.2.1, a.2.2.2.2.1))) (fun a => ((a.1.1, ((), ((), (a.2.1, (a.2.2.1, ()))))), (a.1.2.1, ((a.1.2.2.1, (a.1.2.2.2.1, (a.1.2.2.2.2.1, (a.1.2.2.2.2.2.1, (a.1.2.2.2.2.2.2.1, (a.1.2.2.2.2.2.2.2.1, (a.1.2.2.2.2.2.2.2.2.1, (a.1.2.2.2.2.2.2.2.2.2, ())))))))), ((a.2.2.2.1, (a.2.2.2.2.1, ())), (a.2.2.2.2.2, ())))))) (fun _ => rfl)
def spec_TickAll.l13.out (p : Nat × List Nat × Int × Nat × Nat × Nat × Nat × Nat × Nat × Nat) : (Nat × List (List Sc)) → X × List V × Hp := (fun r => (.ex 2, [.own 1 r.1], [some ⟨true, 25, 1, .fs .f32 p.2.1⟩, some ⟨true, 33, 2, .mx [.fl .f32, .it .i8] r.2⟩]))
def spec_TickAll.l13.ex (p : Nat × List Nat × Int × Nat × Nat × Nat × Nat × Nat × Nat × Nat) : (Nat × List (List Sc)) → T (X × List V × Hp) := leafT (fun r => (.ex 2, [.own 1 r.1], [some ⟨true, 25, 1, .fs .f32 p.2.1⟩, some ⟨true, 33, 2, .mx [.fl .f32, .it .i8] r.2⟩]))
noncomputable def spec_TickAll.l13.c : List V → Hp → T (X × List V × Hp) := cdL spec_TickAll.l13.cd fun x => optT (spec_TickAll.l13.r x.1 x.2) (spec_TickAll.l13.ex x.1)
noncomputable def spec_TickAll.C : Ctx := { ty := tys, fn := [(35, .q spec_l03Both.c), (36, .q spec_l03Amount.c), (37, .q spec_l03Tick.c)], lp := [(6, ⟨[2, 3, 4, 8, 10], [2, 3, 4, 6, 7, 8], spec_TickAll.l6.c⟩), (13, ⟨[2, 3, 4, 8, 11], [8], spec_TickAll.l13.c⟩)], n := 55, k := 1 }
theorem spec_TickAll.hC : CtxOK Try.prog spec_TickAll.C := CtxOK.of mo tys_ok (FnsOK.cons spec_l03Both.cok (FnsOK.cons spec_l03Amount.cok (FnsOK.cons spec_l03Tick.cok FnsOK.nil)))
noncomputable def spec_TickAll.b6 : Code := (nthC (loopsOf spec_TickAll.b) 0)
theorem spec_TickAll.lp6 : LpOK Try.prog spec_TickAll.C spec_TickAll.b6 := (LpOK.nil (by kernel_rfl))
theorem spec_TickAll.l6.round (p : Nat × Nat × List Nat × Int × Nat × Nat × Nat × Nat × Nat × Nat × Nat × Nat × Int × List (List Sc)) (s : Int) : roundL spec_TickAll.C [2, 3, 4, 8, 10] [2, 3, 4, 6, 7, 8] spec_TickAll.b6 (spec_TickAll.l6.cd.enc (p, s)).1 (spec_TickAll.l6.cd.enc (p, s)).2 = (spec_TickAll.l6.st p s).map (encSum (fun s => spec_TickAll.l6.cd.enc (p, s)) (spec_TickAll.l6.out p)) := by kernel_rfl
theorem spec_TickAll.l6.lok : LoopOK Try.prog spec_TickAll.C ⟨[2, 3, 4, 8, 10], [2, 3, 4, 6, 7, 8], spec_TickAll.l6.c⟩ spec_TickAll.b6 := loop_cd spec_TickAll.l6.cd spec_TickAll.hC spec_TickAll.lp6 spec_TickAll.l6.round fun p => (Gets.sum Gets.leaf Gets.leaf)
noncomputable def spec_TickAll.b13 : Code := (nthC (loopsOf spec_TickAll.b) 1)
theorem spec_TickAll.lp13 : LpOK Try.prog spec_TickAll.C spec_TickAll.b13 := (LpOK.nil (by kernel_rfl))
theorem spec_TickAll.l13.round (p : Nat × List Nat × Int × Nat × Nat × Nat × Nat × Nat × Nat × Nat) (s : Nat × Int × Nat × Int × List (List Sc)) : roundL spec_TickAll.C [2, 3, 4, 8, 11] [8] spec_TickAll.b13 (spec_TickAll.l13.cd.enc (p, s)).1 (spec_TickAll.l13.cd.enc (p, s)).2 = (spec_TickAll.l13.st p s).map (encSum (fun s => spec_TickAll.l13.cd.enc (p, s)) (spec_TickAll.l13.out p)) := by kernel_rfl
theorem spec_TickAll.l13.lok : LoopOK Try.prog spec_TickAll.C ⟨[2, 3, 4, 8, 11], [8], spec_TickAll.l13.c⟩ spec_TickAll.b13 := loop_cd spec_TickAll.l13.cd spec_TickAll.hC spec_TickAll.lp13 spec_TickAll.l13.round fun p => Gets.leaf
theorem spec_TickAll.lp : LpOK Try.prog spec_TickAll.C spec_TickAll.b := lp_of (by kernel_rfl) (LpsOK.cons (k := 6) (by kernel_rfl) (by kernel_rfl) spec_TickAll.l6.lok (LpsOK.cons (k := 13) (by kernel_rfl) (by kernel_rfl) spec_TickAll.l13.lok LpsOK.nil))
noncomputable def spec_TickAll.t (x0 : Int) (x1 : Nat) (x2 : Nat) (x3 : Nat) (x4 : Nat) (x5 : Nat) (x6 : Nat) (x7 : Nat) (x8 : Nat) (x9 : Int) (x10 : Nat) (x11 : List Nat) : T (Nat × Int × List (List Sc)) :=
  .br ((spec_l03Both x0 x1 x2 x3 x4 x5 x6 x7 x8 x9) != (0 : Int))
  (.leaf (0, (spec_l03Both x0 x1 x2 x3 x4 x5 x6 x7 x8 x9), []))
  (.br (Option.isSome (spec_TickAll.l6.r (x10, 0, x11, x0, x1, x2, x3, x4, x5, x6, x7, x8, x9, []) (0 : Int)))
   (.br (Sum.isLeft (Option.getD (spec_TickAll.l6.r (x10, 0, x11, x0, x1, x2, x3, x4, x5, x6, x7, x8, x9, []) (0 : Int)) default))
    (.leaf (0, (getLeftD (Option.getD (spec_TickAll.l6.r (x10, 0, x11, x0, x1, x2, x3, x4, x5, x6, x7, x8, x9, []) (0 : Int)) default)), []))
    (.br (decide (((x10 : Nat) : Int) > (100 : Int)))
     (.leaf (0, (3 : Int), []))
     (.br (Option.isSome (spec_TickAll.l13.r (x10, x11, x0, x1, x2, x3, x4, x5, x6, x7) (0, (0 : Int), x8, x9, [])))
      (.leaf ((Option.getD (spec_TickAll.l13.r (x10, x11, x0, x1, x2, x3, x4, x5, x6, x7) (0, (0 : Int), x8, x9, [])) default).1, (0 : Int), (Option.getD (spec_TickAll.l13.r (x10, x11, x0, x1, x2, x3, x4, x5, x6, x7) (0, (0 : Int), x8, x9, [])) default).2))
      .bad)))
   .bad)
noncomputable def spec_TickAll (x0 : Int) (x1 : Nat) (x2 : Nat) (x3 : Nat) (x4 : Nat) (x5 : Nat) (x6 : Nat) (x7 : Nat) (x8 : Nat) (x9 : Int) (x10 : Nat) (x11 : List Nat) : Nat × Int × List (List Sc) := (spec_TickAll.t x0 x1 x2 x3 x4 x5 x6 x7 x8 x9 x10 x11).val
noncomputable def spec_TickAll.ok (x0 : Int) (x1 : Nat) (x2 : Nat) (x3 : Nat) (x4 : Nat) (x5 : Nat) (x6 : Nat) (x7 : Nat) (x8 : Nat) (x9 : Int) (x10 : Nat) (x11 : List Nat) : Bool := (spec_TickAll.t x0 x1 x2 x3 x4 x5 x6 x7 x8 x9 x10 x11).ok
def spec_TickAll.cd : Cd (Int × Nat × Nat × Nat × Nat × Nat × Nat × Nat × Nat × Int × Nat × List Nat) (List V × Hp) := Cd.iso (Cd.pair (Cd.cons (Cd.agg (Cd.cons (Cd.it .i16) (Cd.cons (Cd.fl .f32) (Cd.cons (Cd.fl .f32) (Cd.cons (Cd.fl .f32) (Cd.cons (Cd.fl .f32) (Cd.cons (Cd.fl .f32) (Cd.cons (Cd.fl .f32) (Cd.cons (Cd.fl .f32) Cd.nil))))))))) (Cd.cons (Cd.agg (Cd.cons (Cd.fl .f32) (Cd.cons (Cd.it .i8) Cd.nil))) (Cd.cons (Cd.own 0) Cd.nil))) (Cd.cons (Cd.rw 25 1 (Cd.fs .f32)) Cd.nil)) (fun a => (a.1.1.1, a.1.1.2.1, a.1.1.2.2.1, a.1.1.2.2.2.1, a.1.1.2.2.2.2.1, a.1.1.2.2.2.2.2.1, a.1.1.2.2.2.2.2.2.1, a.1.1.2.2.2.2.2.2.2.1, a.1.2.1.1, a.1.2.1.2.1, a.1.2.2.1, a.2.1)) (fun a => (((a.1, (a.2.1, (a.2.2.1, (a.2.2.2.1, (a.2.2.2.2.1, (a.2.2.2.2.2.1, (a.2.2.2.2.2.2.1, (a.2.2.2.2.2.2.2.1, ())))))))), ((a.2.2.2.2.2.2.2.2.1, (a.2.2.2.2.2.2.2.2.2.1, ())), (a.2.2.2.2.2.2.2.2.2.2.1, ()))), (a.2.2.2.2.2.2.2.2.2.2.2, ()))) (fun _ => rfl)
noncomputable def spec_TickAll.tr (a : Int × Nat × Nat × Nat × Nat × Nat × Nat × Nat × Nat × Int × Nat × List Nat) : T (Nat × Int × List (List Sc)) := spec_TickAll.t a.1 a.2.1 a.2.2.1 a.2.2.2.1 a.2.2.2.2.1 a.2.2.2.2.2.1 a.2.2.2.2.2.2.1 a.2.2.2.2.2.2.2.1 a.2.2.2.2.2.2.2.2.1 a.2.2.2.2.2.2.2.2.2.1 a.2.2.2.2.2.2.2.2.2.2.1 a.2.2.2.2.2.2.2.2.2.2.2
def spec_TickAll.enc : (Int × Nat × Nat × Nat × Nat × Nat × Nat × Nat × Nat × Int × Nat × List Nat) → (Nat × Int × List (List Sc)) → V × Hp := fun a r => (.tup [.own 1 r.1, .it .i64 r.2.1], [some ⟨true, 25, 1, .fs .f32 a.2.2.2.2.2.2.2.2.2.2.2⟩, some ⟨true, 33, 2, .mx [.fl .f32, .it .i8] r.2.2⟩])
noncomputable def spec_TickAll.c : List V → Hp → T (V × Hp) := cdE spec_TickAll.cd (fun a => .br (spec_TickAll.ok a.1 a.2.1 a.2.2.1 a.2.2.2.1 a.2.2.2.2.1 a.2.2.2.2.2.1 a.2.2.2.2.2.2.1 a.2.2.2.2.2.2.2.1 a.2.2.2.2.2.2.2.2.1 a.2.2.2.2.2.2.2.2.2.1 a.2.2.2.2.2.2.2.2.2.2.1 a.2.2.2.2.2.2.2.2.2.2.2) (.leaf (spec_TickAll.enc a (spec_TickAll a.1 a.2.1 a.2.2.1 a.2.2.2.1 a.2.2.2.2.1 a.2.2.2.2.2.1 a.2.2.2.2.2.2.1 a.2.2.2.2.2.2.2.1 a.2.2.2.2.2.2.2.2.1 a.2.2.2.2.2.2.2.2.2.1 a.2.2.2.2.2.2.2.2.2.2.1 a.2.2.2.2.2.2.2.2.2.2.2))) .bad)
theorem spec_TickAll.run (a : Int × Nat × Nat × Nat × Nat × Nat × Nat × Nat × Nat × Int × Nat × List Nat) : runF spec_TickAll.C Try.f9.results.toList spec_TickAll.b (spec_TickAll.cd.enc a).1 (spec_TickAll.cd.enc a).2 = (spec_TickAll.tr a).map (spec_TickAll.enc a) := by kernel_rfl
theorem spec_TickAll.cok : OKe Try.prog 9 spec_TickAll.c := con_e' spec_TickAll.cd spec_TickAll.hC Try.func9 (by kernel_rfl) (by kernel_rfl) (by kernel_rfl) spec_TickAll.lp (fun a => by kernel_rfl) spec_TickAll.run (Tells.ok (tree := spec_TickAll.tr))
/-! ### spec_SameStates -/
noncomputable def spec_SameStates.b : Code := bodyOf Try.f10
noncomputable def spec_SameStates.l4.s (x0 : Nat) (x1 : Int) (x2 : List (List Sc)) : T (Unit ⊕ Unit) :=
  .br (decide (x1 < ((0 : Nat) : Int)))
  .bad
  (.leaf (.inr ()))
noncomputable def spec_SameStates.l4.st (p : Nat × Int × List (List Sc)) (x : Unit) : T (Unit ⊕ Unit) := spec_SameStates.l4.s p.1 p.2.1 p.2.2
noncomputable def spec_SameStates.l4.r (p : Nat × Int × List (List Sc)) (x : Unit) : Option Unit := iterT (spec_SameStates.l4.st p) manyRounds x
def spec_SameStates.l4.cd : Cd ((Nat × Int × List (List Sc)) × Unit) (List V × Hp) := Cd.iso (Cd.pair (Cd.cons Cd.sn (Cd.cons (Cd.own 0) (Cd.cons (Cd.it .i64) Cd.nil))) (Cd.cons (Cd.rw 33 2 (Cd.mx [.fl .f32, .it .i8])) Cd.nil)) (fun a => ((a.1.2.1, a.1.2.2.1, a.2.1), ())) (fun a => (((), (a.1.1, (a.1.2.1, ()))), (a.1.2.2, ()))) (fun _ => rfl)
def spec_SameStates.l4.out (p : Nat × Int × List (List Sc)) : Unit → X × List V × Hp := (fun r => (.ex 0, [.unk], [some ⟨true, 33, 2, .mx [.fl .f32, .it .i8] p.2.2⟩]))
def spec_SameStates.l4.ex (p : Nat × Int × List (List Sc)) : Unit → T (X × List V × Hp) := leafT (fun r => (.ex 0, [.unk], [some ⟨true, 33, 2, .mx [.fl .f32, .it .i8] p.2.2⟩]))
noncomputable def spec_SameStates.l4.c : List V → Hp → T (X × List V × Hp) := cdL spec_SameStates.l4.cd fun x => optT (spec_SameStates.l4.r x.1 x.2) (spec_SameStates.l4.ex x.1)
noncomputable def spec_SameStates.C : Ctx := { ty := tys, fn := [], lp := [(4, ⟨[0, 1, 5], [4], spec_SameStates.l4.c⟩)], n := 27, k := 1 }
theorem spec_SameStates.hC : CtxOK Try.prog spec_SameStates.C := CtxOK.of mo tys_ok FnsOK.nil
noncomputable def spec_SameStates.b4 : Code := (nthC (loopsOf spec_SameStates.b) 0)
theorem spec_SameStates.lp4 : LpOK Try.prog spec_SameStates.C spec_SameStates.b4 := (LpOK.nil (by kernel_rfl))
theorem spec_SameStates.l4.round (p : Nat × Int × List (List Sc)) (s : Unit) : roundL spec_SameStates.C [0, 1, 5] [4] spec_SameStates.b4 (spec_SameStates.l4.cd.enc (p, s)).1 (spec_SameStates.l4.cd.enc (p, s)).2 = (spec_SameStates.l4.st p s).map (encSum (fun s => spec_SameStates.l4.cd.enc (p, s)) (spec_SameStates.l4.out p)) := by kernel_rfl
theorem spec_SameStates.l4.lok : LoopOK Try.prog spec_SameStates.C ⟨[0, 1, 5], [4], spec_SameStates.l4.c⟩ spec_SameStates.b4 := loop_cd spec_SameStates.l4.cd spec_SameStates.hC spec_SameStates.lp4 spec_SameStates.l4.round fun p => Gets.leaf
theorem spec_SameStates.lp : LpOK Try.prog spec_SameStates.C spec_SameStates.b := lp_of (by kernel_rfl) (LpsOK.cons (k := 4) (by kernel_rfl) (by kernel_rfl) spec_SameStates.l4.lok LpsOK.nil)
noncomputable def spec_SameStates.t (x0 : Nat) (x1 : List (List Sc)) : T Bool :=
  .br (((0 : Nat) : Int) != ((x0 : Nat) : Int))
  (.leaf false)
  (.br (Option.isSome (spec_SameStates.l4.r (x0, (0 : Int), x1) ()))
   (.leaf true)
   .bad)
noncomputable def spec_SameStates (x0 : Nat) (x1 : List (List Sc)) : Bool := (spec_SameStates.t x0 x1).val
noncomputable def spec_SameStates.ok (x0 : Nat) (x1 : List (List Sc)) : Bool := (spec_SameStates.t x0 x1).ok
def spec_SameStates.cd : Cd (Nat × List (List Sc)) (List V × Hp) := Cd.iso (Cd.pair (Cd.cons Cd.sn (Cd.cons (Cd.own 0) Cd.nil)) (Cd.cons (Cd.rw 33 2 (Cd.mx [.fl .f32, .it .i8])) Cd.nil)) (fun a => (a.1.2.1, a.2.1)) (fun a => (((), (a.1, ())), (a.2, ()))) (fun _ => rfl)
noncomputable def spec_SameStates.tr (a : Nat × List (List Sc)) : T Bool := spec_SameStates.t a.1 a.2
def spec_SameStates.enc : (Nat × List (List Sc)) → Bool → V := fun a r => .bo r
noncomputable def spec_SameStates.c : List V → Hp → T V := cdQ spec_SameStates.cd (fun a => .br (spec_SameStates.ok a.1 a.2) (.leaf (spec_SameStates.enc a (spec_SameStates a.1 a.2))) .bad)
theorem spec_SameStates.run (a : Nat × List (List Sc)) : runF spec_SameStates.C Try.f10.results.toList spec_SameStates.b (spec_SameStates.cd.enc a).1 (spec_SameStates.cd.enc a).2 = (spec_SameStates.tr a).map fun r => (spec_SameStates.enc a r, (spec_SameStates.cd.enc a).2) := by kernel_rfl
theorem spec_SameStates.cok : OKq Try.prog 10 spec_SameStates.c := con_q' spec_SameStates.cd spec_SameStates.hC Try.func10 (by kernel_rfl) (by kernel_rfl) (by kernel_rfl) spec_SameStates.lp (fun a => by kernel_rfl) spec_SameStates.run (Tells.ok (tree := spec_SameStates.tr))
/-! ### slices_IndexFunc_float32_float32_w1 -/
noncomputable def slices_IndexFunc_float32_float32_w1.b : Code := bodyOf Try.f69
noncomputable def slices_IndexFunc_float32_float32_w1.l2.s (x0 : Int) (x1 : Int) : T (Unit ⊕ Unit) :=
  .br (decide (x1 < x0))
  .bad
  (.leaf (.inr ()))
noncomputable def slices_IndexFunc_float32_float32_w1.l2.st (p : Int × Int) (x : Unit) : T (Unit ⊕ Unit) := slices_IndexFunc_float32_float32_w1.l2.s p.1 p.2
noncomputable def slices_IndexFunc_float32_float32_w1.l2.r (p : Int × Int) (x : Unit) : Option Unit := iterT (slices_IndexFunc_float32_float32_w1.l2.st p) manyRounds x
def slices_IndexFunc_float32_float32_w1.l2.cd : Cd ((Int × Int) × Unit) (List V × Hp) := Cd.iso (Cd.pair (Cd.cons Cd.sn (Cd.cons (Cd.fu 56 Cd.nil) (Cd.cons (Cd.it .i64) (Cd.cons (Cd.it .i64) Cd.nil)))) Cd.nil) (fun a => ((a.1.2.2.1, a.1.2.2.2.1), ())) (fun a => (((), ((), (a.1.1, (a.1.2, ())))), ())) (fun _ => rfl)
def slices_IndexFunc_float32_float32_w1.l2.out (p : Int × Int) : Unit → X × List V × Hp := (fun r => (.ex 0, [.unk], []))
def slices_IndexFunc_float32_float32_w1.l2.ex (p : Int × Int) : Unit → T (X × List V × Hp) := leafT (fun r => (.ex 0, [.unk], []))
noncomputable def slices_IndexFunc_float32_float32_w1.l2.c : List V → Hp → T (X × List V × Hp) := cdL slices_IndexFunc_float32_float32_w1.l2.cd fun x => optT (slices_IndexFunc_float32_float32_w1.l2.r x.1 x.2) (slices_IndexFunc_float32_float32_w1.l2.ex x.1)
noncomputable def slices_IndexFunc_float32_float32_w1.C : Ctx := { ty := tys, fn := [], lp := [(2, ⟨[0, 1, 7, 8], [4], slices_IndexFunc_float32_float32_w1.l2.c⟩)], n := 19, k := 0 }
theorem slices_IndexFunc_float32_float32_w1.hC : CtxOK Try.prog slices_IndexFunc_float32_float32_w1.C := CtxOK.of mo tys_ok FnsOK.nil
noncomputable def slices_IndexFunc_float32_float32_w1.b2 : Code := (nthC (loopsOf slices_IndexFunc_float32_float32_w1.b) 0)
theorem slices_IndexFunc_float32_float32_w1.lp2 : LpOK Try.prog slices_IndexFunc_float32_float32_w1.C slices_IndexFunc_float32_float32_w1.b2 := (LpOK.nil (by kernel_rfl))
theorem slices_IndexFunc_float32_float32_w1.l2.round (p : Int × Int) (s : Unit) : roundL slices_IndexFunc_float32_float32_w1.C [0, 1, 7, 8] [4] slices_IndexFunc_float32_float32_w1.b2 (slices_IndexFunc_float32_float32_w1.l2.cd.enc (p, s)).1 (slices_IndexFunc_float32_float32_w1.l2.cd.enc (p, s)).2 = (slices_IndexFunc_float32_float32_w1.l2.st p s).map (encSum (fun s => slices_IndexFunc_float32_float32_w1.l2.cd.enc (p, s)) (slices_IndexFunc_float32_float32_w1.l2.out p)) := by kernel_rfl
theorem slices_IndexFunc_float32_float32_w1.l2.lok : LoopOK Try.prog slices_IndexFunc_float32_float32_w1.C ⟨[0, 1, 7, 8], [4], slices_IndexFunc_float32_float32_w1.l2.c⟩ slices_IndexFunc_float32_float32_w1.b2 := loop_cd slices_IndexFunc_float32_float32_w1.l2.cd slices_IndexFunc_float32_float32_w1.hC slices_IndexFunc_float32_float32_w1.lp2 slices_IndexFunc_float32_float32_w1.l2.round fun p => Gets.leaf
theorem slices_IndexFunc_float32_float32_w1.lp : LpOK Try.prog slices_IndexFunc_float32_float32_w1.C slices_IndexFunc_float32_float32_w1.b := lp_of (by kernel_rfl) (LpsOK.cons (k := 2) (by kernel_rfl) (by kernel_rfl) slices_IndexFunc_float32_float32_w1.l2.lok LpsOK.nil)
noncomputable def slices_IndexFunc_float32_float32_w1.t : T Int :=
  .br (Option.isSome (slices_IndexFunc_float32_float32_w1.l2.r (((0 : Nat) : Int), (0 : Int)) ()))
  (.leaf (-1 : Int))
  .bad
noncomputable def slices_IndexFunc_float32_float32_w1 : Int := (slices_IndexFunc_float32_float32_w1.t).val
noncomputable def slices_IndexFunc_float32_float32_w1.ok : Bool := (slices_IndexFunc_float32_float32_w1.t).ok
def slices_IndexFunc_float32_float32_w1.cd : Cd Unit (List V × Hp) := Cd.iso (Cd.pair (Cd.cons Cd.sn (Cd.cons (Cd.fu 56 Cd.nil) Cd.nil)) Cd.nil) (fun a => ()) (fun a => (((), ((), ())), ())) (fun _ => rfl)
noncomputable def slices_IndexFunc_float32_float32_w1.tr (a : Unit) : T Int := slices_IndexFunc_float32_float32_w1.t
def slices_IndexFunc_float32_float32_w1.enc : Unit → Int → V := fun a r => .it .i64 r
noncomputable def slices_IndexFunc_float32_float32_w1.c : List V → Hp → T V := cdQ slices_IndexFunc_float32_float32_w1.cd (fun a => .br (slices_IndexFunc_float32_float32_w1.ok) (.leaf (slices_IndexFunc_float32_float32_w1.enc a (slices_IndexFunc_float32_float32_w1))) .bad)
theorem slices_IndexFunc_float32_float32_w1.run (a : Unit) : runF slices_IndexFunc_float32_float32_w1.C Try.f69.results.toList slices_IndexFunc_float32_float32_w1.b (slices_IndexFunc_float32_float32_w1.cd.enc a).1 (slices_IndexFunc_float32_float32_w1.cd.enc a).2 = (slices_IndexFunc_float32_float32_w1.tr a).map fun r => (slices_IndexFunc_float32_float32_w1.enc a r, (slices_IndexFunc_float32_float32_w1.cd.enc a).2) := by kernel_rfl
theorem slices_IndexFunc_float32_float32_w1.cok : OKq Try.prog 69 slices_IndexFunc_float32_float32_w1.c := con_q' slices_IndexFunc_float32_float32_w1.cd slices_IndexFunc_float32_float32_w1.hC Try.func69 (by kernel_rfl) (by kernel_rfl) (by kernel_rfl) slices_IndexFunc_float32_float32_w1.lp (fun a => by kernel_rfl) slices_IndexFunc_float32_float32_w1.run (Tells.ok (tree := slices_IndexFunc_float32_float32_w1.tr))
/-! ### slices_ContainsFunc_float32_float32_w1 -/
noncomputable def slices_ContainsFunc_float32_float32_w1.b : Code := bodyOf Try.f55
noncomputable def slices_ContainsFunc_float32_float32_w1.C : Ctx := { ty := tys, fn := [(69, .q slices_IndexFunc_float32_float32_w1.c)], lp := [], n := 9, k := 0 }
theorem slices_ContainsFunc_float32_float32_w1.hC : CtxOK Try.prog slices_ContainsFunc_float32_float32_w1.C := CtxOK.of mo tys_ok (FnsOK.cons slices_IndexFunc_float32_float32_w1.cok FnsOK.nil)
theorem slices_ContainsFunc_float32_float32_w1.lp : LpOK Try.prog slices_ContainsFunc_float32_float32_w1.C slices_ContainsFunc_float32_float32_w1.b := (LpOK.nil (by kernel_rfl))
noncomputable def slices_ContainsFunc_float32_float32_w1.t : T Bool :=
  .br (slices_IndexFunc_float32_float32_w1.ok)
  (.leaf (decide (slices_IndexFunc_float32_float32_w1 ≥ (0 : Int))))
  .bad
noncomputable def slices_ContainsFunc_float32_float32_w1 : Bool := (slices_ContainsFunc_float32_float32_w1.t).val
noncomputable def slices_ContainsFunc_float32_float32_w1.ok : Bool := (slices_ContainsFunc_float32_float32_w1.t).ok
def slices_ContainsFunc_float32_float32_w1.cd : Cd Unit (List V × Hp) := Cd.iso (Cd.pair (Cd.cons Cd.sn (Cd.cons (Cd.fu 56 Cd.nil) Cd.nil)) Cd.nil) (fun a => ()) (fun a => (((), ((), ())), ())) (fun _ => rfl)
noncomputable def slices_ContainsFunc_float32_float32_w1.tr (a : Unit) : T Bool := slices_ContainsFunc_float32_float32_w1.t
def slices_ContainsFunc_float32_float32_w1.enc : Unit → Bool → V := fun a r => .bo r
noncomputable def slices_ContainsFunc_float32_float32_w1.c : List V → Hp → T V := cdQ slices_ContainsFunc_float32_float32_w1.cd (fun a => .br (slices_ContainsFunc_float32_float32_w1.ok) (.leaf (slices_ContainsFunc_float32_float32_w1.enc a (slices_ContainsFunc_float32_float32_w1))) .bad)
theorem slices_ContainsFunc_float32_float32_w1.run (a : Unit) : runF slices_ContainsFunc_float32_float32_w1.C Try.f55.results.toList slices_ContainsFunc_float32_float32_w1.b (slices_ContainsFunc_float32_float32_w1.cd.enc a).1 (slices_ContainsFunc_float32_float32_w1.cd.enc a).2 = (slices_ContainsFunc_float32_float32_w1.tr a).map fun r => (slices_ContainsFunc_float32_float32_w1.enc a r, (slices_ContainsFunc_float32_float32_w1.cd.enc a).2) := by kernel_rfl
theorem slices_ContainsFunc_float32_float32_w1.cok : OKq Try.prog 55 slices_ContainsFunc_float32_float32_w1.c := con_q' slices_ContainsFunc_float32_float32_w1.cd slices_ContainsFunc_float32_float32_w1.hC Try.func55 (by kernel_rfl) (by kernel_rfl) (by kernel_rfl) slices_ContainsFunc_float32_float32_w1.lp (fun a => by kernel_rfl) slices_ContainsFunc_float32_float32_w1.run (Tells.ok (tree := slices_ContainsFunc_float32_float32_w1.tr))
/-! ### impl_governorCode_w1 -/
noncomputable def impl_governorCode_w1.b : Code := bodyOf Try.f33
noncomputable def impl_governorCode_w1.C : Ctx := { ty := tys, fn := [(11, .q impl_ValidGovernor.c), (12, .q impl_ValidState.c), (55, .q slices_ContainsFunc_float32_float32_w1.c)], lp := [], n := 19, k := 0 }
theorem impl_governorCode_w1.hC : CtxOK Try.prog impl_governorCode_w1.C := CtxOK.of mo tys_ok (FnsOK.cons impl_ValidGovernor.cok (FnsOK.cons impl_ValidState.cok (FnsOK.cons slices_ContainsFunc_float32_float32_w1.cok FnsOK.nil)))
theorem impl_governorCode_w1.lp : LpOK Try.prog impl_governorCode_w1.C impl_governorCode_w1.b := (LpOK.nil (by kernel_rfl))
noncomputable def impl_governorCode_w1.t (x0 : Int) (x1 : Nat) (x2 : Nat) (x3 : Nat) (x4 : Nat) (x5 : Nat) (x6 : Nat) (x7 : Nat) (x8 : Nat) (x9 : Int) : T Int :=
  .br (!(impl_ValidGovernor x0 x1 x2 x3 x4 x5 x6 x7))
  (.leaf (1 : Int))
  (.br (!(impl_ValidState x8 x9))
   (.leaf (1 : Int))
   (.br (slices_ContainsFunc_float32_float32_w1.ok)
    (.br slices_ContainsFunc_float32_float32_w1
     (.leaf (2 : Int))
     (.leaf (0 : Int)))
    .bad))
noncomputable def impl_governorCode_w1 (x0 : Int) (x1 : Nat) (x2 : Nat) (x3 : Nat) (x4 : Nat) (x5 : Nat) (x6 : Nat) (x7 : Nat) (x8 : Nat) (x9 : Int) : Int := (impl_governorCode_w1.t x0 x1 x2 x3 x4 x5 x6 x7 x8 x9).val
noncomputable def impl_governorCode_w1.ok (x0 : Int) (x1 : Nat) (x2 : Nat) (x3 : Nat) (x4 : Nat) (x5 : Nat) (x6 : Nat) (x7 : Nat) (x8 : Nat) (x9 : Int) : Bool := (impl_governorCode_w1.t x0 x1 x2 x3 x4 x5 x6 x7 x8 x9).ok
def impl_governorCode_w1.cd : Cd (Int × Nat × Nat × Nat × Nat × Nat × Nat × Nat × Nat × Int) (List V × Hp) := Cd.iso (Cd.pair (Cd.cons (Cd.agg (Cd.cons (Cd.it .i16) (Cd.cons (Cd.fl .f32) (Cd.cons (Cd.fl .f32) (Cd.cons (Cd.fl .f32) (Cd.cons (Cd.fl .f32) (Cd.cons (Cd.fl .f32) (Cd.cons (Cd.fl .f32) (Cd.cons (Cd.fl .f32) Cd.nil))))))))) (Cd.cons (Cd.agg (Cd.cons (Cd.fl .f32) (Cd.cons (Cd.it .i8) Cd.nil))) (Cd.cons Cd.sn Cd.nil))) Cd.nil) (fun a => (a.1.1.1, a.1.1.2.1, a.1.1.2.2.1, a.1.1.2.2.2.1, a.1.1.2.2.2.2.1, a.1.1.2.2.2.2.2.1, a.1.1.2.2.2.2.2.2.1, a.1.1.2.2.2.2.2.2.2.1, a.1.2.1.1, a.1.2.1.2.1)) (fun a => (((a.1, (a.2.1, (a.2.2.1, (a.2.2.2.1, (a.2.2.2.2.1, (a.2.2.2.2.2.1, (a.2.2.2.2.2.2.1, (a.2.2.2.2.2.2.2.1, ())))))))), ((a.2.2.2.2.2.2.2.2.1, (a.2.2.2.2.2.2.2.2.2, ())), ((), ()))), ())) (fun _ => rfl)
noncomputable def impl_governorCode_w1.tr (a : Int × Nat × Nat × Nat × Nat × Nat × Nat × Nat × Nat × Int) : T Int := impl_governorCode_w1.t a.1 a.2.1 a.2.2.1 a.2.2.2.1 a.2.2.2.2.1 a.2.2.2.2.2.1 a.2.2.2.2.2.2.1 a.2.2.2.2.2.2.2.1 a.2.2.2.2.2.2.2.2.1 a.2.2.2.2.2.2.2.2.2
def impl_governorCode_w1.enc : (Int × Nat × Nat × Nat × Nat × Nat × Nat × Nat × Nat × Int) → Int → V := fun a r => .it .i64 r
noncomputable def impl_governorCode_w1.c : List V → Hp → T V := cdQ impl_governorCode_w1.cd (fun a => .br (impl_governorCode_w1.ok a.1 a.2.1 a.2.2.1 a.2.2.2.1 a.2.2.2.2.1 a.2.2.2.2.2.1 a.2.2.2.2.2.2.1 a.2.2.2.2.2.2.2.1 a.2.2.2.2.2.2.2.2.1 a.2.2.2.2.2.2.2.2.2) (.leaf (impl_governorCode_w1.enc a (impl_governorCode_w1 a.1 a.2.1 a.2.2.1 a.2.2.2.1 a.2.2.2.2.1 a.2.2.2.2.2.1 a.2.2.2.2.2.2.1 a.2.2.2.2.2.2.2.1 a.2.2.2.2.2.2.2.2.1 a.2.2.2.2.2.2.2.2.2))) .bad)
theorem impl_governorCode_w1.run (a : Int × Nat × Nat × Nat × Nat × Nat × Nat × Nat × Nat × Int) : runF impl_governorCode_w1.C Try.f33.results.toList impl_governorCode_w1.b (impl_governorCode_w1.cd.enc a).1 (impl_governorCode_w1.cd.enc a).2 = (impl_governorCode_w1.tr a).map fun r => (impl_governorCode_w1.enc a r, (impl_governorCode_w1.cd.enc a).2) := by kernel_rfl
theorem impl_governorCode_w1.cok : OKq Try.prog 33 impl_governorCode_w1.c := con_q' impl_governorCode_w1.cd impl_governorCode_w1.hC Try.func33 (by kernel_rfl) (by kernel_rfl) (by kernel_rfl) impl_governorCode_w1.lp (fun a => by kernel_rfl) impl_governorCode_w1.run (Tells.ok (tree := impl_governorCode_w1.tr))
/-! ### impl_GateBehind -/
noncomputable def impl_GateBehind.b : Code := bodyOf Try.f13
noncomputable def impl_GateBehind.C : Ctx := { ty := tys, fn := [(33, .q impl_governorCode_w1.c), (42, .q impl_Governor_gateBehind.c)], lp := [], n := 15, k := 0 }
theorem impl_GateBehind.hC : CtxOK Try.prog impl_GateBehind.C := CtxOK.of mo tys_ok (FnsOK.cons impl_governorCode_w1.cok (FnsOK.cons impl_Governor_gateBehind.cok FnsOK.nil))
theorem impl_GateBehind.lp : LpOK Try.prog impl_GateBehind.C impl_GateBehind.b := (LpOK.nil (by kernel_rfl))
noncomputable def impl_GateBehind.t (x0 : Int) (x1 : Nat) (x2 : Nat) (x3 : Nat) (x4 : Nat) (x5 : Nat) (x6 : Nat) (x7 : Nat) (x8 : Nat) (x9 : Int) : T (Int × Int) :=
  .br (impl_governorCode_w1.ok x0 x1 x2 x3 x4 x5 x6 x7 x8 x9)
  (.br ((impl_governorCode_w1 x0 x1 x2 x3 x4 x5 x6 x7 x8 x9) != (0 : Int))
   (.leaf ((0 : Int), (impl_governorCode_w1 x0 x1 x2 x3 x4 x5 x6 x7 x8 x9)))
   (.leaf ((impl_Governor_gateBehind x8 x9 x0 x1 x2 x3 x4 x5 x6 x7), (0 : Int))))
  .bad
noncomputable def impl_GateBehind (x0 : Int) (x1 : Nat) (x2 : Nat) (x3 : Nat) (x4 : Nat) (x5 : Nat) (x6 : Nat) (x7 : Nat) (x8 : Nat) (x9 : Int) : Int × Int := (impl_GateBehind.t x0 x1 x2 x3 x4 x5 x6 x7 x8 x9).val
noncomputable def impl_GateBehind.ok (x0 : Int) (x1 : Nat) (x2 : Nat) (x3 : Nat) (x4 : Nat) (x5 : Nat) (x6 : Nat) (x7 : Nat) (x8 : Nat) (x9 : Int) : Bool := (impl_GateBehind.t x0 x1 x2 x3 x4 x5 x6 x7 x8 x9).ok
def impl_GateBehind.cd : Cd (Int × Nat × Nat × Nat × Nat × Nat × Nat × Nat × Nat × Int) (List V × Hp) := Cd.iso (Cd.pair (Cd.cons (Cd.agg (Cd.cons (Cd.it .i16) (Cd.cons (Cd.fl .f32) (Cd.cons (Cd.fl .f32) (Cd.cons (Cd.fl .f32) (Cd.cons (Cd.fl .f32) (Cd.cons (Cd.fl .f32) (Cd.cons (Cd.fl .f32) (Cd.cons (Cd.fl .f32) Cd.nil))))))))) (Cd.cons (Cd.agg (Cd.cons (Cd.fl .f32) (Cd.cons (Cd.it .i8) Cd.nil))) Cd.nil)) Cd.nil) (fun a => (a.1.1.1, a.1.1.2.1, a.1.1.2.2.1, a.1.1.2.2.2.1, a.1.1.2.2.2.2.1, a.1.1.2.2.2.2.2.1, a.1.1.2.2.2.2.2.2.1, a.1.1.2.2.2.2.2.2.2.1, a.1.2.1.1, a.1.2.1.2.1)) (fun a => (((a.1, (a.2.1, (a.2.2.1, (a.2.2.2.1, (a.2.2.2.2.1, (a.2.2.2.2.2.1, (a.2.2.2.2.2.2.1, (a.2.2.2.2.2.2.2.1, ())))))))), ((a.2.2.2.2.2.2.2.2.1, (a.2.2.2.2.2.2.2.2.2, ())), ())), ())) (fun _ => rfl)
noncomputable def impl_GateBehind.tr (a : Int × Nat × Nat × Nat × Nat × Nat × Nat × Nat × Nat × Int) : T (Int × Int) := impl_GateBehind.t a.1 a.2.1 a.2.2.1 a.2.2.2.1 a.2.2.2.2.1 a.2.2.2.2.2.1 a.2.2.2.2.2.2.1 a.2.2.2.2.2.2.2.1 a.2.2.2.2.2.2.2.2.1 a.2.2.2.2.2.2.2.2.2
def impl_GateBehind.enc : (Int × Nat × Nat × Nat × Nat × Nat × Nat × Nat × Nat × Int) → (Int × Int) → V := fun a r => .tup [.it .i64 r.1, .it .i64 r.2]
noncomputable def impl_GateBehind.c : List V → Hp → T V := cdQ impl_GateBehind.cd (fun a => .br (impl_GateBehind.ok a.1 a.2.1 a.2.2.1 a.2.2.2.1 a.2.2.2.2.1 a.2.2.2.2.2.1 a.2.2.2.2.2.2.1 a.2.2.2.2.2.2.2.1 a.2.2.2.2.2.2.2.2.1 a.2.2.2.2.2.2.2.2.2) (.leaf (impl_GateBehind.enc a (impl_GateBehind a.1 a.2.1 a.2.2.1 a.2.2.2.1 a.2.2.2.2.1 a.2.2.2.2.2.1 a.2.2.2.2.2.2.1 a.2.2.2.2.2.2.2.1 a.2.2.2.2.2.2.2.2.1 a.2.2.2.2.2.2.2.2.2))) .bad)
theorem impl_GateBehind.run (a : Int × Nat × Nat × Nat × Nat × Nat × Nat × Nat × Nat × Int) : runF impl_GateBehind.C Try.f13.results.toList impl_GateBehind.b (impl_GateBehind.cd.enc a).1 (impl_GateBehind.cd.enc a).2 = (impl_GateBehind.tr a).map fun r => (impl_GateBehind.enc a r, (impl_GateBehind.cd.enc a).2) := by kernel_rfl
theorem impl_GateBehind.cok : OKq Try.prog 13 impl_GateBehind.c := con_q' impl_GateBehind.cd impl_GateBehind.hC Try.func13 (by kernel_rfl) (by kernel_rfl) (by kernel_rfl) impl_GateBehind.lp (fun a => by kernel_rfl) impl_GateBehind.run (Tells.ok (tree := impl_GateBehind.tr))
/-! ### impl_TickOnce -/
noncomputable def impl_TickOnce.b : Code := bodyOf Try.f14
noncomputable def impl_TickOnce.C : Ctx := { ty := tys, fn := [(33, .q impl_governorCode.c), (34, .q impl_Governor_tick.c)], lp := [], n := 21, k := 0 }
theorem impl_TickOnce.hC : CtxOK Try.prog impl_TickOnce.C := CtxOK.of mo tys_ok (FnsOK.cons impl_governorCode.cok (FnsOK.cons impl_Governor_tick.cok FnsOK.nil))
theorem impl_TickOnce.lp : LpOK Try.prog impl_TickOnce.C impl_TickOnce.b := (LpOK.nil (by kernel_rfl))
noncomputable def impl_TickOnce.t (x0 : Int) (x1 : Nat) (x2 : Nat) (x3 : Nat) (x4 : Nat) (x5 : Nat) (x6 : Nat) (x7 : Nat) (x8 : Nat) (x9 : Int) (x10 : Nat) : T (Nat × Int × Int) :=
  .br (impl_governorCode.ok x0 x1 x2 x3 x4 x5 x6 x7 x8 x9 1 [x10])
  (.br ((impl_governorCode x0 x1 x2 x3 x4 x5 x6 x7 x8 x9 1 [x10]) != (0 : Int))
   (.leaf (0, (0 : Int), (impl_governorCode x0 x1 x2 x3 x4 x5 x6 x7 x8 x9 1 [x10])))
   (.br (impl_Governor_tick.ok x8 x9 x10 x0 x1 x2 x3 x4 x5 x6 x7)
    (.leaf ((impl_Governor_tick x8 x9 x10 x0 x1 x2 x3 x4 x5 x6 x7).1, (impl_Governor_tick x8 x9 x10 x0 x1 x2 x3 x4 x5 x6 x7).2, (0 : Int)))
    .bad))
  .bad
noncomputable def impl_TickOnce (x0 : Int) (x1 : Nat) (x2 : Nat) (x3 : Nat) (x4 : Nat) (x5 : Nat) (x6 : Nat) (x7 : Nat) (x8 : Nat) (x9 : Int) (x10 : Nat) : Nat × Int × Int := (impl_TickOnce.t x0 x1 x2 x3 x4 x5 x6 x7 x8 x9 x10).val
noncomputable def impl_TickOnce.ok (x0 : Int) (x1 : Nat) (x2 : Nat) (x3 : Nat) (x4 : Nat) (x5 : Nat) (x6 : Nat) (x7 : Nat) (x8 : Nat) (x9 : Int) (x10 : Nat) : Bool := (impl_TickOnce.t x0 x1 x2 x3 x4 x5 x6 x7 x8 x9 x10).ok
def impl_TickOnce.cd : Cd (Int × Nat × Nat × Nat × Nat × Nat × Nat × Nat × Nat × Int × Nat) (List V × Hp) := Cd.iso (Cd.pair (Cd.cons (Cd.agg (Cd.cons (Cd.it .i16) (Cd.cons (Cd.fl .f32) (Cd.cons (Cd.fl .f32) (Cd.cons (Cd.fl .f32) (Cd.cons (Cd.fl .f32) (Cd.cons (Cd.fl .f32) (Cd.cons (Cd.fl .f32) (Cd.cons (Cd.fl .f32) Cd.nil))))))))) (Cd.cons (Cd.agg (Cd.cons (Cd.fl .f32) (Cd.cons (Cd.it .i8) Cd.nil))) (Cd.cons (Cd.fl .f32) Cd.nil))) Cd.nil) (fun a => (a.1.1.1, a.1.1.2.1, a.1.1.2.2.1, a.1.1.2.2.2.1, a.1.1.2.2.2.2.1, a.1.1.2.2.2.2.2.1, a.1.1.2.2.2.2.2.2.1, a.1.1.2.2.2.2.2.2.2.1, a.1.2.1.1, a.1.2.1.2.1, a.1.2.2.1)) (fun a => (((a.1, (a.2.1, (a.2.2.1, (a.2.2.2.1, (a.2.2.2.2.1, (a.2.2.2.2.2.1, (a.2.2.2.2.2.2.1, (a.2.2.2.2.2.2.2.1, ())))))))), ((a.2.2.2.2.2.2.2.2.1, (a.2.2.2.2.2.2.2.2.2.1, ())), (a.2.2.2.2.2.2.2.2.2.2, ()))), ())) (fun _ => rfl)
noncomputable def impl_TickOnce.tr (a : Int × Nat × Nat × Nat × Nat × Nat × Nat × Nat × Nat × Int × Nat) : T (Nat × Int × Int) := impl_TickOnce.t a.1 a.2.1 a.2.2.1 a.2.2.2.1 a.2.2.2.2.1 a.2.2.2.2.2.1 a.2.2.2.2.2.2.1 a.2.2.2.2.2.2.2.1 a.2.2.2.2.2.2.2.2.1 a.2.2.2.2.2.2.2.2.2.1 a.2.2.2.2.2.2.2.2.2.2
def impl_TickOnce.enc : (Int × Nat × Nat × Nat × Nat × Nat × Nat × Nat × Nat × Int × Nat) → (Nat × Int × Int) → V := fun a r => .tup [.agg [.fl .f32 r.1, .it .i8 r.2.1], .it .i64 r.2.2]
noncomputable def impl_TickOnce.c : List V → Hp → T V := cdQ impl_TickOnce.cd (fun a => .br (impl_TickOnce.ok a.1 a.2.1 a.2.2.1 a.2.2.2.1 a.2.2.2.2.1 a.2.2.2.2.2.1 a.2.2.2.2.2.2.1 a.2.2.2.2.2.2.2.1 a.2.2.2.2.2.2.2.2.1 a.2.2.2.2.2.2.2.2.2.1 a.2.2.2.2.2.2.2.2.2.2) (.leaf (impl_TickOnce.enc a (impl_TickOnce a.1 a.2.1 a.2.2.1 a.2.2.2.1 a.2.2.2.2.1 a.2.2.2.2.2.1 a.2.2.2.2.2.2.1 a.2.2.2.2.2.2.2.1 a.2.2.2.2.2.2.2.2.1 a.2.2.2.2.2.2.2.2.2.1 a.2.2.2.2.2.2.2.2.2.2))) .bad)
theorem impl_TickOnce.run (a : Int × Nat × Nat × Nat × Nat × Nat × Nat × Nat × Nat × Int × Nat) : runF impl_TickOnce.C Try.f14.results.toList impl_TickOnce.b (impl_TickOnce.cd.enc a).1 (impl_TickOnce.cd.enc a).2 = (impl_TickOnce.tr a).map fun r => (impl_TickOnce.enc a r, (impl_TickOnce.cd.enc a).2) := by kernel_rfl
theorem impl_TickOnce.cok : OKq Try.prog 14 impl_TickOnce.c := con_q' impl_TickOnce.cd impl_TickOnce.hC Try.func14 (by kernel_rfl) (by kernel_rfl) (by kernel_rfl) impl_TickOnce.lp (fun a => by kernel_rfl) impl_TickOnce.run (Tells.ok (tree := impl_TickOnce.tr))
/-! ### spec_l01Same -/
noncomputable def spec_l01Same.b : Code := bodyOf Try.f43
noncomputable def spec_l01Same.C : Ctx := { ty := tys, fn := [(63, .q f32bitsC)], lp := [], n := 26, k := 0 }
theorem spec_l01Same.hC : CtxOK Try.prog spec_l01Same.C := CtxOK.of mo tys_ok (FnsOK.cons (f32bits_ok Try.func63 (by kernel_rfl) (by kernel_rfl) (by kernel_rfl) (by kernel_rfl)) FnsOK.nil)
theorem spec_l01Same.lp : LpOK Try.prog spec_l01Same.C spec_l01Same.b := (LpOK.nil (by kernel_rfl))
noncomputable def spec_l01Same.t (x0 : Nat) (x1 : Nat) : T Bool :=
  .br (fne .f32 x0 x0)
  (.br (fne .f32 x0 x0)
   (.leaf (fne .f32 x1 x1))
   (.leaf false))
  (.br (fne .f32 x1 x1)
   (.br (fne .f32 x0 x0)
    (.leaf (fne .f32 x1 x1))
    (.leaf false))
   (.br (isNaN .f32 x0)
    (.br (isNaN .f32 x1)
     .bad
     (.br (isNaN .f32 (Int.toNat ((x1 : Nat) : Int)))
      .bad
      (.leaf false)))
    (.br (isNaN .f32 x1)
     (.br (isNaN .f32 (Int.toNat ((x0 : Nat) : Int)))
      .bad
      (.leaf false))
     (.leaf (((x0 : Nat) : Int) == ((x1 : Nat) : Int))))))
noncomputable def spec_l01Same (x0 : Nat) (x1 : Nat) : Bool := (spec_l01Same.t x0 x1).val
noncomputable def spec_l01Same.ok (x0 : Nat) (x1 : Nat) : Bool := (spec_l01Same.t x0 x1).ok
def spec_l01Same.cd : Cd (Nat × Nat) (List V × Hp) := Cd.iso (Cd.pair (Cd.cons (Cd.fl .f32) (Cd.cons (Cd.fl .f32) Cd.nil)) Cd.nil) (fun a => (a.1.1, a.1.2.1)) (fun a => ((a.1, (a.2, ())), ())) (fun _ => rfl)
noncomputable def spec_l01Same.tr (a : Nat × Nat) : T Bool := spec_l01Same.t a.1 a.2
def spec_l01Same.enc : (Nat × Nat) → Bool → V := fun a r => .bo r
noncomputable def spec_l01Same.c : List V → Hp → T V := cdQ spec_l01Same.cd (fun a => .br (spec_l01Same.ok a.1 a.2) (.leaf (spec_l01Same.enc a (spec_l01Same a.1 a.2))) .bad)
theorem spec_l01Same.run (a : Nat × Nat) : runF spec_l01Same.C Try.f43.results.toList spec_l01Same.b (spec_l01Same.cd.enc a).1 (spec_l01Same.cd.enc a).2 = (spec_l01Same.tr a).map fun r => (spec_l01Same.enc a r, (spec_l01Same.cd.enc a).2) := by kernel_rfl
theorem spec_l01Same.cok : OKq Try.prog 43 spec_l01Same.c := con_q' spec_l01Same.cd spec_l01Same.hC Try.func43 (by kernel_rfl) (by kernel_rfl) (by kernel_rfl) spec_l01Same.lp (fun a => by kernel_rfl) spec_l01Same.run (Tells.ok (tree := spec_l01Same.tr))
/-! ### spec_SameState -/
noncomputable def spec_SameState.b : Code := bodyOf Try.f15
noncomputable def spec_SameState.C : Ctx := { ty := tys, fn := [(43, .q spec_l01Same.c)], lp := [], n := 17, k := 0 }
theorem spec_SameState.hC : CtxOK Try.prog spec_SameState.C := CtxOK.of mo tys_ok (FnsOK.cons spec_l01Same.cok FnsOK.nil)
theorem spec_SameState.lp : LpOK Try.prog spec_SameState.C spec_SameState.b := (LpOK.nil (by kernel_rfl))
noncomputable def spec_SameState.t (x0 : Nat) (x1 : Int) (x2 : Nat) (x3 : Int) : T Bool :=
  .br (x1 == x3)
  (.br (spec_l01Same.ok x0 x2)
   (.leaf (spec_l01Same x0 x2))
   .bad)
  (.leaf false)
noncomputable def spec_SameState (x0 : Nat) (x1 : Int) (x2 : Nat) (x3 : Int) : Bool := (spec_SameState.t x0 x1 x2 x3).val
noncomputable def spec_SameState.ok (x0 : Nat) (x1 : Int) (x2 : Nat) (x3 : Int) : Bool := (spec_SameState.t x0 x1 x2 x3).ok
def spec_SameState.cd : Cd (Nat × Int × Nat × Int) (List V × Hp) := Cd.iso (Cd.pair (Cd.cons (Cd.agg (Cd.cons (Cd.fl .f32) (Cd.cons (Cd.it .i8) Cd.nil))) (Cd.cons (Cd.agg (Cd.cons (Cd.fl .f32) (Cd.cons (Cd.it .i8) Cd.nil))) Cd.nil)) Cd.nil) (fun a => (a.1.1.1, a.1.1.2.1, a.1.2.1.1, a.1.2.1.2.1)) (fun a => (((a.1, (a.2.1, ())), ((a.2.2.1, (a.2.2.2, ())), ())), ())) (fun _ => rfl)
noncomputable def spec_SameState.tr (a : Nat × Int × Nat × Int) : T Bool := spec_SameState.t a.1 a.2.1 a.2.2.1 a.2.2.2
def spec_SameState.enc : (Nat × Int × Nat × Int) → Bool → V := fun a r => .bo r
noncomputable def spec_SameState.c : List V → Hp → T V := cdQ spec_SameState.cd (fun a => .br (spec_SameState.ok a.1 a.2.1 a.2.2.1 a.2.2.2) (.leaf (spec_SameState.enc a (spec_SameState a.1 a.2.1 a.2.2.1 a.2.2.2))) .bad)
theorem spec_SameState.run (a : Nat × Int × Nat × Int) : runF spec_SameState.C Try.f15.results.toList spec_SameState.b (spec_SameState.cd.enc a).1 (spec_SameState.cd.enc a).2 = (spec_SameState.tr a).map fun r => (spec_SameState.enc a r, (spec_SameState.cd.enc a).2) := by kernel_rfl
theorem spec_SameState.cok : OKq Try.prog 15 spec_SameState.c := con_q' spec_SameState.cd spec_SameState.hC Try.func15 (by kernel_rfl) (by kernel_rfl) (by kernel_rfl) spec_SameState.lp (fun a => by kernel_rfl) spec_SameState.run (Tells.ok (tree := spec_SameState.tr))
/-! ### impl_SameNumber -/
noncomputable def impl_SameNumber.b : Code := bodyOf Try.f44
noncomputable def impl_SameNumber.C : Ctx := { ty := tys, fn := [(63, .q f32bitsC)], lp := [], n := 20, k := 0 }
theorem impl_SameNumber.hC : CtxOK Try.prog impl_SameNumber.C := CtxOK.of mo tys_ok (FnsOK.cons (f32bits_ok Try.func63 (by kernel_rfl) (by kernel_rfl) (by kernel_rfl) (by kernel_rfl)) FnsOK.nil)
theorem impl_SameNumber.lp : LpOK Try.prog impl_SameNumber.C impl_SameNumber.b := (LpOK.nil (by kernel_rfl))
noncomputable def impl_SameNumber.t (x0 : Nat) (x1 : Nat) : T Bool :=
  .br (fne .f32 x0 x0)
  (.br (fne .f32 x1 x1)
   (.leaf true)
   (.br (isNaN .f32 x0)
    (.br (isNaN .f32 x1)
     .bad
     (.br (isNaN .f32 (Int.toNat ((x1 : Nat) : Int)))
      .bad
      (.leaf false)))
    (.br (isNaN .f32 x1)
     (.br (isNaN .f32 (Int.toNat ((x0 : Nat) : Int)))
      .bad
      (.leaf false))
     (.leaf (((x0 : Nat) : Int) == ((x1 : Nat) : Int))))))
  (.br (isNaN .f32 x0)
   (.br (isNaN .f32 x1)
    .bad
    (.br (isNaN .f32 (Int.toNat ((x1 : Nat) : Int)))
     .bad
     (.leaf false)))
   (.br (isNaN .f32 x1)
    (.br (isNaN .f32 (Int.toNat ((x0 : Nat) : Int)))
     .bad
     (.leaf false))
    (.leaf (((x0 : Nat) : Int) == ((x1 : Nat) : Int)))))
noncomputable def impl_SameNumber (x0 : Nat) (x1 : Nat) : Bool := (impl_SameNumber.t x0 x1).val
noncomputable def impl_SameNumber.ok (x0 : Nat) (x1 : Nat) : Bool := (impl_SameNumber.t x0 x1).ok
def impl_SameNumber.cd : Cd (Nat × Nat) (List V × Hp) := Cd.iso (Cd.pair (Cd.cons (Cd.fl .f32) (Cd.cons (Cd.fl .f32) Cd.nil)) Cd.nil) (fun a => (a.1.1, a.1.2.1)) (fun a => ((a.1, (a.2, ())), ())) (fun _ => rfl)
noncomputable def impl_SameNumber.tr (a : Nat × Nat) : T Bool := impl_SameNumber.t a.1 a.2
def impl_SameNumber.enc : (Nat × Nat) → Bool → V := fun a r => .bo r
noncomputable def impl_SameNumber.c : List V → Hp → T V := cdQ impl_SameNumber.cd (fun a => .br (impl_SameNumber.ok a.1 a.2) (.leaf (impl_SameNumber.enc a (impl_SameNumber a.1 a.2))) .bad)
theorem impl_SameNumber.run (a : Nat × Nat) : runF impl_SameNumber.C Try.f44.results.toList impl_SameNumber.b (impl_SameNumber.cd.enc a).1 (impl_SameNumber.cd.enc a).2 = (impl_SameNumber.tr a).map fun r => (impl_SameNumber.enc a r, (impl_SameNumber.cd.enc a).2) := by kernel_rfl
theorem impl_SameNumber.cok : OKq Try.prog 44 impl_SameNumber.c := con_q' impl_SameNumber.cd impl_SameNumber.hC Try.func44 (by kernel_rfl) (by kernel_rfl) (by kernel_rfl) impl_SameNumber.lp (fun a => by kernel_rfl) impl_SameNumber.run (Tells.ok (tree := impl_SameNumber.tr))
/-! ### impl_SameState -/
noncomputable def impl_SameState.b : Code := bodyOf Try.f16
noncomputable def impl_SameState.C : Ctx := { ty := tys, fn := [(44, .q impl_SameNumber.c)], lp := [], n := 17, k := 0 }
theorem impl_SameState.hC : CtxOK Try.prog impl_SameState.C := CtxOK.of mo tys_ok (FnsOK.cons impl_SameNumber.cok FnsOK.nil)
theorem impl_SameState.lp : LpOK Try.prog impl_SameState.C impl_SameState.b := (LpOK.nil (by kernel_rfl))
noncomputable def impl_SameState.t (x0 : Nat) (x1 : Int) (x2 : Nat) (x3 : Int) : T Bool :=
  .br (x1 == x3)
  (.br (impl_SameNumber.ok x0 x2)
   (.leaf (impl_SameNumber x0 x2))
   .bad)
  (.leaf false)
noncomputable def impl_SameState (x0 : Nat) (x1 : Int) (x2 : Nat) (x3 : Int) : Bool := (impl_SameState.t x0 x1 x2 x3).val
noncomputable def impl_SameState.ok (x0 : Nat) (x1 : Int) (x2 : Nat) (x3 : Int) : Bool := (impl_SameState.t x0 x1 x2 x3).ok
def impl_SameState.cd : Cd (Nat × Int × Nat × Int) (List V × Hp) := Cd.iso (Cd.pair (Cd.cons (Cd.agg (Cd.cons (Cd.fl .f32) (Cd.cons (Cd.it .i8) Cd.nil))) (Cd.cons (Cd.agg (Cd.cons (Cd.fl .f32) (Cd.cons (Cd.it .i8) Cd.nil))) Cd.nil)) Cd.nil) (fun a => (a.1.1.1, a.1.1.2.1, a.1.2.1.1, a.1.2.1.2.1)) (fun a => (((a.1, (a.2.1, ())), ((a.2.2.1, (a.2.2.2, ())), ())), ())) (fun _ => rfl)
noncomputable def impl_SameState.tr (a : Nat × Int × Nat × Int) : T Bool := impl_SameState.t a.1 a.2.1 a.2.2.1 a.2.2.2
def impl_SameState.enc : (Nat × Int × Nat × Int) → Bool → V := fun a r => .bo r
noncomputable def impl_SameState.c : List V → Hp → T V := cdQ impl_SameState.cd (fun a => .br (impl_SameState.ok a.1 a.2.1 a.2.2.1 a.2.2.2) (.leaf (impl_SameState.enc a (impl_SameState a.1 a.2.1 a.2.2.1 a.2.2.2))) .bad)
theorem impl_SameState.run (a : Nat × Int × Nat × Int) : runF impl_SameState.C Try.f16.results.toList impl_SameState.b (impl_SameState.cd.enc a).1 (impl_SameState.cd.enc a).2 = (impl_SameState.tr a).map fun r => (impl_SameState.enc a r, (impl_SameState.cd.enc a).2) := by kernel_rfl
theorem impl_SameState.cok : OKq Try.prog 16 impl_SameState.c := con_q' impl_SameState.cd impl_SameState.hC Try.func16 (by kernel_rfl) (by kernel_rfl) (by kernel_rfl) impl_SameState.lp (fun a => by kernel_rfl) impl_SameState.run (Tells.ok (tree := impl_SameState.tr))
/-! ### impl_WithinFrom -/
noncomputable def impl_WithinFrom.b : Code := bodyOf Try.f17
noncomputable def impl_WithinFrom.l5.s (x0 : Int) (x1 : List Nat) (x2 : Int) (x3 : Nat) (x4 : Nat) (x5 : Nat) (x6 : Nat) (x7 : Nat) (x8 : Nat) (x9 : Nat) : T (Unit ⊕ Unit) :=
  .br (decide (x0 > (0 : Int)))
  .bad
  (.leaf (.inr ()))
noncomputable def impl_WithinFrom.l5.st (p : Int × List Nat × Int × Nat × Nat × Nat × Nat × Nat × Nat × Nat) (x : Unit) : T (Unit ⊕ Unit) := impl_WithinFrom.l5.s p.1 p.2.1 p.2.2.1 p.2.2.2.1 p.2.2.2.2.1 p.2.2.2.2.2.1 p.2.2.2.2.2.2.1 p.2.2.2.2.2.2.2.1 p.2.2.2.2.2.2.2.2.1 p.2.2.2.2.2.2.2.2.2
noncomputable def impl_WithinFrom.l5.r (p : Int × List Nat × Int × Nat × Nat × Nat × Nat × Nat × Nat × Nat) (x : Unit) : Option Unit := iterT (impl_WithinFrom.l5.st p) manyRounds x
def impl_WithinFrom.l5.cd : Cd ((Int × List Nat × Int × Nat × Nat × Nat × Nat × Nat × Nat × Nat) × Unit) (List V × Hp) := Cd.iso (Cd.pair (Cd.cons (Cd.pt 1 (Cd.natc 0)) (Cd.cons Cd.sn (Cd.cons (Cd.it .i64) Cd.nil))) (Cd.cons (Cd.rw 25 1 (Cd.fs .f32)) (Cd.cons (Cd.rw 29 8 (Cd.vs (Cd.cons (Cd.it .i16) (Cd.cons (Cd.fl .f32) (Cd.cons (Cd.fl .f32) (Cd.cons (Cd.fl .f32) (Cd.cons (Cd.fl .f32) (Cd.cons (Cd.fl .f32) (Cd.cons (Cd.fl .f32) (Cd.cons (Cd.fl .f32) Cd.nil)))))))))) Cd.nil))) (fun a => ((a.1.2.2.1, a.2.1, a.2.2.1.1, a.2.2.1.2.1, a.2.2.1.2.2.1, a.2.2.1.2.2.2.1, a.2.2.1.2.2.2.2.1, a.2.2.1.2.2.2.2.2.1, a.2.2.1.2.2.2.2.2.2.1, a.2.2.1.2.2.2.2.2.2.2.1), ())) (fun a => (((), ((), (a.1.1, ()))), (a.1.2.1, ((a.1.2.2.1, (a.1.2.2.2.1, (a.1.2.2.2.2.1, (a.1.2.2.2.2.2.1, (a.1.2.2.2.2.2.2.1, (a.1.2.2.2.2.2.2.2.1, (a.1.2.2.2.2.2.2.2.2.1, (a.1.2.2.2.2.2.2.2.2.2, ())))))))), ())))) (fun _ => rfl)
def impl_WithinFrom.l5.out (p : Int × List Nat × Int × Nat × Nat × Nat × Nat × Nat × Nat × Nat) : Unit → X × List V × Hp := (fun r => (.ex 0, [.sn, .it .i64 p.1], [some ⟨true, 25, 1, .fs .f32 p.2.1⟩]))
def impl_WithinFrom.l5.ex (p : Int × List Nat × Int × Nat × Nat × Nat × Nat × Nat × Nat × Nat) : Unit → T (X × List V × Hp) := leafT (fun r => (.ex 0, [.sn, .it .i64 p.1], [some ⟨true, 25, 1, .fs .f32 p.2.1⟩]))
noncomputable def impl_WithinFrom.l5.c : List V → Hp → T (X × List V × Hp) := cdL impl_WithinFrom.l5.cd fun x => optT (impl_WithinFrom.l5.r x.1 x.2) (impl_WithinFrom.l5.ex x.1)
noncomputable def impl_WithinFrom.l5v1.s (x0 : Nat) (x1 : Int) (x2 : List Nat) (x3 : Int) (x4 : Nat) (x5 : Nat) (x6 : Nat) (x7 : Nat) (x8 : Nat) (x9 : Nat) (x10 : Nat) (x11 : List (List Sc)) : T (Int ⊕ Int) :=
  .br (decide (x1 > (0 : Int)))
  (.br (bounds (IntKind.wrap .i64 (x1 - (1 : Int))) x0)
   (.br (Nat.ble ((Int.toNat (IntKind.wrap .i64 (x1 - (1 : Int)))) + 1) (List.length x11))
    (.br (impl_between (Sc.nat (List.getD (List.getD x11 (Int.toNat (IntKind.wrap .i64 (x1 - (1 : Int)))) []) 0 (.n 0))) x8 x9)
     (.leaf (.inl (IntKind.wrap .i64 (x1 - (1 : Int)))))
     (.leaf (.inr x1)))
    .bad)
   .bad)
  (.leaf (.inr x1))
noncomputable def impl_WithinFrom.l5v1.st (p : Nat × List Nat × Int × Nat × Nat × Nat × Nat × Nat × Nat × Nat × List (List Sc)) (x : Int) : T (Int ⊕ Int) := impl_WithinFrom.l5v1.s p.1 x p.2.1 p.2.2.1 p.2.2.2.1 p.2.2.2.2.1 p.2.2.2.2.2.1 p.2.2.2.2.2.2.1 p.2.2.2.2.2.2.2.1 p.2.2.2.2.2.2.2.2.1 p.2.2.2.2.2.2.2.2.2.1 p.2.2.2.2.2.2.2.2.2.2
noncomputable def impl_WithinFrom.l5v1.r (p : Nat × List Nat × Int × Nat × Nat × Nat × Nat × Nat × Nat × Nat × List (List Sc)) (x : Int) : Option Int := iterT (impl_WithinFrom.l5v1.st p) manyRounds x
def impl_WithinFrom.l5v1.cd : Cd ((Nat × List Nat × Int × Nat × Nat × Nat × Nat × Nat × Nat × Nat × List (List Sc)) × Int) (List V × Hp) := Cd.iso (Cd.pair (Cd.cons (Cd.pt 1 (Cd.natc 0)) (Cd.cons (Cd.own 2) (Cd.cons (Cd.it .i64) Cd.nil))) (Cd.cons (Cd.rw 25 1 (Cd.fs .f32)) (Cd.cons (Cd.rw 29 8 (Cd.vs (Cd.cons (Cd.it .i16) (Cd.cons (Cd.fl .f32) (Cd.cons (Cd.fl .f32) (Cd.cons (Cd.fl .f32) (Cd.cons (Cd.fl .f32) (Cd.cons (Cd.fl .f32) (Cd.cons (Cd.fl .f32) (Cd.cons (Cd.fl .f32) Cd.nil)))))))))) (Cd.cons (Cd.rw 33 2 (Cd.mx [.fl .f32, .it .i8])) Cd.nil)))) (fun a => ((a.1.2.1, a.2.1, a.2.2.1.1, a.2.2.1.2.1, a.2.2.1.2.2.1, a.2.2.1.2.2.2.1, a.2.2.1.2.2.2.2.1, a.2.2.1.2.2.2.2.2.1, a.2.2.1.2.2.2.2.2.2.1, a.2.2.1.2.2.2.2.2.2.2.1, a.2.2.2.1), a.1.2.2.1)) (fun a => (((), (a.1.1, (a.2, ()))), (a.1.2.1, ((a.1.2.2.1, (a.1.2.2.2.1, (a.1.2.2.2.2.1, (a.1.2.2.2.2.2.1, (a.1.2.2.2.2.2.2.1, (a.1.2.2.2.2.2.2.2.1, (a.1.2.2.2.2.2.2.2.2.1, (a.1.2.2.2.2.2.2.2.2.2.1, ())))))))), (a.1.2.2.2.2.2.2.2.2.2.2, ()))))) (fun _ => rfl)
def impl_WithinFrom.l5v1.out (p : Nat × List Nat × Int × Nat × Nat × Nat × Nat × Nat × Nat × Nat × List (List Sc)) : Int → X × List V × Hp := (fun r => (.ex 0, [.own 1 p.1, .it .i64 r], [some ⟨true, 25, 1, .fs .f32 p.2.1⟩, some ⟨true, 33, 2, .mx [.fl .f32, .it .i8] p.2.2.2.2.2.2.2.2.2.2⟩]))
def impl_WithinFrom.l5v1.ex (p : Nat × List Nat × Int × Nat × Nat × Nat × Nat × Nat × Nat × Nat × List (List Sc)) : Int → T (X × List V × Hp) := leafT (fun r => (.ex 0, [.own 1 p.1, .it .i64 r], [some ⟨true, 25, 1, .fs .f32 p.2.1⟩, some ⟨true, 33, 2, .mx [.fl .f32, .it .i8] p.2.2.2.2.2.2.2.2.2.2⟩]))
noncomputable def impl_WithinFrom.l5v1.c : List V → Hp → T (X × List V × Hp) := cdL impl_WithinFrom.l5v1.cd fun x => optT (impl_WithinFrom.l5v1.r x.1 x.2) (impl_WithinFrom.l5v1.ex x.1)
noncomputable def impl_WithinFrom.C : Ctx := { ty := tys, fn := [(8, .e impl_TickAll.c), (45, .q impl_between.c)], lp := [(5, ⟨[3, 8, 10], [8, 10], altL impl_WithinFrom.l5.c impl_WithinFrom.l5v1.c⟩)], n := 45, k := 1 }
theorem impl_WithinFrom.hC : CtxOK Try.prog impl_WithinFrom.C := CtxOK.of mo tys_ok (FnsOK.cons impl_TickAll.cok (FnsOK.cons impl_between.cok FnsOK.nil))
noncomputable def impl_WithinFrom.b5 : Code := (nthC (loopsOf impl_WithinFrom.b) 0)
theorem impl_WithinFrom.lp5 : LpOK Try.prog impl_WithinFrom.C impl_WithinFrom.b5 := (LpOK.nil (by kernel_rfl))
theorem impl_WithinFrom.l5.round (p : Int × List Nat × Int × Nat × Nat × Nat × Nat × Nat × Nat × Nat) (s : Unit) : roundL impl_WithinFrom.C [3, 8, 10] [8, 10] impl_WithinFrom.b5 (impl_WithinFrom.l5.cd.enc (p, s)).1 (impl_WithinFrom.l5.cd.enc (p, s)).2 = (impl_WithinFrom.l5.st p s).map (encSum (fun s => impl_WithinFrom.l5.cd.enc (p, s)) (impl_WithinFrom.l5.out p)) := by kernel_rfl
theorem impl_WithinFrom.l5.lok : LoopOK Try.prog impl_WithinFrom.C ⟨[3, 8, 10], [8, 10], impl_WithinFrom.l5.c⟩ impl_WithinFrom.b5 := loop_cd impl_WithinFrom.l5.cd impl_WithinFrom.hC impl_WithinFrom.lp5 impl_WithinFrom.l5.round fun p => Gets.leaf
theorem impl_WithinFrom.l5v1.round (p : Nat × List Nat × Int × Nat × Nat × Nat × Nat × Nat × Nat × Nat × List (List Sc)) (s : Int) : roundL impl_WithinFrom.C [3, 8, 10] [8, 10] impl_WithinFrom.b5 (impl_WithinFrom.l5v1.cd.enc (p, s)).1 (impl_WithinFrom.l5v1.cd.enc (p, s)).2 = (impl_WithinFrom.l5v1.st p s).map (encSum (fun s => impl_WithinFrom.l5v1.cd.enc (p, s)) (impl_WithinFrom.l5v1.out p)) := by kernel_rfl
theorem impl_WithinFrom.l5v1.lok : LoopOK Try.prog impl_WithinFrom.C ⟨[3, 8, 10], [8, 10], impl_WithinFrom.l5v1.c⟩ impl_WithinFrom.b5 := loop_cd impl_WithinFrom.l5v1.cd impl_WithinFrom.hC impl_WithinFrom.lp5 impl_WithinFrom.l5v1.round fun p => Gets.leaf
theorem impl_WithinFrom.lp : LpOK Try.prog impl_WithinFrom.C impl_WithinFrom.b := lp_of (by kernel_rfl) (LpsOK.cons (k := 5) (by kernel_rfl) (by kernel_rfl) (LoopOK.alt impl_WithinFrom.l5.lok impl_WithinFrom.l5v1.lok) LpsOK.nil)
noncomputable def impl_WithinFrom.t (x0 : Int) (x1 : Nat) (x2 : Nat) (x3 : Nat) (x4 : Nat) (x5 : Nat) (x6 : Nat) (x7 : Nat) (x8 : Nat) (x9 : Int) (x10 : Nat) (x11 : List Nat) : T (Int × Int) :=
  .br (impl_TickAll.ok x0 x1 x2 x3 x4 x5 x6 x7 x8 x9 x10 x11)
  (.br (Sum.isLeft (impl_TickAll x0 x1 x2 x3 x4 x5 x6 x7 x8 x9 x10 x11))
   (.br ((getLeftD (impl_TickAll x0 x1 x2 x3 x4 x5 x6 x7 x8 x9 x10 x11)) != (0 : Int))
    (.leaf ((0 : Int), (getLeftD (impl_TickAll x0 x1 x2 x3 x4 x5 x6 x7 x8 x9 x10 x11))))
    (.br (Option.isSome (impl_WithinFrom.l5.r (((0 : Nat) : Int), x11, x0, x1, x2, x3, x4, x5, x6, x7) ()))
     (.br (((0 : Nat) : Int) == ((0 : Nat) : Int))
      (.leaf ((0 : Int), (6 : Int)))
      (.leaf (((0 : Nat) : Int), (0 : Int))))
     .bad))
   (.br ((getRightD (impl_TickAll x0 x1 x2 x3 x4 x5 x6 x7 x8 x9 x10 x11)).2.1 != (0 : Int))
    (.leaf ((0 : Int), (getRightD (impl_TickAll x0 x1 x2 x3 x4 x5 x6 x7 x8 x9 x10 x11)).2.1))
    (.br (Option.isSome (impl_WithinFrom.l5v1.r ((getRightD (impl_TickAll x0 x1 x2 x3 x4 x5 x6 x7 x8 x9 x10 x11)).1, x11, x0, x1, x2, x3, x4, x5, x6, x7, (getRightD (impl_TickAll x0 x1 x2 x3 x4 x5 x6 x7 x8 x9 x10 x11)).2.2) (((getRightD (impl_TickAll x0 x1 x2 x3 x4 x5 x6 x7 x8 x9 x10 x11)).1 : Nat) : Int)))
     (.br ((Option.getD (impl_WithinFrom.l5v1.r ((getRightD (impl_TickAll x0 x1 x2 x3 x4 x5 x6 x7 x8 x9 x10 x11)).1, x11, x0, x1, x2, x3, x4, x5, x6, x7, (getRightD (impl_TickAll x0 x1 x2 x3 x4 x5 x6 x7 x8 x9 x10 x11)).2.2) (((getRightD (impl_TickAll x0 x1 x2 x3 x4 x5 x6 x7 x8 x9 x10 x11)).1 : Nat) : Int)) default) == (((getRightD (impl_TickAll x0 x1 x2 x3 x4 x5 x6 x7 x8 x9 x10 x11)).1 : Nat) : Int))
      (.leaf ((0 : Int), (6 : Int)))
      (.leaf ((Option.getD (impl_WithinFrom.l5v1.r ((getRightD (impl_TickAll x0 x1 x2 x3 x4 x5 x6 x7 x8 x9 x10 x11)).1, x11, x0, x1, x2, x3, x4, x5, x6, x7, (getRightD (impl_TickAll x0 x1 x2 x3 x4 x5 x6 x7 x8 x9 x10 x11)).2.2) (((getRightD (impl_TickAll x0 x1 x2 x3 x4 x5 x6 x7 x8 x9 x10 x11)).1 : Nat) : Int)) default), (0 : Int))))
     .bad)))
  .bad
noncomputable def impl_WithinFrom (x0 : Int) (x1 : Nat) (x2 : Nat) (x3 : Nat) (x4 : Nat) (x5 : Nat) (x6 : Nat) (x7 : Nat) (x8 : Nat) (x9 : Int) (x10 : Nat) (x11 : List Nat) : Int × Int := (impl_WithinFrom.t x0 x1 x2 x3 x4 x5 x6 x7 x8 x9 x10 x11).val
noncomputable def impl_WithinFrom.ok (x0 : Int) (x1 : Nat) (x2 : Nat) (x3 : Nat) (x4 : Nat) (x5 : Nat) (x6 : Nat) (x7 : Nat) (x8 : Nat) (x9 : Int) (x10 : Nat) (x11 : List Nat) : Bool := (impl_WithinFrom.t x0 x1 x2 x3 x4 x5 x6 x7 x8 x9 x10 x11).ok
def impl_WithinFrom.cd : Cd (Int × Nat × Nat × Nat × Nat × Nat × Nat × Nat × Nat × Int × Nat × List Nat) (List V × Hp) := Cd.iso (Cd.pair (Cd.cons (Cd.agg (Cd.cons (Cd.it .i16) (Cd.cons (Cd.fl .f32) (Cd.cons (Cd.fl .f32) (Cd.cons (Cd.fl .f32) (Cd.cons (Cd.fl .f32) (Cd.cons (Cd.fl .f32) (Cd.cons (Cd.fl .f32) (Cd.cons (Cd.fl .f32) Cd.nil))))))))) (Cd.cons (Cd.agg (Cd.cons (Cd.fl .f32) (Cd.cons (Cd.it .i8) Cd.nil))) (Cd.cons (Cd.own 0) Cd.nil))) (Cd.cons (Cd.rw 25 1 (Cd.fs .f32)) Cd.nil)) (fun a => (a.1.1.1, a.1.1.2.1, a.1.1.2.2.1, a.1.1.2.2.2.1, a.1.1.2.2.2.2.1, a.1.1.2.2.2.2.2.1, a.1.1.2.2.2.2.2.2.1, a.1.1.2.2.2.2.2.2.2.1, a.1.2.1.1, a.1.2.1.2.1, a.1.2.2.1, a.2.1)) (fun a => (((a.1, (a.2.1, (a.2.2.1, (a.2.2.2.1, (a.2.2.2.2.1, (a.2.2.2.2.2.1, (a.2.2.2.2.2.2.1, (a.2.2.2.2.2.2.2.1, ())))))))), ((a.2.2.2.2.2.2.2.2.1, (a.2.2.2.2.2.2.2.2.2.1, ())), (a.2.2.2.2.2.2.2.2.2.2.1, ()))), (a.2.2.2.2.2.2.2.2.2.2.2, ()))) (fun _ => rfl)
noncomputable def impl_WithinFrom.tr (a : Int × Nat × Nat × Nat × Nat × Nat × Nat × Nat × Nat × Int × Nat × List Nat) : T (Int × Int) := impl_WithinFrom.t a.1 a.2.1 a.2.2.1 a.2.2.2.1 a.2.2.2.2.1 a.2.2.2.2.2.1 a.2.2.2.2.2.2.1 a.2.2.2.2.2.2.2.1 a.2.2.2.2.2.2.2.2.1 a.2.2.2.2.2.2.2.2.2.1 a.2.2.2.2.2.2.2.2.2.2.1 a.2.2.2.2.2.2.2.2.2.2.2
def impl_WithinFrom.enc : (Int × Nat × Nat × Nat × Nat × Nat × Nat × Nat × Nat × Int × Nat × List Nat) → (Int × Int) → V := fun a r => .tup [.it .i64 r.1, .it .i64 r.2]
noncomputable def impl_WithinFrom.c : List V → Hp → T V := cdQ impl_WithinFrom.cd (fun a => .br (impl_WithinFrom.ok a.1 a.2.1 a.2.2.1 a.2.2.2.1 a.2.2.2.2.1 a.2.2.2.2.2.1 a.2.2.2.2.2.2.1 a.2.2.2.2.2.2.2.1 a.2.2.2.2.2.2.2.2.1 a.2.2.2.2.2.2.2.2.2.1 a.2.2.2.2.2.2.2.2.2.2.1 a.2.2.2.2.2.2.2.2.2.2.2) (.leaf (impl_WithinFrom.enc a (impl_WithinFrom a.1 a.2.1 a.2.2.1 a.2.2.2.1 a.2.2.2.2.1 a.2.2.2.2.2.1 a.2.2.2.2.2.2.1 a.2.2.2.2.2.2.2.1 a.2.2.2.2.2.2.2.2.1 a.2.2.2.2.2.2.2.2.2.1 a.2.2.2.2.2.2.2.2.2.2.1 a.2.2.2.2.2.2.2.2.2.2.2))) .bad)
theorem impl_WithinFrom.run (a : Int × Nat × Nat × Nat × Nat × Nat × Nat × Nat × Nat × Int × Nat × List Nat) : runF impl_WithinFrom.C Try.f17.results.toList impl_WithinFrom.b (impl_WithinFrom.cd.enc a).1 (impl_WithinFrom.cd.enc a).2 = (impl_WithinFrom.tr a).map fun r => (impl_WithinFrom.enc a r, (impl_WithinFrom.cd.enc a).2) := by kernel_rfl
theorem impl_WithinFrom.cok : OKq Try.prog 17 impl_WithinFrom.c := con_q' impl_WithinFrom.cd impl_WithinFrom.hC Try.func17 (by kernel_rfl) (by kernel_rfl) (by kernel_rfl) impl_WithinFrom.lp (fun a => by kernel_rfl) impl_WithinFrom.run (Tells.ok (tree := impl_WithinFrom.tr))
/-! ### spec_WithinFrom -/
noncomputable def spec_WithinFrom.b : Code := bodyOf Try.f18
noncomputable def spec_WithinFrom.l5.s (x0 : Nat) (x1 : Int) (x2 : List Nat) (x3 : Int) (x4 : Nat) (x5 : Nat) (x6 : Nat) (x7 : Nat) (x8 : Nat) (x9 : Nat) (x10 : Nat) (x11 : List (List Sc)) : T (Int ⊕ Int) :=
  .br (decide (x1 > (0 : Int)))
  (.br (bounds (IntKind.wrap .i64 (x1 - (1 : Int))) x0)
   (.br (Nat.ble ((Int.toNat (IntKind.wrap .i64 (x1 - (1 : Int)))) + 1) (List.length x11))
    (.br (fge .f32 (Sc.nat (List.getD (List.getD x11 (Int.toNat (IntKind.wrap .i64 (x1 - (1 : Int)))) []) 0 (.n 0))) x8)
     (.br (bounds (IntKind.wrap .i64 (x1 - (1 : Int))) x0)
      (.br (Nat.ble ((Int.toNat (IntKind.wrap .i64 (x1 - (1 : Int)))) + 1) (List.length x11))
       (.br (fle .f32 (Sc.nat (List.getD (List.getD x11 (Int.toNat (IntKind.wrap .i64 (x1 - (1 : Int)))) []) 0 (.n 0))) x9)
        (.leaf (.inl (IntKind.wrap .i64 (x1 - (1 : Int)))))
        (.leaf (.inr x1)))
       .bad)
      .bad)
     (.leaf (.inr x1)))
    .bad)
   .bad)
  (.leaf (.inr x1))
noncomputable def spec_WithinFrom.l5.st (p : Nat × List Nat × Int × Nat × Nat × Nat × Nat × Nat × Nat × Nat × List (List Sc)) (x : Int) : T (Int ⊕ Int) := spec_WithinFrom.l5.s p.1 x p.2.1 p.2.2.1 p.2.2.2.1 p.2.2.2.2.1 p.2.2.2.2.2.1 p.2.2.2.2.2.2.1 p.2.2.2.2.2.2.2.1 p.2.2.2.2.2.2.2.2.1 p.2.2.2.2.2.2.2.2.2.1 p.2.2.2.2.2.2.2.2.2.2
noncomputable def spec_WithinFrom.l5.r (p : Nat × List Nat × Int × Nat × Nat × Nat × Nat × Nat × Nat × Nat × List (List Sc)) (x : Int) : Option Int := iterT (spec_WithinFrom.l5.st p) manyRounds x
def spec_WithinFrom.l5.cd : Cd ((Nat × List Nat × Int × Nat × Nat × Nat × Nat × Nat × Nat × Nat × List (List Sc)) × Int) (List V × Hp) := Cd.iso (Cd.pair (Cd.cons (Cd.pt 1 (Cd.natc 0)) (Cd.cons (Cd.own 2) (Cd.cons (Cd.it .i64) Cd.nil))) (Cd.cons (Cd.rw 25 1 (Cd.fs .f32)) (Cd.cons (Cd.rw 29 8 (Cd.vs (Cd.cons (Cd.it .i16) (Cd.cons (Cd.fl .f32) (Cd.cons (Cd.fl .f32) (Cd.cons (Cd.fl .f32) (Cd.cons (Cd.fl .f32) (Cd.cons (Cd.fl .f32) (Cd.cons (Cd.fl .f32) (Cd.cons (Cd.fl .f32) Cd.nil)))))))))) (Cd.cons (Cd.rw 33 2 (Cd.mx [.fl .f32, .it .i8])) Cd.nil)))) (fun a => ((a.1.2.1, a.2.1, a.2.2.1.1, a.2.2.1.2.1, a.2.2.1.2.2.1, a.2.2.1.2.2.2.1, a.2.2.1.2.2.2.2.1, a.2.2.1.2.2.2.2.2.1, a.2.2.1.2.2.2.2.2.2.1, a.2.2.1.2.2.2.2.2.2.2.1, a.2.2.2.1), a.1.2.2.1)) (fun a => (((), (a.1.1, (a.2, ()))), (a.1.2.1, ((a.1.2.2.1, (a.1.2.2.2.1, (a.1.2.2.2.2.1, (a.1.2.2.2.2.2.1, (a.1.2.2.2.2.2.2.1, (a.1.2.2.2.2.2.2.2.1, (a.1.2.2.2.2.2.2.2.2.1, (a.1.2.2.2.2.2.2.2.2.2.1, ())))))))), (a.1.2.2.2.2.2.2.2.2.2.2, ()))))) (fun _ => rfl)
def spec_WithinFrom.l5.out (p : Nat × List Nat × Int × Nat × Nat × Nat × Nat × Nat × Nat × Nat × List (List Sc)) : Int → X × List V × Hp := (fun r => (.ex 0, [.own 1 p.1, .it .i64 r], [some ⟨true, 25, 1, .fs .f32 p.2.1⟩, some ⟨true, 33, 2, .mx [.fl .f32, .it .i8] p.2.2.2.2.2.2.2.2.2.2⟩]))
def spec_WithinFrom.l5.ex (p : Nat × List Nat × Int × Nat × Nat × Nat × Nat × Nat × Nat × Nat × List (List Sc)) : Int → T (X × List V × Hp) := leafT (fun r => (.ex 0, [.own 1 p.1, .it .i64 r], [some ⟨true, 25, 1, .fs .f32 p.2.1⟩, some ⟨true, 33, 2, .mx [.fl .f32, .it .i8] p.2.2.2.2.2.2.2.2.2.2⟩]))
noncomputable def spec_WithinFrom.l5.c : List V → Hp → T (X × List V × Hp) := cdL spec_WithinFrom.l5.cd fun x => optT (spec_WithinFrom.l5.r x.1 x.2) (spec_WithinFrom.l5.ex x.1)
noncomputable def spec_WithinFrom.C : Ctx := { ty := tys, fn := [(9, .e spec_TickAll.c)], lp := [(5, ⟨[3, 8, 10], [8, 10], spec_WithinFrom.l5.c⟩)], n := 54, k := 1 }
theorem spec_WithinFrom.hC : CtxOK Try.prog spec_WithinFrom.C := CtxOK.of mo tys_ok (FnsOK.cons spec_TickAll.cok FnsOK.nil)
noncomputable def spec_WithinFrom.b5 : Code := (nthC (loopsOf spec_WithinFrom.b) 0)
theorem spec_WithinFrom.lp5 : LpOK Try.prog spec_WithinFrom.C spec_WithinFrom.b5 := (LpOK.nil (by kernel_rfl))
theorem spec_WithinFrom.l5.round (p : Nat × List Nat × Int × Nat × Nat × Nat × Nat × Nat × Nat × Nat × List (List Sc)) (s : Int) : roundL spec_WithinFrom.C [3, 8, 10] [8, 10] spec_WithinFrom.b5 (spec_WithinFrom.l5.cd.enc (p, s)).1 (spec_WithinFrom.l5.cd.enc (p, s)).2 = (spec_WithinFrom.l5.st p s).map (encSum (fun s => spec_WithinFrom.l5.cd.enc (p, s)) (spec_WithinFrom.l5.out p)) := by kernel_rfl
theorem spec_WithinFrom.l5.lok : LoopOK Try.prog spec_WithinFrom.C ⟨[3, 8, 10], [8, 10], spec_WithinFrom.l5.c⟩ spec_WithinFrom.b5 := loop_cd spec_WithinFrom.l5.cd spec_WithinFrom.hC spec_WithinFrom.lp5 spec_WithinFrom.l5.round fun p => Gets.leaf
theorem spec_WithinFrom.lp : LpOK Try.prog spec_WithinFrom.C spec_WithinFrom.b := lp_of (by kernel_rfl) (LpsOK.cons (k := 5) (by kernel_rfl) (by kernel_rfl) spec_WithinFrom.l5.lok LpsOK.nil)
noncomputable def spec_WithinFrom.t (x0 : Int) (x1 : Nat) (x2 : Nat) (x3 : Nat) (x4 : Nat) (x5 : Nat) (x6 : Nat) (x7 : Nat) (x8 : Nat) (x9 : Int) (x10 : Nat) (x11 : List Nat) : T (Int × Int) :=
  .br (spec_TickAll.ok x0 x1 x2 x3 x4 x5 x6 x7 x8 x9 x10 x11)
  (.br ((spec_TickAll x0 x1 x2 x3 x4 x5 x6 x7 x8 x9 x10 x11).2.1 != (0 : Int))
   (.leaf ((0 : Int), (spec_TickAll x0 x1 x2 x3 x4 x5 x6 x7 x8 x9 x10 x11).2.1))
   (.br (Option.isSome (spec_WithinFrom.l5.r ((spec_TickAll x0 x1 x2 x3 x4 x5 x6 x7 x8 x9 x10 x11).1, x11, x0, x1, x2, x3, x4, x5, x6, x7, (spec_TickAll x0 x1 x2 x3 x4 x5 x6 x7 x8 x9 x10 x11).2.2) (((spec_TickAll x0 x1 x2 x3 x4 x5 x6 x7 x8 x9 x10 x11).1 : Nat) : Int)))
    (.br ((Option.getD (spec_WithinFrom.l5.r ((spec_TickAll x0 x1 x2 x3 x4 x5 x6 x7 x8 x9 x10 x11).1, x11, x0, x1, x2, x3, x4, x5, x6, x7, (spec_TickAll x0 x1 x2 x3 x4 x5 x6 x7 x8 x9 x10 x11).2.2) (((spec_TickAll x0 x1 x2 x3 x4 x5 x6 x7 x8 x9 x10 x11).1 : Nat) : Int)) default) == (((spec_TickAll x0 x1 x2 x3 x4 x5 x6 x7 x8 x9 x10 x11).1 : Nat) : Int))
     (.leaf ((0 : Int), (6 : Int)))
     (.leaf ((Option.getD (spec_WithinFrom.l5.r ((spec_TickAll x0 x1 x2 x3 x4 x5 x6 x7 x8 x9 x10 x11).1, x11, x0, x1, x2, x3, x4, x5, x6, x7, (spec_TickAll x0 x1 x2 x3 x4 x5 x6 x7 x8 x9 x10 x11).2.2) (((spec_TickAll x0 x1 x2 x3 x4 x5 x6 x7 x8 x9 x10 x11).1 : Nat) : Int)) default), (0 : Int))))
    .bad))
  .bad
noncomputable def spec_WithinFrom (x0 : Int) (x1 : Nat) (x2 : Nat) (x3 : Nat) (x4 : Nat) (x5 : Nat) (x6 : Nat) (x7 : Nat) (x8 : Nat) (x9 : Int) (x10 : Nat) (x11 : List Nat) : Int × Int := (spec_WithinFrom.t x0 x1 x2 x3 x4 x5 x6 x7 x8 x9 x10 x11).val
noncomputable def spec_WithinFrom.ok (x0 : Int) (x1 : Nat) (x2 : Nat) (x3 : Nat) (x4 : Nat) (x5 : Nat) (x6 : Nat) (x7 : Nat) (x8 : Nat) (x9 : Int) (x10 : Nat) (x11 : List Nat) : Bool := (spec_WithinFrom.t x0 x1 x2 x3 x4 x5 x6 x7 x8 x9 x10 x11).ok
def spec_WithinFrom.cd : Cd (Int × Nat × Nat × Nat × Nat × Nat × Nat × Nat × Nat × Int × Nat × List Nat) (List V × Hp) := Cd.iso (Cd.pair (Cd.cons (Cd.agg (Cd.cons (Cd.it .i16) (Cd.cons (Cd.fl .f32) (Cd.cons (Cd.fl .f32) (Cd.cons (Cd.fl .f32) (Cd.cons (Cd.fl .f32) (Cd.cons (Cd.fl .f32) (Cd.cons (Cd.fl .f32) (Cd.cons (Cd.fl .f32) Cd.nil))))))))) (Cd.cons (Cd.agg (Cd.cons (Cd.fl .f32) (Cd.cons (Cd.it .i8) Cd.nil))) (Cd.cons (Cd.own 0) Cd.nil))) (Cd.cons (Cd.rw 25 1 (Cd.fs .f32)) Cd.nil)) (fun a => (a.1.1.1, a.1.1.2.1, a.1.1.2.2.1, a.1.1.2.2.2.1, a.1.1.2.2.2.2.1, a.1.1.2.2.2.2.2.1, a.1.1.2.2.2.2.2.2.1, a.1.1.2.2.2.2.2.2.2.1, a.1.2.1.1, a.1.2.1.2.1, a.1.2.2.1, a.2.1)) (fun a => (((a.1, (a.2.1, (a.2.2.1, (a.2.2.2.1, (a.2.2.2.2.1, (a.2.2.2.2.2.1, (a.2.2.2.2.2.2.1, (a.2.2.2.2.2.2.2.1, ())))))))), ((a.2.2.2.2.2.2.2.2.1, (a.2.2.2.2.2.2.2.2.2.1, ())), (a.2.2.2.2.2.2.2.2.2.2.1, ()))), (a.2.2.2.2.2.2.2.2.2.2.2, ()))) (fun _ => rfl)
noncomputable def spec_WithinFrom.tr (a : Int × Nat × Nat × Nat × Nat × Nat × Nat × Nat × Nat × Int × Nat × List Nat) : T (Int × Int) := spec_WithinFrom.t a.1 a.2.1 a.2.2.1 a.2.2.2.1 a.2.2.2.2.1 a.2.2.2.2.2.1 a.2.2.2.2.2.2.1 a.2.2.2.2.2.2.2.1 a.2.2.2.2.2.2.2.2.1 a.2.2.2.2.2.2.2.2.2.1 a.2.2.2.2.2.2.2.2.2.2.1 a.2.2.2.2.2.2.2.2.2.2.2
def spec_WithinFrom.enc : (Int × Nat × Nat × Nat × Nat × Nat × Nat × Nat × Nat × Int × Nat × List Nat) → (Int × Int) → V := fun a r => .tup [.it .i64 r.1, .it .i64 r.2]
noncomputable def spec_WithinFrom.c : List V → Hp → T V := cdQ spec_WithinFrom.cd (fun a => .br (spec_WithinFrom.ok a.1 a.2.1 a.2.2.1 a.2.2.2.1 a.2.2.2.2.1 a.2.2.2.2.2.1 a.2.2.2.2.2.2.1 a.2.2.2.2.2.2.2.1 a.2.2.2.2.2.2.2.2.1 a.2.2.2.2.2.2.2.2.2.1 a.2.2.2.2.2.2.2.2.2.2.1 a.2.2.2.2.2.2.2.2.2.2.2) (.leaf (spec_WithinFrom.enc a (spec_WithinFrom a.1 a.2.1 a.2.2.1 a.2.2.2.1 a.2.2.2.2.1 a.2.2.2.2.2.1 a.2.2.2.2.2.2.1 a.2.2.2.2.2.2.2.1 a.2.2.2.2.2.2.2.2.1 a.2.2.2.2.2.2.2.2.2.1 a.2.2.2.2.2.2.2.2.2.2.1 a.2.2.2.2.2.2.2.2.2.2.2))) .bad)
theorem spec_WithinFrom.run (a : Int × Nat × Nat × Nat × Nat × Nat × Nat × Nat × Nat × Int × Nat × List Nat) : runF spec_WithinFrom.C Try.f18.results.toList spec_WithinFrom.b (spec_WithinFrom.cd.enc a).1 (spec_WithinFrom.cd.enc a).2 = (spec_WithinFrom.tr a).map fun r => (spec_WithinFrom.enc a r, (spec_WithinFrom.cd.enc a).2) := by kernel_rfl
theorem spec_WithinFrom.cok : OKq Try.prog 18 spec_WithinFrom.c := con_q' spec_WithinFrom.cd spec_WithinFrom.hC Try.func18 (by kernel_rfl) (by kernel_rfl) (by kernel_rfl) spec_WithinFrom.lp (fun a => by kernel_rfl) spec_WithinFrom.run (Tells.ok (tree := spec_WithinFrom.tr))
/-! ### spec_P6Pick -/
noncomputable def spec_P6Pick.b : Code := bodyOf Try.f19
noncomputable def spec_P6Pick.C : Ctx := { ty := tys, fn := [(30, .e spec_l00From.c), (32, .e spec_l00Src_pick.c)], lp := [], n := 9, k := 1 }
theorem spec_P6Pick.hC : CtxOK Try.prog spec_P6Pick.C := CtxOK.of mo tys_ok (FnsOK.cons spec_l00From.cok (FnsOK.cons spec_l00Src_pick.cok FnsOK.nil))
theorem spec_P6Pick.lp : LpOK Try.prog spec_P6Pick.C spec_P6Pick.b := (LpOK.nil (by kernel_rfl))
noncomputable def spec_P6Pick.t (x0 : Nat) (x1 : Int) (x2 : List Int) : T Int :=
  let y40 := (spec_l00From x0 x2)
  let y41 := (spec_l00Src_pick x1 y40.1 y40.2.1 y40.2.2 x2)
  .br (spec_l00Src_pick.ok x1 y40.1 y40.2.1 y40.2.2 x2)
  (.leaf y41.1)
  .bad
noncomputable def spec_P6Pick (x0 : Nat) (x1 : Int) (x2 : List Int) : Int := (spec_P6Pick.t x0 x1 x2).val
noncomputable def spec_P6Pick.ok (x0 : Nat) (x1 : Int) (x2 : List Int) : Bool := (spec_P6Pick.t x0 x1 x2).ok
def spec_P6Pick.cd : Cd (Nat × Int × List Int) (List V × Hp) := Cd.iso (Cd.pair (Cd.cons (Cd.sl 0 (Cd.natc 0)) (Cd.cons (Cd.it .i64) Cd.nil)) (Cd.cons (Cd.ro 0 0 (Cd.is .u8)) Cd.nil)) (fun a => (a.1.1.2, a.1.2.1, a.2.1)) (fun a => ((((), a.1), (a.2.1, ())), (a.2.2, ()))) (fun _ => rfl)
noncomputable def spec_P6Pick.tr (a : Nat × Int × List Int) : T Int := spec_P6Pick.t a.1 a.2.1 a.2.2
def spec_P6Pick.enc : (Nat × Int × List Int) → Int → V := fun a r => .it .i64 r
noncomputable def spec_P6Pick.c : List V → Hp → T V := cdQ spec_P6Pick.cd (fun a => .br (spec_P6Pick.ok a.1 a.2.1 a.2.2) (.leaf (spec_P6Pick.enc a (spec_P6Pick a.1 a.2.1 a.2.2))) .bad)
theorem spec_P6Pick.run (a : Nat × Int × List Int) : runF spec_P6Pick.C Try.f19.results.toList spec_P6Pick.b (spec_P6Pick.cd.enc a).1 (spec_P6Pick.cd.enc a).2 = (spec_P6Pick.tr a).map fun r => (spec_P6Pick.enc a r, (spec_P6Pick.cd.enc a).2) := by kernel_rfl
theorem spec_P6Pick.cok : OKq Try.prog 19 spec_P6Pick.c := con_q' spec_P6Pick.cd spec_P6Pick.hC Try.func19 (by kernel_rfl) (by kernel_rfl) (by kernel_rfl) spec_P6Pick.lp (fun a => by kernel_rfl) spec_P6Pick.run (Tells.ok (tree := spec_P6Pick.tr))
end Go.Proofs.Ytccdbfmfdhhgfaa
