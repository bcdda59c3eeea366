/- The walk of FnBelts: what each function that it comes to computes, as a tree of tests. -/
import Derived.Test.YtkfpmiggolmabaaDoorSxU
import Derived.Test.YtkfpmiggolmabaaDoorShelf
import Derived.Test.YtkfpmiggolmabaaDoorSxV
import Derived.Test.YtkfpmiggolmabaaDoorSxP
import Derived.Test.YtkfpmiggolmabaaDoorChecked
namespace Go.Proofs.YtkfpmiggolmabaaDoor
open Go Go.RowKit Sx
set_option linter.unusedVariables false
set_option maxRecDepth 100000
set_option maxHeartbeats 0
noncomputable def ti1 : TI := ⟨Tryd.t1.desc, 1, 8, [.nf]⟩
theorem ti1_ok : TyOK Tryd.prog 1 ti1 := TyOK.of (inf := Tryd.t1) Tryd.underlying1 (by kernel_rfl) (by kernel_rfl) (by kernel_rfl) (by kernel_rfl)
noncomputable def ti2 : TI := ⟨Tryd.t2.desc, 1, 8, [.it .i64 (0 : Int)]⟩
theorem ti2_ok : TyOK Tryd.prog 2 ti2 := TyOK.of (inf := Tryd.t2) Tryd.underlying2 (by kernel_rfl) (by kernel_rfl) (by kernel_rfl) (by kernel_rfl)
noncomputable def ti3 : TI := ⟨Tryd.t3.desc, 1, 8, [.it .i64 (0 : Int)]⟩
theorem ti3_ok : TyOK Tryd.prog 3 ti3 := TyOK.of (inf := Tryd.t3) Tryd.underlying3 (by kernel_rfl) (by kernel_rfl) (by kernel_rfl) (by kernel_rfl)
noncomputable def ti4 : TI := ⟨Tryd.t4.desc, 1, 1, [.kb false]⟩
theorem ti4_ok : TyOK Tryd.prog 4 ti4 := TyOK.of (inf := Tryd.t4) Tryd.underlying4 (by kernel_rfl) (by kernel_rfl) (by kernel_rfl) (by kernel_rfl)
noncomputable def ti5 : TI := ⟨Tryd.t5.desc, 1, 1, [.it .u8 (0 : Int)]⟩
theorem ti5_ok : TyOK Tryd.prog 5 ti5 := TyOK.of (inf := Tryd.t5) Tryd.underlying5 (by kernel_rfl) (by kernel_rfl) (by kernel_rfl) (by kernel_rfl)
noncomputable def ti6 : TI := ⟨Tryd.t5.desc, 1, 1, [.it .u8 (0 : Int)]⟩
theorem ti6_ok : TyOK Tryd.prog 6 ti6 := TyOK.of (inf := Tryd.t6) Tryd.underlying6 (by kernel_rfl) (by kernel_rfl) (by kernel_rfl) (by kernel_rfl)
noncomputable def ti7 : TI := ⟨Tryd.t7.desc, 4, 24, [.it .i64 (0 : Int), .it .i64 (0 : Int), .kb false, .it .u8 (0 : Int)]⟩
theorem ti7_ok : TyOK Tryd.prog 7 ti7 := TyOK.of (inf := Tryd.t7) Tryd.underlying7 (by kernel_rfl) (by kernel_rfl) (by kernel_rfl) (by kernel_rfl)
noncomputable def ti8 : TI := ⟨Tryd.t7.desc, 4, 24, [.it .i64 (0 : Int), .it .i64 (0 : Int), .kb false, .it .u8 (0 : Int)]⟩
theorem ti8_ok : TyOK Tryd.prog 8 ti8 := TyOK.of (inf := Tryd.t8) Tryd.underlying8 (by kernel_rfl) (by kernel_rfl) (by kernel_rfl) (by kernel_rfl)
noncomputable def ti9 : TI := ⟨Tryd.t9.desc, 1, 16, [.st (ByteArray.mk #[])]⟩
theorem ti9_ok : TyOK Tryd.prog 9 ti9 := TyOK.of (inf := Tryd.t9) Tryd.underlying9 (by kernel_rfl) (by kernel_rfl) (by kernel_rfl) (by kernel_rfl)
noncomputable def ti10 : TI := ⟨Tryd.t9.desc, 1, 16, [.st (ByteArray.mk #[])]⟩
theorem ti10_ok : TyOK Tryd.prog 10 ti10 := TyOK.of (inf := Tryd.t10) Tryd.underlying10 (by kernel_rfl) (by kernel_rfl) (by kernel_rfl) (by kernel_rfl)
noncomputable def ti11 : TI := ⟨Tryd.t9.desc, 1, 16, [.st (ByteArray.mk #[])]⟩
theorem ti11_ok : TyOK Tryd.prog 11 ti11 := TyOK.of (inf := Tryd.t11) Tryd.underlying11 (by kernel_rfl) (by kernel_rfl) (by kernel_rfl) (by kernel_rfl)
noncomputable def ti12 : TI := ⟨Tryd.t12.desc, 1, 8, [.it .u64 (0 : Int)]⟩
theorem ti12_ok : TyOK Tryd.prog 12 ti12 := TyOK.of (inf := Tryd.t12) Tryd.underlying12 (by kernel_rfl) (by kernel_rfl) (by kernel_rfl) (by kernel_rfl)
noncomputable def ti13 : TI := ⟨Tryd.t13.desc, 2, 24, [.st (ByteArray.mk #[]), .it .u64 (0 : Int)]⟩
theorem ti13_ok : TyOK Tryd.prog 13 ti13 := TyOK.of (inf := Tryd.t13) Tryd.underlying13 (by kernel_rfl) (by kernel_rfl) (by kernel_rfl) (by kernel_rfl)
noncomputable def ti14 : TI := ⟨Tryd.t13.desc, 2, 24, [.st (ByteArray.mk #[]), .it .u64 (0 : Int)]⟩
theorem ti14_ok : TyOK Tryd.prog 14 ti14 := TyOK.of (inf := Tryd.t14) Tryd.underlying14 (by kernel_rfl) (by kernel_rfl) (by kernel_rfl) (by kernel_rfl)
noncomputable def ti15 : TI := ⟨Tryd.t15.desc, 1, 8, [.pn]⟩
theorem ti15_ok : TyOK Tryd.prog 15 ti15 := TyOK.of (inf := Tryd.t15) Tryd.underlying15 (by kernel_rfl) (by kernel_rfl) (by kernel_rfl) (by kernel_rfl)
noncomputable def ti16 : TI := ⟨Tryd.t16.desc, 1, 8, [.pn]⟩
theorem ti16_ok : TyOK Tryd.prog 16 ti16 := TyOK.of (inf := Tryd.t16) Tryd.underlying16 (by kernel_rfl) (by kernel_rfl) (by kernel_rfl) (by kernel_rfl)
noncomputable def ti17 : TI := ⟨Tryd.t17.desc, 1, 8, [.pn]⟩
theorem ti17_ok : TyOK Tryd.prog 17 ti17 := TyOK.of (inf := Tryd.t17) Tryd.underlying17 (by kernel_rfl) (by kernel_rfl) (by kernel_rfl) (by kernel_rfl)
noncomputable def ti18 : TI := ⟨Tryd.t18.desc, 1, 8, [.pn]⟩
theorem ti18_ok : TyOK Tryd.prog 18 ti18 := TyOK.of (inf := Tryd.t18) Tryd.underlying18 (by kernel_rfl) (by kernel_rfl) (by kernel_rfl) (by kernel_rfl)
noncomputable def ti19 : TI := ⟨Tryd.t18.desc, 1, 8, [.pn]⟩
theorem ti19_ok : TyOK Tryd.prog 19 ti19 := TyOK.of (inf := Tryd.t19) Tryd.underlying19 (by kernel_rfl) (by kernel_rfl) (by kernel_rfl) (by kernel_rfl)
noncomputable def ti21 : TI := ⟨Tryd.t21.desc, 1, 4, [.it .i32 (0 : Int)]⟩
theorem ti21_ok : TyOK Tryd.prog 21 ti21 := TyOK.of (inf := Tryd.t21) Tryd.underlying21 (by kernel_rfl) (by kernel_rfl) (by kernel_rfl) (by kernel_rfl)
noncomputable def ti22 : TI := ⟨Tryd.t22.desc, 1, 24, [.sn]⟩
theorem ti22_ok : TyOK Tryd.prog 22 ti22 := TyOK.of (inf := Tryd.t22) Tryd.underlying22 (by kernel_rfl) (by kernel_rfl) (by kernel_rfl) (by kernel_rfl)
noncomputable def ti23 : TI := ⟨Tryd.t23.desc, 1, 8, [.nf]⟩
theorem ti23_ok : TyOK Tryd.prog 23 ti23 := TyOK.of (inf := Tryd.t23) Tryd.underlying23 (by kernel_rfl) (by kernel_rfl) (by kernel_rfl) (by kernel_rfl)
noncomputable def ti24 : TI := ⟨Tryd.t24.desc, 1, 4, [.fl .f32 0]⟩
theorem ti24_ok : TyOK Tryd.prog 24 ti24 := TyOK.of (inf := Tryd.t24) Tryd.underlying24 (by kernel_rfl) (by kernel_rfl) (by kernel_rfl) (by kernel_rfl)
noncomputable def ti25 : TI := ⟨Tryd.t25.desc, 5, 20, [.fl .f32 0, .fl .f32 0, .fl .f32 0, .fl .f32 0, .kb false]⟩
theorem ti25_ok : TyOK Tryd.prog 25 ti25 := TyOK.of (inf := Tryd.t25) Tryd.underlying25 (by kernel_rfl) (by kernel_rfl) (by kernel_rfl) (by kernel_rfl)
noncomputable def ti26 : TI := ⟨Tryd.t25.desc, 5, 20, [.fl .f32 0, .fl .f32 0, .fl .f32 0, .fl .f32 0, .kb false]⟩
theorem ti26_ok : TyOK Tryd.prog 26 ti26 := TyOK.of (inf := Tryd.t26) Tryd.underlying26 (by kernel_rfl) (by kernel_rfl) (by kernel_rfl) (by kernel_rfl)
noncomputable def ti27 : TI := ⟨Tryd.t27.desc, 1, 8, [.nf]⟩
theorem ti27_ok : TyOK Tryd.prog 27 ti27 := TyOK.of (inf := Tryd.t27) Tryd.underlying27 (by kernel_rfl) (by kernel_rfl) (by kernel_rfl) (by kernel_rfl)
noncomputable def ti29 : TI := ⟨Tryd.t29.desc, 1, 8, [.nf]⟩
theorem ti29_ok : TyOK Tryd.prog 29 ti29 := TyOK.of (inf := Tryd.t29) Tryd.underlying29 (by kernel_rfl) (by kernel_rfl) (by kernel_rfl) (by kernel_rfl)
noncomputable def ti30 : TI := ⟨Tryd.t30.desc, 1, 8, [.nf]⟩
theorem ti30_ok : TyOK Tryd.prog 30 ti30 := TyOK.of (inf := Tryd.t30) Tryd.underlying30 (by kernel_rfl) (by kernel_rfl) (by kernel_rfl) (by kernel_rfl)
noncomputable def ti32 : TI := ⟨Tryd.t32.desc, 1, 8, [.nf]⟩
theorem ti32_ok : TyOK Tryd.prog 32 ti32 := TyOK.of (inf := Tryd.t32) Tryd.underlying32 (by kernel_rfl) (by kernel_rfl) (by kernel_rfl) (by kernel_rfl)
noncomputable def ti33 : TI := ⟨Tryd.t33.desc, 1, 8, [.nf]⟩
theorem ti33_ok : TyOK Tryd.prog 33 ti33 := TyOK.of (inf := Tryd.t33) Tryd.underlying33 (by kernel_rfl) (by kernel_rfl) (by kernel_rfl) (by kernel_rfl)
noncomputable def ti34 : TI := ⟨Tryd.t34.desc, 1, 8, [.nf]⟩
theorem ti34_ok : TyOK Tryd.prog 34 ti34 := TyOK.of (inf := Tryd.t34) Tryd.underlying34 (by kernel_rfl) (by kernel_rfl) (by kernel_rfl) (by kernel_rfl)
noncomputable def ti35 : TI := ⟨Tryd.t35.desc, 1, 8, [.nf]⟩
theorem ti35_ok : TyOK Tryd.prog 35 ti35 := TyOK.of (inf := Tryd.t35) Tryd.underlying35 (by kernel_rfl) (by kernel_rfl) (by kernel_rfl) (by kernel_rfl)
noncomputable def ti36 : TI := ⟨Tryd.t36.desc, 1, 8, [.nf]⟩
theorem ti36_ok : TyOK Tryd.prog 36 ti36 := TyOK.of (inf := Tryd.t36) Tryd.underlying36 (by kernel_rfl) (by kernel_rfl) (by kernel_rfl) (by kernel_rfl)
noncomputable def ti37 : TI := ⟨Tryd.t37.desc, 1, 8, [.nf]⟩
theorem ti37_ok : TyOK Tryd.prog 37 ti37 := TyOK.of (inf := Tryd.t37) Tryd.underlying37 (by kernel_rfl) (by kernel_rfl) (by kernel_rfl) (by kernel_rfl)
noncomputable def ti38 : TI := ⟨Tryd.t38.desc, 1, 8, [.nf]⟩
theorem ti38_ok : TyOK Tryd.prog 38 ti38 := TyOK.of (inf := Tryd.t38) Tryd.underlying38 (by kernel_rfl) (by kernel_rfl) (by kernel_rfl) (by kernel_rfl)
noncomputable def ti39 : TI := ⟨Tryd.t39.desc, 1, 8, [.nf]⟩
theorem ti39_ok : TyOK Tryd.prog 39 ti39 := TyOK.of (inf := Tryd.t39) Tryd.underlying39 (by kernel_rfl) (by kernel_rfl) (by kernel_rfl) (by kernel_rfl)
noncomputable def ti40 : TI := ⟨Tryd.t40.desc, 1, 8, [.nf]⟩
theorem ti40_ok : TyOK Tryd.prog 40 ti40 := TyOK.of (inf := Tryd.t40) Tryd.underlying40 (by kernel_rfl) (by kernel_rfl) (by kernel_rfl) (by kernel_rfl)
noncomputable def ti41 : TI := ⟨Tryd.t41.desc, 1, 8, [.nf]⟩
theorem ti41_ok : TyOK Tryd.prog 41 ti41 := TyOK.of (inf := Tryd.t41) Tryd.underlying41 (by kernel_rfl) (by kernel_rfl) (by kernel_rfl) (by kernel_rfl)
noncomputable def ti43 : TI := ⟨Tryd.t43.desc, 1, 8, [.nf]⟩
theorem ti43_ok : TyOK Tryd.prog 43 ti43 := TyOK.of (inf := Tryd.t43) Tryd.underlying43 (by kernel_rfl) (by kernel_rfl) (by kernel_rfl) (by kernel_rfl)
noncomputable def ti44 : TI := ⟨Tryd.t44.desc, 1, 8, [.nf]⟩
theorem ti44_ok : TyOK Tryd.prog 44 ti44 := TyOK.of (inf := Tryd.t44) Tryd.underlying44 (by kernel_rfl) (by kernel_rfl) (by kernel_rfl) (by kernel_rfl)
noncomputable def ti45 : TI := ⟨Tryd.t45.desc, 1, 8, [.pn]⟩
theorem ti45_ok : TyOK Tryd.prog 45 ti45 := TyOK.of (inf := Tryd.t45) Tryd.underlying45 (by kernel_rfl) (by kernel_rfl) (by kernel_rfl) (by kernel_rfl)
noncomputable def ti46 : TI := ⟨Tryd.t46.desc, 1, 8, [.nf]⟩
theorem ti46_ok : TyOK Tryd.prog 46 ti46 := TyOK.of (inf := Tryd.t46) Tryd.underlying46 (by kernel_rfl) (by kernel_rfl) (by kernel_rfl) (by kernel_rfl)
noncomputable def ti47 : TI := ⟨Tryd.t47.desc, 1, 24, [.sn]⟩
theorem ti47_ok : TyOK Tryd.prog 47 ti47 := TyOK.of (inf := Tryd.t47) Tryd.underlying47 (by kernel_rfl) (by kernel_rfl) (by kernel_rfl) (by kernel_rfl)
noncomputable def ti48 : TI := ⟨Tryd.t48.desc, 1, 8, [.nf]⟩
theorem ti48_ok : TyOK Tryd.prog 48 ti48 := TyOK.of (inf := Tryd.t48) Tryd.underlying48 (by kernel_rfl) (by kernel_rfl) (by kernel_rfl) (by kernel_rfl)
noncomputable def ti49 : TI := ⟨Tryd.t49.desc, 1, 24, [.sn]⟩
theorem ti49_ok : TyOK Tryd.prog 49 ti49 := TyOK.of (inf := Tryd.t49) Tryd.underlying49 (by kernel_rfl) (by kernel_rfl) (by kernel_rfl) (by kernel_rfl)
noncomputable def ti51 : TI := ⟨Tryd.t51.desc, 1, 8, [.nf]⟩
theorem ti51_ok : TyOK Tryd.prog 51 ti51 := TyOK.of (inf := Tryd.t51) Tryd.underlying51 (by kernel_rfl) (by kernel_rfl) (by kernel_rfl) (by kernel_rfl)
noncomputable def ti52 : TI := ⟨Tryd.t52.desc, 1, 8, [.nf]⟩
theorem ti52_ok : TyOK Tryd.prog 52 ti52 := TyOK.of (inf := Tryd.t52) Tryd.underlying52 (by kernel_rfl) (by kernel_rfl) (by kernel_rfl) (by kernel_rfl)
noncomputable def ti53 : TI := ⟨Tryd.t53.desc, 1, 8, [.nf]⟩
theorem ti53_ok : TyOK Tryd.prog 53 ti53 := TyOK.of (inf := Tryd.t53) Tryd.underlying53 (by kernel_rfl) (by kernel_rfl) (by kernel_rfl) (by kernel_rfl)
noncomputable def ti54 : TI := ⟨Tryd.t54.desc, 1, 8, [.nf]⟩
theorem ti54_ok : TyOK Tryd.prog 54 ti54 := TyOK.of (inf := Tryd.t54) Tryd.underlying54 (by kernel_rfl) (by kernel_rfl) (by kernel_rfl) (by kernel_rfl)
noncomputable def ti55 : TI := ⟨Tryd.t55.desc, 1, 8, [.nf]⟩
theorem ti55_ok : TyOK Tryd.prog 55 ti55 := TyOK.of (inf := Tryd.t55) Tryd.underlying55 (by kernel_rfl) (by kernel_rfl) (by kernel_rfl) (by kernel_rfl)
noncomputable def ti56 : TI := ⟨Tryd.t56.desc, 1, 8, [.nf]⟩
theorem ti56_ok : TyOK Tryd.prog 56 ti56 := TyOK.of (inf := Tryd.t56) Tryd.underlying56 (by kernel_rfl) (by kernel_rfl) (by kernel_rfl) (by kernel_rfl)
noncomputable def ti57 : TI := ⟨Tryd.t57.desc, 1, 8, [.pn]⟩
theorem ti57_ok : TyOK Tryd.prog 57 ti57 := TyOK.of (inf := Tryd.t57) Tryd.underlying57 (by kernel_rfl) (by kernel_rfl) (by kernel_rfl) (by kernel_rfl)
noncomputable def ti58 : TI := ⟨Tryd.t58.desc, 1, 8, [.nf]⟩
theorem ti58_ok : TyOK Tryd.prog 58 ti58 := TyOK.of (inf := Tryd.t58) Tryd.underlying58 (by kernel_rfl) (by kernel_rfl) (by kernel_rfl) (by kernel_rfl)
noncomputable def ti59 : TI := ⟨Tryd.t59.desc, 1, 8, [.nf]⟩
theorem ti59_ok : TyOK Tryd.prog 59 ti59 := TyOK.of (inf := Tryd.t59) Tryd.underlying59 (by kernel_rfl) (by kernel_rfl) (by kernel_rfl) (by kernel_rfl)
noncomputable def ti60 : TI := ⟨Tryd.t60.desc, 1, 8, [.nf]⟩
theorem ti60_ok : TyOK Tryd.prog 60 ti60 := TyOK.of (inf := Tryd.t60) Tryd.underlying60 (by kernel_rfl) (by kernel_rfl) (by kernel_rfl) (by kernel_rfl)
noncomputable def ti61 : TI := ⟨Tryd.t61.desc, 1, 8, [.nf]⟩
theorem ti61_ok : TyOK Tryd.prog 61 ti61 := TyOK.of (inf := Tryd.t61) Tryd.underlying61 (by kernel_rfl) (by kernel_rfl) (by kernel_rfl) (by kernel_rfl)
noncomputable def ti62 : TI := ⟨Tryd.t62.desc, 1, 8, [.nf]⟩
theorem ti62_ok : TyOK Tryd.prog 62 ti62 := TyOK.of (inf := Tryd.t62) Tryd.underlying62 (by kernel_rfl) (by kernel_rfl) (by kernel_rfl) (by kernel_rfl)
noncomputable def ti63 : TI := ⟨Tryd.t63.desc, 1, 8, [.nf]⟩
theorem ti63_ok : TyOK Tryd.prog 63 ti63 := TyOK.of (inf := Tryd.t63) Tryd.underlying63 (by kernel_rfl) (by kernel_rfl) (by kernel_rfl) (by kernel_rfl)
noncomputable def ti64 : TI := ⟨Tryd.t64.desc, 1, 8, [.nf]⟩
theorem ti64_ok : TyOK Tryd.prog 64 ti64 := TyOK.of (inf := Tryd.t64) Tryd.underlying64 (by kernel_rfl) (by kernel_rfl) (by kernel_rfl) (by kernel_rfl)
noncomputable def ti65 : TI := ⟨Tryd.t65.desc, 1, 8, [.nf]⟩
theorem ti65_ok : TyOK Tryd.prog 65 ti65 := TyOK.of (inf := Tryd.t65) Tryd.underlying65 (by kernel_rfl) (by kernel_rfl) (by kernel_rfl) (by kernel_rfl)
noncomputable def ti66 : TI := ⟨Tryd.t66.desc, 1, 8, [.nf]⟩
theorem ti66_ok : TyOK Tryd.prog 66 ti66 := TyOK.of (inf := Tryd.t66) Tryd.underlying66 (by kernel_rfl) (by kernel_rfl) (by kernel_rfl) (by kernel_rfl)
noncomputable def ti67 : TI := ⟨Tryd.t67.desc, 1, 8, [.nf]⟩
theorem ti67_ok : TyOK Tryd.prog 67 ti67 := TyOK.of (inf := Tryd.t67) Tryd.underlying67 (by kernel_rfl) (by kernel_rfl) (by kernel_rfl) (by kernel_rfl)
noncomputable def ti68 : TI := ⟨Tryd.t68.desc, 1, 8, [.nf]⟩
theorem ti68_ok : TyOK Tryd.prog 68 ti68 := TyOK.of (inf := Tryd.t68) Tryd.underlying68 (by kernel_rfl) (by kernel_rfl) (by kernel_rfl) (by kernel_rfl)
noncomputable def ti69 : TI := ⟨Tryd.t69.desc, 1, 8, [.nf]⟩
theorem ti69_ok : TyOK Tryd.prog 69 ti69 := TyOK.of (inf := Tryd.t69) Tryd.underlying69 (by kernel_rfl) (by kernel_rfl) (by kernel_rfl) (by kernel_rfl)
noncomputable def ti70 : TI := ⟨Tryd.t70.desc, 1, 24, [.sn]⟩
theorem ti70_ok : TyOK Tryd.prog 70 ti70 := TyOK.of (inf := Tryd.t70) Tryd.underlying70 (by kernel_rfl) (by kernel_rfl) (by kernel_rfl) (by kernel_rfl)
noncomputable def ti71 : TI := ⟨Tryd.t71.desc, 1, 8, [.it .u64 (0 : Int)]⟩
theorem ti71_ok : TyOK Tryd.prog 71 ti71 := TyOK.of (inf := Tryd.t71) Tryd.underlying71 (by kernel_rfl) (by kernel_rfl) (by kernel_rfl) (by kernel_rfl)
noncomputable def ti72 : TI := ⟨Tryd.t72.desc, 3, 40, [.sn, .it .i64 (0 : Int), .it .u64 (0 : Int)]⟩
theorem ti72_ok : TyOK Tryd.prog 72 ti72 := TyOK.of (inf := Tryd.t72) Tryd.underlying72 (by kernel_rfl) (by kernel_rfl) (by kernel_rfl) (by kernel_rfl)
noncomputable def ti73 : TI := ⟨Tryd.t72.desc, 3, 40, [.sn, .it .i64 (0 : Int), .it .u64 (0 : Int)]⟩
theorem ti73_ok : TyOK Tryd.prog 73 ti73 := TyOK.of (inf := Tryd.t73) Tryd.underlying73 (by kernel_rfl) (by kernel_rfl) (by kernel_rfl) (by kernel_rfl)
noncomputable def ti74 : TI := ⟨Tryd.t74.desc, 1, 8, [.nf]⟩
theorem ti74_ok : TyOK Tryd.prog 74 ti74 := TyOK.of (inf := Tryd.t74) Tryd.underlying74 (by kernel_rfl) (by kernel_rfl) (by kernel_rfl) (by kernel_rfl)
noncomputable def ti75 : TI := ⟨Tryd.t75.desc, 1, 8, [.nf]⟩
theorem ti75_ok : TyOK Tryd.prog 75 ti75 := TyOK.of (inf := Tryd.t75) Tryd.underlying75 (by kernel_rfl) (by kernel_rfl) (by kernel_rfl) (by kernel_rfl)
noncomputable def ti76 : TI := ⟨Tryd.t76.desc, 1, 8, [.nf]⟩
theorem ti76_ok : TyOK Tryd.prog 76 ti76 := TyOK.of (inf := Tryd.t76) Tryd.underlying76 (by kernel_rfl) (by kernel_rfl) (by kernel_rfl) (by kernel_rfl)
noncomputable def ti77 : TI := ⟨Tryd.t77.desc, 1, 8, [.nf]⟩
theorem ti77_ok : TyOK Tryd.prog 77 ti77 := TyOK.of (inf := Tryd.t77) Tryd.underlying77 (by kernel_rfl) (by kernel_rfl) (by kernel_rfl) (by kernel_rfl)
noncomputable def ti78 : TI := ⟨Tryd.t78.desc, 1, 4, [.it .u32 (0 : Int)]⟩
theorem ti78_ok : TyOK Tryd.prog 78 ti78 := TyOK.of (inf := Tryd.t78) Tryd.underlying78 (by kernel_rfl) (by kernel_rfl) (by kernel_rfl) (by kernel_rfl)
noncomputable def ti79 : TI := ⟨Tryd.t79.desc, 1, 8, [.nf]⟩
theorem ti79_ok : TyOK Tryd.prog 79 ti79 := TyOK.of (inf := Tryd.t79) Tryd.underlying79 (by kernel_rfl) (by kernel_rfl) (by kernel_rfl) (by kernel_rfl)
noncomputable def ti80 : TI := ⟨Tryd.t80.desc, 1, 8, [.nf]⟩
theorem ti80_ok : TyOK Tryd.prog 80 ti80 := TyOK.of (inf := Tryd.t80) Tryd.underlying80 (by kernel_rfl) (by kernel_rfl) (by kernel_rfl) (by kernel_rfl)
noncomputable def ti81 : TI := ⟨Tryd.t81.desc, 1, 8, [.nf]⟩
theorem ti81_ok : TyOK Tryd.prog 81 ti81 := TyOK.of (inf := Tryd.t81) Tryd.underlying81 (by kernel_rfl) (by kernel_rfl) (by kernel_rfl) (by kernel_rfl)
noncomputable def ti82 : TI := ⟨Tryd.t82.desc, 1, 8, [.nf]⟩
theorem ti82_ok : TyOK Tryd.prog 82 ti82 := TyOK.of (inf := Tryd.t82) Tryd.underlying82 (by kernel_rfl) (by kernel_rfl) (by kernel_rfl) (by kernel_rfl)
noncomputable def ti83 : TI := ⟨Tryd.t83.desc, 1, 8, [.it .u64 (0 : Int)]⟩
theorem ti83_ok : TyOK Tryd.prog 83 ti83 := TyOK.of (inf := Tryd.t83) Tryd.underlying83 (by kernel_rfl) (by kernel_rfl) (by kernel_rfl) (by kernel_rfl)
noncomputable def ti84 : TI := ⟨Tryd.t84.desc, 1, 8, [.nf]⟩
theorem ti84_ok : TyOK Tryd.prog 84 ti84 := TyOK.of (inf := Tryd.t84) Tryd.underlying84 (by kernel_rfl) (by kernel_rfl) (by kernel_rfl) (by kernel_rfl)
noncomputable def ti85 : TI := ⟨Tryd.t85.desc, 1, 8, [.nf]⟩
theorem ti85_ok : TyOK Tryd.prog 85 ti85 := TyOK.of (inf := Tryd.t85) Tryd.underlying85 (by kernel_rfl) (by kernel_rfl) (by kernel_rfl) (by kernel_rfl)
noncomputable def ti86 : TI := ⟨Tryd.t86.desc, 1, 8, [.pn]⟩
theorem ti86_ok : TyOK Tryd.prog 86 ti86 := TyOK.of (inf := Tryd.t86) Tryd.underlying86 (by kernel_rfl) (by kernel_rfl) (by kernel_rfl) (by kernel_rfl)
noncomputable def ti87 : TI := ⟨Tryd.t87.desc, 2, 32, [.pn, .sn]⟩
theorem ti87_ok : TyOK Tryd.prog 87 ti87 := TyOK.of (inf := Tryd.t87) Tryd.underlying87 (by kernel_rfl) (by kernel_rfl) (by kernel_rfl) (by kernel_rfl)
noncomputable def ti88 : TI := ⟨Tryd.t87.desc, 2, 32, [.pn, .sn]⟩
theorem ti88_ok : TyOK Tryd.prog 88 ti88 := TyOK.of (inf := Tryd.t88) Tryd.underlying88 (by kernel_rfl) (by kernel_rfl) (by kernel_rfl) (by kernel_rfl)
noncomputable def ti89 : TI := ⟨Tryd.t89.desc, 1, 8, [.nf]⟩
theorem ti89_ok : TyOK Tryd.prog 89 ti89 := TyOK.of (inf := Tryd.t89) Tryd.underlying89 (by kernel_rfl) (by kernel_rfl) (by kernel_rfl) (by kernel_rfl)
noncomputable def ti93 : TI := ⟨Tryd.t93.desc, 1, 8, [.nf]⟩
theorem ti93_ok : TyOK Tryd.prog 93 ti93 := TyOK.of (inf := Tryd.t93) Tryd.underlying93 (by kernel_rfl) (by kernel_rfl) (by kernel_rfl) (by kernel_rfl)
noncomputable def ti94 : TI := ⟨Tryd.t94.desc, 1, 8, [.nf]⟩
theorem ti94_ok : TyOK Tryd.prog 94 ti94 := TyOK.of (inf := Tryd.t94) Tryd.underlying94 (by kernel_rfl) (by kernel_rfl) (by kernel_rfl) (by kernel_rfl)
noncomputable def ti95 : TI := ⟨Tryd.t95.desc, 1, 8, [.nf]⟩
theorem ti95_ok : TyOK Tryd.prog 95 ti95 := TyOK.of (inf := Tryd.t95) Tryd.underlying95 (by kernel_rfl) (by kernel_rfl) (by kernel_rfl) (by kernel_rfl)
noncomputable def ti97 : TI := ⟨Tryd.t97.desc, 1, 8, [.nf]⟩
theorem ti97_ok : TyOK Tryd.prog 97 ti97 := TyOK.of (inf := Tryd.t97) Tryd.underlying97 (by kernel_rfl) (by kernel_rfl) (by kernel_rfl) (by kernel_rfl)
noncomputable def ti98 : TI := ⟨Tryd.t98.desc, 1, 8, [.pn]⟩
theorem ti98_ok : TyOK Tryd.prog 98 ti98 := TyOK.of (inf := Tryd.t98) Tryd.underlying98 (by kernel_rfl) (by kernel_rfl) (by kernel_rfl) (by kernel_rfl)
noncomputable def ti99 : TI := ⟨Tryd.t99.desc, 1, 8, [.nf]⟩
theorem ti99_ok : TyOK Tryd.prog 99 ti99 := TyOK.of (inf := Tryd.t99) Tryd.underlying99 (by kernel_rfl) (by kernel_rfl) (by kernel_rfl) (by kernel_rfl)
noncomputable def ti100 : TI := ⟨Tryd.t100.desc, 1, 8, [.pn]⟩
theorem ti100_ok : TyOK Tryd.prog 100 ti100 := TyOK.of (inf := Tryd.t100) Tryd.underlying100 (by kernel_rfl) (by kernel_rfl) (by kernel_rfl) (by kernel_rfl)
noncomputable def ti101 : TI := ⟨Tryd.t101.desc, 1, 8, [.nf]⟩
theorem ti101_ok : TyOK Tryd.prog 101 ti101 := TyOK.of (inf := Tryd.t101) Tryd.underlying101 (by kernel_rfl) (by kernel_rfl) (by kernel_rfl) (by kernel_rfl)
noncomputable def ti102 : TI := ⟨Tryd.t102.desc, 1, 8, [.nf]⟩
theorem ti102_ok : TyOK Tryd.prog 102 ti102 := TyOK.of (inf := Tryd.t102) Tryd.underlying102 (by kernel_rfl) (by kernel_rfl) (by kernel_rfl) (by kernel_rfl)
noncomputable def ti103 : TI := ⟨Tryd.t103.desc, 256, 256, [.it .u8 (0 : Int), .it .u8 (0 : Int), .it .u8 (0 : Int), .it .u8 (0 : Int), .it .u8 (0 : Int), .it .u8 (0 : Int), .it .u8 (0 : Int), .it .u8 (0 : Int), .it .u8 (0 : Int), .it .u8 (0 : Int), .it .u8 (0 : Int), .it .u8 (0 : Int), .it .u8 (0 : Int), .it .u8 (0 : Int), .it .u8 (0 : Int), .it .u8 (0 : Int), .it .u8 (0 : Int), .it .u8 (0 : Int), .it .u8 (0 : Int), .it .u8 (0 : Int), .it .u8 (0 : Int), .it .u8 (0 : Int), .it .u8 (0 : Int), .it .u8 (0 : Int), .it .u8 (0 : Int), .it .u8 (0 : Int), .it .u8 (0 : Int), .it .u8 (0 : Int), .it .u8 (0 : Int), .it .u8 (0 : Int), .it .u8 (0 : Int), .it .u8 (0 : Int), .it .u8 (0 : Int), .it .u8 (0 : Int), .it .u8 (0 : Int), .it .u8 (0 : Int), .it .u8 (0 : Int), .it .u8 (0 : Int), .it .u8 (0 : Int), .it .u8 (0 : Int), .it .u8 (0 : Int), .it .u8 (0 : Int), .it .u8 (0 : Int), .it .u8 (0 : Int), .it .u8 (0 : Int), .it .u8 (0 : Int), .it .u8 (0 : Int), .it .u8 (0 : Int), .it .u8 (0 : Int), .it .u8 (0 : Int), .it .u8 (0 : Int), .it .u8 (0 : Int), .it .u8 (0 : Int), .it .u8 (0 : Int), .it .u8 (0 : Int), .it .u8 (0 : Int), .it .u8 (0 : Int), .it .u8 (0 : Int), .it .u8 (0 : Int), .it .u8 (0 : Int), .it .u8 (0 : Int), .it .u8 (0 : Int), .it .u8 (0 : Int), .it .u8 (0 : Int), .it .u8 (0 : Int), .it .u8 (0 : Int), .it .u8 (0 : Int), .it .u8 (0 : Int), .it .u8 (0 : Int), .it .u8 (0 : Int), .it .u8 (0 : Int), .it .u8 (0 : Int), .it .u8 (0 : Int), .it .u8 (0 : Int), .it .u8 (0 : Int), .it .u8 (0 : Int), .it .u8 (0 : Int), .it .u8 (0 : Int), .it .u8 (0 : Int), .it .u8 (0 : Int), .it .u8 (0 : Int), .it .u8 (0 : Int), .it .u8 (0 : Int), .it .u8 (0 : Int), .it .u8 (0 : Int), .it .u8 (0 : Int), .it .u8 (0 : Int), .it .u8 (0 : Int), .it .u8 (0 : Int), .it .u8 (0 : Int), .it .u8 (0 : Int), .it .u8 (0 : Int), .it .u8 (0 : Int), .it .u8 (0 : Int), .it .u8 (0 : Int), .it .u8 (0 : Int), .it .u8 (0 : Int), .it .u8 (0 : Int), .it .u8 (0 : Int), .it .u8 (0 : Int), .it .u8 (0 : Int), .it .u8 (0 : Int), .it .u8 (0 : Int), .it .u8 (0 : Int), .it .u8 (0 : Int), .it .u8 (0 : Int), .it .u8 (0 : Int), .it .u8 (0 : Int), .it .u8 (0 : Int), .it .u8 (0 : Int), .it .u8 (0 : Int), .it .u8 (0 : Int), .it .u8 (0 : Int), .it .u8 (0 : Int), .it .u8 (0 : Int), .it .u8 (0 : Int), .it .u8 (0 : Int), .it .u8 (0 : Int), .it .u8 (0 : Int), .it .u8 (0 : Int), .it .u8 (0 : Int), .it .u8 (0 : Int), .it .u8 (0 : Int), .it .u8 (0 : Int), .it .u8 (0 : Int), .it .u8 (0 : Int), .it .u8 (0 : Int), .it .u8 (0 : Int), .it .u8 (0 : Int), .it .u8 (0 : Int), .it .u8 (0 : Int), .it .u8 (0 : Int), .it .u8 (0 : Int), .it .u8 (0 : Int), .it .u8 (0 : Int), .it .u8 (0 : Int), .it .u8 (0 : Int), .it .u8 (0 : Int), .it .u8 (0 : Int), .it .u8 (0 : Int), .it .u8 (0 : Int), .it .u8 (0 : Int), .it .u8 (0 : Int), .it .u8 (0 : Int), .it .u8 (0 : Int), .it .u8 (0 : Int), .it .u8 (0 : Int), .it .u8 (0 : Int), .it .u8 (0 : Int), .it .u8 (0 : Int), .it .u8 (0 : Int), .it .u8 (0 : Int), .it .u8 (0 : Int), .it .u8 (0 : Int), .it .u8 (0 : Int), .it .u8 (0 : Int), .it .u8 (0 : Int), .it .u8 (0 : Int), .it .u8 (0 : Int), .it .u8 (0 : Int), .it .u8 (0 : Int), .it .u8 (0 : Int), .it .u8 (0 : Int), .it .u8 (0 : Int), .it .u8 (0 : Int), .it .u8 (0 : Int), .it .u8 (0 : Int), .it .u8 (0 : Int), .it .u8 (0 : Int), .it .u8 (0 : Int), .it .u8 (0 : Int), .it .u8 (0 : Int), .it .u8 (0 : Int), .it .u8 (0 : Int), .it .u8 (0 : Int), .it .u8 (0 : Int), .it .u8 (0 : Int), .it .u8 (0 : Int), .it .u8 (0 : Int), .it .u8 (0 : Int), .it .u8 (0 : Int), .it .u8 (0 : Int), .it .u8 (0 : Int), .it .u8 (0 : Int), .it .u8 (0 : Int), .it .u8 (0 : Int), .it .u8 (0 : Int), .it .u8 (0 : Int), .it .u8 (0 : Int), .it .u8 (0 : Int), .it .u8 (0 : Int), .it .u8 (0 : Int), .it .u8 (0 : Int), .it .u8 (0 : Int), .it .u8 (0 : Int), .it .u8 (0 : Int), .it .u8 (0 : Int), .it .u8 (0 : Int), .it .u8 (0 : Int), .it .u8 (0 : Int), .it .u8 (0 : Int), .it .u8 (0 : Int), .it .u8 (0 : Int), .it .u8 (0 : Int), .it .u8 (0 : Int), .it .u8 (0 : Int), .it .u8 (0 : Int), .it .u8 (0 : Int), .it .u8 (0 : Int), .it .u8 (0 : Int), .it .u8 (0 : Int), .it .u8 (0 : Int), .it .u8 (0 : Int), .it .u8 (0 : Int), .it .u8 (0 : Int), .it .u8 (0 : Int), .it .u8 (0 : Int), .it .u8 (0 : Int), .it .u8 (0 : Int), .it .u8 (0 : Int), .it .u8 (0 : Int), .it .u8 (0 : Int), .it .u8 (0 : Int), .it .u8 (0 : Int), .it .u8 (0 : Int), .it .u8 (0 : Int), .it .u8 (0 : Int), .it .u8 (0 : Int), .it .u8 (0 : Int), .it .u8 (0 : Int), .it .u8 (0 : Int), .it .u8 (0 : Int), .it .u8 (0 : Int), .it .u8 (0 : Int), .it .u8 (0 : Int), .it .u8 (0 : Int), .it .u8 (0 : Int), .it .u8 (0 : Int), .it .u8 (0 : Int), .it .u8 (0 : Int), .it .u8 (0 : Int), .it .u8 (0 : Int), .it .u8 (0 : Int), .it .u8 (0 : Int), .it .u8 (0 : Int), .it .u8 (0 : Int), .it .u8 (0 : Int), .it .u8 (0 : Int), .it .u8 (0 : Int), .it .u8 (0 : Int), .it .u8 (0 : Int), .it .u8 (0 : Int), .it .u8 (0 : Int), .it .u8 (0 : Int), .it .u8 (0 : Int), .it .u8 (0 : Int)]⟩
theorem ti103_ok : TyOK Tryd.prog 103 ti103 := TyOK.of (inf := Tryd.t103) Tryd.underlying103 (by kernel_rfl) (by kernel_rfl) (by kernel_rfl) (by kernel_rfl)
noncomputable def ti104 : TI := ⟨Tryd.t104.desc, 2, 2, [.it .u8 (0 : Int), .it .u8 (0 : Int)]⟩
theorem ti104_ok : TyOK Tryd.prog 104 ti104 := TyOK.of (inf := Tryd.t104) Tryd.underlying104 (by kernel_rfl) (by kernel_rfl) (by kernel_rfl) (by kernel_rfl)
noncomputable def ti105 : TI := ⟨Tryd.t104.desc, 2, 2, [.it .u8 (0 : Int), .it .u8 (0 : Int)]⟩
theorem ti105_ok : TyOK Tryd.prog 105 ti105 := TyOK.of (inf := Tryd.t105) Tryd.underlying105 (by kernel_rfl) (by kernel_rfl) (by kernel_rfl) (by kernel_rfl)
noncomputable def ti106 : TI := ⟨Tryd.t106.desc, 32, 32, [.it .u8 (0 : Int), .it .u8 (0 : Int), .it .u8 (0 : Int), .it .u8 (0 : Int), .it .u8 (0 : Int), .it .u8 (0 : Int), .it .u8 (0 : Int), .it .u8 (0 : Int), .it .u8 (0 : Int), .it .u8 (0 : Int), .it .u8 (0 : Int), .it .u8 (0 : Int), .it .u8 (0 : Int), .it .u8 (0 : Int), .it .u8 (0 : Int), .it .u8 (0 : Int), .it .u8 (0 : Int), .it .u8 (0 : Int), .it .u8 (0 : Int), .it .u8 (0 : Int), .it .u8 (0 : Int), .it .u8 (0 : Int), .it .u8 (0 : Int), .it .u8 (0 : Int), .it .u8 (0 : Int), .it .u8 (0 : Int), .it .u8 (0 : Int), .it .u8 (0 : Int), .it .u8 (0 : Int), .it .u8 (0 : Int), .it .u8 (0 : Int), .it .u8 (0 : Int)]⟩
theorem ti106_ok : TyOK Tryd.prog 106 ti106 := TyOK.of (inf := Tryd.t106) Tryd.underlying106 (by kernel_rfl) (by kernel_rfl) (by kernel_rfl) (by kernel_rfl)
noncomputable def ti108 : TI := ⟨Tryd.t108.desc, 1, 8, [.nf]⟩
theorem ti108_ok : TyOK Tryd.prog 108 ti108 := TyOK.of (inf := Tryd.t108) Tryd.underlying108 (by kernel_rfl) (by kernel_rfl) (by kernel_rfl) (by kernel_rfl)
noncomputable def ti109 : TI := ⟨Tryd.t109.desc, 4, 40, [.pn, .pn, .pn, .st (ByteArray.mk #[])]⟩
theorem ti109_ok : TyOK Tryd.prog 109 ti109 := TyOK.of (inf := Tryd.t109) Tryd.underlying109 (by kernel_rfl) (by kernel_rfl) (by kernel_rfl) (by kernel_rfl)
noncomputable def ti110 : TI := ⟨Tryd.t109.desc, 4, 40, [.pn, .pn, .pn, .st (ByteArray.mk #[])]⟩
theorem ti110_ok : TyOK Tryd.prog 110 ti110 := TyOK.of (inf := Tryd.t110) Tryd.underlying110 (by kernel_rfl) (by kernel_rfl) (by kernel_rfl) (by kernel_rfl)
noncomputable def ti111 : TI := ⟨Tryd.t111.desc, 0, 0, []⟩
theorem ti111_ok : TyOK Tryd.prog 111 ti111 := TyOK.of (inf := Tryd.t111) Tryd.underlying111 (by kernel_rfl) (by kernel_rfl) (by kernel_rfl) (by kernel_rfl)
noncomputable def ti112 : TI := ⟨Tryd.t112.desc, 0, 0, []⟩
theorem ti112_ok : TyOK Tryd.prog 112 ti112 := TyOK.of (inf := Tryd.t112) Tryd.underlying112 (by kernel_rfl) (by kernel_rfl) (by kernel_rfl) (by kernel_rfl)
noncomputable def ti113 : TI := ⟨Tryd.t112.desc, 0, 0, []⟩
theorem ti113_ok : TyOK Tryd.prog 113 ti113 := TyOK.of (inf := Tryd.t113) Tryd.underlying113 (by kernel_rfl) (by kernel_rfl) (by kernel_rfl) (by kernel_rfl)
noncomputable def ti114 : TI := ⟨Tryd.t114.desc, 1, 8, [.nf]⟩
theorem ti114_ok : TyOK Tryd.prog 114 ti114 := TyOK.of (inf := Tryd.t114) Tryd.underlying114 (by kernel_rfl) (by kernel_rfl) (by kernel_rfl) (by kernel_rfl)
noncomputable def ti115 : TI := ⟨Tryd.t5.desc, 1, 1, [.it .u8 (0 : Int)]⟩
theorem ti115_ok : TyOK Tryd.prog 115 ti115 := TyOK.of (inf := Tryd.t115) Tryd.underlying115 (by kernel_rfl) (by kernel_rfl) (by kernel_rfl) (by kernel_rfl)
noncomputable def ti116 : TI := ⟨Tryd.t5.desc, 1, 1, [.it .u8 (0 : Int)]⟩
theorem ti116_ok : TyOK Tryd.prog 116 ti116 := TyOK.of (inf := Tryd.t116) Tryd.underlying116 (by kernel_rfl) (by kernel_rfl) (by kernel_rfl) (by kernel_rfl)
noncomputable def ti117 : TI := ⟨Tryd.t117.desc, 1, 8, [.nf]⟩
theorem ti117_ok : TyOK Tryd.prog 117 ti117 := TyOK.of (inf := Tryd.t117) Tryd.underlying117 (by kernel_rfl) (by kernel_rfl) (by kernel_rfl) (by kernel_rfl)
noncomputable def ti118 : TI := ⟨Tryd.t21.desc, 1, 4, [.it .i32 (0 : Int)]⟩
theorem ti118_ok : TyOK Tryd.prog 118 ti118 := TyOK.of (inf := Tryd.t118) Tryd.underlying118 (by kernel_rfl) (by kernel_rfl) (by kernel_rfl) (by kernel_rfl)
noncomputable def ti119 : TI := ⟨Tryd.t21.desc, 1, 4, [.it .i32 (0 : Int)]⟩
theorem ti119_ok : TyOK Tryd.prog 119 ti119 := TyOK.of (inf := Tryd.t119) Tryd.underlying119 (by kernel_rfl) (by kernel_rfl) (by kernel_rfl) (by kernel_rfl)
noncomputable def ti120 : TI := ⟨Tryd.t120.desc, 11, 48, [.it .u64 (0 : Int), .it .u64 (0 : Int), .it .u32 (0 : Int), .it .u8 (0 : Int), .it .u8 (0 : Int), .it .u8 (0 : Int), .it .u8 (0 : Int), .nf, .pn, .it .i32 (0 : Int), .it .i32 (0 : Int)]⟩
theorem ti120_ok : TyOK Tryd.prog 120 ti120 := TyOK.of (inf := Tryd.t120) Tryd.underlying120 (by kernel_rfl) (by kernel_rfl) (by kernel_rfl) (by kernel_rfl)
noncomputable def ti121 : TI := ⟨Tryd.t120.desc, 11, 48, [.it .u64 (0 : Int), .it .u64 (0 : Int), .it .u32 (0 : Int), .it .u8 (0 : Int), .it .u8 (0 : Int), .it .u8 (0 : Int), .it .u8 (0 : Int), .nf, .pn, .it .i32 (0 : Int), .it .i32 (0 : Int)]⟩
theorem ti121_ok : TyOK Tryd.prog 121 ti121 := TyOK.of (inf := Tryd.t121) Tryd.underlying121 (by kernel_rfl) (by kernel_rfl) (by kernel_rfl) (by kernel_rfl)
noncomputable def tys : List (Nat × TI) := [(1, ti1), (2, ti2), (3, ti3), (4, ti4), (5, ti5), (6, ti6), (7, ti7), (8, ti8), (9, ti9), (10, ti10), (11, ti11), (12, ti12), (13, ti13), (14, ti14), (15, ti15), (16, ti16), (17, ti17), (18, ti18), (19, ti19), (21, ti21), (22, ti22), (23, ti23), (24, ti24), (25, ti25), (26, ti26), (27, ti27), (29, ti29), (30, ti30), (32, ti32), (33, ti33), (34, ti34), (35, ti35), (36, ti36), (37, ti37), (38, ti38), (39, ti39), (40, ti40), (41, ti41), (43, ti43), (44, ti44), (45, ti45), (46, ti46), (47, ti47), (48, ti48), (49, ti49), (51, ti51), (52, ti52), (53, ti53), (54, ti54), (55, ti55), (56, ti56), (57, ti57), (58, ti58), (59, ti59), (60, ti60), (61, ti61), (62, ti62), (63, ti63), (64, ti64), (65, ti65), (66, ti66), (67, ti67), (68, ti68), (69, ti69), (70, ti70), (71, ti71), (72, ti72), (73, ti73), (74, ti74), (75, ti75), (76, ti76), (77, ti77), (78, ti78), (79, ti79), (80, ti80), (81, ti81), (82, ti82), (83, ti83), (84, ti84), (85, ti85), (86, ti86), (87, ti87), (88, ti88), (89, ti89), (93, ti93), (94, ti94), (95, ti95), (97, ti97), (98, ti98), (99, ti99), (100, ti100), (101, ti101), (102, ti102), (103, ti103), (104, ti104), (105, ti105), (106, ti106), (108, ti108), (109, ti109), (110, ti110), (111, ti111), (112, ti112), (113, ti113), (114, ti114), (115, ti115), (116, ti116), (117, ti117), (118, ti118), (119, ti119), (120, ti120), (121, ti121)]
theorem mo : Tryd.prog.follows .mixedOrders = true := by kernel_rfl
theorem tys_ok : TysOK Tryd.prog tys := (TysOK.cons ti1_ok (TysOK.cons ti2_ok (TysOK.cons ti3_ok (TysOK.cons ti4_ok (TysOK.cons ti5_ok (TysOK.cons ti6_ok (TysOK.cons ti7_ok (TysOK.cons ti8_ok (TysOK.cons ti9_ok (TysOK.cons ti10_ok (TysOK.cons ti11_ok (TysOK.cons ti12_ok (TysOK.cons ti13_ok (TysOK.cons ti14_ok (TysOK.cons ti15_ok (TysOK.cons ti16_ok (TysOK.cons ti17_ok (TysOK.cons ti18_ok (TysOK.cons ti19_ok (TysOK.cons ti21_ok (TysOK.cons ti22_ok (TysOK.cons ti23_ok (TysOK.cons ti24_ok (TysOK.cons ti25_ok (TysOK.cons ti26_ok (TysOK.cons ti27_ok (TysOK.cons ti29_ok (TysOK.cons ti30_ok (TysOK.cons ti32_ok (TysOK.cons ti33_ok (TysOK.cons ti34_ok (TysOK.cons ti35_ok (TysOK.cons ti36_ok (TysOK.cons ti37_ok (TysOK.cons ti38_ok (TysOK.cons ti39_ok (TysOK.cons ti40_ok (TysOK.cons ti41_ok (TysOK.cons ti43_ok (TysOK.cons ti44_ok (TysOK.cons ti45_ok (TysOK.cons ti46_ok (TysOK.cons ti47_ok (TysOK.cons ti48_ok (TysOK.cons ti49_ok (TysOK.cons ti51_ok (TysOK.cons ti52_ok (TysOK.cons ti53_ok (TysOK.cons ti54_ok (TysOK.cons ti55_ok (TysOK.cons ti56_ok (TysOK.cons ti57_ok (TysOK.cons ti58_ok (TysOK.cons ti59_ok (TysOK.cons ti60_ok (TysOK.cons ti61_ok (TysOK.cons ti62_ok (TysOK.cons ti63_ok (TysOK.cons ti64_ok (TysOK.cons ti65_ok (TysOK.cons ti66_ok (TysOK.cons ti67_ok (TysOK.cons ti68_ok (TysOK.cons ti69_ok (TysOK.cons ti70_ok (TysOK.cons ti71_ok (TysOK.cons ti72_ok (TysOK.cons ti73_ok (TysOK.cons ti74_ok (TysOK.cons ti75_ok (TysOK.cons ti76_ok (TysOK.cons ti77_ok (TysOK.cons ti78_ok (TysOK.cons ti79_ok (TysOK.cons ti80_ok (TysOK.cons ti81_ok (TysOK.cons ti82_ok (TysOK.cons ti83_ok (TysOK.cons ti84_ok (TysOK.cons ti85_ok (TysOK.cons ti86_ok (TysOK.cons ti87_ok (TysOK.cons ti88_ok (TysOK.cons ti89_ok (TysOK.cons ti93_ok (TysOK.cons ti94_ok (TysOK.cons ti95_ok (TysOK.cons ti97_ok (TysOK.cons ti98_ok (TysOK.cons ti99_ok (TysOK.cons ti100_ok (TysOK.cons ti101_ok (TysOK.cons ti102_ok (TysOK.cons ti103_ok (TysOK.cons ti104_ok (TysOK.cons ti105_ok (TysOK.cons ti106_ok (TysOK.cons ti108_ok (TysOK.cons ti109_ok (TysOK.cons ti110_ok (TysOK.cons ti111_ok (TysOK.cons ti112_ok (TysOK.cons ti113_ok (TysOK.cons ti114_ok (TysOK.cons ti115_ok (TysOK.cons ti116_ok (TysOK.cons ti117_ok (TysOK.cons ti118_ok (TysOK.cons ti119_ok (TysOK.cons ti120_ok (TysOK.cons ti121_ok TysOK.nil)))))))))))))))))))))))))))))))))))))))))))))))))))))))))))))))))))))))))))))))))))))))))))))))))))))))))))))))
/-! ### laws_a2Long -/
noncomputable def laws_a2Long.b : Code := bodyOf Tryd.f4
noncomputable def laws_a2Long.C : Ctx := { ty := tys, fn := [], lp := [], n := 13, k := 3 }
theorem laws_a2Long.hC : CtxOK Tryd.prog laws_a2Long.C := CtxOK.of mo tys_ok FnsOK.nil
theorem laws_a2Long.lp : LpOK Tryd.prog laws_a2Long.C laws_a2Long.b := (LpOK.nil (by kernel_rfl))
noncomputable def laws_a2Long.t (x0 : Nat) (x1 : Nat) (x2 : Int) (x3 : List Int) (x4 : List Int) : T Bool :=
  .br (decide (((x0 : Nat) : Int) > (3000 : Int)))
  (.leaf true)
  (.leaf (decide (((x1 : Nat) : Int) > (3000 : Int))))
noncomputable def laws_a2Long (x0 : Nat) (x1 : Nat) (x2 : Int) (x3 : List Int) (x4 : List Int) : Bool := (laws_a2Long.t x0 x1 x2 x3 x4).val
def laws_a2Long.cd : Cd (Nat × Nat × Int × List Int × List Int) (List V × Hp) := Cd.iso (Cd.pair (Cd.cons (Cd.sl 1 (Cd.natc 0)) (Cd.cons (Cd.sl 2 (Cd.natc 0)) Cd.nil)) (Cd.cons (Cd.ro 0 2 (Cd.vs (Cd.cons (Cd.it .i64) Cd.nil))) (Cd.cons (Cd.ro 0 0 (Cd.is .u8)) (Cd.cons (Cd.ro 0 0 (Cd.is .u8)) Cd.nil)))) (fun a => (a.1.1.2, a.1.2.1.2, a.2.1.1, a.2.2.1, a.2.2.2.1)) (fun a => ((((), a.1), (((), a.2.1), ())), ((a.2.2.1, ()), (a.2.2.2.1, (a.2.2.2.2, ()))))) (fun _ => rfl)
noncomputable def laws_a2Long.tr (a : Nat × Nat × Int × List Int × List Int) : T Bool := laws_a2Long.t a.1 a.2.1 a.2.2.1 a.2.2.2.1 a.2.2.2.2
def laws_a2Long.enc : (Nat × Nat × Int × List Int × List Int) → Bool → V := fun a r => .bo r
noncomputable def laws_a2Long.c : List V → Hp → T V := cdQ laws_a2Long.cd (fun a => .leaf (laws_a2Long.enc a (laws_a2Long a.1 a.2.1 a.2.2.1 a.2.2.2.1 a.2.2.2.2)))
theorem laws_a2Long.run (a : Nat × Nat × Int × List Int × List Int) : runF laws_a2Long.C Tryd.f4.results.toList laws_a2Long.b (laws_a2Long.cd.enc a).1 (laws_a2Long.cd.enc a).2 = (laws_a2Long.tr a).map fun r => (laws_a2Long.enc a r, (laws_a2Long.cd.enc a).2) := by kernel_rfl
theorem laws_a2Long.cok : OKq Tryd.prog 4 laws_a2Long.c := con_q' laws_a2Long.cd laws_a2Long.hC Tryd.func4 (by kernel_rfl) (by kernel_rfl) (by kernel_rfl) laws_a2Long.lp (fun a => by kernel_rfl) laws_a2Long.run (Tells.val (tree := laws_a2Long.tr) fun a => by kernel_rfl)
/-! ### spec_l00From -/
noncomputable def spec_l00From.b : Code := bodyOf Tryd.f33
noncomputable def spec_l00From.C : Ctx := { ty := tys, fn := [], lp := [], n := 6, k := 1 }
theorem spec_l00From.hC : CtxOK Tryd.prog spec_l00From.C := CtxOK.of mo tys_ok FnsOK.nil
theorem spec_l00From.lp : LpOK Tryd.prog spec_l00From.C spec_l00From.b := (LpOK.nil (by kernel_rfl))
noncomputable def spec_l00From.t (x0 : Nat) (x1 : List Int) : T (Nat × Int × Int) :=
  .leaf (x0, (0 : Int), (0 : Int))
noncomputable def spec_l00From (x0 : Nat) (x1 : List Int) : Nat × Int × Int := (spec_l00From.t x0 x1).val
def spec_l00From.cd : Cd (Nat × List Int) (List V × Hp) := Cd.iso (Cd.pair (Cd.cons (Cd.sl 0 (Cd.natc 0)) Cd.nil) (Cd.cons (Cd.ro 0 0 (Cd.is .u8)) Cd.nil)) (fun a => (a.1.1.2, a.2.1)) (fun a => ((((), a.1), ()), (a.2, ()))) (fun _ => rfl)
noncomputable def spec_l00From.tr (a : Nat × List Int) : T (Nat × Int × Int) := spec_l00From.t a.1 a.2
def spec_l00From.enc : (Nat × List Int) → (Nat × Int × Int) → V × Hp := fun a r => (.pt 1 0, [some ⟨false, 0, 0, .is .u8 a.2⟩, some ⟨true, 73, 3, .vs [.sl 0 0 r.1, .it .i64 r.2.1, .it .u64 r.2.2]⟩])
noncomputable def spec_l00From.c : List V → Hp → T (V × Hp) := cdE spec_l00From.cd (fun a => .leaf (spec_l00From.enc a (spec_l00From a.1 a.2)))
theorem spec_l00From.run (a : Nat × List Int) : runF spec_l00From.C Tryd.f33.results.toList spec_l00From.b (spec_l00From.cd.enc a).1 (spec_l00From.cd.enc a).2 = (spec_l00From.tr a).map (spec_l00From.enc a) := by kernel_rfl
theorem spec_l00From.cok : OKe Tryd.prog 33 spec_l00From.c := con_e' spec_l00From.cd spec_l00From.hC Tryd.func33 (by kernel_rfl) (by kernel_rfl) (by kernel_rfl) spec_l00From.lp (fun a => by kernel_rfl) spec_l00From.run (Tells.val (tree := spec_l00From.tr) fun a => by kernel_rfl)
/-! ### spec_l00Src_next -/
noncomputable def spec_l00Src_next.b : Code := bodyOf Tryd.f77
noncomputable def spec_l00Src_next.C : Ctx := { ty := tys, fn := [], lp := [], n := 62, k := 2 }
theorem spec_l00Src_next.hC : CtxOK Tryd.prog spec_l00Src_next.C := CtxOK.of mo tys_ok FnsOK.nil
theorem spec_l00Src_next.lp : LpOK Tryd.prog spec_l00Src_next.C spec_l00Src_next.b := (LpOK.nil (by kernel_rfl))
noncomputable def spec_l00Src_next.t (x0 : Nat) (x1 : Int) (x2 : Int) (x3 : List Int) : T (Int × Nat × Int × Int) :=
  .br (decide (x1 < ((x0 : Nat) : Int)))
  (.br (bounds x1 x0)
   (.br (Nat.ble ((0 + (Int.toNat x1 * 1)) + 1) (List.length x3))
    (.br (decide ((IntKind.wrap .i64 (x1 + (1 : Int))) ≤ ((x0 : Nat) : Int)))
     (.leaf ((IntKind.wrap .i64 (List.getD x3 (0 + (Int.toNat x1 * 1)) 0)), x0, (IntKind.wrap .i64 (x1 + (1 : Int))), (IntKind.wrap .u64 ((IntKind.wrap .u64 ((IntKind.wrap .u64 (x2 * (6364136223846793005 : Int))) + (IntKind.wrap .u64 (IntKind.wrap .i64 (List.getD x3 (0 + (Int.toNat x1 * 1)) 0))))) + (1442695040888963407 : Int)))))
     (.leaf ((IntKind.wrap .i64 (ibits .and .u64 (Int.fdiv (IntKind.wrap .u64 ((IntKind.wrap .u64 ((IntKind.wrap .u64 (x2 * (6364136223846793005 : Int))) + (IntKind.wrap .u64 (IntKind.wrap .i64 (List.getD x3 (0 + (Int.toNat x1 * 1)) 0))))) + (1442695040888963407 : Int))) (2 ^ min (Int.toNat (40 : Int)) 64)) (255 : Int))), x0, (IntKind.wrap .i64 (x1 + (1 : Int))), (IntKind.wrap .u64 ((IntKind.wrap .u64 ((IntKind.wrap .u64 (x2 * (6364136223846793005 : Int))) + (IntKind.wrap .u64 (IntKind.wrap .i64 (List.getD x3 (0 + (Int.toNat x1 * 1)) 0))))) + (1442695040888963407 : Int))))))
    .bad)
   .bad)
  (.br (decide ((IntKind.wrap .i64 (x1 + (1 : Int))) ≤ ((x0 : Nat) : Int)))
   (.leaf ((0 : Int), x0, (IntKind.wrap .i64 (x1 + (1 : Int))), (IntKind.wrap .u64 ((IntKind.wrap .u64 ((IntKind.wrap .u64 (x2 * (6364136223846793005 : Int))) + (IntKind.wrap .u64 (0 : Int)))) + (1442695040888963407 : Int)))))
   (.leaf ((IntKind.wrap .i64 (ibits .and .u64 (Int.fdiv (IntKind.wrap .u64 ((IntKind.wrap .u64 ((IntKind.wrap .u64 (x2 * (6364136223846793005 : Int))) + (IntKind.wrap .u64 (0 : Int)))) + (1442695040888963407 : Int))) (2 ^ min (Int.toNat (40 : Int)) 64)) (255 : Int))), x0, (IntKind.wrap .i64 (x1 + (1 : Int))), (IntKind.wrap .u64 ((IntKind.wrap .u64 ((IntKind.wrap .u64 (x2 * (6364136223846793005 : Int))) + (IntKind.wrap .u64 (0 : Int)))) + (1442695040888963407 : Int))))))
noncomputable def spec_l00Src_next (x0 : Nat) (x1 : Int) (x2 : Int) (x3 : List Int) : Int × Nat × Int × Int := (spec_l00Src_next.t x0 x1 x2 x3).val
noncomputable def spec_l00Src_next.ok (x0 : Nat) (x1 : Int) (x2 : Int) (x3 : List Int) : Bool := (spec_l00Src_next.t x0 x1 x2 x3).ok
def spec_l00Src_next.cd : Cd (Nat × Int × Int × List Int) (List V × Hp) := Cd.iso (Cd.pair (Cd.cons (Cd.pt 0 (Cd.natc 0)) Cd.nil) (Cd.cons (Cd.rw 73 3 (Cd.vs (Cd.cons (Cd.sl 1 (Cd.natc 0)) (Cd.cons (Cd.it .i64) (Cd.cons (Cd.it .u64) Cd.nil))))) (Cd.cons (Cd.ro 0 0 (Cd.is .u8)) Cd.nil))) (fun a => (a.2.1.1.2, a.2.1.2.1, a.2.1.2.2.1, a.2.2.1)) (fun a => (((), ()), ((((), a.1), (a.2.1, (a.2.2.1, ()))), (a.2.2.2, ())))) (fun _ => rfl)
noncomputable def spec_l00Src_next.tr (a : Nat × Int × Int × List Int) : T (Int × Nat × Int × Int) := spec_l00Src_next.t a.1 a.2.1 a.2.2.1 a.2.2.2
def spec_l00Src_next.enc : (Nat × Int × Int × List Int) → (Int × Nat × Int × Int) → V × Hp := fun a r => (.it .i64 r.1, [some ⟨true, 73, 3, .vs [.sl 1 0 r.2.1, .it .i64 r.2.2.1, .it .u64 r.2.2.2]⟩, some ⟨false, 0, 0, .is .u8 a.2.2.2⟩])
noncomputable def spec_l00Src_next.c : List V → Hp → T (V × Hp) := cdE spec_l00Src_next.cd (fun a => .br (spec_l00Src_next.ok a.1 a.2.1 a.2.2.1 a.2.2.2) (.leaf (spec_l00Src_next.enc a (spec_l00Src_next a.1 a.2.1 a.2.2.1 a.2.2.2))) .bad)
theorem spec_l00Src_next.run (a : Nat × Int × Int × List Int) : runF spec_l00Src_next.C Tryd.f77.results.toList spec_l00Src_next.b (spec_l00Src_next.cd.enc a).1 (spec_l00Src_next.cd.enc a).2 = (spec_l00Src_next.tr a).map (spec_l00Src_next.enc a) := by kernel_rfl
theorem spec_l00Src_next.cok : OKe Tryd.prog 77 spec_l00Src_next.c := con_e' spec_l00Src_next.cd spec_l00Src_next.hC Tryd.func77 (by kernel_rfl) (by kernel_rfl) (by kernel_rfl) spec_l00Src_next.lp (fun a => by kernel_rfl) spec_l00Src_next.run (Tells.ok (tree := spec_l00Src_next.tr))
/-! ### spec_l00Src_pick -/
noncomputable def spec_l00Src_pick.b : Code := bodyOf Tryd.f65
noncomputable def spec_l00Src_pick.C : Ctx := { ty := tys, fn := [(77, .e spec_l00Src_next.c)], lp := [], n := 20, k := 2 }
theorem spec_l00Src_pick.hC : CtxOK Tryd.prog spec_l00Src_pick.C := CtxOK.of mo tys_ok (FnsOK.cons spec_l00Src_next.cok FnsOK.nil)
theorem spec_l00Src_pick.lp : LpOK Tryd.prog spec_l00Src_pick.C spec_l00Src_pick.b := (LpOK.nil (by kernel_rfl))
noncomputable def spec_l00Src_pick.t (x0 : Int) (x1 : Nat) (x2 : Int) (x3 : Int) (x4 : List Int) : T (Int × Nat × Int × Int) :=
  .br (decide (x0 ≤ (1 : Int)))
  (.leaf ((0 : Int), x1, x2, x3))
  (.br (spec_l00Src_next.ok x1 x2 x3 x4)
   (.br (decide (x0 > (200 : Int)))
    (.br (spec_l00Src_next.ok ((spec_l00Src_next x1 x2 x3 x4).2.1) ((spec_l00Src_next x1 x2 x3 x4).2.2.1) ((spec_l00Src_next x1 x2 x3 x4).2.2.2) x4)
     (.br (x0 == 0)
      .bad
      (.leaf ((Int.tmod (IntKind.wrap .i64 ((IntKind.wrap .i64 ((spec_l00Src_next x1 x2 x3 x4).1 * (256 : Int))) + (spec_l00Src_next ((spec_l00Src_next x1 x2 x3 x4).2.1) ((spec_l00Src_next x1 x2 x3 x4).2.2.1) ((spec_l00Src_next x1 x2 x3 x4).2.2.2) x4).1)) x0), (spec_l00Src_next ((spec_l00Src_next x1 x2 x3 x4).2.1) ((spec_l00Src_next x1 x2 x3 x4).2.2.1) ((spec_l00Src_next x1 x2 x3 x4).2.2.2) x4).2.1, (spec_l00Src_next ((spec_l00Src_next x1 x2 x3 x4).2.1) ((spec_l00Src_next x1 x2 x3 x4).2.2.1) ((spec_l00Src_next x1 x2 x3 x4).2.2.2) x4).2.2.1, (spec_l00Src_next ((spec_l00Src_next x1 x2 x3 x4).2.1) ((spec_l00Src_next x1 x2 x3 x4).2.2.1) ((spec_l00Src_next x1 x2 x3 x4).2.2.2) x4).2.2.2)))
     .bad)
    (.br (x0 == 0)
     .bad
     (.leaf ((Int.tmod (spec_l00Src_next x1 x2 x3 x4).1 x0), (spec_l00Src_next x1 x2 x3 x4).2.1, (spec_l00Src_next x1 x2 x3 x4).2.2.1, (spec_l00Src_next x1 x2 x3 x4).2.2.2))))
   .bad)
noncomputable def spec_l00Src_pick (x0 : Int) (x1 : Nat) (x2 : Int) (x3 : Int) (x4 : List Int) : Int × Nat × Int × Int := (spec_l00Src_pick.t x0 x1 x2 x3 x4).val
noncomputable def spec_l00Src_pick.ok (x0 : Int) (x1 : Nat) (x2 : Int) (x3 : Int) (x4 : List Int) : Bool := (spec_l00Src_pick.t x0 x1 x2 x3 x4).ok
def spec_l00Src_pick.cd : Cd (Int × Nat × Int × Int × List Int) (List V × Hp) := Cd.iso (Cd.pair (Cd.cons (Cd.pt 0 (Cd.natc 0)) (Cd.cons (Cd.it .i64) Cd.nil)) (Cd.cons (Cd.rw 73 3 (Cd.vs (Cd.cons (Cd.sl 1 (Cd.natc 0)) (Cd.cons (Cd.it .i64) (Cd.cons (Cd.it .u64) Cd.nil))))) (Cd.cons (Cd.ro 0 0 (Cd.is .u8)) Cd.nil))) (fun a => (a.1.2.1, a.2.1.1.2, a.2.1.2.1, a.2.1.2.2.1, a.2.2.1)) (fun a => (((), (a.1, ())), ((((), a.2.1), (a.2.2.1, (a.2.2.2.1, ()))), (a.2.2.2.2, ())))) (fun _ => rfl)
noncomputable def spec_l00Src_pick.tr (a : Int × Nat × Int × Int × List Int) : T (Int × Nat × Int × Int) := spec_l00Src_pick.t a.1 a.2.1 a.2.2.1 a.2.2.2.1 a.2.2.2.2
def spec_l00Src_pick.enc : (Int × Nat × Int × Int × List Int) → (Int × Nat × Int × Int) → V × Hp := fun a r => (.it .i64 r.1, [some ⟨true, 73, 3, .vs [.sl 1 0 r.2.1, .it .i64 r.2.2.1, .it .u64 r.2.2.2]⟩, some ⟨false, 0, 0, .is .u8 a.2.2.2.2⟩])
noncomputable def spec_l00Src_pick.c : List V → Hp → T (V × Hp) := cdE spec_l00Src_pick.cd (fun a => .br (spec_l00Src_pick.ok a.1 a.2.1 a.2.2.1 a.2.2.2.1 a.2.2.2.2) (.leaf (spec_l00Src_pick.enc a (spec_l00Src_pick a.1 a.2.1 a.2.2.1 a.2.2.2.1 a.2.2.2.2))) .bad)
theorem spec_l00Src_pick.run (a : Int × Nat × Int × Int × List Int) : runF spec_l00Src_pick.C Tryd.f65.results.toList spec_l00Src_pick.b (spec_l00Src_pick.cd.enc a).1 (spec_l00Src_pick.cd.enc a).2 = (spec_l00Src_pick.tr a).map (spec_l00Src_pick.enc a) := by kernel_rfl
theorem spec_l00Src_pick.cok : OKe Tryd.prog 65 spec_l00Src_pick.c := con_e' spec_l00Src_pick.cd spec_l00Src_pick.hC Tryd.func65 (by kernel_rfl) (by kernel_rfl) (by kernel_rfl) spec_l00Src_pick.lp (fun a => by kernel_rfl) spec_l00Src_pick.run (Tells.ok (tree := spec_l00Src_pick.tr))
/-! ### spec_l00Src_among -/
noncomputable def spec_l00Src_among.b : Code := bodyOf Tryd.f66
noncomputable def spec_l00Src_among.C : Ctx := { ty := tys, fn := [(65, .e spec_l00Src_pick.c)], lp := [], n := 12, k := 3 }
theorem spec_l00Src_among.hC : CtxOK Tryd.prog spec_l00Src_among.C := CtxOK.of mo tys_ok (FnsOK.cons spec_l00Src_pick.cok FnsOK.nil)
theorem spec_l00Src_among.lp : LpOK Tryd.prog spec_l00Src_among.C spec_l00Src_among.b := (LpOK.nil (by kernel_rfl))
noncomputable def spec_l00Src_among.t (x0 : Nat) (x1 : Nat) (x2 : Int) (x3 : Int) (x4 : List Int) (x5 : List Int) : T (Int × Nat × Int × Int) :=
  .br (spec_l00Src_pick.ok ((x0 : Nat) : Int) x1 x2 x3 x5)
  (.br (bounds (spec_l00Src_pick ((x0 : Nat) : Int) x1 x2 x3 x5).1 x0)
   (.br (Nat.ble ((Int.toNat (spec_l00Src_pick ((x0 : Nat) : Int) x1 x2 x3 x5).1 * 1) + 1) (List.length x4))
    (.leaf ((List.getD x4 (Int.toNat (spec_l00Src_pick ((x0 : Nat) : Int) x1 x2 x3 x5).1 * 1) 0), (spec_l00Src_pick ((x0 : Nat) : Int) x1 x2 x3 x5).2.1, (spec_l00Src_pick ((x0 : Nat) : Int) x1 x2 x3 x5).2.2.1, (spec_l00Src_pick ((x0 : Nat) : Int) x1 x2 x3 x5).2.2.2))
    .bad)
   .bad)
  .bad
noncomputable def spec_l00Src_among (x0 : Nat) (x1 : Nat) (x2 : Int) (x3 : Int) (x4 : List Int) (x5 : List Int) : Int × Nat × Int × Int := (spec_l00Src_among.t x0 x1 x2 x3 x4 x5).val
noncomputable def spec_l00Src_among.ok (x0 : Nat) (x1 : Nat) (x2 : Int) (x3 : Int) (x4 : List Int) (x5 : List Int) : Bool := (spec_l00Src_among.t x0 x1 x2 x3 x4 x5).ok
def spec_l00Src_among.cd : Cd (Nat × Nat × Int × Int × List Int × List Int) (List V × Hp) := Cd.iso (Cd.pair (Cd.cons (Cd.pt 0 (Cd.natc 0)) (Cd.cons (Cd.own 1) Cd.nil)) (Cd.cons (Cd.rw 73 3 (Cd.vs (Cd.cons (Cd.sl 2 (Cd.natc 0)) (Cd.cons (Cd.it .i64) (Cd.cons (Cd.it .u64) Cd.nil))))) (Cd.cons (Cd.rw 2 1 (Cd.is .i64)) (Cd.cons (Cd.ro 0 0 (Cd.is .u8)) Cd.nil)))) (fun a => (a.1.2.1, a.2.1.1.2, a.2.1.2.1, a.2.1.2.2.1, a.2.2.1, a.2.2.2.1)) (fun a => (((), (a.1, ())), ((((), a.2.1), (a.2.2.1, (a.2.2.2.1, ()))), (a.2.2.2.2.1, (a.2.2.2.2.2, ()))))) (fun _ => rfl)
noncomputable def spec_l00Src_among.tr (a : Nat × Nat × Int × Int × List Int × List Int) : T (Int × Nat × Int × Int) := spec_l00Src_among.t a.1 a.2.1 a.2.2.1 a.2.2.2.1 a.2.2.2.2.1 a.2.2.2.2.2
def spec_l00Src_among.enc : (Nat × Nat × Int × Int × List Int × List Int) → (Int × Nat × Int × Int) → V × Hp := fun a r => (.it .i64 r.1, [some ⟨true, 73, 3, .vs [.sl 2 0 r.2.1, .it .i64 r.2.2.1, .it .u64 r.2.2.2]⟩, some ⟨true, 2, 1, .is .i64 a.2.2.2.2.1⟩, some ⟨false, 0, 0, .is .u8 a.2.2.2.2.2⟩])
noncomputable def spec_l00Src_among.c : List V → Hp → T (V × Hp) := cdE spec_l00Src_among.cd (fun a => .br (spec_l00Src_among.ok a.1 a.2.1 a.2.2.1 a.2.2.2.1 a.2.2.2.2.1 a.2.2.2.2.2) (.leaf (spec_l00Src_among.enc a (spec_l00Src_among a.1 a.2.1 a.2.2.1 a.2.2.2.1 a.2.2.2.2.1 a.2.2.2.2.2))) .bad)
theorem spec_l00Src_among.run (a : Nat × Nat × Int × Int × List Int × List Int) : runF spec_l00Src_among.C Tryd.f66.results.toList spec_l00Src_among.b (spec_l00Src_among.cd.enc a).1 (spec_l00Src_among.cd.enc a).2 = (spec_l00Src_among.tr a).map (spec_l00Src_among.enc a) := by kernel_rfl
theorem spec_l00Src_among.cok : OKe Tryd.prog 66 spec_l00Src_among.c := con_e' spec_l00Src_among.cd spec_l00Src_among.hC Tryd.func66 (by kernel_rfl) (by kernel_rfl) (by kernel_rfl) spec_l00Src_among.lp (fun a => by kernel_rfl) spec_l00Src_among.run (Tells.ok (tree := spec_l00Src_among.tr))
/-! ### spec_l02Pulley -/
noncomputable def spec_l02Pulley.b : Code := bodyOf Tryd.f63
noncomputable def spec_l02Pulley.C : Ctx := { ty := tys, fn := [(65, .e spec_l00Src_pick.c), (66, .e spec_l00Src_among.c)], lp := [], n := 12, k := 2 }
theorem spec_l02Pulley.hC : CtxOK Tryd.prog spec_l02Pulley.C := CtxOK.of mo tys_ok (FnsOK.cons spec_l00Src_pick.cok (FnsOK.cons spec_l00Src_among.cok FnsOK.nil))
theorem spec_l02Pulley.lp : LpOK Tryd.prog spec_l02Pulley.C spec_l02Pulley.b := (LpOK.nil (by kernel_rfl))
noncomputable def spec_l02Pulley.t (x0 : Nat) (x1 : Int) (x2 : Int) (x3 : List Int) : T (Nat × Nat × Int × Int) :=
  .br (spec_l00Src_pick.ok (200 : Int) x0 x1 x2 x3)
  (.br (spec_l00Src_among.ok 4 ((spec_l00Src_pick (200 : Int) x0 x1 x2 x3).2.1) ((spec_l00Src_pick (200 : Int) x0 x1 x2 x3).2.2.1) ((spec_l00Src_pick (200 : Int) x0 x1 x2 x3).2.2.2) [(1 : Int), (3 : Int), (4 : Int), (16 : Int)] x3)
   (.leaf ((fdiv .f32 (fofint .f32 (IntKind.wrap .i64 ((1 : Int) + (spec_l00Src_pick (200 : Int) x0 x1 x2 x3).1))) (fofint .f32 (spec_l00Src_among 4 ((spec_l00Src_pick (200 : Int) x0 x1 x2 x3).2.1) ((spec_l00Src_pick (200 : Int) x0 x1 x2 x3).2.2.1) ((spec_l00Src_pick (200 : Int) x0 x1 x2 x3).2.2.2) [(1 : Int), (3 : Int), (4 : Int), (16 : Int)] x3).1)), (spec_l00Src_among 4 ((spec_l00Src_pick (200 : Int) x0 x1 x2 x3).2.1) ((spec_l00Src_pick (200 : Int) x0 x1 x2 x3).2.2.1) ((spec_l00Src_pick (200 : Int) x0 x1 x2 x3).2.2.2) [(1 : Int), (3 : Int), (4 : Int), (16 : Int)] x3).2.1, (spec_l00Src_among 4 ((spec_l00Src_pick (200 : Int) x0 x1 x2 x3).2.1) ((spec_l00Src_pick (200 : Int) x0 x1 x2 x3).2.2.1) ((spec_l00Src_pick (200 : Int) x0 x1 x2 x3).2.2.2) [(1 : Int), (3 : Int), (4 : Int), (16 : Int)] x3).2.2.1, (spec_l00Src_among 4 ((spec_l00Src_pick (200 : Int) x0 x1 x2 x3).2.1) ((spec_l00Src_pick (200 : Int) x0 x1 x2 x3).2.2.1) ((spec_l00Src_pick (200 : Int) x0 x1 x2 x3).2.2.2) [(1 : Int), (3 : Int), (4 : Int), (16 : Int)] x3).2.2.2))
   .bad)
  .bad
noncomputable def spec_l02Pulley (x0 : Nat) (x1 : Int) (x2 : Int) (x3 : List Int) : Nat × Nat × Int × Int := (spec_l02Pulley.t x0 x1 x2 x3).val
noncomputable def spec_l02Pulley.ok (x0 : Nat) (x1 : Int) (x2 : Int) (x3 : List Int) : Bool := (spec_l02Pulley.t x0 x1 x2 x3).ok
def spec_l02Pulley.cd : Cd (Nat × Int × Int × List Int) (List V × Hp) := Cd.iso (Cd.pair (Cd.cons (Cd.pt 0 (Cd.natc 0)) Cd.nil) (Cd.cons (Cd.rw 73 3 (Cd.vs (Cd.cons (Cd.sl 1 (Cd.natc 0)) (Cd.cons (Cd.it .i64) (Cd.cons (Cd.it .u64) Cd.nil))))) (Cd.cons (Cd.ro 0 0 (Cd.is .u8)) Cd.nil))) (fun a => (a.2.1.1.2, a.2.1.2.1, a.2.1.2.2.1, a.2.2.1)) (fun a => (((), ()), ((((), a.1), (a.2.1, (a.2.2.1, ()))), (a.2.2.2, ())))) (fun _ => rfl)
noncomputable def spec_l02Pulley.tr (a : Nat × Int × Int × List Int) : T (Nat × Nat × Int × Int) := spec_l02Pulley.t a.1 a.2.1 a.2.2.1 a.2.2.2
def spec_l02Pulley.enc : (Nat × Int × Int × List Int) → (Nat × Nat × Int × Int) → V × Hp := fun a r => (.fl .f32 r.1, [some ⟨true, 73, 3, .vs [.sl 1 0 r.2.1, .it .i64 r.2.2.1, .it .u64 r.2.2.2]⟩, some ⟨false, 0, 0, .is .u8 a.2.2.2⟩])
noncomputable def spec_l02Pulley.c : List V → Hp → T (V × Hp) := cdE spec_l02Pulley.cd (fun a => .br (spec_l02Pulley.ok a.1 a.2.1 a.2.2.1 a.2.2.2) (.leaf (spec_l02Pulley.enc a (spec_l02Pulley a.1 a.2.1 a.2.2.1 a.2.2.2))) .bad)
theorem spec_l02Pulley.run (a : Nat × Int × Int × List Int) : runF spec_l02Pulley.C Tryd.f63.results.toList spec_l02Pulley.b (spec_l02Pulley.cd.enc a).1 (spec_l02Pulley.cd.enc a).2 = (spec_l02Pulley.tr a).map (spec_l02Pulley.enc a) := by kernel_rfl
theorem spec_l02Pulley.cok : OKe Tryd.prog 63 spec_l02Pulley.c := con_e' spec_l02Pulley.cd spec_l02Pulley.hC Tryd.func63 (by kernel_rfl) (by kernel_rfl) (by kernel_rfl) spec_l02Pulley.lp (fun a => by kernel_rfl) spec_l02Pulley.run (Tells.ok (tree := spec_l02Pulley.tr))
/-! ### spec_l00Src_one -/
noncomputable def spec_l00Src_one.b : Code := bodyOf Tryd.f64
noncomputable def spec_l00Src_one.C : Ctx := { ty := tys, fn := [(65, .e spec_l00Src_pick.c)], lp := [], n := 9, k := 2 }
theorem spec_l00Src_one.hC : CtxOK Tryd.prog spec_l00Src_one.C := CtxOK.of mo tys_ok (FnsOK.cons spec_l00Src_pick.cok FnsOK.nil)
theorem spec_l00Src_one.lp : LpOK Tryd.prog spec_l00Src_one.C spec_l00Src_one.b := (LpOK.nil (by kernel_rfl))
noncomputable def spec_l00Src_one.t (x0 : Int) (x1 : Nat) (x2 : Int) (x3 : Int) (x4 : List Int) : T (Bool × Nat × Int × Int) :=
  .br (spec_l00Src_pick.ok x0 x1 x2 x3 x4)
  (.leaf (((spec_l00Src_pick x0 x1 x2 x3 x4).1 == (0 : Int)), (spec_l00Src_pick x0 x1 x2 x3 x4).2.1, (spec_l00Src_pick x0 x1 x2 x3 x4).2.2.1, (spec_l00Src_pick x0 x1 x2 x3 x4).2.2.2))
  .bad
noncomputable def spec_l00Src_one (x0 : Int) (x1 : Nat) (x2 : Int) (x3 : Int) (x4 : List Int) : Bool × Nat × Int × Int := (spec_l00Src_one.t x0 x1 x2 x3 x4).val
noncomputable def spec_l00Src_one.ok (x0 : Int) (x1 : Nat) (x2 : Int) (x3 : Int) (x4 : List Int) : Bool := (spec_l00Src_one.t x0 x1 x2 x3 x4).ok
def spec_l00Src_one.cd : Cd (Int × Nat × Int × Int × List Int) (List V × Hp) := Cd.iso (Cd.pair (Cd.cons (Cd.pt 0 (Cd.natc 0)) (Cd.cons (Cd.it .i64) Cd.nil)) (Cd.cons (Cd.rw 73 3 (Cd.vs (Cd.cons (Cd.sl 1 (Cd.natc 0)) (Cd.cons (Cd.it .i64) (Cd.cons (Cd.it .u64) Cd.nil))))) (Cd.cons (Cd.ro 0 0 (Cd.is .u8)) Cd.nil))) (fun a => (a.1.2.1, a.2.1.1.2, a.2.1.2.1, a.2.1.2.2.1, a.2.2.1)) (fun a => (((), (a.1, ())), ((((), a.2.1), (a.2.2.1, (a.2.2.2.1, ()))), (a.2.2.2.2, ())))) (fun _ => rfl)
noncomputable def spec_l00Src_one.tr (a : Int × Nat × Int × Int × List Int) : T (Bool × Nat × Int × Int) := spec_l00Src_one.t a.1 a.2.1 a.2.2.1 a.2.2.2.1 a.2.2.2.2
def spec_l00Src_one.enc : (Int × Nat × Int × Int × List Int) → (Bool × Nat × Int × Int) → V × Hp := fun a r => (.bo r.1, [some ⟨true, 73, 3, .vs [.sl 1 0 r.2.1, .it .i64 r.2.2.1, .it .u64 r.2.2.2]⟩, some ⟨false, 0, 0, .is .u8 a.2.2.2.2⟩])
noncomputable def spec_l00Src_one.c : List V → Hp → T (V × Hp) := cdE spec_l00Src_one.cd (fun a => .br (spec_l00Src_one.ok a.1 a.2.1 a.2.2.1 a.2.2.2.1 a.2.2.2.2) (.leaf (spec_l00Src_one.enc a (spec_l00Src_one a.1 a.2.1 a.2.2.1 a.2.2.2.1 a.2.2.2.2))) .bad)
theorem spec_l00Src_one.run (a : Int × Nat × Int × Int × List Int) : runF spec_l00Src_one.C Tryd.f64.results.toList spec_l00Src_one.b (spec_l00Src_one.cd.enc a).1 (spec_l00Src_one.cd.enc a).2 = (spec_l00Src_one.tr a).map (spec_l00Src_one.enc a) := by kernel_rfl
theorem spec_l00Src_one.cok : OKe Tryd.prog 64 spec_l00Src_one.c := con_e' spec_l00Src_one.cd spec_l00Src_one.hC Tryd.func64 (by kernel_rfl) (by kernel_rfl) (by kernel_rfl) spec_l00Src_one.lp (fun a => by kernel_rfl) spec_l00Src_one.run (Tells.ok (tree := spec_l00Src_one.tr))
/-! ### spec_l02Drawn -/
noncomputable def spec_l02Drawn.b : Code := bodyOf Tryd.f32
noncomputable def spec_l02Drawn.C : Ctx := { ty := tys, fn := [(63, .e spec_l02Pulley.c), (64, .e spec_l00Src_one.c), (65, .e spec_l00Src_pick.c), (66, .e spec_l00Src_among.c)], lp := [], n := 36, k := 2 }
theorem spec_l02Drawn.hC : CtxOK Tryd.prog spec_l02Drawn.C := CtxOK.of mo tys_ok (FnsOK.cons spec_l02Pulley.cok (FnsOK.cons spec_l00Src_one.cok (FnsOK.cons spec_l00Src_pick.cok (FnsOK.cons spec_l00Src_among.cok FnsOK.nil))))
theorem spec_l02Drawn.lp : LpOK Tryd.prog spec_l02Drawn.C spec_l02Drawn.b := (LpOK.nil (by kernel_rfl))
noncomputable def spec_l02Drawn.t (x0 : Nat) (x1 : Int) (x2 : Int) (x3 : List Int) : T (Nat × Nat × Nat × Nat × Bool × Nat × Int × Int) :=
  let y3 := (spec_l02Pulley x0 x1 x2 x3)
  .br (spec_l02Pulley.ok x0 x1 x2 x3)
  (let y4 := (spec_l02Pulley y3.2.1 y3.2.2.1 y3.2.2.2 x3)
   .br (spec_l02Pulley.ok y3.2.1 y3.2.2.1 y3.2.2.2 x3)
   (let y5 := (spec_l00Src_one (2 : Int) y4.2.1 y4.2.2.1 y4.2.2.2 x3)
    .br (spec_l00Src_one.ok (2 : Int) y4.2.1 y4.2.2.1 y4.2.2.2 x3)
    (let y6 := (spec_l00Src_pick (300 : Int) y5.2.1 y5.2.2.1 y5.2.2.2 x3)
     .br (spec_l00Src_pick.ok (300 : Int) y5.2.1 y5.2.2.1 y5.2.2.2 x3)
     (let y7 := (spec_l00Src_among 3 y6.2.1 y6.2.2.1 y6.2.2.2 [(1 : Int), (3 : Int), (7 : Int)] x3)
      .br (spec_l00Src_among.ok 3 y6.2.1 y6.2.2.1 y6.2.2.2 [(1 : Int), (3 : Int), (7 : Int)] x3)
      (let y8 := (spec_l00Src_pick (40 : Int) y7.2.1 y7.2.2.1 y7.2.2.2 x3)
       .br (spec_l00Src_pick.ok (40 : Int) y7.2.1 y7.2.2.1 y7.2.2.2 x3)
       (let y9 := (spec_l00Src_among 3 y8.2.1 y8.2.2.1 y8.2.2.2 [(20 : Int), (30 : Int), (64 : Int)] x3)
        .br (spec_l00Src_among.ok 3 y8.2.1 y8.2.2.1 y8.2.2.2 [(20 : Int), (30 : Int), (64 : Int)] x3)
        (.leaf (y3.1, y4.1, (fadd .f32 (fadd .f32 y3.1 y4.1) (fdiv .f32 (fofint .f32 y6.1) (fofint .f32 y7.1))), (fdiv .f32 (fofint .f32 y8.1) (fofint .f32 y9.1)), y5.1, y9.2.1, y9.2.2.1, y9.2.2.2))
        .bad)
       .bad)
      .bad)
     .bad)
    .bad)
   .bad)
  .bad
noncomputable def spec_l02Drawn (x0 : Nat) (x1 : Int) (x2 : Int) (x3 : List Int) : Nat × Nat × Nat × Nat × Bool × Nat × Int × Int := (spec_l02Drawn.t x0 x1 x2 x3).val
noncomputable def spec_l02Drawn.ok (x0 : Nat) (x1 : Int) (x2 : Int) (x3 : List Int) : Bool := (spec_l02Drawn.t x0 x1 x2 x3).ok
def spec_l02Drawn.cd : Cd (Nat × Int × Int × List Int) (List V × Hp) := Cd.iso (Cd.pair (Cd.cons (Cd.pt 0 (Cd.natc 0)) Cd.nil) (Cd.cons (Cd.rw 73 3 (Cd.vs (Cd.cons (Cd.sl 1 (Cd.natc 0)) (Cd.cons (Cd.it .i64) (Cd.cons (Cd.it .u64) Cd.nil))))) (Cd.cons (Cd.ro 0 0 (Cd.is .u8)) Cd.nil))) (fun a => (a.2.1.1.2, a.2.1.2.1, a.2.1.2.2.1, a.2.2.1)) (fun a => (((), ()), ((((), a.1), (a.2.1, (a.2.2.1, ()))), (a.2.2.2, ())))) (fun _ => rfl)
noncomputable def spec_l02Drawn.tr (a : Nat × Int × Int × List Int) : T (Nat × Nat × Nat × Nat × Bool × Nat × Int × Int) := spec_l02Drawn.t a.1 a.2.1 a.2.2.1 a.2.2.2
def spec_l02Drawn.enc : (Nat × Int × Int × List Int) → (Nat × Nat × Nat × Nat × Bool × Nat × Int × Int) → V × Hp := fun a r => (.agg [.fl .f32 r.1, .fl .f32 r.2.1, .fl .f32 r.2.2.1, .fl .f32 r.2.2.2.1, .bo r.2.2.2.2.1], [some ⟨true, 73, 3, .vs [.sl 1 0 r.2.2.2.2.2.1, .it .i64 r.2.2.2.2.2.2.1, .it .u64 r.2.2.2.2.2.2.2]⟩, some ⟨false, 0, 0, .is .u8 a.2.2.2⟩])
noncomputable def spec_l02Drawn.c : List V → Hp → T (V × Hp) := cdE spec_l02Drawn.cd (fun a => .br (spec_l02Drawn.ok a.1 a.2.1 a.2.2.1 a.2.2.2) (.leaf (spec_l02Drawn.enc a (spec_l02Drawn a.1 a.2.1 a.2.2.1 a.2.2.2))) .bad)
theorem spec_l02Drawn.run (a : Nat × Int × Int × List Int) : runF spec_l02Drawn.C Tryd.f32.results.toList spec_l02Drawn.b (spec_l02Drawn.cd.enc a).1 (spec_l02Drawn.cd.enc a).2 = (spec_l02Drawn.tr a).map (spec_l02Drawn.enc a) := by kernel_rfl
theorem spec_l02Drawn.cok : OKe Tryd.prog 32 spec_l02Drawn.c := con_e' spec_l02Drawn.cd spec_l02Drawn.hC Tryd.func32 (by kernel_rfl) (by kernel_rfl) (by kernel_rfl) spec_l02Drawn.lp (fun a => by kernel_rfl) spec_l02Drawn.run (Tells.ok (tree := spec_l02Drawn.tr))
/-! ### spec_A2Belt -/
noncomputable def spec_A2Belt.b : Code := bodyOf Tryd.f5
noncomputable def spec_A2Belt.C : Ctx := { ty := tys, fn := [(33, .e spec_l00From.c), (32, .e spec_l02Drawn.c)], lp := [], n := 6, k := 2 }
theorem spec_A2Belt.hC : CtxOK Tryd.prog spec_A2Belt.C := CtxOK.of mo tys_ok (FnsOK.cons spec_l00From.cok (FnsOK.cons spec_l02Drawn.cok FnsOK.nil))
theorem spec_A2Belt.lp : LpOK Tryd.prog spec_A2Belt.C spec_A2Belt.b := (LpOK.nil (by kernel_rfl))
noncomputable def spec_A2Belt.t (x0 : Nat) (x1 : Int) (x2 : List Int) : T (Nat × Nat × Nat × Nat × Bool) :=
  let y2 := (spec_l00From x0 x2)
  let y10 := (spec_l02Drawn y2.1 y2.2.1 y2.2.2 x2)
  .br (spec_l02Drawn.ok y2.1 y2.2.1 y2.2.2 x2)
  (.leaf (y10.1, y10.2.1, y10.2.2.1, y10.2.2.2.1, y10.2.2.2.2.1))
  .bad
noncomputable def spec_A2Belt (x0 : Nat) (x1 : Int) (x2 : List Int) : Nat × Nat × Nat × Nat × Bool := (spec_A2Belt.t x0 x1 x2).val
noncomputable def spec_A2Belt.ok (x0 : Nat) (x1 : Int) (x2 : List Int) : Bool := (spec_A2Belt.t x0 x1 x2).ok
def spec_A2Belt.cd : Cd (Nat × Int × List Int) (List V × Hp) := Cd.iso (Cd.pair (Cd.cons (Cd.sl 1 (Cd.natc 0)) Cd.nil) (Cd.cons (Cd.ro 0 2 (Cd.vs (Cd.cons (Cd.it .i64) Cd.nil))) (Cd.cons (Cd.ro 0 0 (Cd.is .u8)) Cd.nil))) (fun a => (a.1.1.2, a.2.1.1, a.2.2.1)) (fun a => ((((), a.1), ()), ((a.2.1, ()), (a.2.2, ())))) (fun _ => rfl)
noncomputable def spec_A2Belt.tr (a : Nat × Int × List Int) : T (Nat × Nat × Nat × Nat × Bool) := spec_A2Belt.t a.1 a.2.1 a.2.2
def spec_A2Belt.enc : (Nat × Int × List Int) → (Nat × Nat × Nat × Nat × Bool) → V := fun a r => .agg [.fl .f32 r.1, .fl .f32 r.2.1, .fl .f32 r.2.2.1, .fl .f32 r.2.2.2.1, .bo r.2.2.2.2]
noncomputable def spec_A2Belt.c : List V → Hp → T V := cdQ spec_A2Belt.cd (fun a => .br (spec_A2Belt.ok a.1 a.2.1 a.2.2) (.leaf (spec_A2Belt.enc a (spec_A2Belt a.1 a.2.1 a.2.2))) .bad)
theorem spec_A2Belt.run (a : Nat × Int × List Int) : runF spec_A2Belt.C Tryd.f5.results.toList spec_A2Belt.b (spec_A2Belt.cd.enc a).1 (spec_A2Belt.cd.enc a).2 = (spec_A2Belt.tr a).map fun r => (spec_A2Belt.enc a r, (spec_A2Belt.cd.enc a).2) := by kernel_rfl
theorem spec_A2Belt.cok : OKq Tryd.prog 5 spec_A2Belt.c := con_q' spec_A2Belt.cd spec_A2Belt.hC Tryd.func5 (by kernel_rfl) (by kernel_rfl) (by kernel_rfl) spec_A2Belt.lp (fun a => by kernel_rfl) spec_A2Belt.run (Tells.ok (tree := spec_A2Belt.tr))
/-! ### impl_between -/
noncomputable def impl_between.b : Code := bodyOf Tryd.f49
noncomputable def impl_between.C : Ctx := { ty := tys, fn := [], lp := [], n := 15, k := 0 }
theorem impl_between.hC : CtxOK Tryd.prog impl_between.C := CtxOK.of mo tys_ok FnsOK.nil
theorem impl_between.lp : LpOK Tryd.prog impl_between.C impl_between.b := (LpOK.nil (by kernel_rfl))
noncomputable def impl_between.t (x0 : Nat) (x1 : Nat) (x2 : Nat) : T Bool :=
  .br (fle .f32 x1 x0)
  (.leaf (fle .f32 x0 x2))
  (.leaf false)
noncomputable def impl_between (x0 : Nat) (x1 : Nat) (x2 : Nat) : Bool := (impl_between.t x0 x1 x2).val
def impl_between.cd : Cd (Nat × Nat × Nat) (List V × Hp) := Cd.iso (Cd.pair (Cd.cons (Cd.fl .f32) (Cd.cons (Cd.fl .f32) (Cd.cons (Cd.fl .f32) Cd.nil))) Cd.nil) (fun a => (a.1.1, a.1.2.1, a.1.2.2.1)) (fun a => ((a.1, (a.2.1, (a.2.2, ()))), ())) (fun _ => rfl)
noncomputable def impl_between.tr (a : Nat × Nat × Nat) : T Bool := impl_between.t a.1 a.2.1 a.2.2
def impl_between.enc : (Nat × Nat × Nat) → Bool → V := fun a r => .bo r
noncomputable def impl_between.c : List V → Hp → T V := cdQ impl_between.cd (fun a => .leaf (impl_between.enc a (impl_between a.1 a.2.1 a.2.2)))
theorem impl_between.run (a : Nat × Nat × Nat) : runF impl_between.C Tryd.f49.results.toList impl_between.b (impl_between.cd.enc a).1 (impl_between.cd.enc a).2 = (impl_between.tr a).map fun r => (impl_between.enc a r, (impl_between.cd.enc a).2) := by kernel_rfl
theorem impl_between.cok : OKq Tryd.prog 49 impl_between.c := con_q' impl_between.cd impl_between.hC Tryd.func49 (by kernel_rfl) (by kernel_rfl) (by kernel_rfl) impl_between.lp (fun a => by kernel_rfl) impl_between.run (Tells.val (tree := impl_between.tr) fun a => by kernel_rfl)
/-! ### impl_isRadius -/
noncomputable def impl_isRadius.b : Code := bodyOf Tryd.f48
noncomputable def impl_isRadius.C : Ctx := { ty := tys, fn := [(49, .q impl_between.c)], lp := [], n := 5, k := 0 }
theorem impl_isRadius.hC : CtxOK Tryd.prog impl_isRadius.C := CtxOK.of mo tys_ok (FnsOK.cons impl_between.cok FnsOK.nil)
theorem impl_isRadius.lp : LpOK Tryd.prog impl_isRadius.C impl_isRadius.b := (LpOK.nil (by kernel_rfl))
noncomputable def impl_isRadius.t (x0 : Nat) : T Bool :=
  .leaf (impl_between x0 1031798784 1149239296)
noncomputable def impl_isRadius (x0 : Nat) : Bool := (impl_isRadius.t x0).val
def impl_isRadius.cd : Cd Nat (List V × Hp) := Cd.iso (Cd.pair (Cd.cons (Cd.fl .f32) Cd.nil) Cd.nil) (fun a => a.1.1) (fun a => ((a, ()), ())) (fun _ => rfl)
noncomputable def impl_isRadius.tr (a : Nat) : T Bool := impl_isRadius.t a
def impl_isRadius.enc : Nat → Bool → V := fun a r => .bo r
noncomputable def impl_isRadius.c : List V → Hp → T V := cdQ impl_isRadius.cd (fun a => .leaf (impl_isRadius.enc a (impl_isRadius a)))
theorem impl_isRadius.run (a : Nat) : runF impl_isRadius.C Tryd.f48.results.toList impl_isRadius.b (impl_isRadius.cd.enc a).1 (impl_isRadius.cd.enc a).2 = (impl_isRadius.tr a).map fun r => (impl_isRadius.enc a r, (impl_isRadius.cd.enc a).2) := by kernel_rfl
theorem impl_isRadius.cok : OKq Tryd.prog 48 impl_isRadius.c := con_q' impl_isRadius.cd impl_isRadius.hC Tryd.func48 (by kernel_rfl) (by kernel_rfl) (by kernel_rfl) impl_isRadius.lp (fun a => by kernel_rfl) impl_isRadius.run (Tells.val (tree := impl_isRadius.tr) fun a => by kernel_rfl)
/-! ### impl_ValidBelt -/
noncomputable def impl_ValidBelt.b : Code := bodyOf Tryd.f17
noncomputable def impl_ValidBelt.C : Ctx := { ty := tys, fn := [(48, .q impl_isRadius.c), (49, .q impl_between.c)], lp := [], n := 26, k := 0 }
theorem impl_ValidBelt.hC : CtxOK Tryd.prog impl_ValidBelt.C := CtxOK.of mo tys_ok (FnsOK.cons impl_isRadius.cok (FnsOK.cons impl_between.cok FnsOK.nil))
theorem impl_ValidBelt.lp : LpOK Tryd.prog impl_ValidBelt.C impl_ValidBelt.b := (LpOK.nil (by kernel_rfl))
noncomputable def impl_ValidBelt.t (x0 : Nat) (x1 : Nat) (x2 : Nat) (x3 : Nat) (x4 : Bool) : T Bool :=
  .br (impl_isRadius x0)
  (.br (impl_isRadius x1)
   (.br (impl_between x2 (fadd .f32 x0 x1) 1199570944)
    (.leaf (impl_between x3 0 1073741824))
    (.leaf false))
   (.leaf false))
  (.leaf false)
noncomputable def impl_ValidBelt (x0 : Nat) (x1 : Nat) (x2 : Nat) (x3 : Nat) (x4 : Bool) : Bool := (impl_ValidBelt.t x0 x1 x2 x3 x4).val
def impl_ValidBelt.cd : Cd (Nat × Nat × Nat × Nat × Bool) (List V × Hp) := Cd.iso (Cd.pair (Cd.cons (Cd.agg (Cd.cons (Cd.fl .f32) (Cd.cons (Cd.fl .f32) (Cd.cons (Cd.fl .f32) (Cd.cons (Cd.fl .f32) (Cd.cons Cd.bo Cd.nil)))))) Cd.nil) Cd.nil) (fun a => (a.1.1.1, a.1.1.2.1, a.1.1.2.2.1, a.1.1.2.2.2.1, a.1.1.2.2.2.2.1)) (fun a => (((a.1, (a.2.1, (a.2.2.1, (a.2.2.2.1, (a.2.2.2.2, ()))))), ()), ())) (fun _ => rfl)
noncomputable def impl_ValidBelt.tr (a : Nat × Nat × Nat × Nat × Bool) : T Bool := impl_ValidBelt.t a.1 a.2.1 a.2.2.1 a.2.2.2.1 a.2.2.2.2
def impl_ValidBelt.enc : (Nat × Nat × Nat × Nat × Bool) → Bool → V := fun a r => .bo r
noncomputable def impl_ValidBelt.c : List V → Hp → T V := cdQ impl_ValidBelt.cd (fun a => .leaf (impl_ValidBelt.enc a (impl_ValidBelt a.1 a.2.1 a.2.2.1 a.2.2.2.1 a.2.2.2.2)))
theorem impl_ValidBelt.run (a : Nat × Nat × Nat × Nat × Bool) : runF impl_ValidBelt.C Tryd.f17.results.toList impl_ValidBelt.b (impl_ValidBelt.cd.enc a).1 (impl_ValidBelt.cd.enc a).2 = (impl_ValidBelt.tr a).map fun r => (impl_ValidBelt.enc a r, (impl_ValidBelt.cd.enc a).2) := by kernel_rfl
theorem impl_ValidBelt.cok : OKq Tryd.prog 17 impl_ValidBelt.c := con_q' impl_ValidBelt.cd impl_ValidBelt.hC Tryd.func17 (by kernel_rfl) (by kernel_rfl) (by kernel_rfl) impl_ValidBelt.lp (fun a => by kernel_rfl) impl_ValidBelt.run (Tells.val (tree := impl_ValidBelt.tr) fun a => by kernel_rfl)
/-! ### impl_NumberText -/
noncomputable def impl_NumberText.b : Code := bodyOf Tryd.f69
noncomputable def impl_NumberText.l5.s (x0 : Nat) (x1 : Int) (x2 : List Int) : T (Unit ⊕ Unit) :=
  .br (decide (x1 ≥ (0 : Int)))
  .bad
  (.leaf (.inr ()))
noncomputable def impl_NumberText.l5.st (p : Nat × Int × List Int) (x : Unit) : T (Unit ⊕ Unit) := impl_NumberText.l5.s p.1 p.2.1 p.2.2
noncomputable def impl_NumberText.l5.r (p : Nat × Int × List Int) (x : Unit) : Option Unit := iterT (impl_NumberText.l5.st p) manyRounds x
def impl_NumberText.l5.cd : Cd ((Nat × Int × List Int) × Unit) (List V × Hp) := Cd.iso (Cd.pair (Cd.cons Cd.qn (Cd.cons (Cd.own 0) (Cd.cons (Cd.it .i64) Cd.nil))) (Cd.cons (Cd.rw 5 1 (Cd.is .u8)) Cd.nil)) (fun a => ((a.1.2.1, a.1.2.2.1, a.2.1), ())) (fun a => (((), (a.1.1, (a.1.2.1, ()))), (a.1.2.2, ()))) (fun _ => rfl)
def impl_NumberText.l5.out (p : Nat × Int × List Int) : Unit → X × List V × Hp := (fun r => (.ex 0, [.own 0 p.1], [some ⟨true, 5, 1, .is .u8 p.2.2⟩]))
def impl_NumberText.l5.ex (p : Nat × Int × List Int) : Unit → T (X × List V × Hp) := leafT (fun r => (.ex 0, [.own 0 p.1], [some ⟨true, 5, 1, .is .u8 p.2.2⟩]))
noncomputable def impl_NumberText.l5.c : List V → Hp → T (X × List V × Hp) := cdL impl_NumberText.l5.cd fun x => optT (impl_NumberText.l5.r x.1 x.2) (impl_NumberText.l5.ex x.1)
noncomputable def impl_NumberText.l5v1.s (x0 : Int) (x1 : Nat) (x2 : Int) (x3 : List Int) : T ((Nat × Int × List Int) ⊕ (Nat × List Int)) :=
  .br (decide (x2 ≥ (0 : Int)))
  (.br (decide (x2 < 0))
   .bad
   (.br (bounds (ibits .and .u32 (Int.fdiv x0 (2 ^ min (Int.toNat x2) 32)) (15 : Int)) (ByteArray.size (ByteArray.mk #[48, 49, 50, 51, 52, 53, 54, 55, 56, 57, 97, 98, 99, 100, 101, 102])))
    (.br ((Nat.ble 1 (List.length [(byteAt (ByteArray.mk #[48, 49, 50, 51, 52, 53, 54, 55, 56, 57, 97, 98, 99, 100, 101, 102]) (ibits .and .u32 (Int.fdiv x0 (2 ^ min (Int.toNat x2) 32)) (15 : Int)))])) && (Nat.beq (List.length x3) (x1 * 1) && Nat.ble ((x1 + 1) * 1) 35184372088832 && Nat.ble (x1 + 1) 35184372088832))
     (.leaf (.inl ((x1 + 1), (IntKind.wrap .i64 (x2 - (4 : Int))), (x3 ++ (List.take 1 (List.drop 0 [(byteAt (ByteArray.mk #[48, 49, 50, 51, 52, 53, 54, 55, 56, 57, 97, 98, 99, 100, 101, 102]) (ibits .and .u32 (Int.fdiv x0 (2 ^ min (Int.toNat x2) 32)) (15 : Int)))]))))))
     .bad)
    .bad))
  (.leaf (.inr (x1, x3)))
noncomputable def impl_NumberText.l5v1.st (p : Int) (x : Nat × Int × List Int) : T ((Nat × Int × List Int) ⊕ (Nat × List Int)) := impl_NumberText.l5v1.s p x.1 x.2.1 x.2.2
noncomputable def impl_NumberText.l5v1.r (p : Int) (x : Nat × Int × List Int) : Option (Nat × List Int) := iterT (impl_NumberText.l5v1.st p) manyRounds x
def impl_NumberText.l5v1.cd : Cd (Int × (Nat × Int × List Int)) (List V × Hp) := Cd.iso (Cd.pair (Cd.cons (Cd.it .u32) (Cd.cons (Cd.own 0) (Cd.cons (Cd.it .i64) Cd.nil))) (Cd.cons (Cd.rw 5 1 (Cd.is .u8)) Cd.nil)) (fun a => (a.1.1, (a.1.2.1, a.1.2.2.1, a.2.1))) (fun a => ((a.1, (a.2.1, (a.2.2.1, ()))), (a.2.2.2, ()))) (fun _ => rfl)
def impl_NumberText.l5v1.out (p : Int) : (Nat × List Int) → X × List V × Hp := (fun r => (.ex 0, [.own 0 r.1], [some ⟨true, 5, 1, .is .u8 r.2⟩]))
def impl_NumberText.l5v1.ex (p : Int) : (Nat × List Int) → T (X × List V × Hp) := leafT (fun r => (.ex 0, [.own 0 r.1], [some ⟨true, 5, 1, .is .u8 r.2⟩]))
noncomputable def impl_NumberText.l5v1.c : List V → Hp → T (X × List V × Hp) := cdL impl_NumberText.l5v1.cd fun x => optT (impl_NumberText.l5v1.r x.1 x.2) (impl_NumberText.l5v1.ex x.1)
noncomputable def impl_NumberText.C : Ctx := { ty := tys, fn := [(74, .q f32bitsC)], lp := [(5, ⟨[3, 4, 5], [4], altL impl_NumberText.l5.c impl_NumberText.l5v1.c⟩)], n := 26, k := 0 }
theorem impl_NumberText.hC : CtxOK Tryd.prog impl_NumberText.C := CtxOK.of mo tys_ok (FnsOK.cons (f32bits_ok Tryd.func74 (by kernel_rfl) (by kernel_rfl) (by kernel_rfl) (by kernel_rfl)) FnsOK.nil)
noncomputable def impl_NumberText.b5 : Code := (nthC (loopsOf impl_NumberText.b) 0)
theorem impl_NumberText.lp5 : LpOK Tryd.prog impl_NumberText.C impl_NumberText.b5 := (LpOK.nil (by kernel_rfl))
theorem impl_NumberText.l5.round (p : Nat × Int × List Int) (s : Unit) : roundL impl_NumberText.C [3, 4, 5] [4] impl_NumberText.b5 (impl_NumberText.l5.cd.enc (p, s)).1 (impl_NumberText.l5.cd.enc (p, s)).2 = (impl_NumberText.l5.st p s).map (encSum (fun s => impl_NumberText.l5.cd.enc (p, s)) (impl_NumberText.l5.out p)) := by kernel_rfl
theorem impl_NumberText.l5.lok : LoopOK Tryd.prog impl_NumberText.C ⟨[3, 4, 5], [4], impl_NumberText.l5.c⟩ impl_NumberText.b5 := loop_cd impl_NumberText.l5.cd impl_NumberText.hC impl_NumberText.lp5 impl_NumberText.l5.round fun p => Gets.leaf
theorem impl_NumberText.l5v1.round (p : Int) (s : Nat × Int × List Int) : roundL impl_NumberText.C [3, 4, 5] [4] impl_NumberText.b5 (impl_NumberText.l5v1.cd.enc (p, s)).1 (impl_NumberText.l5v1.cd.enc (p, s)).2 = (impl_NumberText.l5v1.st p s).map (encSum (fun s => impl_NumberText.l5v1.cd.enc (p, s)) (impl_NumberText.l5v1.out p)) := by kernel_rfl
theorem impl_NumberText.l5v1.lok : LoopOK Tryd.prog impl_NumberText.C ⟨[3, 4, 5], [4], impl_NumberText.l5v1.c⟩ impl_NumberText.b5 := loop_cd impl_NumberText.l5v1.cd impl_NumberText.hC impl_NumberText.lp5 impl_NumberText.l5v1.round fun p => Gets.leaf
theorem impl_NumberText.lp : LpOK Tryd.prog impl_NumberText.C impl_NumberText.b := lp_of (by kernel_rfl) (LpsOK.cons (k := 5) (by kernel_rfl) (by kernel_rfl) (LoopOK.alt impl_NumberText.l5.lok impl_NumberText.l5v1.lok) LpsOK.nil)
noncomputable def impl_NumberText.t (x0 : Nat) : T ByteArray :=
  .br (fne .f32 x0 x0)
  (.leaf (ByteArray.mk #[55, 102, 99, 48, 48, 48, 48, 48]))
  (.br (isNaN .f32 x0)
   (.br (Option.isSome (impl_NumberText.l5.r (0, (28 : Int), []) ()))
    (.br (Nat.ble 0 (List.length ([] : List Int)))
     (.leaf (strOf (List.take 0 ([] : List Int))))
     .bad)
    .bad)
   (.br (Option.isSome (impl_NumberText.l5v1.r ((x0 : Nat) : Int) (0, (28 : Int), [])))
    (.br (Nat.ble ((Option.getD (impl_NumberText.l5v1.r ((x0 : Nat) : Int) (0, (28 : Int), [])) default).1) (List.length ((Option.getD (impl_NumberText.l5v1.r ((x0 : Nat) : Int) (0, (28 : Int), [])) default).2)))
     (.leaf (strOf (List.take ((Option.getD (impl_NumberText.l5v1.r ((x0 : Nat) : Int) (0, (28 : Int), [])) default).1) ((Option.getD (impl_NumberText.l5v1.r ((x0 : Nat) : Int) (0, (28 : Int), [])) default).2))))
     .bad)
    .bad))
noncomputable def impl_NumberText (x0 : Nat) : ByteArray := (impl_NumberText.t x0).val
noncomputable def impl_NumberText.ok (x0 : Nat) : Bool := (impl_NumberText.t x0).ok
def impl_NumberText.cd : Cd Nat (List V × Hp) := Cd.iso (Cd.pair (Cd.cons (Cd.fl .f32) Cd.nil) Cd.nil) (fun a => a.1.1) (fun a => ((a, ()), ())) (fun _ => rfl)
noncomputable def impl_NumberText.tr (a : Nat) : T ByteArray := impl_NumberText.t a
def impl_NumberText.enc : Nat → ByteArray → V := fun a r => .st r
noncomputable def impl_NumberText.c : List V → Hp → T V := cdQ impl_NumberText.cd (fun a => .br (impl_NumberText.ok a) (.leaf (impl_NumberText.enc a (impl_NumberText a))) .bad)
theorem impl_NumberText.run (a : Nat) : runF impl_NumberText.C Tryd.f69.results.toList impl_NumberText.b (impl_NumberText.cd.enc a).1 (impl_NumberText.cd.enc a).2 = (impl_NumberText.tr a).map fun r => (impl_NumberText.enc a r, (impl_NumberText.cd.enc a).2) := by kernel_rfl
theorem impl_NumberText.cok : OKq Tryd.prog 69 impl_NumberText.c := con_q' impl_NumberText.cd impl_NumberText.hC Tryd.func69 (by kernel_rfl) (by kernel_rfl) (by kernel_rfl) impl_NumberText.lp (fun a => by kernel_rfl) impl_NumberText.run (Tells.ok (tree := impl_NumberText.tr))
/-! ### impl_texts -/
noncomputable def impl_texts.b : Code := bodyOf Tryd.f36
noncomputable def impl_texts.l3.s (x0 : ByteArray) (x1 : Nat) (x2 : Nat) (x3 : Int) (x4 : Int) (x5 : List Nat) (x6 : List ByteArray) : T ((Nat × Int × List ByteArray) ⊕ (Nat × List ByteArray)) :=
  .br (decide (x4 < x3))
  (.br (bounds x4 x2)
   (.br (Nat.ble ((Int.toNat x4 * 1) + 1) (List.length x5))
    (.br (impl_NumberText.ok (List.getD x5 (Int.toNat x4 * 1) 0))
     (.br ((Nat.ble 1 (List.length [(impl_NumberText (List.getD x5 (Int.toNat x4 * 1) 0))])) && (Nat.beq (List.length x6) (x1 * 1) && Nat.ble ((x1 + 1) * 16) 35184372088832 && Nat.ble (x1 + 1) 35184372088832))
      (.leaf (.inl ((x1 + 1), (IntKind.wrap .i64 (x4 + (1 : Int))), (x6 ++ (List.take 1 (List.drop 0 [(impl_NumberText (List.getD x5 (Int.toNat x4 * 1) 0))]))))))
      .bad)
     .bad)
    .bad)
   .bad)
  (.leaf (.inr (x1, x6)))
noncomputable def impl_texts.l3.st (p : ByteArray × Nat × Int × List Nat) (x : Nat × Int × List ByteArray) : T ((Nat × Int × List ByteArray) ⊕ (Nat × List ByteArray)) := impl_texts.l3.s p.1 x.1 p.2.1 p.2.2.1 x.2.1 p.2.2.2 x.2.2
noncomputable def impl_texts.l3.r (p : ByteArray × Nat × Int × List Nat) (x : Nat × Int × List ByteArray) : Option (Nat × List ByteArray) := iterT (impl_texts.l3.st p) manyRounds x
def impl_texts.l3.cd : Cd ((ByteArray × Nat × Int × List Nat) × (Nat × Int × List ByteArray)) (List V × Hp) := Cd.iso (Cd.pair (Cd.cons Cd.st (Cd.cons (Cd.own 1) (Cd.cons (Cd.own 0) (Cd.cons (Cd.it .i64) (Cd.cons (Cd.it .i64) Cd.nil))))) (Cd.cons (Cd.rw 24 1 (Cd.fs .f32)) (Cd.cons (Cd.rw 9 1 Cd.ss) Cd.nil))) (fun a => ((a.1.1, a.1.2.2.1, a.1.2.2.2.1, a.2.1), (a.1.2.1, a.1.2.2.2.2.1, a.2.2.1))) (fun a => ((a.1.1, (a.2.1, (a.1.2.1, (a.1.2.2.1, (a.2.2.1, ()))))), (a.1.2.2.2, (a.2.2.2, ())))) (fun _ => rfl)
def impl_texts.l3.out (p : ByteArray × Nat × Int × List Nat) : (Nat × List ByteArray) → X × List V × Hp := (fun r => (.ex 0, [.st p.1, .own 1 r.1], [some ⟨true, 24, 1, .fs .f32 p.2.2.2⟩, some ⟨true, 9, 1, .ss r.2⟩]))
def impl_texts.l3.ex (p : ByteArray × Nat × Int × List Nat) : (Nat × List ByteArray) → T (X × List V × Hp) := leafT (fun r => (.ex 0, [.st p.1, .own 1 r.1], [some ⟨true, 24, 1, .fs .f32 p.2.2.2⟩, some ⟨true, 9, 1, .ss r.2⟩]))
noncomputable def impl_texts.l3.c : List V → Hp → T (X × List V × Hp) := cdL impl_texts.l3.cd fun x => optT (impl_texts.l3.r x.1 x.2) (impl_texts.l3.ex x.1)
noncomputable def impl_texts.C : Ctx := { ty := tys, fn := [(69, .q impl_NumberText.c), (70, .q joinC)], lp := [(3, ⟨[0, 5, 9, 10, 11], [0, 5], impl_texts.l3.c⟩)], n := 24, k := 1 }
theorem impl_texts.hC : CtxOK Tryd.prog impl_texts.C := CtxOK.of mo tys_ok (FnsOK.cons impl_NumberText.cok (FnsOK.cons (join_ok Tryd.func70 (by kernel_rfl) (by kernel_rfl) (fun bk o c xs sep w h1 h2 h3 h4 h5 => Tryd.strings_Join bk o c xs sep w h1 h2 h3 h4 h5)) FnsOK.nil))
noncomputable def impl_texts.b3 : Code := (nthC (loopsOf impl_texts.b) 0)
theorem impl_texts.lp3 : LpOK Tryd.prog impl_texts.C impl_texts.b3 := (LpOK.nil (by kernel_rfl))
theorem impl_texts.l3.round (p : ByteArray × Nat × Int × List Nat) (s : Nat × Int × List ByteArray) : roundL impl_texts.C [0, 5, 9, 10, 11] [0, 5] impl_texts.b3 (impl_texts.l3.cd.enc (p, s)).1 (impl_texts.l3.cd.enc (p, s)).2 = (impl_texts.l3.st p s).map (encSum (fun s => impl_texts.l3.cd.enc (p, s)) (impl_texts.l3.out p)) := by kernel_rfl
theorem impl_texts.l3.lok : LoopOK Tryd.prog impl_texts.C ⟨[0, 5, 9, 10, 11], [0, 5], impl_texts.l3.c⟩ impl_texts.b3 := loop_cd impl_texts.l3.cd impl_texts.hC impl_texts.lp3 impl_texts.l3.round fun p => Gets.leaf
theorem impl_texts.lp : LpOK Tryd.prog impl_texts.C impl_texts.b := lp_of (by kernel_rfl) (LpsOK.cons (k := 3) (by kernel_rfl) (by kernel_rfl) impl_texts.l3.lok LpsOK.nil)
noncomputable def impl_texts.t (x0 : ByteArray) (x1 : Nat) (x2 : List Nat) : T ByteArray :=
  .br (Option.isSome (impl_texts.l3.r (x0, x1, ((x1 : Nat) : Int), x2) (0, (0 : Int), [])))
  (.br (joinOk ((Option.getD (impl_texts.l3.r (x0, x1, ((x1 : Nat) : Int), x2) (0, (0 : Int), [])) default).2) ((Option.getD (impl_texts.l3.r (x0, x1, ((x1 : Nat) : Int), x2) (0, (0 : Int), [])) default).1) x0)
   (.leaf (joinB ((Option.getD (impl_texts.l3.r (x0, x1, ((x1 : Nat) : Int), x2) (0, (0 : Int), [])) default).2) x0))
   .bad)
  .bad
noncomputable def impl_texts (x0 : ByteArray) (x1 : Nat) (x2 : List Nat) : ByteArray := (impl_texts.t x0 x1 x2).val
noncomputable def impl_texts.ok (x0 : ByteArray) (x1 : Nat) (x2 : List Nat) : Bool := (impl_texts.t x0 x1 x2).ok
def impl_texts.cd : Cd (ByteArray × Nat × List Nat) (List V × Hp) := Cd.iso (Cd.pair (Cd.cons Cd.st (Cd.cons (Cd.own 0) Cd.nil)) (Cd.cons (Cd.rw 24 1 (Cd.fs .f32)) Cd.nil)) (fun a => (a.1.1, a.1.2.1, a.2.1)) (fun a => ((a.1, (a.2.1, ())), (a.2.2, ()))) (fun _ => rfl)
noncomputable def impl_texts.tr (a : ByteArray × Nat × List Nat) : T ByteArray := impl_texts.t a.1 a.2.1 a.2.2
def impl_texts.enc : (ByteArray × Nat × List Nat) → ByteArray → V := fun a r => .st r
noncomputable def impl_texts.c : List V → Hp → T V := cdQ impl_texts.cd (fun a => .br (impl_texts.ok a.1 a.2.1 a.2.2) (.leaf (impl_texts.enc a (impl_texts a.1 a.2.1 a.2.2))) .bad)
theorem impl_texts.run (a : ByteArray × Nat × List Nat) : runF impl_texts.C Tryd.f36.results.toList impl_texts.b (impl_texts.cd.enc a).1 (impl_texts.cd.enc a).2 = (impl_texts.tr a).map fun r => (impl_texts.enc a r, (impl_texts.cd.enc a).2) := by kernel_rfl
theorem impl_texts.cok : OKq Tryd.prog 36 impl_texts.c := con_q' impl_texts.cd impl_texts.hC Tryd.func36 (by kernel_rfl) (by kernel_rfl) (by kernel_rfl) impl_texts.lp (fun a => by kernel_rfl) impl_texts.run (Tells.ok (tree := impl_texts.tr))
/-! ### impl_BeltText -/
noncomputable def impl_BeltText.b : Code := bodyOf Tryd.f7
noncomputable def impl_BeltText.C : Ctx := { ty := tys, fn := [(17, .q impl_ValidBelt.c), (36, .q impl_texts.c)], lp := [], n := 21, k := 1 }
theorem impl_BeltText.hC : CtxOK Tryd.prog impl_BeltText.C := CtxOK.of mo tys_ok (FnsOK.cons impl_ValidBelt.cok (FnsOK.cons impl_texts.cok FnsOK.nil))
theorem impl_BeltText.lp : LpOK Tryd.prog impl_BeltText.C impl_BeltText.b := (LpOK.nil (by kernel_rfl))
noncomputable def impl_BeltText.t (x0 : Nat) (x1 : Nat) (x2 : Nat) (x3 : Nat) (x4 : Bool) (x5 : Int) : T ByteArray :=
  .br (!(impl_ValidBelt x0 x1 x2 x3 x4))
  (.leaf (ByteArray.mk #[]))
  (.br x4
   (.br (impl_texts.ok (ByteArray.mk #[32]) 4 [x0, x1, x2, x3])
    (.br (decide (((ByteArray.size (impl_texts (ByteArray.mk #[32]) 4 [x0, x1, x2, x3]) + ByteArray.size (ByteArray.mk #[32, 99, 114, 111, 115, 115, 101, 100]) : Nat) : Int) > IntKind.max .i64))
     .bad
     (.leaf ((impl_texts (ByteArray.mk #[32]) 4 [x0, x1, x2, x3]) ++ (ByteArray.mk #[32, 99, 114, 111, 115, 115, 101, 100]))))
    .bad)
   (.br (impl_texts.ok (ByteArray.mk #[32]) 4 [x0, x1, x2, x3])
    (.br (decide (((ByteArray.size (impl_texts (ByteArray.mk #[32]) 4 [x0, x1, x2, x3]) + ByteArray.size (ByteArray.mk #[32, 111, 112, 101, 110]) : Nat) : Int) > IntKind.max .i64))
     .bad
     (.leaf ((impl_texts (ByteArray.mk #[32]) 4 [x0, x1, x2, x3]) ++ (ByteArray.mk #[32, 111, 112, 101, 110]))))
    .bad))
noncomputable def impl_BeltText (x0 : Nat) (x1 : Nat) (x2 : Nat) (x3 : Nat) (x4 : Bool) (x5 : Int) : ByteArray := (impl_BeltText.t x0 x1 x2 x3 x4 x5).val
noncomputable def impl_BeltText.ok (x0 : Nat) (x1 : Nat) (x2 : Nat) (x3 : Nat) (x4 : Bool) (x5 : Int) : Bool := (impl_BeltText.t x0 x1 x2 x3 x4 x5).ok
def impl_BeltText.cd : Cd (Nat × Nat × Nat × Nat × Bool × Int) (List V × Hp) := Cd.iso (Cd.pair (Cd.cons (Cd.agg (Cd.cons (Cd.fl .f32) (Cd.cons (Cd.fl .f32) (Cd.cons (Cd.fl .f32) (Cd.cons (Cd.fl .f32) (Cd.cons Cd.bo Cd.nil)))))) Cd.nil) (Cd.cons (Cd.ro 0 2 (Cd.vs (Cd.cons (Cd.it .i64) Cd.nil))) Cd.nil)) (fun a => (a.1.1.1, a.1.1.2.1, a.1.1.2.2.1, a.1.1.2.2.2.1, a.1.1.2.2.2.2.1, a.2.1.1)) (fun a => (((a.1, (a.2.1, (a.2.2.1, (a.2.2.2.1, (a.2.2.2.2.1, ()))))), ()), ((a.2.2.2.2.2, ()), ()))) (fun _ => rfl)
noncomputable def impl_BeltText.tr (a : Nat × Nat × Nat × Nat × Bool × Int) : T ByteArray := impl_BeltText.t a.1 a.2.1 a.2.2.1 a.2.2.2.1 a.2.2.2.2.1 a.2.2.2.2.2
def impl_BeltText.enc : (Nat × Nat × Nat × Nat × Bool × Int) → ByteArray → V := fun a r => .st r
noncomputable def impl_BeltText.c : List V → Hp → T V := cdQ impl_BeltText.cd (fun a => .br (impl_BeltText.ok a.1 a.2.1 a.2.2.1 a.2.2.2.1 a.2.2.2.2.1 a.2.2.2.2.2) (.leaf (impl_BeltText.enc a (impl_BeltText a.1 a.2.1 a.2.2.1 a.2.2.2.1 a.2.2.2.2.1 a.2.2.2.2.2))) .bad)
theorem impl_BeltText.run (a : Nat × Nat × Nat × Nat × Bool × Int) : runF impl_BeltText.C Tryd.f7.results.toList impl_BeltText.b (impl_BeltText.cd.enc a).1 (impl_BeltText.cd.enc a).2 = (impl_BeltText.tr a).map fun r => (impl_BeltText.enc a r, (impl_BeltText.cd.enc a).2) := by kernel_rfl
theorem impl_BeltText.cok : OKq Tryd.prog 7 impl_BeltText.c := con_q' impl_BeltText.cd impl_BeltText.hC Tryd.func7 (by kernel_rfl) (by kernel_rfl) (by kernel_rfl) impl_BeltText.lp (fun a => by kernel_rfl) impl_BeltText.run (Tells.ok (tree := impl_BeltText.tr))
/-! ### impl_ReadNumber -/
noncomputable def impl_ReadNumber.b : Code := bodyOf Tryd.f68
noncomputable def impl_ReadNumber.l3.s (x0 : ByteArray) (x1 : Int) (x2 : Int) (x3 : Int) : T ((Int × Int) ⊕ Int) :=
  .br (decide (x3 < x2))
  (.br (bounds x3 (ByteArray.size x0))
   (.leaf (.inl ((ibits .or .u32 (IntKind.wrap .u32 (x1 * (2 ^ min (Int.toNat (4 : Int)) 32))) (IntKind.wrap .u32 (if (0 : Int) > (Go.Lib.indexByte (ByteArray.data (ByteArray.mk #[48, 49, 50, 51, 52, 53, 54, 55, 56, 57, 97, 98, 99, 100, 101, 102])).toList (Nat.toUInt8 (Int.toNat (byteAt x0 x3)))) then (0 : Int) else (Go.Lib.indexByte (ByteArray.data (ByteArray.mk #[48, 49, 50, 51, 52, 53, 54, 55, 56, 57, 97, 98, 99, 100, 101, 102])).toList (Nat.toUInt8 (Int.toNat (byteAt x0 x3))))))), (IntKind.wrap .i64 (x3 + (1 : Int))))))
   .bad)
  (.leaf (.inr x1))
noncomputable def impl_ReadNumber.l3.st (p : ByteArray × Int) (x : Int × Int) : T ((Int × Int) ⊕ Int) := impl_ReadNumber.l3.s p.1 x.1 p.2 x.2
noncomputable def impl_ReadNumber.l3.r (p : ByteArray × Int) (x : Int × Int) : Option Int := iterT (impl_ReadNumber.l3.st p) manyRounds x
def impl_ReadNumber.l3.cd : Cd ((ByteArray × Int) × (Int × Int)) (List V × Hp) := Cd.iso (Cd.pair (Cd.cons Cd.st (Cd.cons (Cd.it .u32) (Cd.cons (Cd.it .i64) (Cd.cons (Cd.it .i64) Cd.nil)))) Cd.nil) (fun a => ((a.1.1, a.1.2.2.1), (a.1.2.1, a.1.2.2.2.1))) (fun a => ((a.1.1, (a.2.1, (a.1.2, (a.2.2, ())))), ())) (fun _ => rfl)
def impl_ReadNumber.l3.out (p : ByteArray × Int) : Int → X × List V × Hp := (fun r => (.ex 0, [.st p.1, .it .u32 r], []))
def impl_ReadNumber.l3.ex (p : ByteArray × Int) : Int → T (X × List V × Hp) := leafT (fun r => (.ex 0, [.st p.1, .it .u32 r], []))
noncomputable def impl_ReadNumber.l3.c : List V → Hp → T (X × List V × Hp) := cdL impl_ReadNumber.l3.cd fun x => optT (impl_ReadNumber.l3.r x.1 x.2) (impl_ReadNumber.l3.ex x.1)
noncomputable def impl_ReadNumber.C : Ctx := { ty := tys, fn := [(81, .q indexByteC), (82, .q f32fromC), (69, .q impl_NumberText.c)], lp := [(3, ⟨[0, 4, 9, 10], [0, 4], impl_ReadNumber.l3.c⟩)], n := 30, k := 0 }
theorem impl_ReadNumber.hC : CtxOK Tryd.prog impl_ReadNumber.C := CtxOK.of mo tys_ok (FnsOK.cons (indexByte_ok Tryd.func81 (by kernel_rfl) (by kernel_rfl) (fun s c w => Tryd.strings_IndexByte s c w)) (FnsOK.cons (f32from_ok Tryd.func82 (by kernel_rfl) (by kernel_rfl) (by kernel_rfl) (by kernel_rfl)) (FnsOK.cons impl_NumberText.cok FnsOK.nil)))
noncomputable def impl_ReadNumber.b3 : Code := (nthC (loopsOf impl_ReadNumber.b) 0)
theorem impl_ReadNumber.lp3 : LpOK Tryd.prog impl_ReadNumber.C impl_ReadNumber.b3 := (LpOK.nil (by kernel_rfl))
theorem impl_ReadNumber.l3.round (p : ByteArray × Int) (s : Int × Int) : roundL impl_ReadNumber.C [0, 4, 9, 10] [0, 4] impl_ReadNumber.b3 (impl_ReadNumber.l3.cd.enc (p, s)).1 (impl_ReadNumber.l3.cd.enc (p, s)).2 = (impl_ReadNumber.l3.st p s).map (encSum (fun s => impl_ReadNumber.l3.cd.enc (p, s)) (impl_ReadNumber.l3.out p)) := by kernel_rfl
theorem impl_ReadNumber.l3.lok : LoopOK Tryd.prog impl_ReadNumber.C ⟨[0, 4, 9, 10], [0, 4], impl_ReadNumber.l3.c⟩ impl_ReadNumber.b3 := loop_cd impl_ReadNumber.l3.cd impl_ReadNumber.hC impl_ReadNumber.lp3 impl_ReadNumber.l3.round fun p => Gets.leaf
theorem impl_ReadNumber.lp : LpOK Tryd.prog impl_ReadNumber.C impl_ReadNumber.b := lp_of (by kernel_rfl) (LpsOK.cons (k := 3) (by kernel_rfl) (by kernel_rfl) impl_ReadNumber.l3.lok LpsOK.nil)
noncomputable def impl_ReadNumber.t (x0 : ByteArray) : T (Nat × Int) :=
  .br (Option.isSome (impl_ReadNumber.l3.r (x0, (if (8 : Int) < ((ByteArray.size x0 : Nat) : Int) then (8 : Int) else ((ByteArray.size x0 : Nat) : Int))) ((0 : Int), (0 : Int))))
  (.br (impl_NumberText.ok (nz .f32 (Int.toNat (Option.getD (impl_ReadNumber.l3.r (x0, (if (8 : Int) < ((ByteArray.size x0 : Nat) : Int) then (8 : Int) else ((ByteArray.size x0 : Nat) : Int))) ((0 : Int), (0 : Int))) default))))
   (.br (seq? (impl_NumberText (nz .f32 (Int.toNat (Option.getD (impl_ReadNumber.l3.r (x0, (if (8 : Int) < ((ByteArray.size x0 : Nat) : Int) then (8 : Int) else ((ByteArray.size x0 : Nat) : Int))) ((0 : Int), (0 : Int))) default)))) x0)
    (.leaf ((nz .f32 (Int.toNat (Option.getD (impl_ReadNumber.l3.r (x0, (if (8 : Int) < ((ByteArray.size x0 : Nat) : Int) then (8 : Int) else ((ByteArray.size x0 : Nat) : Int))) ((0 : Int), (0 : Int))) default))), (0 : Int)))
    (.leaf (0, (5 : Int))))
   .bad)
  .bad
noncomputable def impl_ReadNumber (x0 : ByteArray) : Nat × Int := (impl_ReadNumber.t x0).val
noncomputable def impl_ReadNumber.ok (x0 : ByteArray) : Bool := (impl_ReadNumber.t x0).ok
def impl_ReadNumber.cd : Cd ByteArray (List V × Hp) := Cd.iso (Cd.pair (Cd.cons Cd.st Cd.nil) Cd.nil) (fun a => a.1.1) (fun a => ((a, ()), ())) (fun _ => rfl)
noncomputable def impl_ReadNumber.tr (a : ByteArray) : T (Nat × Int) := impl_ReadNumber.t a
def impl_ReadNumber.enc : ByteArray → (Nat × Int) → V := fun a r => .tup [.fl .f32 r.1, .it .i64 r.2]
noncomputable def impl_ReadNumber.c : List V → Hp → T V := cdQ impl_ReadNumber.cd (fun a => .br (impl_ReadNumber.ok a) (.leaf (impl_ReadNumber.enc a (impl_ReadNumber a))) .bad)
theorem impl_ReadNumber.run (a : ByteArray) : runF impl_ReadNumber.C Tryd.f68.results.toList impl_ReadNumber.b (impl_ReadNumber.cd.enc a).1 (impl_ReadNumber.cd.enc a).2 = (impl_ReadNumber.tr a).map fun r => (impl_ReadNumber.enc a r, (impl_ReadNumber.cd.enc a).2) := by kernel_rfl
theorem impl_ReadNumber.cok : OKq Tryd.prog 68 impl_ReadNumber.c := con_q' impl_ReadNumber.cd impl_ReadNumber.hC Tryd.func68 (by kernel_rfl) (by kernel_rfl) (by kernel_rfl) impl_ReadNumber.lp (fun a => by kernel_rfl) impl_ReadNumber.run (Tells.ok (tree := impl_ReadNumber.tr))
/-! ### impl_numbersOf -/
noncomputable def impl_numbersOf.b : Code := bodyOf Tryd.f35
noncomputable def impl_numbersOf.l3.s (x0 : Nat) (x1 : Nat) (x2 : Int) (x3 : Int) (x4 : Int) (x5 : List ByteArray) (x6 : List Nat) : T ((Nat × Int × List Nat) ⊕ ((Bool × Nat × List Nat) ⊕ (Nat × List Nat))) :=
  .br (decide (x3 < x2))
  (.br (bounds x3 x1)
   (.br (Nat.ble ((0 + (Int.toNat x3 * 1)) + 1) (List.length x5))
    (.br (impl_ReadNumber.ok (List.getD x5 (0 + (Int.toNat x3 * 1)) ByteArray.empty))
     (.br ((impl_ReadNumber (List.getD x5 (0 + (Int.toNat x3 * 1)) ByteArray.empty)).2 != (0 : Int))
      (.leaf (.inr (.inl (false, x0, x6))))
      (.br ((Nat.ble 1 (List.length [(impl_ReadNumber (List.getD x5 (0 + (Int.toNat x3 * 1)) ByteArray.empty)).1])) && (Nat.beq (List.length x6) (x0 * 1) && Nat.ble ((x0 + 1) * 4) 35184372088832 && Nat.ble (x0 + 1) 35184372088832))
       (.leaf (.inl ((x0 + 1), (IntKind.wrap .i64 (x3 + (1 : Int))), (x6 ++ (List.take 1 (List.drop 0 [(impl_ReadNumber (List.getD x5 (0 + (Int.toNat x3 * 1)) ByteArray.empty)).1]))))))
       .bad))
     .bad)
    .bad)
   .bad)
  (.leaf (.inr (.inr (x0, x6))))
noncomputable def impl_numbersOf.l3.st (p : Nat × Int × Int × List ByteArray) (x : Nat × Int × List Nat) : T ((Nat × Int × List Nat) ⊕ ((Bool × Nat × List Nat) ⊕ (Nat × List Nat))) := impl_numbersOf.l3.s x.1 p.1 p.2.1 x.2.1 p.2.2.1 p.2.2.2 x.2.2
noncomputable def impl_numbersOf.l3.r (p : Nat × Int × Int × List ByteArray) (x : Nat × Int × List Nat) : Option ((Bool × Nat × List Nat) ⊕ (Nat × List Nat)) := iterT (impl_numbersOf.l3.st p) manyRounds x
def impl_numbersOf.l3.cd : Cd ((Nat × Int × Int × List ByteArray) × (Nat × Int × List Nat)) (List V × Hp) := Cd.iso (Cd.pair (Cd.cons (Cd.own 2) (Cd.cons (Cd.sl 1 (Cd.natc 0)) (Cd.cons (Cd.it .i64) (Cd.cons (Cd.it .i64) Cd.nil)))) (Cd.cons (Cd.ro 0 2 (Cd.vs (Cd.cons (Cd.it .i64) Cd.nil))) (Cd.cons (Cd.rw 9 1 Cd.ss) (Cd.cons (Cd.rw 24 1 (Cd.fs .f32)) Cd.nil)))) (fun a => ((a.1.2.1.2, a.1.2.2.1, a.2.1.1, a.2.2.1), (a.1.1, a.1.2.2.2.1, a.2.2.2.1))) (fun a => ((a.2.1, (((), a.1.1), (a.1.2.1, (a.2.2.1, ())))), ((a.1.2.2.1, ()), (a.1.2.2.2, (a.2.2.2, ()))))) (fun _ => rfl)
def impl_numbersOf.l3.out (p : Nat × Int × Int × List ByteArray) : ((Bool × Nat × List Nat) ⊕ (Nat × List Nat)) → X × List V × Hp := sumO (fun r => (.ret, [.sn, .bo r.1, .own 2 r.2.1], [some ⟨false, 0, 2, .vs [.it .i64 p.2.2.1]⟩, some ⟨true, 9, 1, .ss p.2.2.2⟩, some ⟨true, 24, 1, .fs .f32 r.2.2⟩])) (fun r => (.ex 0, [.unk, .unk, .own 2 r.1], [some ⟨false, 0, 2, .vs [.it .i64 p.2.2.1]⟩, some ⟨true, 9, 1, .ss p.2.2.2⟩, some ⟨true, 24, 1, .fs .f32 r.2⟩]))
def impl_numbersOf.l3.ex (p : Nat × Int × Int × List ByteArray) : ((Bool × Nat × List Nat) ⊕ (Nat × List Nat)) → T (X × List V × Hp) := sumT (leafT (fun r => (.ret, [.sn, .bo r.1, .own 2 r.2.1], [some ⟨false, 0, 2, .vs [.it .i64 p.2.2.1]⟩, some ⟨true, 9, 1, .ss p.2.2.2⟩, some ⟨true, 24, 1, .fs .f32 r.2.2⟩]))) (leafT (fun r => (.ex 0, [.unk, .unk, .own 2 r.1], [some ⟨false, 0, 2, .vs [.it .i64 p.2.2.1]⟩, some ⟨true, 9, 1, .ss p.2.2.2⟩, some ⟨true, 24, 1, .fs .f32 r.2⟩])))
noncomputable def impl_numbersOf.l3.c : List V → Hp → T (X × List V × Hp) := cdL impl_numbersOf.l3.cd fun x => optT (impl_numbersOf.l3.r x.1 x.2) (impl_numbersOf.l3.ex x.1)
noncomputable def impl_numbersOf.C : Ctx := { ty := tys, fn := [(68, .q impl_ReadNumber.c)], lp := [(3, ⟨[4, 10, 11, 12], [2, 3, 4], impl_numbersOf.l3.c⟩)], n := 29, k := 2 }
theorem impl_numbersOf.hC : CtxOK Tryd.prog impl_numbersOf.C := CtxOK.of mo tys_ok (FnsOK.cons impl_ReadNumber.cok FnsOK.nil)
noncomputable def impl_numbersOf.b3 : Code := (nthC (loopsOf impl_numbersOf.b) 0)
theorem impl_numbersOf.lp3 : LpOK Tryd.prog impl_numbersOf.C impl_numbersOf.b3 := (LpOK.nil (by kernel_rfl))
theorem impl_numbersOf.l3.round (p : Nat × Int × Int × List ByteArray) (s : Nat × Int × List Nat) : roundL impl_numbersOf.C [4, 10, 11, 12] [2, 3, 4] impl_numbersOf.b3 (impl_numbersOf.l3.cd.enc (p, s)).1 (impl_numbersOf.l3.cd.enc (p, s)).2 = (impl_numbersOf.l3.st p s).map (encSum (fun s => impl_numbersOf.l3.cd.enc (p, s)) (impl_numbersOf.l3.out p)) := by kernel_rfl
theorem impl_numbersOf.l3.lok : LoopOK Tryd.prog impl_numbersOf.C ⟨[4, 10, 11, 12], [2, 3, 4], impl_numbersOf.l3.c⟩ impl_numbersOf.b3 := loop_cd impl_numbersOf.l3.cd impl_numbersOf.hC impl_numbersOf.lp3 impl_numbersOf.l3.round fun p => (Gets.sum Gets.leaf Gets.leaf)
theorem impl_numbersOf.lp : LpOK Tryd.prog impl_numbersOf.C impl_numbersOf.b := lp_of (by kernel_rfl) (LpsOK.cons (k := 3) (by kernel_rfl) (by kernel_rfl) impl_numbersOf.l3.lok LpsOK.nil)
noncomputable def impl_numbersOf.t (x0 : Nat) (x1 : Int) (x2 : List ByteArray) : T (Bool ⊕ (Nat × Bool × List Nat)) :=
  .br (Option.isSome (impl_numbersOf.l3.r (x0, ((x0 : Nat) : Int), x1, x2) (0, (0 : Int), [])))
  (.br (Sum.isLeft (Option.getD (impl_numbersOf.l3.r (x0, ((x0 : Nat) : Int), x1, x2) (0, (0 : Int), [])) default))
   (.leaf (.inl ((getLeftD (Option.getD (impl_numbersOf.l3.r (x0, ((x0 : Nat) : Int), x1, x2) (0, (0 : Int), [])) default)).1)))
   (.leaf (.inr ((getRightD (Option.getD (impl_numbersOf.l3.r (x0, ((x0 : Nat) : Int), x1, x2) (0, (0 : Int), [])) default)).1, true, (getRightD (Option.getD (impl_numbersOf.l3.r (x0, ((x0 : Nat) : Int), x1, x2) (0, (0 : Int), [])) default)).2))))
  .bad
noncomputable def impl_numbersOf (x0 : Nat) (x1 : Int) (x2 : List ByteArray) : Bool ⊕ (Nat × Bool × List Nat) := (impl_numbersOf.t x0 x1 x2).val
noncomputable def impl_numbersOf.ok (x0 : Nat) (x1 : Int) (x2 : List ByteArray) : Bool := (impl_numbersOf.t x0 x1 x2).ok
def impl_numbersOf.cd : Cd (Nat × Int × List ByteArray) (List V × Hp) := Cd.iso (Cd.pair (Cd.cons (Cd.sl 1 (Cd.natc 0)) Cd.nil) (Cd.cons (Cd.ro 0 2 (Cd.vs (Cd.cons (Cd.it .i64) Cd.nil))) (Cd.cons (Cd.rw 9 1 Cd.ss) Cd.nil))) (fun a => (a.1.1.2, a.2.1.1, a.2.2.1)) (fun a => ((((), a.1), ()), ((a.2.1, ()), (a.2.2, ())))) (fun _ => rfl)
noncomputable def impl_numbersOf.tr (a : Nat × Int × List ByteArray) : T (Bool ⊕ (Nat × Bool × List Nat)) := impl_numbersOf.t a.1 a.2.1 a.2.2
def impl_numbersOf.enc : (Nat × Int × List ByteArray) → (Bool ⊕ (Nat × Bool × List Nat)) → V × Hp := fun a => sumO (fun r => (.tup [.sn, .bo r], [some ⟨false, 0, 2, .vs [.it .i64 a.2.1]⟩, some ⟨true, 9, 1, .ss a.2.2⟩])) (fun r => (.tup [.own 2 r.1, .bo r.2.1], [some ⟨false, 0, 2, .vs [.it .i64 a.2.1]⟩, some ⟨true, 9, 1, .ss a.2.2⟩, some ⟨true, 24, 1, .fs .f32 r.2.2⟩]))
noncomputable def impl_numbersOf.ex : (Nat × Int × List ByteArray) → (Bool ⊕ (Nat × Bool × List Nat)) → T (V × Hp) := fun a => sumT (leafT (fun r => (.tup [.sn, .bo r], [some ⟨false, 0, 2, .vs [.it .i64 a.2.1]⟩, some ⟨true, 9, 1, .ss a.2.2⟩]))) (leafT (fun r => (.tup [.own 2 r.1, .bo r.2.1], [some ⟨false, 0, 2, .vs [.it .i64 a.2.1]⟩, some ⟨true, 9, 1, .ss a.2.2⟩, some ⟨true, 24, 1, .fs .f32 r.2.2⟩])))
noncomputable def impl_numbersOf.c : List V → Hp → T (V × Hp) := cdE impl_numbersOf.cd (fun a => .br (impl_numbersOf.ok a.1 a.2.1 a.2.2) (impl_numbersOf.ex a (impl_numbersOf a.1 a.2.1 a.2.2)) .bad)
theorem impl_numbersOf.run (a : Nat × Int × List ByteArray) : runF impl_numbersOf.C Tryd.f35.results.toList impl_numbersOf.b (impl_numbersOf.cd.enc a).1 (impl_numbersOf.cd.enc a).2 = (impl_numbersOf.tr a).map (impl_numbersOf.enc a) := by kernel_rfl
theorem impl_numbersOf.cok : OKe Tryd.prog 35 impl_numbersOf.c := con_e' impl_numbersOf.cd impl_numbersOf.hC Tryd.func35 (by kernel_rfl) (by kernel_rfl) (by kernel_rfl) impl_numbersOf.lp (fun a => by kernel_rfl) impl_numbersOf.run (Tells.okS (tree := impl_numbersOf.tr) (ex := impl_numbersOf.ex) fun a => (Gets.sum Gets.leaf Gets.leaf))
/-! ### impl_ReadBelt -/
noncomputable def impl_ReadBelt.b : Code := bodyOf Tryd.f6
noncomputable def impl_ReadBelt.C : Ctx := { ty := tys, fn := [(34, .e (splitC 2 9)), (35, .e impl_numbersOf.c), (7, .q impl_BeltText.c)], lp := [], n := 46, k := 1, g := 1 }
theorem impl_ReadBelt.hC : CtxOK Tryd.prog impl_ReadBelt.C := CtxOK.of mo tys_ok (FnsOK.cons (split_ok Tryd.func34 (by kernel_rfl) (by kernel_rfl) (fun s sep m w h1 h2 h3 => Tryd.strings_Split s sep m w h1 h2 h3)) (FnsOK.cons impl_numbersOf.cok (FnsOK.cons impl_BeltText.cok FnsOK.nil)))
theorem impl_ReadBelt.lp : LpOK Tryd.prog impl_ReadBelt.C impl_ReadBelt.b := (LpOK.nil (by kernel_rfl))
noncomputable def impl_ReadBelt.t (x0 : ByteArray) (x1 : Int) : T (Nat × Nat × Nat × Nat × Bool × Int) :=
  .br (Nat.ble (ByteArray.size x0) 1048576 && Nat.ble 1 (ByteArray.size (ByteArray.mk #[32])))
  (.br ((((List.length (splitL x0 (ByteArray.mk #[32]))) : Nat) : Int) != (5 : Int))
   (.leaf (0, 0, 0, 0, false, (5 : Int)))
   (.br (decide (0 ≤ (0 : Int)) && decide ((0 : Int) ≤ (4 : Int)) && decide ((4 : Int) ≤ (((List.length (splitL x0 (ByteArray.mk #[32]))) : Nat) : Int)))
    (.br (impl_numbersOf.ok (Int.toNat (4 : Int) - Int.toNat (0 : Int)) x1 (splitL x0 (ByteArray.mk #[32])))
     (.br (Sum.isLeft (impl_numbersOf (Int.toNat (4 : Int) - Int.toNat (0 : Int)) x1 (splitL x0 (ByteArray.mk #[32]))))
      (.br (!(getLeftD (impl_numbersOf (Int.toNat (4 : Int) - Int.toNat (0 : Int)) x1 (splitL x0 (ByteArray.mk #[32])))))
       (.leaf (0, 0, 0, 0, false, (5 : Int)))
       .bad)
      (.br (!(getRightD (impl_numbersOf (Int.toNat (4 : Int) - Int.toNat (0 : Int)) x1 (splitL x0 (ByteArray.mk #[32])))).2.1)
       (.leaf (0, 0, 0, 0, false, (5 : Int)))
       (.br (bounds (0 : Int) ((getRightD (impl_numbersOf (Int.toNat (4 : Int) - Int.toNat (0 : Int)) x1 (splitL x0 (ByteArray.mk #[32])))).1))
        (.br (Nat.ble 1 (List.length ((getRightD (impl_numbersOf (Int.toNat (4 : Int) - Int.toNat (0 : Int)) x1 (splitL x0 (ByteArray.mk #[32])))).2.2)))
         (.br (bounds (1 : Int) ((getRightD (impl_numbersOf (Int.toNat (4 : Int) - Int.toNat (0 : Int)) x1 (splitL x0 (ByteArray.mk #[32])))).1))
          (.br (Nat.ble 2 (List.length ((getRightD (impl_numbersOf (Int.toNat (4 : Int) - Int.toNat (0 : Int)) x1 (splitL x0 (ByteArray.mk #[32])))).2.2)))
           (.br (bounds (2 : Int) ((getRightD (impl_numbersOf (Int.toNat (4 : Int) - Int.toNat (0 : Int)) x1 (splitL x0 (ByteArray.mk #[32])))).1))
            (.br (Nat.ble 3 (List.length ((getRightD (impl_numbersOf (Int.toNat (4 : Int) - Int.toNat (0 : Int)) x1 (splitL x0 (ByteArray.mk #[32])))).2.2)))
             (.br (bounds (3 : Int) ((getRightD (impl_numbersOf (Int.toNat (4 : Int) - Int.toNat (0 : Int)) x1 (splitL x0 (ByteArray.mk #[32])))).1))
              (.br (Nat.ble 4 (List.length ((getRightD (impl_numbersOf (Int.toNat (4 : Int) - Int.toNat (0 : Int)) x1 (splitL x0 (ByteArray.mk #[32])))).2.2)))
               (.br (bounds (4 : Int) (List.length (splitL x0 (ByteArray.mk #[32]))))
                (.br (Nat.ble 5 (List.length (splitL x0 (ByteArray.mk #[32]))))
                 (.br (impl_BeltText.ok (List.getD ((getRightD (impl_numbersOf (Int.toNat (4 : Int) - Int.toNat (0 : Int)) x1 (splitL x0 (ByteArray.mk #[32])))).2.2) 0 0) (List.getD ((getRightD (impl_numbersOf (Int.toNat (4 : Int) - Int.toNat (0 : Int)) x1 (splitL x0 (ByteArray.mk #[32])))).2.2) 1 0) (List.getD ((getRightD (impl_numbersOf (Int.toNat (4 : Int) - Int.toNat (0 : Int)) x1 (splitL x0 (ByteArray.mk #[32])))).2.2) 2 0) (List.getD ((getRightD (impl_numbersOf (Int.toNat (4 : Int) - Int.toNat (0 : Int)) x1 (splitL x0 (ByteArray.mk #[32])))).2.2) 3 0) (seq? (List.getD (splitL x0 (ByteArray.mk #[32])) 4 ByteArray.empty) (ByteArray.mk #[99, 114, 111, 115, 115, 101, 100])) x1)
                  (.br (!seq? (impl_BeltText (List.getD ((getRightD (impl_numbersOf (Int.toNat (4 : Int) - Int.toNat (0 : Int)) x1 (splitL x0 (ByteArray.mk #[32])))).2.2) 0 0) (List.getD ((getRightD (impl_numbersOf (Int.toNat (4 : Int) - Int.toNat (0 : Int)) x1 (splitL x0 (ByteArray.mk #[32])))).2.2) 1 0) (List.getD ((getRightD (impl_numbersOf (Int.toNat (4 : Int) - Int.toNat (0 : Int)) x1 (splitL x0 (ByteArray.mk #[32])))).2.2) 2 0) (List.getD ((getRightD (impl_numbersOf (Int.toNat (4 : Int) - Int.toNat (0 : Int)) x1 (splitL x0 (ByteArray.mk #[32])))).2.2) 3 0) (seq? (List.getD (splitL x0 (ByteArray.mk #[32])) 4 ByteArray.empty) (ByteArray.mk #[99, 114, 111, 115, 115, 101, 100])) x1) x0)
                   (.leaf (0, 0, 0, 0, false, (5 : Int)))
                   (.leaf ((List.getD ((getRightD (impl_numbersOf (Int.toNat (4 : Int) - Int.toNat (0 : Int)) x1 (splitL x0 (ByteArray.mk #[32])))).2.2) 0 0), (List.getD ((getRightD (impl_numbersOf (Int.toNat (4 : Int) - Int.toNat (0 : Int)) x1 (splitL x0 (ByteArray.mk #[32])))).2.2) 1 0), (List.getD ((getRightD (impl_numbersOf (Int.toNat (4 : Int) - Int.toNat (0 : Int)) x1 (splitL x0 (ByteArray.mk #[32])))).2.2) 2 0), (List.getD ((getRightD (impl_numbersOf (Int.toNat (4 : Int) - Int.toNat (0 : Int)) x1 (splitL x0 (ByteArray.mk #[32])))).2.2) 3 0), (seq? (List.getD (splitL x0 (ByteArray.mk #[32])) 4 ByteArray.empty) (ByteArray.mk #[99, 114, 111, 115, 115, 101, 100])), (0 : Int))))
                  .bad)
                 .bad)
                .bad)
               .bad)
              .bad)
             .bad)
            .bad)
           .bad)
          .bad)
         .bad)
        .bad)))
     .bad)
    .bad))
  .bad
noncomputable def impl_ReadBelt (x0 : ByteArray) (x1 : Int) : Nat × Nat × Nat × Nat × Bool × Int := (impl_ReadBelt.t x0 x1).val
noncomputable def impl_ReadBelt.ok (x0 : ByteArray) (x1 : Int) : Bool := (impl_ReadBelt.t x0 x1).ok
def impl_ReadBelt.cd : Cd (ByteArray × Int) (List V × Hp) := Cd.iso (Cd.pair (Cd.cons Cd.st Cd.nil) (Cd.cons (Cd.ro 0 2 (Cd.vs (Cd.cons (Cd.it .i64) Cd.nil))) Cd.nil)) (fun a => (a.1.1, a.2.1.1)) (fun a => ((a.1, ()), ((a.2, ()), ()))) (fun _ => rfl)
noncomputable def impl_ReadBelt.tr (a : ByteArray × Int) : T (Nat × Nat × Nat × Nat × Bool × Int) := impl_ReadBelt.t a.1 a.2
def impl_ReadBelt.enc : (ByteArray × Int) → (Nat × Nat × Nat × Nat × Bool × Int) → V := fun a r => .tup [.agg [.fl .f32 r.1, .fl .f32 r.2.1, .fl .f32 r.2.2.1, .fl .f32 r.2.2.2.1, .bo r.2.2.2.2.1], .it .i64 r.2.2.2.2.2]
noncomputable def impl_ReadBelt.c : List V → Hp → T V := cdQ impl_ReadBelt.cd (fun a => .br (impl_ReadBelt.ok a.1 a.2) (.leaf (impl_ReadBelt.enc a (impl_ReadBelt a.1 a.2))) .bad)
theorem impl_ReadBelt.run (a : ByteArray × Int) : runF impl_ReadBelt.C Tryd.f6.results.toList impl_ReadBelt.b (impl_ReadBelt.cd.enc a).1 (impl_ReadBelt.cd.enc a).2 = (impl_ReadBelt.tr a).map fun r => (impl_ReadBelt.enc a r, (impl_ReadBelt.cd.enc a).2) := by kernel_rfl
theorem impl_ReadBelt.cok : OKq Tryd.prog 6 impl_ReadBelt.c := con_q' impl_ReadBelt.cd impl_ReadBelt.hC Tryd.func6 (by kernel_rfl) (by kernel_rfl) (by kernel_rfl) impl_ReadBelt.lp (fun a => by kernel_rfl) impl_ReadBelt.run (Tells.ok (tree := impl_ReadBelt.tr))
/-! ### impl_Belt_reach -/
noncomputable def impl_Belt_reach.b : Code := bodyOf Tryd.f71
noncomputable def impl_Belt_reach.C : Ctx := { ty := tys, fn := [], lp := [], n := 45, k := 1 }
theorem impl_Belt_reach.hC : CtxOK Tryd.prog impl_Belt_reach.C := CtxOK.of mo tys_ok FnsOK.nil
theorem impl_Belt_reach.lp : LpOK Tryd.prog impl_Belt_reach.C impl_Belt_reach.b := (LpOK.nil (by kernel_rfl))
noncomputable def impl_Belt_reach.t (x0 : Nat) (x1 : Nat) (x2 : Nat) (x3 : Nat) (x4 : Bool) : T Nat :=
  .br x4
  (.leaf (fadd .f32 x0 x1))
  (.br (fgt .f32 x1 x0)
   (.leaf (fsub .f32 x1 x0))
   (.leaf (fsub .f32 x0 x1)))
noncomputable def impl_Belt_reach (x0 : Nat) (x1 : Nat) (x2 : Nat) (x3 : Nat) (x4 : Bool) : Nat := (impl_Belt_reach.t x0 x1 x2 x3 x4).val
def impl_Belt_reach.cd : Cd (Nat × Nat × Nat × Nat × Bool) (List V × Hp) := Cd.iso (Cd.pair (Cd.cons (Cd.pt 0 (Cd.natc 0)) Cd.nil) (Cd.cons (Cd.rw 26 5 (Cd.vs (Cd.cons (Cd.fl .f32) (Cd.cons (Cd.fl .f32) (Cd.cons (Cd.fl .f32) (Cd.cons (Cd.fl .f32) (Cd.cons Cd.bo Cd.nil))))))) Cd.nil)) (fun a => (a.2.1.1, a.2.1.2.1, a.2.1.2.2.1, a.2.1.2.2.2.1, a.2.1.2.2.2.2.1)) (fun a => (((), ()), ((a.1, (a.2.1, (a.2.2.1, (a.2.2.2.1, (a.2.2.2.2, ()))))), ()))) (fun _ => rfl)
noncomputable def impl_Belt_reach.tr (a : Nat × Nat × Nat × Nat × Bool) : T Nat := impl_Belt_reach.t a.1 a.2.1 a.2.2.1 a.2.2.2.1 a.2.2.2.2
def impl_Belt_reach.enc : (Nat × Nat × Nat × Nat × Bool) → Nat → V := fun a r => .fl .f32 r
noncomputable def impl_Belt_reach.c : List V → Hp → T V := cdQ impl_Belt_reach.cd (fun a => .leaf (impl_Belt_reach.enc a (impl_Belt_reach a.1 a.2.1 a.2.2.1 a.2.2.2.1 a.2.2.2.2)))
theorem impl_Belt_reach.run (a : Nat × Nat × Nat × Nat × Bool) : runF impl_Belt_reach.C Tryd.f71.results.toList impl_Belt_reach.b (impl_Belt_reach.cd.enc a).1 (impl_Belt_reach.cd.enc a).2 = (impl_Belt_reach.tr a).map fun r => (impl_Belt_reach.enc a r, (impl_Belt_reach.cd.enc a).2) := by kernel_rfl
theorem impl_Belt_reach.cok : OKq Tryd.prog 71 impl_Belt_reach.c := con_q' impl_Belt_reach.cd impl_Belt_reach.hC Tryd.func71 (by kernel_rfl) (by kernel_rfl) (by kernel_rfl) impl_Belt_reach.lp (fun a => by kernel_rfl) impl_Belt_reach.run (Tells.val (tree := impl_Belt_reach.tr) fun a => by kernel_rfl)
/-! ### impl_Belt_length -/
noncomputable def impl_Belt_length.b : Code := bodyOf Tryd.f38
noncomputable def impl_Belt_length.C : Ctx := { ty := tys, fn := [(71, .q impl_Belt_reach.c)], lp := [], n := 35, k := 1 }
theorem impl_Belt_length.hC : CtxOK Tryd.prog impl_Belt_length.C := CtxOK.of mo tys_ok (FnsOK.cons impl_Belt_reach.cok FnsOK.nil)
theorem impl_Belt_length.lp : LpOK Tryd.prog impl_Belt_length.C impl_Belt_length.b := (LpOK.nil (by kernel_rfl))
noncomputable def impl_Belt_length.t (x0 : Nat) (x1 : Nat) (x2 : Nat) (x3 : Nat) (x4 : Bool) : T Nat :=
  .leaf (fadd .f32 (fadd .f32 (fmul .f32 1073741824 x2) (fmul .f32 1078525952 (fadd .f32 x0 x1))) (fdiv .f32 (fmul .f32 (impl_Belt_reach x0 x1 x2 x3 x4) (impl_Belt_reach x0 x1 x2 x3 x4)) x2))
noncomputable def impl_Belt_length (x0 : Nat) (x1 : Nat) (x2 : Nat) (x3 : Nat) (x4 : Bool) : Nat := (impl_Belt_length.t x0 x1 x2 x3 x4).val
def impl_Belt_length.cd : Cd (Nat × Nat × Nat × Nat × Bool) (List V × Hp) := Cd.iso (Cd.pair (Cd.cons (Cd.pt 0 (Cd.natc 0)) Cd.nil) (Cd.cons (Cd.rw 26 5 (Cd.vs (Cd.cons (Cd.fl .f32) (Cd.cons (Cd.fl .f32) (Cd.cons (Cd.fl .f32) (Cd.cons (Cd.fl .f32) (Cd.cons Cd.bo Cd.nil))))))) Cd.nil)) (fun a => (a.2.1.1, a.2.1.2.1, a.2.1.2.2.1, a.2.1.2.2.2.1, a.2.1.2.2.2.2.1)) (fun a => (((), ()), ((a.1, (a.2.1, (a.2.2.1, (a.2.2.2.1, (a.2.2.2.2, ()))))), ()))) (fun _ => rfl)
noncomputable def impl_Belt_length.tr (a : Nat × Nat × Nat × Nat × Bool) : T Nat := impl_Belt_length.t a.1 a.2.1 a.2.2.1 a.2.2.2.1 a.2.2.2.2
def impl_Belt_length.enc : (Nat × Nat × Nat × Nat × Bool) → Nat → V := fun a r => .fl .f32 r
noncomputable def impl_Belt_length.c : List V → Hp → T V := cdQ impl_Belt_length.cd (fun a => .leaf (impl_Belt_length.enc a (impl_Belt_length a.1 a.2.1 a.2.2.1 a.2.2.2.1 a.2.2.2.2)))
theorem impl_Belt_length.run (a : Nat × Nat × Nat × Nat × Bool) : runF impl_Belt_length.C Tryd.f38.results.toList impl_Belt_length.b (impl_Belt_length.cd.enc a).1 (impl_Belt_length.cd.enc a).2 = (impl_Belt_length.tr a).map fun r => (impl_Belt_length.enc a r, (impl_Belt_length.cd.enc a).2) := by kernel_rfl
theorem impl_Belt_length.cok : OKq Tryd.prog 38 impl_Belt_length.c := con_q' impl_Belt_length.cd impl_Belt_length.hC Tryd.func38 (by kernel_rfl) (by kernel_rfl) (by kernel_rfl) impl_Belt_length.lp (fun a => by kernel_rfl) impl_Belt_length.run (Tells.val (tree := impl_Belt_length.tr) fun a => by kernel_rfl)
/-! ### impl_beltCode -/
noncomputable def impl_beltCode.b : Code := bodyOf Tryd.f39
noncomputable def impl_beltCode.C : Ctx := { ty := tys, fn := [(17, .q impl_ValidBelt.c)], lp := [], n := 12, k := 0 }
theorem impl_beltCode.hC : CtxOK Tryd.prog impl_beltCode.C := CtxOK.of mo tys_ok (FnsOK.cons impl_ValidBelt.cok FnsOK.nil)
theorem impl_beltCode.lp : LpOK Tryd.prog impl_beltCode.C impl_beltCode.b := (LpOK.nil (by kernel_rfl))
noncomputable def impl_beltCode.t (x0 : Nat) (x1 : Nat) (x2 : Nat) (x3 : Nat) (x4 : Bool) (x5 : Bool) : T Int :=
  .br (!(impl_ValidBelt x0 x1 x2 x3 x4))
  (.leaf (1 : Int))
  (.br (!x5)
   (.leaf (2 : Int))
   (.leaf (0 : Int)))
noncomputable def impl_beltCode (x0 : Nat) (x1 : Nat) (x2 : Nat) (x3 : Nat) (x4 : Bool) (x5 : Bool) : Int := (impl_beltCode.t x0 x1 x2 x3 x4 x5).val
def impl_beltCode.cd : Cd (Nat × Nat × Nat × Nat × Bool × Bool) (List V × Hp) := Cd.iso (Cd.pair (Cd.cons (Cd.agg (Cd.cons (Cd.fl .f32) (Cd.cons (Cd.fl .f32) (Cd.cons (Cd.fl .f32) (Cd.cons (Cd.fl .f32) (Cd.cons Cd.bo Cd.nil)))))) (Cd.cons Cd.bo Cd.nil)) Cd.nil) (fun a => (a.1.1.1, a.1.1.2.1, a.1.1.2.2.1, a.1.1.2.2.2.1, a.1.1.2.2.2.2.1, a.1.2.1)) (fun a => (((a.1, (a.2.1, (a.2.2.1, (a.2.2.2.1, (a.2.2.2.2.1, ()))))), (a.2.2.2.2.2, ())), ())) (fun _ => rfl)
noncomputable def impl_beltCode.tr (a : Nat × Nat × Nat × Nat × Bool × Bool) : T Int := impl_beltCode.t a.1 a.2.1 a.2.2.1 a.2.2.2.1 a.2.2.2.2.1 a.2.2.2.2.2
def impl_beltCode.enc : (Nat × Nat × Nat × Nat × Bool × Bool) → Int → V := fun a r => .it .i64 r
noncomputable def impl_beltCode.c : List V → Hp → T V := cdQ impl_beltCode.cd (fun a => .leaf (impl_beltCode.enc a (impl_beltCode a.1 a.2.1 a.2.2.1 a.2.2.2.1 a.2.2.2.2.1 a.2.2.2.2.2)))
theorem impl_beltCode.run (a : Nat × Nat × Nat × Nat × Bool × Bool) : runF impl_beltCode.C Tryd.f39.results.toList impl_beltCode.b (impl_beltCode.cd.enc a).1 (impl_beltCode.cd.enc a).2 = (impl_beltCode.tr a).map fun r => (impl_beltCode.enc a r, (impl_beltCode.cd.enc a).2) := by kernel_rfl
theorem impl_beltCode.cok : OKq Tryd.prog 39 impl_beltCode.c := con_q' impl_beltCode.cd impl_beltCode.hC Tryd.func39 (by kernel_rfl) (by kernel_rfl) (by kernel_rfl) impl_beltCode.lp (fun a => by kernel_rfl) impl_beltCode.run (Tells.val (tree := impl_beltCode.tr) fun a => by kernel_rfl)
/-! ### impl_orZero -/
noncomputable def impl_orZero.b : Code := bodyOf Tryd.f37
noncomputable def impl_orZero.C : Ctx := { ty := tys, fn := [], lp := [], n := 10, k := 0 }
theorem impl_orZero.hC : CtxOK Tryd.prog impl_orZero.C := CtxOK.of mo tys_ok FnsOK.nil
theorem impl_orZero.lp : LpOK Tryd.prog impl_orZero.C impl_orZero.b := (LpOK.nil (by kernel_rfl))
noncomputable def impl_orZero.t (x0 : Nat) (x1 : Int) : T (Nat × Int) :=
  .br (x1 != (0 : Int))
  (.leaf (0, x1))
  (.leaf (x0, (0 : Int)))
noncomputable def impl_orZero (x0 : Nat) (x1 : Int) : Nat × Int := (impl_orZero.t x0 x1).val
def impl_orZero.cd : Cd (Nat × Int) (List V × Hp) := Cd.iso (Cd.pair (Cd.cons (Cd.fl .f32) (Cd.cons (Cd.it .i64) Cd.nil)) Cd.nil) (fun a => (a.1.1, a.1.2.1)) (fun a => ((a.1, (a.2, ())), ())) (fun _ => rfl)
noncomputable def impl_orZero.tr (a : Nat × Int) : T (Nat × Int) := impl_orZero.t a.1 a.2
def impl_orZero.enc : (Nat × Int) → (Nat × Int) → V := fun a r => .tup [.fl .f32 r.1, .it .i64 r.2]
noncomputable def impl_orZero.c : List V → Hp → T V := cdQ impl_orZero.cd (fun a => .leaf (impl_orZero.enc a (impl_orZero a.1 a.2)))
theorem impl_orZero.run (a : Nat × Int) : runF impl_orZero.C Tryd.f37.results.toList impl_orZero.b (impl_orZero.cd.enc a).1 (impl_orZero.cd.enc a).2 = (impl_orZero.tr a).map fun r => (impl_orZero.enc a r, (impl_orZero.cd.enc a).2) := by kernel_rfl
theorem impl_orZero.cok : OKq Tryd.prog 37 impl_orZero.c := con_q' impl_orZero.cd impl_orZero.hC Tryd.func37 (by kernel_rfl) (by kernel_rfl) (by kernel_rfl) impl_orZero.lp (fun a => by kernel_rfl) impl_orZero.run (Tells.val (tree := impl_orZero.tr) fun a => by kernel_rfl)
/-! ### impl_LengthOf -/
noncomputable def impl_LengthOf.b : Code := bodyOf Tryd.f8
noncomputable def impl_LengthOf.C : Ctx := { ty := tys, fn := [(38, .q impl_Belt_length.c), (39, .q impl_beltCode.c), (37, .q impl_orZero.c)], lp := [], n := 10, k := 1 }
theorem impl_LengthOf.hC : CtxOK Tryd.prog impl_LengthOf.C := CtxOK.of mo tys_ok (FnsOK.cons impl_Belt_length.cok (FnsOK.cons impl_beltCode.cok (FnsOK.cons impl_orZero.cok FnsOK.nil)))
theorem impl_LengthOf.lp : LpOK Tryd.prog impl_LengthOf.C impl_LengthOf.b := (LpOK.nil (by kernel_rfl))
noncomputable def impl_LengthOf.t (x0 : Nat) (x1 : Nat) (x2 : Nat) (x3 : Nat) (x4 : Bool) (x5 : Int) : T (Nat × Int) :=
  .leaf ((impl_orZero (impl_Belt_length x0 x1 x2 x3 x4) (impl_beltCode x0 x1 x2 x3 x4 true)).1, (impl_orZero (impl_Belt_length x0 x1 x2 x3 x4) (impl_beltCode x0 x1 x2 x3 x4 true)).2)
noncomputable def impl_LengthOf (x0 : Nat) (x1 : Nat) (x2 : Nat) (x3 : Nat) (x4 : Bool) (x5 : Int) : Nat × Int := (impl_LengthOf.t x0 x1 x2 x3 x4 x5).val
def impl_LengthOf.cd : Cd (Nat × Nat × Nat × Nat × Bool × Int) (List V × Hp) := Cd.iso (Cd.pair (Cd.cons (Cd.agg (Cd.cons (Cd.fl .f32) (Cd.cons (Cd.fl .f32) (Cd.cons (Cd.fl .f32) (Cd.cons (Cd.fl .f32) (Cd.cons Cd.bo Cd.nil)))))) Cd.nil) (Cd.cons (Cd.ro 0 2 (Cd.vs (Cd.cons (Cd.it .i64) Cd.nil))) Cd.nil)) (fun a => (a.1.1.1, a.1.1.2.1, a.1.1.2.2.1, a.1.1.2.2.2.1, a.1.1.2.2.2.2.1, a.2.1.1)) (fun a => (((a.1, (a.2.1, (a.2.2.1, (a.2.2.2.1, (a.2.2.2.2.1, ()))))), ()), ((a.2.2.2.2.2, ()), ()))) (fun _ => rfl)
noncomputable def impl_LengthOf.tr (a : Nat × Nat × Nat × Nat × Bool × Int) : T (Nat × Int) := impl_LengthOf.t a.1 a.2.1 a.2.2.1 a.2.2.2.1 a.2.2.2.2.1 a.2.2.2.2.2
def impl_LengthOf.enc : (Nat × Nat × Nat × Nat × Bool × Int) → (Nat × Int) → V := fun a r => .tup [.fl .f32 r.1, .it .i64 r.2]
noncomputable def impl_LengthOf.c : List V → Hp → T V := cdQ impl_LengthOf.cd (fun a => .leaf (impl_LengthOf.enc a (impl_LengthOf a.1 a.2.1 a.2.2.1 a.2.2.2.1 a.2.2.2.2.1 a.2.2.2.2.2)))
theorem impl_LengthOf.run (a : Nat × Nat × Nat × Nat × Bool × Int) : runF impl_LengthOf.C Tryd.f8.results.toList impl_LengthOf.b (impl_LengthOf.cd.enc a).1 (impl_LengthOf.cd.enc a).2 = (impl_LengthOf.tr a).map fun r => (impl_LengthOf.enc a r, (impl_LengthOf.cd.enc a).2) := by kernel_rfl
theorem impl_LengthOf.cok : OKq Tryd.prog 8 impl_LengthOf.c := con_q' impl_LengthOf.cd impl_LengthOf.hC Tryd.func8 (by kernel_rfl) (by kernel_rfl) (by kernel_rfl) impl_LengthOf.lp (fun a => by kernel_rfl) impl_LengthOf.run (Tells.val (tree := impl_LengthOf.tr) fun a => by kernel_rfl)
/-! ### spec_l02Radius -/
noncomputable def spec_l02Radius.b : Code := bodyOf Tryd.f72
noncomputable def spec_l02Radius.C : Ctx := { ty := tys, fn := [], lp := [], n := 9, k := 0 }
theorem spec_l02Radius.hC : CtxOK Tryd.prog spec_l02Radius.C := CtxOK.of mo tys_ok FnsOK.nil
theorem spec_l02Radius.lp : LpOK Tryd.prog spec_l02Radius.C spec_l02Radius.b := (LpOK.nil (by kernel_rfl))
noncomputable def spec_l02Radius.t (x0 : Nat) : T Bool :=
  .br (fge .f32 x0 1031798784)
  (.leaf (fle .f32 x0 1149239296))
  (.leaf false)
noncomputable def spec_l02Radius (x0 : Nat) : Bool := (spec_l02Radius.t x0).val
def spec_l02Radius.cd : Cd Nat (List V × Hp) := Cd.iso (Cd.pair (Cd.cons (Cd.fl .f32) Cd.nil) Cd.nil) (fun a => a.1.1) (fun a => ((a, ()), ())) (fun _ => rfl)
noncomputable def spec_l02Radius.tr (a : Nat) : T Bool := spec_l02Radius.t a
def spec_l02Radius.enc : Nat → Bool → V := fun a r => .bo r
noncomputable def spec_l02Radius.c : List V → Hp → T V := cdQ spec_l02Radius.cd (fun a => .leaf (spec_l02Radius.enc a (spec_l02Radius a)))
theorem spec_l02Radius.run (a : Nat) : runF spec_l02Radius.C Tryd.f72.results.toList spec_l02Radius.b (spec_l02Radius.cd.enc a).1 (spec_l02Radius.cd.enc a).2 = (spec_l02Radius.tr a).map fun r => (spec_l02Radius.enc a r, (spec_l02Radius.cd.enc a).2) := by kernel_rfl
theorem spec_l02Radius.cok : OKq Tryd.prog 72 spec_l02Radius.c := con_q' spec_l02Radius.cd spec_l02Radius.hC Tryd.func72 (by kernel_rfl) (by kernel_rfl) (by kernel_rfl) spec_l02Radius.lp (fun a => by kernel_rfl) spec_l02Radius.run (Tells.val (tree := spec_l02Radius.tr) fun a => by kernel_rfl)
/-! ### spec_l02Ok -/
noncomputable def spec_l02Ok.b : Code := bodyOf Tryd.f40
noncomputable def spec_l02Ok.C : Ctx := { ty := tys, fn := [(72, .q spec_l02Radius.c)], lp := [], n := 52, k := 1 }
theorem spec_l02Ok.hC : CtxOK Tryd.prog spec_l02Ok.C := CtxOK.of mo tys_ok (FnsOK.cons spec_l02Radius.cok FnsOK.nil)
theorem spec_l02Ok.lp : LpOK Tryd.prog spec_l02Ok.C spec_l02Ok.b := (LpOK.nil (by kernel_rfl))
noncomputable def spec_l02Ok.t (x0 : Nat) (x1 : Nat) (x2 : Nat) (x3 : Nat) (x4 : Bool) : T Bool :=
  .br (spec_l02Radius x0)
  (.br (spec_l02Radius x1)
   (.br (fge .f32 x2 (fadd .f32 x0 x1))
    (.br (fle .f32 x2 1199570944)
     (.br (fge .f32 x3 0)
      (.leaf (fle .f32 x3 1073741824))
      (.leaf false))
     (.leaf false))
    (.leaf false))
   (.leaf false))
  (.leaf false)
noncomputable def spec_l02Ok (x0 : Nat) (x1 : Nat) (x2 : Nat) (x3 : Nat) (x4 : Bool) : Bool := (spec_l02Ok.t x0 x1 x2 x3 x4).val
def spec_l02Ok.cd : Cd (Nat × Nat × Nat × Nat × Bool) (List V × Hp) := Cd.iso (Cd.pair (Cd.cons (Cd.pt 0 (Cd.natc 0)) Cd.nil) (Cd.cons (Cd.rw 26 5 (Cd.vs (Cd.cons (Cd.fl .f32) (Cd.cons (Cd.fl .f32) (Cd.cons (Cd.fl .f32) (Cd.cons (Cd.fl .f32) (Cd.cons Cd.bo Cd.nil))))))) Cd.nil)) (fun a => (a.2.1.1, a.2.1.2.1, a.2.1.2.2.1, a.2.1.2.2.2.1, a.2.1.2.2.2.2.1)) (fun a => (((), ()), ((a.1, (a.2.1, (a.2.2.1, (a.2.2.2.1, (a.2.2.2.2, ()))))), ()))) (fun _ => rfl)
noncomputable def spec_l02Ok.tr (a : Nat × Nat × Nat × Nat × Bool) : T Bool := spec_l02Ok.t a.1 a.2.1 a.2.2.1 a.2.2.2.1 a.2.2.2.2
def spec_l02Ok.enc : (Nat × Nat × Nat × Nat × Bool) → Bool → V := fun a r => .bo r
noncomputable def spec_l02Ok.c : List V → Hp → T V := cdQ spec_l02Ok.cd (fun a => .leaf (spec_l02Ok.enc a (spec_l02Ok a.1 a.2.1 a.2.2.1 a.2.2.2.1 a.2.2.2.2)))
theorem spec_l02Ok.run (a : Nat × Nat × Nat × Nat × Bool) : runF spec_l02Ok.C Tryd.f40.results.toList spec_l02Ok.b (spec_l02Ok.cd.enc a).1 (spec_l02Ok.cd.enc a).2 = (spec_l02Ok.tr a).map fun r => (spec_l02Ok.enc a r, (spec_l02Ok.cd.enc a).2) := by kernel_rfl
theorem spec_l02Ok.cok : OKq Tryd.prog 40 spec_l02Ok.c := con_q' spec_l02Ok.cd spec_l02Ok.hC Tryd.func40 (by kernel_rfl) (by kernel_rfl) (by kernel_rfl) spec_l02Ok.lp (fun a => by kernel_rfl) spec_l02Ok.run (Tells.val (tree := spec_l02Ok.tr) fun a => by kernel_rfl)
/-! ### spec_l02Reach -/
noncomputable def spec_l02Reach.b : Code := bodyOf Tryd.f73
noncomputable def spec_l02Reach.C : Ctx := { ty := tys, fn := [], lp := [], n := 43, k := 1 }
theorem spec_l02Reach.hC : CtxOK Tryd.prog spec_l02Reach.C := CtxOK.of mo tys_ok FnsOK.nil
theorem spec_l02Reach.lp : LpOK Tryd.prog spec_l02Reach.C spec_l02Reach.b := (LpOK.nil (by kernel_rfl))
noncomputable def spec_l02Reach.t (x0 : Nat) (x1 : Nat) (x2 : Nat) (x3 : Nat) (x4 : Bool) : T Nat :=
  .br x4
  (.leaf (fadd .f32 x0 x1))
  (.br (fgt .f32 x1 x0)
   (.leaf (fsub .f32 x1 x0))
   (.leaf (fsub .f32 x0 x1)))
noncomputable def spec_l02Reach (x0 : Nat) (x1 : Nat) (x2 : Nat) (x3 : Nat) (x4 : Bool) : Nat := (spec_l02Reach.t x0 x1 x2 x3 x4).val
def spec_l02Reach.cd : Cd (Nat × Nat × Nat × Nat × Bool) (List V × Hp) := Cd.iso (Cd.pair (Cd.cons (Cd.pt 0 (Cd.natc 0)) Cd.nil) (Cd.cons (Cd.rw 26 5 (Cd.vs (Cd.cons (Cd.fl .f32) (Cd.cons (Cd.fl .f32) (Cd.cons (Cd.fl .f32) (Cd.cons (Cd.fl .f32) (Cd.cons Cd.bo Cd.nil))))))) Cd.nil)) (fun a => (a.2.1.1, a.2.1.2.1, a.2.1.2.2.1, a.2.1.2.2.2.1, a.2.1.2.2.2.2.1)) (fun a => (((), ()), ((a.1, (a.2.1, (a.2.2.1, (a.2.2.2.1, (a.2.2.2.2, ()))))), ()))) (fun _ => rfl)
noncomputable def spec_l02Reach.tr (a : Nat × Nat × Nat × Nat × Bool) : T Nat := spec_l02Reach.t a.1 a.2.1 a.2.2.1 a.2.2.2.1 a.2.2.2.2
def spec_l02Reach.enc : (Nat × Nat × Nat × Nat × Bool) → Nat → V := fun a r => .fl .f32 r
noncomputable def spec_l02Reach.c : List V → Hp → T V := cdQ spec_l02Reach.cd (fun a => .leaf (spec_l02Reach.enc a (spec_l02Reach a.1 a.2.1 a.2.2.1 a.2.2.2.1 a.2.2.2.2)))
theorem spec_l02Reach.run (a : Nat × Nat × Nat × Nat × Bool) : runF spec_l02Reach.C Tryd.f73.results.toList spec_l02Reach.b (spec_l02Reach.cd.enc a).1 (spec_l02Reach.cd.enc a).2 = (spec_l02Reach.tr a).map fun r => (spec_l02Reach.enc a r, (spec_l02Reach.cd.enc a).2) := by kernel_rfl
theorem spec_l02Reach.cok : OKq Tryd.prog 73 spec_l02Reach.c := con_q' spec_l02Reach.cd spec_l02Reach.hC Tryd.func73 (by kernel_rfl) (by kernel_rfl) (by kernel_rfl) spec_l02Reach.lp (fun a => by kernel_rfl) spec_l02Reach.run (Tells.val (tree := spec_l02Reach.tr) fun a => by kernel_rfl)
/-! ### spec_l02Length -/
noncomputable def spec_l02Length.b : Code := bodyOf Tryd.f41
noncomputable def spec_l02Length.C : Ctx := { ty := tys, fn := [(73, .q spec_l02Reach.c)], lp := [], n := 37, k := 1 }
theorem spec_l02Length.hC : CtxOK Tryd.prog spec_l02Length.C := CtxOK.of mo tys_ok (FnsOK.cons spec_l02Reach.cok FnsOK.nil)
theorem spec_l02Length.lp : LpOK Tryd.prog spec_l02Length.C spec_l02Length.b := (LpOK.nil (by kernel_rfl))
noncomputable def spec_l02Length.t (x0 : Nat) (x1 : Nat) (x2 : Nat) (x3 : Nat) (x4 : Bool) : T Nat :=
  .leaf (fadd .f32 (fadd .f32 (fmul .f32 1073741824 x2) (fmul .f32 1078525952 (fadd .f32 x0 x1))) (fdiv .f32 (fmul .f32 (spec_l02Reach x0 x1 x2 x3 x4) (spec_l02Reach x0 x1 x2 x3 x4)) x2))
noncomputable def spec_l02Length (x0 : Nat) (x1 : Nat) (x2 : Nat) (x3 : Nat) (x4 : Bool) : Nat := (spec_l02Length.t x0 x1 x2 x3 x4).val
def spec_l02Length.cd : Cd (Nat × Nat × Nat × Nat × Bool) (List V × Hp) := Cd.iso (Cd.pair (Cd.cons (Cd.pt 0 (Cd.natc 0)) Cd.nil) (Cd.cons (Cd.rw 26 5 (Cd.vs (Cd.cons (Cd.fl .f32) (Cd.cons (Cd.fl .f32) (Cd.cons (Cd.fl .f32) (Cd.cons (Cd.fl .f32) (Cd.cons Cd.bo Cd.nil))))))) Cd.nil)) (fun a => (a.2.1.1, a.2.1.2.1, a.2.1.2.2.1, a.2.1.2.2.2.1, a.2.1.2.2.2.2.1)) (fun a => (((), ()), ((a.1, (a.2.1, (a.2.2.1, (a.2.2.2.1, (a.2.2.2.2, ()))))), ()))) (fun _ => rfl)
noncomputable def spec_l02Length.tr (a : Nat × Nat × Nat × Nat × Bool) : T Nat := spec_l02Length.t a.1 a.2.1 a.2.2.1 a.2.2.2.1 a.2.2.2.2
def spec_l02Length.enc : (Nat × Nat × Nat × Nat × Bool) → Nat → V := fun a r => .fl .f32 r
noncomputable def spec_l02Length.c : List V → Hp → T V := cdQ spec_l02Length.cd (fun a => .leaf (spec_l02Length.enc a (spec_l02Length a.1 a.2.1 a.2.2.1 a.2.2.2.1 a.2.2.2.2)))
theorem spec_l02Length.run (a : Nat × Nat × Nat × Nat × Bool) : runF spec_l02Length.C Tryd.f41.results.toList spec_l02Length.b (spec_l02Length.cd.enc a).1 (spec_l02Length.cd.enc a).2 = (spec_l02Length.tr a).map fun r => (spec_l02Length.enc a r, (spec_l02Length.cd.enc a).2) := by kernel_rfl
theorem spec_l02Length.cok : OKq Tryd.prog 41 spec_l02Length.c := con_q' spec_l02Length.cd spec_l02Length.hC Tryd.func41 (by kernel_rfl) (by kernel_rfl) (by kernel_rfl) spec_l02Length.lp (fun a => by kernel_rfl) spec_l02Length.run (Tells.val (tree := spec_l02Length.tr) fun a => by kernel_rfl)
/-! ### spec_LengthOf -/
noncomputable def spec_LengthOf.b : Code := bodyOf Tryd.f9
noncomputable def spec_LengthOf.C : Ctx := { ty := tys, fn := [(40, .q spec_l02Ok.c), (41, .q spec_l02Length.c)], lp := [], n := 7, k := 1 }
theorem spec_LengthOf.hC : CtxOK Tryd.prog spec_LengthOf.C := CtxOK.of mo tys_ok (FnsOK.cons spec_l02Ok.cok (FnsOK.cons spec_l02Length.cok FnsOK.nil))
theorem spec_LengthOf.lp : LpOK Tryd.prog spec_LengthOf.C spec_LengthOf.b := (LpOK.nil (by kernel_rfl))
noncomputable def spec_LengthOf.t (x0 : Nat) (x1 : Nat) (x2 : Nat) (x3 : Nat) (x4 : Bool) (x5 : Int) : T (Nat × Int) :=
  .br (!(spec_l02Ok x0 x1 x2 x3 x4))
  (.leaf (0, (1 : Int)))
  (.leaf ((spec_l02Length x0 x1 x2 x3 x4), (0 : Int)))
noncomputable def spec_LengthOf (x0 : Nat) (x1 : Nat) (x2 : Nat) (x3 : Nat) (x4 : Bool) (x5 : Int) : Nat × Int := (spec_LengthOf.t x0 x1 x2 x3 x4 x5).val
def spec_LengthOf.cd : Cd (Nat × Nat × Nat × Nat × Bool × Int) (List V × Hp) := Cd.iso (Cd.pair (Cd.cons (Cd.agg (Cd.cons (Cd.fl .f32) (Cd.cons (Cd.fl .f32) (Cd.cons (Cd.fl .f32) (Cd.cons (Cd.fl .f32) (Cd.cons Cd.bo Cd.nil)))))) Cd.nil) (Cd.cons (Cd.ro 0 2 (Cd.vs (Cd.cons (Cd.it .i64) Cd.nil))) Cd.nil)) (fun a => (a.1.1.1, a.1.1.2.1, a.1.1.2.2.1, a.1.1.2.2.2.1, a.1.1.2.2.2.2.1, a.2.1.1)) (fun a => (((a.1, (a.2.1, (a.2.2.1, (a.2.2.2.1, (a.2.2.2.2.1, ()))))), ()), ((a.2.2.2.2.2, ()), ()))) (fun _ => rfl)
noncomputable def spec_LengthOf.tr (a : Nat × Nat × Nat × Nat × Bool × Int) : T (Nat × Int) := spec_LengthOf.t a.1 a.2.1 a.2.2.1 a.2.2.2.1 a.2.2.2.2.1 a.2.2.2.2.2
def spec_LengthOf.enc : (Nat × Nat × Nat × Nat × Bool × Int) → (Nat × Int) → V := fun a r => .tup [.fl .f32 r.1, .it .i64 r.2]
noncomputable def spec_LengthOf.c : List V → Hp → T V := cdQ spec_LengthOf.cd (fun a => .leaf (spec_LengthOf.enc a (spec_LengthOf a.1 a.2.1 a.2.2.1 a.2.2.2.1 a.2.2.2.2.1 a.2.2.2.2.2)))
theorem spec_LengthOf.run (a : Nat × Nat × Nat × Nat × Bool × Int) : runF spec_LengthOf.C Tryd.f9.results.toList spec_LengthOf.b (spec_LengthOf.cd.enc a).1 (spec_LengthOf.cd.enc a).2 = (spec_LengthOf.tr a).map fun r => (spec_LengthOf.enc a r, (spec_LengthOf.cd.enc a).2) := by kernel_rfl
theorem spec_LengthOf.cok : OKq Tryd.prog 9 spec_LengthOf.c := con_q' spec_LengthOf.cd spec_LengthOf.hC Tryd.func9 (by kernel_rfl) (by kernel_rfl) (by kernel_rfl) spec_LengthOf.lp (fun a => by kernel_rfl) spec_LengthOf.run (Tells.val (tree := spec_LengthOf.tr) fun a => by kernel_rfl)
/-! ### impl_TurnBelt -/
noncomputable def impl_TurnBelt.b : Code := bodyOf Tryd.f10
noncomputable def impl_TurnBelt.C : Ctx := { ty := tys, fn := [(17, .q impl_ValidBelt.c)], lp := [], n := 15, k := 1 }
theorem impl_TurnBelt.hC : CtxOK Tryd.prog impl_TurnBelt.C := CtxOK.of mo tys_ok (FnsOK.cons impl_ValidBelt.cok FnsOK.nil)
theorem impl_TurnBelt.lp : LpOK Tryd.prog impl_TurnBelt.C impl_TurnBelt.b := (LpOK.nil (by kernel_rfl))
noncomputable def impl_TurnBelt.t (x0 : Nat) (x1 : Nat) (x2 : Nat) (x3 : Nat) (x4 : Bool) (x5 : Int) : T (Nat × Nat × Nat × Nat × Bool × Int) :=
  .br (!(impl_ValidBelt x0 x1 x2 x3 x4))
  (.leaf (0, 0, 0, 0, false, (1 : Int)))
  (.leaf (x1, x0, x2, x3, x4, (0 : Int)))
noncomputable def impl_TurnBelt (x0 : Nat) (x1 : Nat) (x2 : Nat) (x3 : Nat) (x4 : Bool) (x5 : Int) : Nat × Nat × Nat × Nat × Bool × Int := (impl_TurnBelt.t x0 x1 x2 x3 x4 x5).val
def impl_TurnBelt.cd : Cd (Nat × Nat × Nat × Nat × Bool × Int) (List V × Hp) := Cd.iso (Cd.pair (Cd.cons (Cd.agg (Cd.cons (Cd.fl .f32) (Cd.cons (Cd.fl .f32) (Cd.cons (Cd.fl .f32) (Cd.cons (Cd.fl .f32) (Cd.cons Cd.bo Cd.nil)))))) Cd.nil) (Cd.cons (Cd.ro 0 2 (Cd.vs (Cd.cons (Cd.it .i64) Cd.nil))) Cd.nil)) (fun a => (a.1.1.1, a.1.1.2.1, a.1.1.2.2.1, a.1.1.2.2.2.1, a.1.1.2.2.2.2.1, a.2.1.1)) (fun a => (((a.1, (a.2.1, (a.2.2.1, (a.2.2.2.1, (a.2.2.2.2.1, ()))))), ()), ((a.2.2.2.2.2, ()), ()))) (fun _ => rfl)
noncomputable def impl_TurnBelt.tr (a : Nat × Nat × Nat × Nat × Bool × Int) : T (Nat × Nat × Nat × Nat × Bool × Int) := impl_TurnBelt.t a.1 a.2.1 a.2.2.1 a.2.2.2.1 a.2.2.2.2.1 a.2.2.2.2.2
def impl_TurnBelt.enc : (Nat × Nat × Nat × Nat × Bool × Int) → (Nat × Nat × Nat × Nat × Bool × Int) → V := fun a r => .tup [.agg [.fl .f32 r.1, .fl .f32 r.2.1, .fl .f32 r.2.2.1, .fl .f32 r.2.2.2.1, .bo r.2.2.2.2.1], .it .i64 r.2.2.2.2.2]
noncomputable def impl_TurnBelt.c : List V → Hp → T V := cdQ impl_TurnBelt.cd (fun a => .leaf (impl_TurnBelt.enc a (impl_TurnBelt a.1 a.2.1 a.2.2.1 a.2.2.2.1 a.2.2.2.2.1 a.2.2.2.2.2)))
theorem impl_TurnBelt.run (a : Nat × Nat × Nat × Nat × Bool × Int) : runF impl_TurnBelt.C Tryd.f10.results.toList impl_TurnBelt.b (impl_TurnBelt.cd.enc a).1 (impl_TurnBelt.cd.enc a).2 = (impl_TurnBelt.tr a).map fun r => (impl_TurnBelt.enc a r, (impl_TurnBelt.cd.enc a).2) := by kernel_rfl
theorem impl_TurnBelt.cok : OKq Tryd.prog 10 impl_TurnBelt.c := con_q' impl_TurnBelt.cd impl_TurnBelt.hC Tryd.func10 (by kernel_rfl) (by kernel_rfl) (by kernel_rfl) impl_TurnBelt.lp (fun a => by kernel_rfl) impl_TurnBelt.run (Tells.val (tree := impl_TurnBelt.tr) fun a => by kernel_rfl)
/-! ### impl_Belt_wrap -/
noncomputable def impl_Belt_wrap.b : Code := bodyOf Tryd.f42
noncomputable def impl_Belt_wrap.C : Ctx := { ty := tys, fn := [(71, .q impl_Belt_reach.c)], lp := [], n := 20, k := 1 }
theorem impl_Belt_wrap.hC : CtxOK Tryd.prog impl_Belt_wrap.C := CtxOK.of mo tys_ok (FnsOK.cons impl_Belt_reach.cok FnsOK.nil)
theorem impl_Belt_wrap.lp : LpOK Tryd.prog impl_Belt_wrap.C impl_Belt_wrap.b := (LpOK.nil (by kernel_rfl))
noncomputable def impl_Belt_wrap.t (x0 : Nat) (x1 : Nat) (x2 : Nat) (x3 : Nat) (x4 : Bool) : T Nat :=
  .br x4
  (.leaf (fadd .f32 1078525952 (fdiv .f32 (fmul .f32 1073741824 (impl_Belt_reach x0 x1 x2 x3 x4)) x2)))
  (.leaf (fsub .f32 1078525952 (fdiv .f32 (fmul .f32 1073741824 (impl_Belt_reach x0 x1 x2 x3 x4)) x2)))
noncomputable def impl_Belt_wrap (x0 : Nat) (x1 : Nat) (x2 : Nat) (x3 : Nat) (x4 : Bool) : Nat := (impl_Belt_wrap.t x0 x1 x2 x3 x4).val
def impl_Belt_wrap.cd : Cd (Nat × Nat × Nat × Nat × Bool) (List V × Hp) := Cd.iso (Cd.pair (Cd.cons (Cd.pt 0 (Cd.natc 0)) Cd.nil) (Cd.cons (Cd.rw 26 5 (Cd.vs (Cd.cons (Cd.fl .f32) (Cd.cons (Cd.fl .f32) (Cd.cons (Cd.fl .f32) (Cd.cons (Cd.fl .f32) (Cd.cons Cd.bo Cd.nil))))))) Cd.nil)) (fun a => (a.2.1.1, a.2.1.2.1, a.2.1.2.2.1, a.2.1.2.2.2.1, a.2.1.2.2.2.2.1)) (fun a => (((), ()), ((a.1, (a.2.1, (a.2.2.1, (a.2.2.2.1, (a.2.2.2.2, ()))))), ()))) (fun _ => rfl)
noncomputable def impl_Belt_wrap.tr (a : Nat × Nat × Nat × Nat × Bool) : T Nat := impl_Belt_wrap.t a.1 a.2.1 a.2.2.1 a.2.2.2.1 a.2.2.2.2
def impl_Belt_wrap.enc : (Nat × Nat × Nat × Nat × Bool) → Nat → V := fun a r => .fl .f32 r
noncomputable def impl_Belt_wrap.c : List V → Hp → T V := cdQ impl_Belt_wrap.cd (fun a => .leaf (impl_Belt_wrap.enc a (impl_Belt_wrap a.1 a.2.1 a.2.2.1 a.2.2.2.1 a.2.2.2.2)))
theorem impl_Belt_wrap.run (a : Nat × Nat × Nat × Nat × Bool) : runF impl_Belt_wrap.C Tryd.f42.results.toList impl_Belt_wrap.b (impl_Belt_wrap.cd.enc a).1 (impl_Belt_wrap.cd.enc a).2 = (impl_Belt_wrap.tr a).map fun r => (impl_Belt_wrap.enc a r, (impl_Belt_wrap.cd.enc a).2) := by kernel_rfl
theorem impl_Belt_wrap.cok : OKq Tryd.prog 42 impl_Belt_wrap.c := con_q' impl_Belt_wrap.cd impl_Belt_wrap.hC Tryd.func42 (by kernel_rfl) (by kernel_rfl) (by kernel_rfl) impl_Belt_wrap.lp (fun a => by kernel_rfl) impl_Belt_wrap.run (Tells.val (tree := impl_Belt_wrap.tr) fun a => by kernel_rfl)
/-! ### impl_WrapOf -/
noncomputable def impl_WrapOf.b : Code := bodyOf Tryd.f11
noncomputable def impl_WrapOf.C : Ctx := { ty := tys, fn := [(42, .q impl_Belt_wrap.c), (39, .q impl_beltCode.c), (37, .q impl_orZero.c)], lp := [], n := 10, k := 1 }
theorem impl_WrapOf.hC : CtxOK Tryd.prog impl_WrapOf.C := CtxOK.of mo tys_ok (FnsOK.cons impl_Belt_wrap.cok (FnsOK.cons impl_beltCode.cok (FnsOK.cons impl_orZero.cok FnsOK.nil)))
theorem impl_WrapOf.lp : LpOK Tryd.prog impl_WrapOf.C impl_WrapOf.b := (LpOK.nil (by kernel_rfl))
noncomputable def impl_WrapOf.t (x0 : Nat) (x1 : Nat) (x2 : Nat) (x3 : Nat) (x4 : Bool) (x5 : Int) : T (Nat × Int) :=
  .leaf ((impl_orZero (impl_Belt_wrap x0 x1 x2 x3 x4) (impl_beltCode x0 x1 x2 x3 x4 true)).1, (impl_orZero (impl_Belt_wrap x0 x1 x2 x3 x4) (impl_beltCode x0 x1 x2 x3 x4 true)).2)
noncomputable def impl_WrapOf (x0 : Nat) (x1 : Nat) (x2 : Nat) (x3 : Nat) (x4 : Bool) (x5 : Int) : Nat × Int := (impl_WrapOf.t x0 x1 x2 x3 x4 x5).val
def impl_WrapOf.cd : Cd (Nat × Nat × Nat × Nat × Bool × Int) (List V × Hp) := Cd.iso (Cd.pair (Cd.cons (Cd.agg (Cd.cons (Cd.fl .f32) (Cd.cons (Cd.fl .f32) (Cd.cons (Cd.fl .f32) (Cd.cons (Cd.fl .f32) (Cd.cons Cd.bo Cd.nil)))))) Cd.nil) (Cd.cons (Cd.ro 0 2 (Cd.vs (Cd.cons (Cd.it .i64) Cd.nil))) Cd.nil)) (fun a => (a.1.1.1, a.1.1.2.1, a.1.1.2.2.1, a.1.1.2.2.2.1, a.1.1.2.2.2.2.1, a.2.1.1)) (fun a => (((a.1, (a.2.1, (a.2.2.1, (a.2.2.2.1, (a.2.2.2.2.1, ()))))), ()), ((a.2.2.2.2.2, ()), ()))) (fun _ => rfl)
noncomputable def impl_WrapOf.tr (a : Nat × Nat × Nat × Nat × Bool × Int) : T (Nat × Int) := impl_WrapOf.t a.1 a.2.1 a.2.2.1 a.2.2.2.1 a.2.2.2.2.1 a.2.2.2.2.2
def impl_WrapOf.enc : (Nat × Nat × Nat × Nat × Bool × Int) → (Nat × Int) → V := fun a r => .tup [.fl .f32 r.1, .it .i64 r.2]
noncomputable def impl_WrapOf.c : List V → Hp → T V := cdQ impl_WrapOf.cd (fun a => .leaf (impl_WrapOf.enc a (impl_WrapOf a.1 a.2.1 a.2.2.1 a.2.2.2.1 a.2.2.2.2.1 a.2.2.2.2.2)))
theorem impl_WrapOf.run (a : Nat × Nat × Nat × Nat × Bool × Int) : runF impl_WrapOf.C Tryd.f11.results.toList impl_WrapOf.b (impl_WrapOf.cd.enc a).1 (impl_WrapOf.cd.enc a).2 = (impl_WrapOf.tr a).map fun r => (impl_WrapOf.enc a r, (impl_WrapOf.cd.enc a).2) := by kernel_rfl
theorem impl_WrapOf.cok : OKq Tryd.prog 11 impl_WrapOf.c := con_q' impl_WrapOf.cd impl_WrapOf.hC Tryd.func11 (by kernel_rfl) (by kernel_rfl) (by kernel_rfl) impl_WrapOf.lp (fun a => by kernel_rfl) impl_WrapOf.run (Tells.val (tree := impl_WrapOf.tr) fun a => by kernel_rfl)
/-! ### spec_l02Wrap -/
noncomputable def spec_l02Wrap.b : Code := bodyOf Tryd.f43
noncomputable def spec_l02Wrap.C : Ctx := { ty := tys, fn := [(73, .q spec_l02Reach.c)], lp := [], n := 22, k := 1 }
theorem spec_l02Wrap.hC : CtxOK Tryd.prog spec_l02Wrap.C := CtxOK.of mo tys_ok (FnsOK.cons spec_l02Reach.cok FnsOK.nil)
theorem spec_l02Wrap.lp : LpOK Tryd.prog spec_l02Wrap.C spec_l02Wrap.b := (LpOK.nil (by kernel_rfl))
noncomputable def spec_l02Wrap.t (x0 : Nat) (x1 : Nat) (x2 : Nat) (x3 : Nat) (x4 : Bool) : T Nat :=
  .br x4
  (.leaf (fadd .f32 1078525952 (fdiv .f32 (fmul .f32 1073741824 (spec_l02Reach x0 x1 x2 x3 x4)) x2)))
  (.leaf (fsub .f32 1078525952 (fdiv .f32 (fmul .f32 1073741824 (spec_l02Reach x0 x1 x2 x3 x4)) x2)))
noncomputable def spec_l02Wrap (x0 : Nat) (x1 : Nat) (x2 : Nat) (x3 : Nat) (x4 : Bool) : Nat := (spec_l02Wrap.t x0 x1 x2 x3 x4).val
def spec_l02Wrap.cd : Cd (Nat × Nat × Nat × Nat × Bool) (List V × Hp) := Cd.iso (Cd.pair (Cd.cons (Cd.pt 0 (Cd.natc 0)) Cd.nil) (Cd.cons (Cd.rw 26 5 (Cd.vs (Cd.cons (Cd.fl .f32) (Cd.cons (Cd.fl .f32) (Cd.cons (Cd.fl .f32) (Cd.cons (Cd.fl .f32) (Cd.cons Cd.bo Cd.nil))))))) Cd.nil)) (fun a => (a.2.1.1, a.2.1.2.1, a.2.1.2.2.1, a.2.1.2.2.2.1, a.2.1.2.2.2.2.1)) (fun a => (((), ()), ((a.1, (a.2.1, (a.2.2.1, (a.2.2.2.1, (a.2.2.2.2, ()))))), ()))) (fun _ => rfl)
noncomputable def spec_l02Wrap.tr (a : Nat × Nat × Nat × Nat × Bool) : T Nat := spec_l02Wrap.t a.1 a.2.1 a.2.2.1 a.2.2.2.1 a.2.2.2.2
def spec_l02Wrap.enc : (Nat × Nat × Nat × Nat × Bool) → Nat → V := fun a r => .fl .f32 r
noncomputable def spec_l02Wrap.c : List V → Hp → T V := cdQ spec_l02Wrap.cd (fun a => .leaf (spec_l02Wrap.enc a (spec_l02Wrap a.1 a.2.1 a.2.2.1 a.2.2.2.1 a.2.2.2.2)))
theorem spec_l02Wrap.run (a : Nat × Nat × Nat × Nat × Bool) : runF spec_l02Wrap.C Tryd.f43.results.toList spec_l02Wrap.b (spec_l02Wrap.cd.enc a).1 (spec_l02Wrap.cd.enc a).2 = (spec_l02Wrap.tr a).map fun r => (spec_l02Wrap.enc a r, (spec_l02Wrap.cd.enc a).2) := by kernel_rfl
theorem spec_l02Wrap.cok : OKq Tryd.prog 43 spec_l02Wrap.c := con_q' spec_l02Wrap.cd spec_l02Wrap.hC Tryd.func43 (by kernel_rfl) (by kernel_rfl) (by kernel_rfl) spec_l02Wrap.lp (fun a => by kernel_rfl) spec_l02Wrap.run (Tells.val (tree := spec_l02Wrap.tr) fun a => by kernel_rfl)
/-! ### spec_WrapOf -/
noncomputable def spec_WrapOf.b : Code := bodyOf Tryd.f12
noncomputable def spec_WrapOf.C : Ctx := { ty := tys, fn := [(40, .q spec_l02Ok.c), (43, .q spec_l02Wrap.c)], lp := [], n := 7, k := 1 }
theorem spec_WrapOf.hC : CtxOK Tryd.prog spec_WrapOf.C := CtxOK.of mo tys_ok (FnsOK.cons spec_l02Ok.cok (FnsOK.cons spec_l02Wrap.cok FnsOK.nil))
theorem spec_WrapOf.lp : LpOK Tryd.prog spec_WrapOf.C spec_WrapOf.b := (LpOK.nil (by kernel_rfl))
noncomputable def spec_WrapOf.t (x0 : Nat) (x1 : Nat) (x2 : Nat) (x3 : Nat) (x4 : Bool) (x5 : Int) : T (Nat × Int) :=
  .br (!(spec_l02Ok x0 x1 x2 x3 x4))
  (.leaf (0, (1 : Int)))
  (.leaf ((spec_l02Wrap x0 x1 x2 x3 x4), (0 : Int)))
noncomputable def spec_WrapOf (x0 : Nat) (x1 : Nat) (x2 : Nat) (x3 : Nat) (x4 : Bool) (x5 : Int) : Nat × Int := (spec_WrapOf.t x0 x1 x2 x3 x4 x5).val
def spec_WrapOf.cd : Cd (Nat × Nat × Nat × Nat × Bool × Int) (List V × Hp) := Cd.iso (Cd.pair (Cd.cons (Cd.agg (Cd.cons (Cd.fl .f32) (Cd.cons (Cd.fl .f32) (Cd.cons (Cd.fl .f32) (Cd.cons (Cd.fl .f32) (Cd.cons Cd.bo Cd.nil)))))) Cd.nil) (Cd.cons (Cd.ro 0 2 (Cd.vs (Cd.cons (Cd.it .i64) Cd.nil))) Cd.nil)) (fun a => (a.1.1.1, a.1.1.2.1, a.1.1.2.2.1, a.1.1.2.2.2.1, a.1.1.2.2.2.2.1, a.2.1.1)) (fun a => (((a.1, (a.2.1, (a.2.2.1, (a.2.2.2.1, (a.2.2.2.2.1, ()))))), ()), ((a.2.2.2.2.2, ()), ()))) (fun _ => rfl)
noncomputable def spec_WrapOf.tr (a : Nat × Nat × Nat × Nat × Bool × Int) : T (Nat × Int) := spec_WrapOf.t a.1 a.2.1 a.2.2.1 a.2.2.2.1 a.2.2.2.2.1 a.2.2.2.2.2
def spec_WrapOf.enc : (Nat × Nat × Nat × Nat × Bool × Int) → (Nat × Int) → V := fun a r => .tup [.fl .f32 r.1, .it .i64 r.2]
noncomputable def spec_WrapOf.c : List V → Hp → T V := cdQ spec_WrapOf.cd (fun a => .leaf (spec_WrapOf.enc a (spec_WrapOf a.1 a.2.1 a.2.2.1 a.2.2.2.1 a.2.2.2.2.1 a.2.2.2.2.2)))
theorem spec_WrapOf.run (a : Nat × Nat × Nat × Nat × Bool × Int) : runF spec_WrapOf.C Tryd.f12.results.toList spec_WrapOf.b (spec_WrapOf.cd.enc a).1 (spec_WrapOf.cd.enc a).2 = (spec_WrapOf.tr a).map fun r => (spec_WrapOf.enc a r, (spec_WrapOf.cd.enc a).2) := by kernel_rfl
theorem spec_WrapOf.cok : OKq Tryd.prog 12 spec_WrapOf.c := con_q' spec_WrapOf.cd spec_WrapOf.hC Tryd.func12 (by kernel_rfl) (by kernel_rfl) (by kernel_rfl) spec_WrapOf.lp (fun a => by kernel_rfl) spec_WrapOf.run (Tells.val (tree := spec_WrapOf.tr) fun a => by kernel_rfl)
/-! ### impl_Belt_grip -/
noncomputable def impl_Belt_grip.b : Code := bodyOf Tryd.f44
noncomputable def impl_Belt_grip.l3.s (x0 : Nat) (x1 : Int) (x2 : Nat) (x3 : Nat) (x4 : Nat) (x5 : Nat) (x6 : Bool) : T ((Nat × Int) ⊕ Nat) :=
  .br (decide (x1 < (4 : Int)))
  (.leaf (.inl ((fmul .f32 x0 x0), (IntKind.wrap .i64 (x1 + (1 : Int))))))
  (.leaf (.inr x0))
noncomputable def impl_Belt_grip.l3.st (p : Nat × Nat × Nat × Nat × Bool) (x : Nat × Int) : T ((Nat × Int) ⊕ Nat) := impl_Belt_grip.l3.s x.1 x.2 p.1 p.2.1 p.2.2.1 p.2.2.2.1 p.2.2.2.2
noncomputable def impl_Belt_grip.l3.r (p : Nat × Nat × Nat × Nat × Bool) (x : Nat × Int) : Option Nat := iterT (impl_Belt_grip.l3.st p) manyRounds x
def impl_Belt_grip.l3.cd : Cd ((Nat × Nat × Nat × Nat × Bool) × (Nat × Int)) (List V × Hp) := Cd.iso (Cd.pair (Cd.cons (Cd.fl .f32) (Cd.cons (Cd.it .i64) Cd.nil)) (Cd.cons (Cd.rw 26 5 (Cd.vs (Cd.cons (Cd.fl .f32) (Cd.cons (Cd.fl .f32) (Cd.cons (Cd.fl .f32) (Cd.cons (Cd.fl .f32) (Cd.cons Cd.bo Cd.nil))))))) Cd.nil)) (fun a => ((a.2.1.1, a.2.1.2.1, a.2.1.2.2.1, a.2.1.2.2.2.1, a.2.1.2.2.2.2.1), (a.1.1, a.1.2.1))) (fun a => ((a.2.1, (a.2.2, ())), ((a.1.1, (a.1.2.1, (a.1.2.2.1, (a.1.2.2.2.1, (a.1.2.2.2.2, ()))))), ()))) (fun _ => rfl)
def impl_Belt_grip.l3.out (p : Nat × Nat × Nat × Nat × Bool) : Nat → X × List V × Hp := (fun r => (.ex 0, [.fl .f32 r], [some ⟨true, 26, 5, .vs [.fl .f32 p.1, .fl .f32 p.2.1, .fl .f32 p.2.2.1, .fl .f32 p.2.2.2.1, .bo p.2.2.2.2]⟩]))
def impl_Belt_grip.l3.ex (p : Nat × Nat × Nat × Nat × Bool) : Nat → T (X × List V × Hp) := leafT (fun r => (.ex 0, [.fl .f32 r], [some ⟨true, 26, 5, .vs [.fl .f32 p.1, .fl .f32 p.2.1, .fl .f32 p.2.2.1, .fl .f32 p.2.2.2.1, .bo p.2.2.2.2]⟩]))
noncomputable def impl_Belt_grip.l3.c : List V → Hp → T (X × List V × Hp) := cdL impl_Belt_grip.l3.cd fun x => optT (impl_Belt_grip.l3.r x.1 x.2) (impl_Belt_grip.l3.ex x.1)
noncomputable def impl_Belt_grip.C : Ctx := { ty := tys, fn := [(42, .q impl_Belt_wrap.c)], lp := [(3, ⟨[3, 13], [3], impl_Belt_grip.l3.c⟩)], n := 20, k := 1 }
theorem impl_Belt_grip.hC : CtxOK Tryd.prog impl_Belt_grip.C := CtxOK.of mo tys_ok (FnsOK.cons impl_Belt_wrap.cok FnsOK.nil)
noncomputable def impl_Belt_grip.b3 : Code := (nthC (loopsOf impl_Belt_grip.b) 0)
theorem impl_Belt_grip.lp3 : LpOK Tryd.prog impl_Belt_grip.C impl_Belt_grip.b3 := (LpOK.nil (by kernel_rfl))
theorem impl_Belt_grip.l3.round (p : Nat × Nat × Nat × Nat × Bool) (s : Nat × Int) : roundL impl_Belt_grip.C [3, 13] [3] impl_Belt_grip.b3 (impl_Belt_grip.l3.cd.enc (p, s)).1 (impl_Belt_grip.l3.cd.enc (p, s)).2 = (impl_Belt_grip.l3.st p s).map (encSum (fun s => impl_Belt_grip.l3.cd.enc (p, s)) (impl_Belt_grip.l3.out p)) := by kernel_rfl
theorem impl_Belt_grip.l3.lok : LoopOK Tryd.prog impl_Belt_grip.C ⟨[3, 13], [3], impl_Belt_grip.l3.c⟩ impl_Belt_grip.b3 := loop_cd impl_Belt_grip.l3.cd impl_Belt_grip.hC impl_Belt_grip.lp3 impl_Belt_grip.l3.round fun p => Gets.leaf
theorem impl_Belt_grip.lp : LpOK Tryd.prog impl_Belt_grip.C impl_Belt_grip.b := lp_of (by kernel_rfl) (LpsOK.cons (k := 3) (by kernel_rfl) (by kernel_rfl) impl_Belt_grip.l3.lok LpsOK.nil)
noncomputable def impl_Belt_grip.t (x0 : Nat) (x1 : Nat) (x2 : Nat) (x3 : Nat) (x4 : Bool) : T Nat :=
  .br (Option.isSome (impl_Belt_grip.l3.r (x0, x1, x2, x3, x4) ((fadd .f32 1065353216 (fdiv .f32 (fmul .f32 x3 (impl_Belt_wrap x0 x1 x2 x3 x4)) 1098907648)), (0 : Int))))
  (.leaf (Option.getD (impl_Belt_grip.l3.r (x0, x1, x2, x3, x4) ((fadd .f32 1065353216 (fdiv .f32 (fmul .f32 x3 (impl_Belt_wrap x0 x1 x2 x3 x4)) 1098907648)), (0 : Int))) default))
  .bad
noncomputable def impl_Belt_grip (x0 : Nat) (x1 : Nat) (x2 : Nat) (x3 : Nat) (x4 : Bool) : Nat := (impl_Belt_grip.t x0 x1 x2 x3 x4).val
noncomputable def impl_Belt_grip.ok (x0 : Nat) (x1 : Nat) (x2 : Nat) (x3 : Nat) (x4 : Bool) : Bool := (impl_Belt_grip.t x0 x1 x2 x3 x4).ok
def impl_Belt_grip.cd : Cd (Nat × Nat × Nat × Nat × Bool) (List V × Hp) := Cd.iso (Cd.pair (Cd.cons (Cd.pt 0 (Cd.natc 0)) Cd.nil) (Cd.cons (Cd.rw 26 5 (Cd.vs (Cd.cons (Cd.fl .f32) (Cd.cons (Cd.fl .f32) (Cd.cons (Cd.fl .f32) (Cd.cons (Cd.fl .f32) (Cd.cons Cd.bo Cd.nil))))))) Cd.nil)) (fun a => (a.2.1.1, a.2.1.2.1, a.2.1.2.2.1, a.2.1.2.2.2.1, a.2.1.2.2.2.2.1)) (fun a => (((), ()), ((a.1, (a.2.1, (a.2.2.1, (a.2.2.2.1, (a.2.2.2.2, ()))))), ()))) (fun _ => rfl)
noncomputable def impl_Belt_grip.tr (a : Nat × Nat × Nat × Nat × Bool) : T Nat := impl_Belt_grip.t a.1 a.2.1 a.2.2.1 a.2.2.2.1 a.2.2.2.2
def impl_Belt_grip.enc : (Nat × Nat × Nat × Nat × Bool) → Nat → V := fun a r => .fl .f32 r
noncomputable def impl_Belt_grip.c : List V → Hp → T V := cdQ impl_Belt_grip.cd (fun a => .br (impl_Belt_grip.ok a.1 a.2.1 a.2.2.1 a.2.2.2.1 a.2.2.2.2) (.leaf (impl_Belt_grip.enc a (impl_Belt_grip a.1 a.2.1 a.2.2.1 a.2.2.2.1 a.2.2.2.2))) .bad)
theorem impl_Belt_grip.run (a : Nat × Nat × Nat × Nat × Bool) : runF impl_Belt_grip.C Tryd.f44.results.toList impl_Belt_grip.b (impl_Belt_grip.cd.enc a).1 (impl_Belt_grip.cd.enc a).2 = (impl_Belt_grip.tr a).map fun r => (impl_Belt_grip.enc a r, (impl_Belt_grip.cd.enc a).2) := by kernel_rfl
theorem impl_Belt_grip.cok : OKq Tryd.prog 44 impl_Belt_grip.c := con_q' impl_Belt_grip.cd impl_Belt_grip.hC Tryd.func44 (by kernel_rfl) (by kernel_rfl) (by kernel_rfl) impl_Belt_grip.lp (fun a => by kernel_rfl) impl_Belt_grip.run (Tells.ok (tree := impl_Belt_grip.tr))
/-! ### impl_GripOf -/
noncomputable def impl_GripOf.b : Code := bodyOf Tryd.f13
noncomputable def impl_GripOf.C : Ctx := { ty := tys, fn := [(44, .q impl_Belt_grip.c), (39, .q impl_beltCode.c), (37, .q impl_orZero.c)], lp := [], n := 10, k := 1 }
theorem impl_GripOf.hC : CtxOK Tryd.prog impl_GripOf.C := CtxOK.of mo tys_ok (FnsOK.cons impl_Belt_grip.cok (FnsOK.cons impl_beltCode.cok (FnsOK.cons impl_orZero.cok FnsOK.nil)))
theorem impl_GripOf.lp : LpOK Tryd.prog impl_GripOf.C impl_GripOf.b := (LpOK.nil (by kernel_rfl))
noncomputable def impl_GripOf.t (x0 : Nat) (x1 : Nat) (x2 : Nat) (x3 : Nat) (x4 : Bool) (x5 : Int) : T (Nat × Int) :=
  .br (impl_Belt_grip.ok x0 x1 x2 x3 x4)
  (.leaf ((impl_orZero (impl_Belt_grip x0 x1 x2 x3 x4) (impl_beltCode x0 x1 x2 x3 x4 true)).1, (impl_orZero (impl_Belt_grip x0 x1 x2 x3 x4) (impl_beltCode x0 x1 x2 x3 x4 true)).2))
  .bad
noncomputable def impl_GripOf (x0 : Nat) (x1 : Nat) (x2 : Nat) (x3 : Nat) (x4 : Bool) (x5 : Int) : Nat × Int := (impl_GripOf.t x0 x1 x2 x3 x4 x5).val
noncomputable def impl_GripOf.ok (x0 : Nat) (x1 : Nat) (x2 : Nat) (x3 : Nat) (x4 : Bool) (x5 : Int) : Bool := (impl_GripOf.t x0 x1 x2 x3 x4 x5).ok
def impl_GripOf.cd : Cd (Nat × Nat × Nat × Nat × Bool × Int) (List V × Hp) := Cd.iso (Cd.pair (Cd.cons (Cd.agg (Cd.cons (Cd.fl .f32) (Cd.cons (Cd.fl .f32) (Cd.cons (Cd.fl .f32) (Cd.cons (Cd.fl .f32) (Cd.cons Cd.bo Cd.nil)))))) Cd.nil) (Cd.cons (Cd.ro 0 2 (Cd.vs (Cd.cons (Cd.it .i64) Cd.nil))) Cd.nil)) (fun a => (a.1.1.1, a.1.1.2.1, a.1.1.2.2.1, a.1.1.2.2.2.1, a.1.1.2.2.2.2.1, a.2.1.1)) (fun a => (((a.1, (a.2.1, (a.2.2.1, (a.2.2.2.1, (a.2.2.2.2.1, ()))))), ()), ((a.2.2.2.2.2, ()), ()))) (fun _ => rfl)
noncomputable def impl_GripOf.tr (a : Nat × Nat × Nat × Nat × Bool × Int) : T (Nat × Int) := impl_GripOf.t a.1 a.2.1 a.2.2.1 a.2.2.2.1 a.2.2.2.2.1 a.2.2.2.2.2
def impl_GripOf.enc : (Nat × Nat × Nat × Nat × Bool × Int) → (Nat × Int) → V := fun a r => .tup [.fl .f32 r.1, .it .i64 r.2]
noncomputable def impl_GripOf.c : List V → Hp → T V := cdQ impl_GripOf.cd (fun a => .br (impl_GripOf.ok a.1 a.2.1 a.2.2.1 a.2.2.2.1 a.2.2.2.2.1 a.2.2.2.2.2) (.leaf (impl_GripOf.enc a (impl_GripOf a.1 a.2.1 a.2.2.1 a.2.2.2.1 a.2.2.2.2.1 a.2.2.2.2.2))) .bad)
theorem impl_GripOf.run (a : Nat × Nat × Nat × Nat × Bool × Int) : runF impl_GripOf.C Tryd.f13.results.toList impl_GripOf.b (impl_GripOf.cd.enc a).1 (impl_GripOf.cd.enc a).2 = (impl_GripOf.tr a).map fun r => (impl_GripOf.enc a r, (impl_GripOf.cd.enc a).2) := by kernel_rfl
theorem impl_GripOf.cok : OKq Tryd.prog 13 impl_GripOf.c := con_q' impl_GripOf.cd impl_GripOf.hC Tryd.func13 (by kernel_rfl) (by kernel_rfl) (by kernel_rfl) impl_GripOf.lp (fun a => by kernel_rfl) impl_GripOf.run (Tells.ok (tree := impl_GripOf.tr))
/-! ### spec_l02Grip -/
noncomputable def spec_l02Grip.b : Code := bodyOf Tryd.f45
noncomputable def spec_l02Grip.l4.s (x0 : Nat) (x1 : Int) (x2 : Nat) (x3 : Nat) (x4 : Nat) (x5 : Nat) (x6 : Bool) : T ((Nat × Int) ⊕ Nat) :=
  .br (decide (x1 < (4 : Int)))
  (.leaf (.inl ((fmul .f32 x0 x0), (IntKind.wrap .i64 (x1 + (1 : Int))))))
  (.leaf (.inr x0))
noncomputable def spec_l02Grip.l4.st (p : Nat × Nat × Nat × Nat × Bool) (x : Nat × Int) : T ((Nat × Int) ⊕ Nat) := spec_l02Grip.l4.s x.1 x.2 p.1 p.2.1 p.2.2.1 p.2.2.2.1 p.2.2.2.2
noncomputable def spec_l02Grip.l4.r (p : Nat × Nat × Nat × Nat × Bool) (x : Nat × Int) : Option Nat := iterT (spec_l02Grip.l4.st p) manyRounds x
def spec_l02Grip.l4.cd : Cd ((Nat × Nat × Nat × Nat × Bool) × (Nat × Int)) (List V × Hp) := Cd.iso (Cd.pair (Cd.cons (Cd.fl .f32) (Cd.cons (Cd.it .i64) Cd.nil)) (Cd.cons (Cd.rw 26 5 (Cd.vs (Cd.cons (Cd.fl .f32) (Cd.cons (Cd.fl .f32) (Cd.cons (Cd.fl .f32) (Cd.cons (Cd.fl .f32) (Cd.cons Cd.bo Cd.nil))))))) Cd.nil)) (fun a => ((a.2.1.1, a.2.1.2.1, a.2.1.2.2.1, a.2.1.2.2.2.1, a.2.1.2.2.2.2.1), (a.1.1, a.1.2.1))) (fun a => ((a.2.1, (a.2.2, ())), ((a.1.1, (a.1.2.1, (a.1.2.2.1, (a.1.2.2.2.1, (a.1.2.2.2.2, ()))))), ()))) (fun _ => rfl)
def spec_l02Grip.l4.out (p : Nat × Nat × Nat × Nat × Bool) : Nat → X × List V × Hp := (fun r => (.ex 0, [.fl .f32 r], [some ⟨true, 26, 5, .vs [.fl .f32 p.1, .fl .f32 p.2.1, .fl .f32 p.2.2.1, .fl .f32 p.2.2.2.1, .bo p.2.2.2.2]⟩]))
def spec_l02Grip.l4.ex (p : Nat × Nat × Nat × Nat × Bool) : Nat → T (X × List V × Hp) := leafT (fun r => (.ex 0, [.fl .f32 r], [some ⟨true, 26, 5, .vs [.fl .f32 p.1, .fl .f32 p.2.1, .fl .f32 p.2.2.1, .fl .f32 p.2.2.2.1, .bo p.2.2.2.2]⟩]))
noncomputable def spec_l02Grip.l4.c : List V → Hp → T (X × List V × Hp) := cdL spec_l02Grip.l4.cd fun x => optT (spec_l02Grip.l4.r x.1 x.2) (spec_l02Grip.l4.ex x.1)
noncomputable def spec_l02Grip.C : Ctx := { ty := tys, fn := [(43, .q spec_l02Wrap.c)], lp := [(4, ⟨[4, 5], [4], spec_l02Grip.l4.c⟩)], n := 24, k := 1 }
theorem spec_l02Grip.hC : CtxOK Tryd.prog spec_l02Grip.C := CtxOK.of mo tys_ok (FnsOK.cons spec_l02Wrap.cok FnsOK.nil)
noncomputable def spec_l02Grip.b4 : Code := (nthC (loopsOf spec_l02Grip.b) 0)
theorem spec_l02Grip.lp4 : LpOK Tryd.prog spec_l02Grip.C spec_l02Grip.b4 := (LpOK.nil (by kernel_rfl))
theorem spec_l02Grip.l4.round (p : Nat × Nat × Nat × Nat × Bool) (s : Nat × Int) : roundL spec_l02Grip.C [4, 5] [4] spec_l02Grip.b4 (spec_l02Grip.l4.cd.enc (p, s)).1 (spec_l02Grip.l4.cd.enc (p, s)).2 = (spec_l02Grip.l4.st p s).map (encSum (fun s => spec_l02Grip.l4.cd.enc (p, s)) (spec_l02Grip.l4.out p)) := by kernel_rfl
theorem spec_l02Grip.l4.lok : LoopOK Tryd.prog spec_l02Grip.C ⟨[4, 5], [4], spec_l02Grip.l4.c⟩ spec_l02Grip.b4 := loop_cd spec_l02Grip.l4.cd spec_l02Grip.hC spec_l02Grip.lp4 spec_l02Grip.l4.round fun p => Gets.leaf
theorem spec_l02Grip.lp : LpOK Tryd.prog spec_l02Grip.C spec_l02Grip.b := lp_of (by kernel_rfl) (LpsOK.cons (k := 4) (by kernel_rfl) (by kernel_rfl) spec_l02Grip.l4.lok LpsOK.nil)
noncomputable def spec_l02Grip.t (x0 : Nat) (x1 : Nat) (x2 : Nat) (x3 : Nat) (x4 : Bool) : T Nat :=
  .br (Option.isSome (spec_l02Grip.l4.r (x0, x1, x2, x3, x4) ((fadd .f32 1065353216 (fdiv .f32 (fmul .f32 x3 (spec_l02Wrap x0 x1 x2 x3 x4)) 1098907648)), (0 : Int))))
  (.leaf (Option.getD (spec_l02Grip.l4.r (x0, x1, x2, x3, x4) ((fadd .f32 1065353216 (fdiv .f32 (fmul .f32 x3 (spec_l02Wrap x0 x1 x2 x3 x4)) 1098907648)), (0 : Int))) default))
  .bad
noncomputable def spec_l02Grip (x0 : Nat) (x1 : Nat) (x2 : Nat) (x3 : Nat) (x4 : Bool) : Nat := (spec_l02Grip.t x0 x1 x2 x3 x4).val
noncomputable def spec_l02Grip.ok (x0 : Nat) (x1 : Nat) (x2 : Nat) (x3 : Nat) (x4 : Bool) : Bool := (spec_l02Grip.t x0 x1 x2 x3 x4).ok
def spec_l02Grip.cd : Cd (Nat × Nat × Nat × Nat × Bool) (List V × Hp) := Cd.iso (Cd.pair (Cd.cons (Cd.pt 0 (Cd.natc 0)) Cd.nil) (Cd.cons (Cd.rw 26 5 (Cd.vs (Cd.cons (Cd.fl .f32) (Cd.cons (Cd.fl .f32) (Cd.cons (Cd.fl .f32) (Cd.cons (Cd.fl .f32) (Cd.cons Cd.bo Cd.nil))))))) Cd.nil)) (fun a => (a.2.1.1, a.2.1.2.1, a.2.1.2.2.1, a.2.1.2.2.2.1, a.2.1.2.2.2.2.1)) (fun a => (((), ()), ((a.1, (a.2.1, (a.2.2.1, (a.2.2.2.1, (a.2.2.2.2, ()))))), ()))) (fun _ => rfl)
noncomputable def spec_l02Grip.tr (a : Nat × Nat × Nat × Nat × Bool) : T Nat := spec_l02Grip.t a.1 a.2.1 a.2.2.1 a.2.2.2.1 a.2.2.2.2
def spec_l02Grip.enc : (Nat × Nat × Nat × Nat × Bool) → Nat → V := fun a r => .fl .f32 r
noncomputable def spec_l02Grip.c : List V → Hp → T V := cdQ spec_l02Grip.cd (fun a => .br (spec_l02Grip.ok a.1 a.2.1 a.2.2.1 a.2.2.2.1 a.2.2.2.2) (.leaf (spec_l02Grip.enc a (spec_l02Grip a.1 a.2.1 a.2.2.1 a.2.2.2.1 a.2.2.2.2))) .bad)
theorem spec_l02Grip.run (a : Nat × Nat × Nat × Nat × Bool) : runF spec_l02Grip.C Tryd.f45.results.toList spec_l02Grip.b (spec_l02Grip.cd.enc a).1 (spec_l02Grip.cd.enc a).2 = (spec_l02Grip.tr a).map fun r => (spec_l02Grip.enc a r, (spec_l02Grip.cd.enc a).2) := by kernel_rfl
theorem spec_l02Grip.cok : OKq Tryd.prog 45 spec_l02Grip.c := con_q' spec_l02Grip.cd spec_l02Grip.hC Tryd.func45 (by kernel_rfl) (by kernel_rfl) (by kernel_rfl) spec_l02Grip.lp (fun a => by kernel_rfl) spec_l02Grip.run (Tells.ok (tree := spec_l02Grip.tr))
/-! ### spec_GripOf -/
noncomputable def spec_GripOf.b : Code := bodyOf Tryd.f14
noncomputable def spec_GripOf.C : Ctx := { ty := tys, fn := [(40, .q spec_l02Ok.c), (45, .q spec_l02Grip.c)], lp := [], n := 7, k := 1 }
theorem spec_GripOf.hC : CtxOK Tryd.prog spec_GripOf.C := CtxOK.of mo tys_ok (FnsOK.cons spec_l02Ok.cok (FnsOK.cons spec_l02Grip.cok FnsOK.nil))
theorem spec_GripOf.lp : LpOK Tryd.prog spec_GripOf.C spec_GripOf.b := (LpOK.nil (by kernel_rfl))
noncomputable def spec_GripOf.t (x0 : Nat) (x1 : Nat) (x2 : Nat) (x3 : Nat) (x4 : Bool) (x5 : Int) : T (Nat × Int) :=
  .br (!(spec_l02Ok x0 x1 x2 x3 x4))
  (.leaf (0, (1 : Int)))
  (.br (spec_l02Grip.ok x0 x1 x2 x3 x4)
   (.leaf ((spec_l02Grip x0 x1 x2 x3 x4), (0 : Int)))
   .bad)
noncomputable def spec_GripOf (x0 : Nat) (x1 : Nat) (x2 : Nat) (x3 : Nat) (x4 : Bool) (x5 : Int) : Nat × Int := (spec_GripOf.t x0 x1 x2 x3 x4 x5).val
noncomputable def spec_GripOf.ok (x0 : Nat) (x1 : Nat) (x2 : Nat) (x3 : Nat) (x4 : Bool) (x5 : Int) : Bool := (spec_GripOf.t x0 x1 x2 x3 x4 x5).ok
def spec_GripOf.cd : Cd (Nat × Nat × Nat × Nat × Bool × Int) (List V × Hp) := Cd.iso (Cd.pair (Cd.cons (Cd.agg (Cd.cons (Cd.fl .f32) (Cd.cons (Cd.fl .f32) (Cd.cons (Cd.fl .f32) (Cd.cons (Cd.fl .f32) (Cd.cons Cd.bo Cd.nil)))))) Cd.nil) (Cd.cons (Cd.ro 0 2 (Cd.vs (Cd.cons (Cd.it .i64) Cd.nil))) Cd.nil)) (fun a => (a.1.1.1, a.1.1.2.1, a.1.1.2.2.1, a.1.1.2.2.2.1, a.1.1.2.2.2.2.1, a.2.1.1)) (fun a => (((a.1, (a.2.1, (a.2.2.1, (a.2.2.2.1, (a.2.2.2.2.1, ()))))), ()), ((a.2.2.2.2.2, ()), ()))) (fun _ => rfl)
noncomputable def spec_GripOf.tr (a : Nat × Nat × Nat × Nat × Bool × Int) : T (Nat × Int) := spec_GripOf.t a.1 a.2.1 a.2.2.1 a.2.2.2.1 a.2.2.2.2.1 a.2.2.2.2.2
def spec_GripOf.enc : (Nat × Nat × Nat × Nat × Bool × Int) → (Nat × Int) → V := fun a r => .tup [.fl .f32 r.1, .it .i64 r.2]
noncomputable def spec_GripOf.c : List V → Hp → T V := cdQ spec_GripOf.cd (fun a => .br (spec_GripOf.ok a.1 a.2.1 a.2.2.1 a.2.2.2.1 a.2.2.2.2.1 a.2.2.2.2.2) (.leaf (spec_GripOf.enc a (spec_GripOf a.1 a.2.1 a.2.2.1 a.2.2.2.1 a.2.2.2.2.1 a.2.2.2.2.2))) .bad)
theorem spec_GripOf.run (a : Nat × Nat × Nat × Nat × Bool × Int) : runF spec_GripOf.C Tryd.f14.results.toList spec_GripOf.b (spec_GripOf.cd.enc a).1 (spec_GripOf.cd.enc a).2 = (spec_GripOf.tr a).map fun r => (spec_GripOf.enc a r, (spec_GripOf.cd.enc a).2) := by kernel_rfl
theorem spec_GripOf.cok : OKq Tryd.prog 14 spec_GripOf.c := con_q' spec_GripOf.cd spec_GripOf.hC Tryd.func14 (by kernel_rfl) (by kernel_rfl) (by kernel_rfl) spec_GripOf.lp (fun a => by kernel_rfl) spec_GripOf.run (Tells.ok (tree := spec_GripOf.tr))
/-! ### spec_l01Same -/
noncomputable def spec_l01Same.b : Code := bodyOf Tryd.f46
noncomputable def spec_l01Same.C : Ctx := { ty := tys, fn := [(74, .q f32bitsC)], lp := [], n := 26, k := 0 }
theorem spec_l01Same.hC : CtxOK Tryd.prog spec_l01Same.C := CtxOK.of mo tys_ok (FnsOK.cons (f32bits_ok Tryd.func74 (by kernel_rfl) (by kernel_rfl) (by kernel_rfl) (by kernel_rfl)) FnsOK.nil)
theorem spec_l01Same.lp : LpOK Tryd.prog spec_l01Same.C spec_l01Same.b := (LpOK.nil (by kernel_rfl))
noncomputable def spec_l01Same.t (x0 : Nat) (x1 : Nat) : T Bool :=
  .br (fne .f32 x0 x0)
  (.br (fne .f32 x0 x0)
   (.leaf (fne .f32 x1 x1))
   (.leaf false))
  (.br (fne .f32 x1 x1)
   (.br (fne .f32 x0 x0)
    (.leaf (fne .f32 x1 x1))
    (.leaf false))
   (.br (isNaN .f32 x0)
    (.br (isNaN .f32 x1)
     .bad
     (.br (isNaN .f32 (Int.toNat ((x1 : Nat) : Int)))
      .bad
      (.leaf false)))
    (.br (isNaN .f32 x1)
     (.br (isNaN .f32 (Int.toNat ((x0 : Nat) : Int)))
      .bad
      (.leaf false))
     (.leaf (((x0 : Nat) : Int) == ((x1 : Nat) : Int))))))
noncomputable def spec_l01Same (x0 : Nat) (x1 : Nat) : Bool := (spec_l01Same.t x0 x1).val
noncomputable def spec_l01Same.ok (x0 : Nat) (x1 : Nat) : Bool := (spec_l01Same.t x0 x1).ok
def spec_l01Same.cd : Cd (Nat × Nat) (List V × Hp) := Cd.iso (Cd.pair (Cd.cons (Cd.fl .f32) (Cd.cons (Cd.fl .f32) Cd.nil)) Cd.nil) (fun a => (a.1.1, a.1.2.1)) (fun a => ((a.1, (a.2, ())), ())) (fun _ => rfl)
noncomputable def spec_l01Same.tr (a : Nat × Nat) : T Bool := spec_l01Same.t a.1 a.2
def spec_l01Same.enc : (Nat × Nat) → Bool → V := fun a r => .bo r
noncomputable def spec_l01Same.c : List V → Hp → T V := cdQ spec_l01Same.cd (fun a => .br (spec_l01Same.ok a.1 a.2) (.leaf (spec_l01Same.enc a (spec_l01Same a.1 a.2))) .bad)
theorem spec_l01Same.run (a : Nat × Nat) : runF spec_l01Same.C Tryd.f46.results.toList spec_l01Same.b (spec_l01Same.cd.enc a).1 (spec_l01Same.cd.enc a).2 = (spec_l01Same.tr a).map fun r => (spec_l01Same.enc a r, (spec_l01Same.cd.enc a).2) := by kernel_rfl
theorem spec_l01Same.cok : OKq Tryd.prog 46 spec_l01Same.c := con_q' spec_l01Same.cd spec_l01Same.hC Tryd.func46 (by kernel_rfl) (by kernel_rfl) (by kernel_rfl) spec_l01Same.lp (fun a => by kernel_rfl) spec_l01Same.run (Tells.ok (tree := spec_l01Same.tr))
/-! ### spec_SameBelt -/
noncomputable def spec_SameBelt.b : Code := bodyOf Tryd.f15
noncomputable def spec_SameBelt.C : Ctx := { ty := tys, fn := [(46, .q spec_l01Same.c)], lp := [], n := 38, k := 1 }
theorem spec_SameBelt.hC : CtxOK Tryd.prog spec_SameBelt.C := CtxOK.of mo tys_ok (FnsOK.cons spec_l01Same.cok FnsOK.nil)
theorem spec_SameBelt.lp : LpOK Tryd.prog spec_SameBelt.C spec_SameBelt.b := (LpOK.nil (by kernel_rfl))
noncomputable def spec_SameBelt.t (x0 : Nat) (x1 : Nat) (x2 : Nat) (x3 : Nat) (x4 : Bool) (x5 : Nat) (x6 : Nat) (x7 : Nat) (x8 : Nat) (x9 : Bool) (x10 : Int) : T Bool :=
  .br (spec_l01Same.ok x0 x5)
  (.br (spec_l01Same x0 x5)
   (.br (spec_l01Same.ok x1 x6)
    (.br (spec_l01Same x1 x6)
     (.br (spec_l01Same.ok x2 x7)
      (.br (spec_l01Same x2 x7)
       (.br (spec_l01Same.ok x3 x8)
        (.br (spec_l01Same x3 x8)
         (.leaf (x4 == x9))
         (.leaf false))
        .bad)
       (.leaf false))
      .bad)
     (.leaf false))
    .bad)
   (.leaf false))
  .bad
noncomputable def spec_SameBelt (x0 : Nat) (x1 : Nat) (x2 : Nat) (x3 : Nat) (x4 : Bool) (x5 : Nat) (x6 : Nat) (x7 : Nat) (x8 : Nat) (x9 : Bool) (x10 : Int) : Bool := (spec_SameBelt.t x0 x1 x2 x3 x4 x5 x6 x7 x8 x9 x10).val
noncomputable def spec_SameBelt.ok (x0 : Nat) (x1 : Nat) (x2 : Nat) (x3 : Nat) (x4 : Bool) (x5 : Nat) (x6 : Nat) (x7 : Nat) (x8 : Nat) (x9 : Bool) (x10 : Int) : Bool := (spec_SameBelt.t x0 x1 x2 x3 x4 x5 x6 x7 x8 x9 x10).ok
def spec_SameBelt.cd : Cd (Nat × Nat × Nat × Nat × Bool × Nat × Nat × Nat × Nat × Bool × Int) (List V × Hp) := Cd.iso (Cd.pair (Cd.cons (Cd.agg (Cd.cons (Cd.fl .f32) (Cd.cons (Cd.fl .f32) (Cd.cons (Cd.fl .f32) (Cd.cons (Cd.fl .f32) (Cd.cons Cd.bo Cd.nil)))))) (Cd.cons (Cd.agg (Cd.cons (Cd.fl .f32) (Cd.cons (Cd.fl .f32) (Cd.cons (Cd.fl .f32) (Cd.cons (Cd.fl .f32) (Cd.cons Cd.bo Cd.nil)))))) Cd.nil)) (Cd.cons (Cd.ro 0 2 (Cd.vs (Cd.cons (Cd.it .i64) Cd.nil))) Cd.nil)) (fun a => (a.1.1.1, a.1.1.2.1, a.1.1.2.2.1, a.1.1.2.2.2.1, a.1.1.2.2.2.2.1, a.1.2.1.1, a.1.2.1.2.1, a.1.2.1.2.2.1, a.1.2.1.2.2.2.1, a.1.2.1.2.2.2.2.1, a.2.1.1)) (fun a => (((a.1, (a.2.1, (a.2.2.1, (a.2.2.2.1, (a.2.2.2.2.1, ()))))), ((a.2.2.2.2.2.1, (a.2.2.2.2.2.2.1, (a.2.2.2.2.2.2.2.1, (a.2.2.2.2.2.2.2.2.1, (a.2.2.2.2.2.2.2.2.2.1, ()))))), ())), ((a.2.2.2.2.2.2.2.2.2.2, ()), ()))) (fun _ => rfl)
noncomputable def spec_SameBelt.tr (a : Nat × Nat × Nat × Nat × Bool × Nat × Nat × Nat × Nat × Bool × Int) : T Bool := spec_SameBelt.t a.1 a.2.1 a.2.2.1 a.2.2.2.1 a.2.2.2.2.1 a.2.2.2.2.2.1 a.2.2.2.2.2.2.1 a.2.2.2.2.2.2.2.1 a.2.2.2.2.2.2.2.2.1 a.2.2.2.2.2.2.2.2.2.1 a.2.2.2.2.2.2.2.2.2.2
def spec_SameBelt.enc : (Nat × Nat × Nat × Nat × Bool × Nat × Nat × Nat × Nat × Bool × Int) → Bool → V := fun a r => .bo r
noncomputable def spec_SameBelt.c : List V → Hp → T V := cdQ spec_SameBelt.cd (fun a => .br (spec_SameBelt.ok a.1 a.2.1 a.2.2.1 a.2.2.2.1 a.2.2.2.2.1 a.2.2.2.2.2.1 a.2.2.2.2.2.2.1 a.2.2.2.2.2.2.2.1 a.2.2.2.2.2.2.2.2.1 a.2.2.2.2.2.2.2.2.2.1 a.2.2.2.2.2.2.2.2.2.2) (.leaf (spec_SameBelt.enc a (spec_SameBelt a.1 a.2.1 a.2.2.1 a.2.2.2.1 a.2.2.2.2.1 a.2.2.2.2.2.1 a.2.2.2.2.2.2.1 a.2.2.2.2.2.2.2.1 a.2.2.2.2.2.2.2.2.1 a.2.2.2.2.2.2.2.2.2.1 a.2.2.2.2.2.2.2.2.2.2))) .bad)
theorem spec_SameBelt.run (a : Nat × Nat × Nat × Nat × Bool × Nat × Nat × Nat × Nat × Bool × Int) : runF spec_SameBelt.C Tryd.f15.results.toList spec_SameBelt.b (spec_SameBelt.cd.enc a).1 (spec_SameBelt.cd.enc a).2 = (spec_SameBelt.tr a).map fun r => (spec_SameBelt.enc a r, (spec_SameBelt.cd.enc a).2) := by kernel_rfl
theorem spec_SameBelt.cok : OKq Tryd.prog 15 spec_SameBelt.c := con_q' spec_SameBelt.cd spec_SameBelt.hC Tryd.func15 (by kernel_rfl) (by kernel_rfl) (by kernel_rfl) spec_SameBelt.lp (fun a => by kernel_rfl) spec_SameBelt.run (Tells.ok (tree := spec_SameBelt.tr))
/-! ### impl_SameNumber -/
noncomputable def impl_SameNumber.b : Code := bodyOf Tryd.f47
noncomputable def impl_SameNumber.C : Ctx := { ty := tys, fn := [(74, .q f32bitsC)], lp := [], n := 20, k := 0 }
theorem impl_SameNumber.hC : CtxOK Tryd.prog impl_SameNumber.C := CtxOK.of mo tys_ok (FnsOK.cons (f32bits_ok Tryd.func74 (by kernel_rfl) (by kernel_rfl) (by kernel_rfl) (by kernel_rfl)) FnsOK.nil)
theorem impl_SameNumber.lp : LpOK Tryd.prog impl_SameNumber.C impl_SameNumber.b := (LpOK.nil (by kernel_rfl))
noncomputable def impl_SameNumber.t (x0 : Nat) (x1 : Nat) : T Bool :=
  .br (fne .f32 x0 x0)
  (.br (fne .f32 x1 x1)
   (.leaf true)
   (.br (isNaN .f32 x0)
    (.br (isNaN .f32 x1)
     .bad
     (.br (isNaN .f32 (Int.toNat ((x1 : Nat) : Int)))
      .bad
      (.leaf false)))
    (.br (isNaN .f32 x1)
     (.br (isNaN .f32 (Int.toNat ((x0 : Nat) : Int)))
      .bad
      (.leaf false))
     (.leaf (((x0 : Nat) : Int) == ((x1 : Nat) : Int))))))
  (.br (isNaN .f32 x0)
   (.br (isNaN .f32 x1)
    .bad
    (.br (isNaN .f32 (Int.toNat ((x1 : Nat) : Int)))
     .bad
     (.leaf false)))
   (.br (isNaN .f32 x1)
    (.br (isNaN .f32 (Int.toNat ((x0 : Nat) : Int)))
     .bad
     (.leaf false))
    (.leaf (((x0 : Nat) : Int) == ((x1 : Nat) : Int)))))
noncomputable def impl_SameNumber (x0 : Nat) (x1 : Nat) : Bool := (impl_SameNumber.t x0 x1).val
noncomputable def impl_SameNumber.ok (x0 : Nat) (x1 : Nat) : Bool := (impl_SameNumber.t x0 x1).ok
def impl_SameNumber.cd : Cd (Nat × Nat) (List V × Hp) := Cd.iso (Cd.pair (Cd.cons (Cd.fl .f32) (Cd.cons (Cd.fl .f32) Cd.nil)) Cd.nil) (fun a => (a.1.1, a.1.2.1)) (fun a => ((a.1, (a.2, ())), ())) (fun _ => rfl)
noncomputable def impl_SameNumber.tr (a : Nat × Nat) : T Bool := impl_SameNumber.t a.1 a.2
def impl_SameNumber.enc : (Nat × Nat) → Bool → V := fun a r => .bo r
noncomputable def impl_SameNumber.c : List V → Hp → T V := cdQ impl_SameNumber.cd (fun a => .br (impl_SameNumber.ok a.1 a.2) (.leaf (impl_SameNumber.enc a (impl_SameNumber a.1 a.2))) .bad)
theorem impl_SameNumber.run (a : Nat × Nat) : runF impl_SameNumber.C Tryd.f47.results.toList impl_SameNumber.b (impl_SameNumber.cd.enc a).1 (impl_SameNumber.cd.enc a).2 = (impl_SameNumber.tr a).map fun r => (impl_SameNumber.enc a r, (impl_SameNumber.cd.enc a).2) := by kernel_rfl
theorem impl_SameNumber.cok : OKq Tryd.prog 47 impl_SameNumber.c := con_q' impl_SameNumber.cd impl_SameNumber.hC Tryd.func47 (by kernel_rfl) (by kernel_rfl) (by kernel_rfl) impl_SameNumber.lp (fun a => by kernel_rfl) impl_SameNumber.run (Tells.ok (tree := impl_SameNumber.tr))
/-! ### impl_SameBelt -/
noncomputable def impl_SameBelt.b : Code := bodyOf Tryd.f16
noncomputable def impl_SameBelt.C : Ctx := { ty := tys, fn := [(47, .q impl_SameNumber.c)], lp := [], n := 38, k := 1 }
theorem impl_SameBelt.hC : CtxOK Tryd.prog impl_SameBelt.C := CtxOK.of mo tys_ok (FnsOK.cons impl_SameNumber.cok FnsOK.nil)
theorem impl_SameBelt.lp : LpOK Tryd.prog impl_SameBelt.C impl_SameBelt.b := (LpOK.nil (by kernel_rfl))
noncomputable def impl_SameBelt.t (x0 : Nat) (x1 : Nat) (x2 : Nat) (x3 : Nat) (x4 : Bool) (x5 : Nat) (x6 : Nat) (x7 : Nat) (x8 : Nat) (x9 : Bool) (x10 : Int) : T Bool :=
  .br (impl_SameNumber.ok x0 x5)
  (.br (impl_SameNumber x0 x5)
   (.br (impl_SameNumber.ok x1 x6)
    (.br (impl_SameNumber x1 x6)
     (.br (impl_SameNumber.ok x2 x7)
      (.br (impl_SameNumber x2 x7)
       (.br (impl_SameNumber.ok x3 x8)
        (.br (impl_SameNumber x3 x8)
         (.leaf (x4 == x9))
         (.leaf false))
        .bad)
       (.leaf false))
      .bad)
     (.leaf false))
    .bad)
   (.leaf false))
  .bad
noncomputable def impl_SameBelt (x0 : Nat) (x1 : Nat) (x2 : Nat) (x3 : Nat) (x4 : Bool) (x5 : Nat) (x6 : Nat) (x7 : Nat) (x8 : Nat) (x9 : Bool) (x10 : Int) : Bool := (impl_SameBelt.t x0 x1 x2 x3 x4 x5 x6 x7 x8 x9 x10).val
noncomputable def impl_SameBelt.ok (x0 : Nat) (x1 : Nat) (x2 : Nat) (x3 : Nat) (x4 : Bool) (x5 : Nat) (x6 : Nat) (x7 : Nat) (x8 : Nat) (x9 : Bool) (x10 : Int) : Bool := (impl_SameBelt.t x0 x1 x2 x3 x4 x5 x6 x7 x8 x9 x10).ok
def impl_SameBelt.cd : Cd (Nat × Nat × Nat × Nat × Bool × Nat × Nat × Nat × Nat × Bool × Int) (List V × Hp) := Cd.iso (Cd.pair (Cd.cons (Cd.agg (Cd.cons (Cd.fl .f32) (Cd.cons (Cd.fl .f32) (Cd.cons (Cd.fl .f32) (Cd.cons (Cd.fl .f32) (Cd.cons Cd.bo Cd.nil)))))) (Cd.cons (Cd.agg (Cd.cons (Cd.fl .f32) (Cd.cons (Cd.fl .f32) (Cd.cons (Cd.fl .f32) (Cd.cons (Cd.fl .f32) (Cd.cons Cd.bo Cd.nil)))))) Cd.nil)) (Cd.cons (Cd.ro 0 2 (Cd.vs (Cd.cons (Cd.it .i64) Cd.nil))) Cd.nil)) (fun a => (a.1.1.1, a.1.1.2.1, a.1.1.2.2.1, a.1.1.2.2.2.1, a.1.1.2.2.2.2.1, a.1.2.1.1, a.1.2.1.2.1, a.1.2.1.2.2.1, a.1.2.1.2.2.2.1, a.1.2.1.2.2.2.2.1, a.2.1.1)) (fun a => (((a.1, (a.2.1, (a.2.2.1, (a.2.2.2.1, (a.2.2.2.2.1, ()))))), ((a.2.2.2.2.2.1, (a.2.2.2.2.2.2.1, (a.2.2.2.2.2.2.2.1, (a.2.2.2.2.2.2.2.2.1, (a.2.2.2.2.2.2.2.2.2.1, ()))))), ())), ((a.2.2.2.2.2.2.2.2.2.2, ()), ()))) (fun _ => rfl)
noncomputable def impl_SameBelt.tr (a : Nat × Nat × Nat × Nat × Bool × Nat × Nat × Nat × Nat × Bool × Int) : T Bool := impl_SameBelt.t a.1 a.2.1 a.2.2.1 a.2.2.2.1 a.2.2.2.2.1 a.2.2.2.2.2.1 a.2.2.2.2.2.2.1 a.2.2.2.2.2.2.2.1 a.2.2.2.2.2.2.2.2.1 a.2.2.2.2.2.2.2.2.2.1 a.2.2.2.2.2.2.2.2.2.2
def impl_SameBelt.enc : (Nat × Nat × Nat × Nat × Bool × Nat × Nat × Nat × Nat × Bool × Int) → Bool → V := fun a r => .bo r
noncomputable def impl_SameBelt.c : List V → Hp → T V := cdQ impl_SameBelt.cd (fun a => .br (impl_SameBelt.ok a.1 a.2.1 a.2.2.1 a.2.2.2.1 a.2.2.2.2.1 a.2.2.2.2.2.1 a.2.2.2.2.2.2.1 a.2.2.2.2.2.2.2.1 a.2.2.2.2.2.2.2.2.1 a.2.2.2.2.2.2.2.2.2.1 a.2.2.2.2.2.2.2.2.2.2) (.leaf (impl_SameBelt.enc a (impl_SameBelt a.1 a.2.1 a.2.2.1 a.2.2.2.1 a.2.2.2.2.1 a.2.2.2.2.2.1 a.2.2.2.2.2.2.1 a.2.2.2.2.2.2.2.1 a.2.2.2.2.2.2.2.2.1 a.2.2.2.2.2.2.2.2.2.1 a.2.2.2.2.2.2.2.2.2.2))) .bad)
theorem impl_SameBelt.run (a : Nat × Nat × Nat × Nat × Bool × Nat × Nat × Nat × Nat × Bool × Int) : runF impl_SameBelt.C Tryd.f16.results.toList impl_SameBelt.b (impl_SameBelt.cd.enc a).1 (impl_SameBelt.cd.enc a).2 = (impl_SameBelt.tr a).map fun r => (impl_SameBelt.enc a r, (impl_SameBelt.cd.enc a).2) := by kernel_rfl
theorem impl_SameBelt.cok : OKq Tryd.prog 16 impl_SameBelt.c := con_q' impl_SameBelt.cd impl_SameBelt.hC Tryd.func16 (by kernel_rfl) (by kernel_rfl) (by kernel_rfl) impl_SameBelt.lp (fun a => by kernel_rfl) impl_SameBelt.run (Tells.ok (tree := impl_SameBelt.tr))
/-! ### impl_ValidBelt_w1 -/
noncomputable def impl_ValidBelt_w1.b : Code := bodyOf Tryd.f17
noncomputable def impl_ValidBelt_w1.C : Ctx := { ty := tys, fn := [(48, .q impl_isRadius.c), (49, .q impl_between.c)], lp := [], n := 26, k := 1 }
theorem impl_ValidBelt_w1.hC : CtxOK Tryd.prog impl_ValidBelt_w1.C := CtxOK.of mo tys_ok (FnsOK.cons impl_isRadius.cok (FnsOK.cons impl_between.cok FnsOK.nil))
theorem impl_ValidBelt_w1.lp : LpOK Tryd.prog impl_ValidBelt_w1.C impl_ValidBelt_w1.b := (LpOK.nil (by kernel_rfl))
noncomputable def impl_ValidBelt_w1.t (x0 : Nat) (x1 : Nat) (x2 : Nat) (x3 : Nat) (x4 : Bool) (x5 : Int) : T Bool :=
  .br (impl_isRadius x0)
  (.br (impl_isRadius x1)
   (.br (impl_between x2 (fadd .f32 x0 x1) 1199570944)
    (.leaf (impl_between x3 0 1073741824))
    (.leaf false))
   (.leaf false))
  (.leaf false)
noncomputable def impl_ValidBelt_w1 (x0 : Nat) (x1 : Nat) (x2 : Nat) (x3 : Nat) (x4 : Bool) (x5 : Int) : Bool := (impl_ValidBelt_w1.t x0 x1 x2 x3 x4 x5).val
def impl_ValidBelt_w1.cd : Cd (Nat × Nat × Nat × Nat × Bool × Int) (List V × Hp) := Cd.iso (Cd.pair (Cd.cons (Cd.agg (Cd.cons (Cd.fl .f32) (Cd.cons (Cd.fl .f32) (Cd.cons (Cd.fl .f32) (Cd.cons (Cd.fl .f32) (Cd.cons Cd.bo Cd.nil)))))) Cd.nil) (Cd.cons (Cd.ro 0 2 (Cd.vs (Cd.cons (Cd.it .i64) Cd.nil))) Cd.nil)) (fun a => (a.1.1.1, a.1.1.2.1, a.1.1.2.2.1, a.1.1.2.2.2.1, a.1.1.2.2.2.2.1, a.2.1.1)) (fun a => (((a.1, (a.2.1, (a.2.2.1, (a.2.2.2.1, (a.2.2.2.2.1, ()))))), ()), ((a.2.2.2.2.2, ()), ()))) (fun _ => rfl)
noncomputable def impl_ValidBelt_w1.tr (a : Nat × Nat × Nat × Nat × Bool × Int) : T Bool := impl_ValidBelt_w1.t a.1 a.2.1 a.2.2.1 a.2.2.2.1 a.2.2.2.2.1 a.2.2.2.2.2
def impl_ValidBelt_w1.enc : (Nat × Nat × Nat × Nat × Bool × Int) → Bool → V := fun a r => .bo r
noncomputable def impl_ValidBelt_w1.c : List V → Hp → T V := cdQ impl_ValidBelt_w1.cd (fun a => .leaf (impl_ValidBelt_w1.enc a (impl_ValidBelt_w1 a.1 a.2.1 a.2.2.1 a.2.2.2.1 a.2.2.2.2.1 a.2.2.2.2.2)))
theorem impl_ValidBelt_w1.run (a : Nat × Nat × Nat × Nat × Bool × Int) : runF impl_ValidBelt_w1.C Tryd.f17.results.toList impl_ValidBelt_w1.b (impl_ValidBelt_w1.cd.enc a).1 (impl_ValidBelt_w1.cd.enc a).2 = (impl_ValidBelt_w1.tr a).map fun r => (impl_ValidBelt_w1.enc a r, (impl_ValidBelt_w1.cd.enc a).2) := by kernel_rfl
theorem impl_ValidBelt_w1.cok : OKq Tryd.prog 17 impl_ValidBelt_w1.c := con_q' impl_ValidBelt_w1.cd impl_ValidBelt_w1.hC Tryd.func17 (by kernel_rfl) (by kernel_rfl) (by kernel_rfl) impl_ValidBelt_w1.lp (fun a => by kernel_rfl) impl_ValidBelt_w1.run (Tells.val (tree := impl_ValidBelt_w1.tr) fun a => by kernel_rfl)
/-! ### spec_SameNumber -/
noncomputable def spec_SameNumber.b : Code := bodyOf Tryd.f18
noncomputable def spec_SameNumber.C : Ctx := { ty := tys, fn := [(46, .q spec_l01Same.c)], lp := [], n := 8, k := 1 }
theorem spec_SameNumber.hC : CtxOK Tryd.prog spec_SameNumber.C := CtxOK.of mo tys_ok (FnsOK.cons spec_l01Same.cok FnsOK.nil)
theorem spec_SameNumber.lp : LpOK Tryd.prog spec_SameNumber.C spec_SameNumber.b := (LpOK.nil (by kernel_rfl))
noncomputable def spec_SameNumber.t (x0 : Nat) (x1 : Nat) (x2 : Int) : T Bool :=
  .br (spec_l01Same.ok x0 x1)
  (.leaf (spec_l01Same x0 x1))
  .bad
noncomputable def spec_SameNumber (x0 : Nat) (x1 : Nat) (x2 : Int) : Bool := (spec_SameNumber.t x0 x1 x2).val
noncomputable def spec_SameNumber.ok (x0 : Nat) (x1 : Nat) (x2 : Int) : Bool := (spec_SameNumber.t x0 x1 x2).ok
def spec_SameNumber.cd : Cd (Nat × Nat × Int) (List V × Hp) := Cd.iso (Cd.pair (Cd.cons (Cd.fl .f32) (Cd.cons (Cd.fl .f32) Cd.nil)) (Cd.cons (Cd.ro 0 2 (Cd.vs (Cd.cons (Cd.it .i64) Cd.nil))) Cd.nil)) (fun a => (a.1.1, a.1.2.1, a.2.1.1)) (fun a => ((a.1, (a.2.1, ())), ((a.2.2, ()), ()))) (fun _ => rfl)
noncomputable def spec_SameNumber.tr (a : Nat × Nat × Int) : T Bool := spec_SameNumber.t a.1 a.2.1 a.2.2
def spec_SameNumber.enc : (Nat × Nat × Int) → Bool → V := fun a r => .bo r
noncomputable def spec_SameNumber.c : List V → Hp → T V := cdQ spec_SameNumber.cd (fun a => .br (spec_SameNumber.ok a.1 a.2.1 a.2.2) (.leaf (spec_SameNumber.enc a (spec_SameNumber a.1 a.2.1 a.2.2))) .bad)
theorem spec_SameNumber.run (a : Nat × Nat × Int) : runF spec_SameNumber.C Tryd.f18.results.toList spec_SameNumber.b (spec_SameNumber.cd.enc a).1 (spec_SameNumber.cd.enc a).2 = (spec_SameNumber.tr a).map fun r => (spec_SameNumber.enc a r, (spec_SameNumber.cd.enc a).2) := by kernel_rfl
theorem spec_SameNumber.cok : OKq Tryd.prog 18 spec_SameNumber.c := con_q' spec_SameNumber.cd spec_SameNumber.hC Tryd.func18 (by kernel_rfl) (by kernel_rfl) (by kernel_rfl) spec_SameNumber.lp (fun a => by kernel_rfl) spec_SameNumber.run (Tells.ok (tree := spec_SameNumber.tr))
/-! ### spec_l01Size -/
noncomputable def spec_l01Size.b : Code := bodyOf Tryd.f50
noncomputable def spec_l01Size.C : Ctx := { ty := tys, fn := [], lp := [], n := 8, k := 0 }
theorem spec_l01Size.hC : CtxOK Tryd.prog spec_l01Size.C := CtxOK.of mo tys_ok FnsOK.nil
theorem spec_l01Size.lp : LpOK Tryd.prog spec_l01Size.C spec_l01Size.b := (LpOK.nil (by kernel_rfl))
noncomputable def spec_l01Size.t (x0 : Nat) : T Nat :=
  .br (flt .f32 x0 0)
  (.leaf (fneg .f32 x0))
  (.leaf x0)
noncomputable def spec_l01Size (x0 : Nat) : Nat := (spec_l01Size.t x0).val
def spec_l01Size.cd : Cd Nat (List V × Hp) := Cd.iso (Cd.pair (Cd.cons (Cd.fl .f32) Cd.nil) Cd.nil) (fun a => a.1.1) (fun a => ((a, ()), ())) (fun _ => rfl)
noncomputable def spec_l01Size.tr (a : Nat) : T Nat := spec_l01Size.t a
def spec_l01Size.enc : Nat → Nat → V := fun a r => .fl .f32 r
noncomputable def spec_l01Size.c : List V → Hp → T V := cdQ spec_l01Size.cd (fun a => .leaf (spec_l01Size.enc a (spec_l01Size a)))
theorem spec_l01Size.run (a : Nat) : runF spec_l01Size.C Tryd.f50.results.toList spec_l01Size.b (spec_l01Size.cd.enc a).1 (spec_l01Size.cd.enc a).2 = (spec_l01Size.tr a).map fun r => (spec_l01Size.enc a r, (spec_l01Size.cd.enc a).2) := by kernel_rfl
theorem spec_l01Size.cok : OKq Tryd.prog 50 spec_l01Size.c := con_q' spec_l01Size.cd spec_l01Size.hC Tryd.func50 (by kernel_rfl) (by kernel_rfl) (by kernel_rfl) spec_l01Size.lp (fun a => by kernel_rfl) spec_l01Size.run (Tells.val (tree := spec_l01Size.tr) fun a => by kernel_rfl)
/-! ### spec_A2Near -/
noncomputable def spec_A2Near.b : Code := bodyOf Tryd.f19
noncomputable def spec_A2Near.C : Ctx := { ty := tys, fn := [(50, .q spec_l01Size.c)], lp := [], n := 28, k := 1 }
theorem spec_A2Near.hC : CtxOK Tryd.prog spec_A2Near.C := CtxOK.of mo tys_ok (FnsOK.cons spec_l01Size.cok FnsOK.nil)
theorem spec_A2Near.lp : LpOK Tryd.prog spec_A2Near.C spec_A2Near.b := (LpOK.nil (by kernel_rfl))
noncomputable def spec_A2Near.t (x0 : Nat) (x1 : Nat) (x2 : Nat) (x3 : Nat) (x4 : Int) : T Bool :=
  let y26 := (spec_l01Size x0)
  let y27 := (spec_l01Size x1)
  .br (fgt .f32 y27 y26)
  (let y28 := (spec_l01Size x1)
   let y29 := (spec_l01Size (fsub .f32 x0 x1))
   .leaf (fle .f32 y29 (fadd .f32 (fmul .f32 y28 x2) x3)))
  (let y30 := (spec_l01Size (fsub .f32 x0 x1))
   .leaf (fle .f32 y30 (fadd .f32 (fmul .f32 y26 x2) x3)))
noncomputable def spec_A2Near (x0 : Nat) (x1 : Nat) (x2 : Nat) (x3 : Nat) (x4 : Int) : Bool := (spec_A2Near.t x0 x1 x2 x3 x4).val
def spec_A2Near.cd : Cd (Nat × Nat × Nat × Nat × Int) (List V × Hp) := Cd.iso (Cd.pair (Cd.cons (Cd.fl .f32) (Cd.cons (Cd.fl .f32) (Cd.cons (Cd.fl .f32) (Cd.cons (Cd.fl .f32) Cd.nil)))) (Cd.cons (Cd.ro 0 2 (Cd.vs (Cd.cons (Cd.it .i64) Cd.nil))) Cd.nil)) (fun a => (a.1.1, a.1.2.1, a.1.2.2.1, a.1.2.2.2.1, a.2.1.1)) (fun a => ((a.1, (a.2.1, (a.2.2.1, (a.2.2.2.1, ())))), ((a.2.2.2.2, ()), ()))) (fun _ => rfl)
noncomputable def spec_A2Near.tr (a : Nat × Nat × Nat × Nat × Int) : T Bool := spec_A2Near.t a.1 a.2.1 a.2.2.1 a.2.2.2.1 a.2.2.2.2
def spec_A2Near.enc : (Nat × Nat × Nat × Nat × Int) → Bool → V := fun a r => .bo r
noncomputable def spec_A2Near.c : List V → Hp → T V := cdQ spec_A2Near.cd (fun a => .leaf (spec_A2Near.enc a (spec_A2Near a.1 a.2.1 a.2.2.1 a.2.2.2.1 a.2.2.2.2)))
theorem spec_A2Near.run (a : Nat × Nat × Nat × Nat × Int) : runF spec_A2Near.C Tryd.f19.results.toList spec_A2Near.b (spec_A2Near.cd.enc a).1 (spec_A2Near.cd.enc a).2 = (spec_A2Near.tr a).map fun r => (spec_A2Near.enc a r, (spec_A2Near.cd.enc a).2) := by kernel_rfl
theorem spec_A2Near.cok : OKq Tryd.prog 19 spec_A2Near.c := con_q' spec_A2Near.cd spec_A2Near.hC Tryd.func19 (by kernel_rfl) (by kernel_rfl) (by kernel_rfl) spec_A2Near.lp (fun a => by kernel_rfl) spec_A2Near.run (Tells.val (tree := spec_A2Near.tr) fun a => by kernel_rfl)
/-! ### laws_a2At -/
noncomputable def laws_a2At.b : Code := bodyOf Tryd.f20
noncomputable def laws_a2At.C : Ctx := { ty := tys, fn := [], lp := [], n := 22, k := 2 }
theorem laws_a2At.hC : CtxOK Tryd.prog laws_a2At.C := CtxOK.of mo tys_ok FnsOK.nil
theorem laws_a2At.lp : LpOK Tryd.prog laws_a2At.C laws_a2At.b := (LpOK.nil (by kernel_rfl))
noncomputable def laws_a2At.t (x0 : Nat) (x1 : Int) (x2 : Int) (x3 : Int) (x4 : List Int) : T Int :=
  .br (decide (x1 ≥ ((x0 : Nat) : Int)))
  (.leaf (0 : Int))
  (.br (decide (x2 < (1 : Int)))
   (.leaf (0 : Int))
   (.br (bounds x1 x0)
    (.br (Nat.ble ((0 + (Int.toNat x1 * 1)) + 1) (List.length x4))
     (.br (x2 == 0)
      .bad
      (.leaf (Int.tmod (IntKind.wrap .i64 (List.getD x4 (0 + (Int.toNat x1 * 1)) 0)) x2)))
     .bad)
    .bad))
noncomputable def laws_a2At (x0 : Nat) (x1 : Int) (x2 : Int) (x3 : Int) (x4 : List Int) : Int := (laws_a2At.t x0 x1 x2 x3 x4).val
noncomputable def laws_a2At.ok (x0 : Nat) (x1 : Int) (x2 : Int) (x3 : Int) (x4 : List Int) : Bool := (laws_a2At.t x0 x1 x2 x3 x4).ok
def laws_a2At.cd : Cd (Nat × Int × Int × Int × List Int) (List V × Hp) := Cd.iso (Cd.pair (Cd.cons (Cd.sl 1 (Cd.natc 0)) (Cd.cons (Cd.it .i64) (Cd.cons (Cd.it .i64) Cd.nil))) (Cd.cons (Cd.ro 0 2 (Cd.vs (Cd.cons (Cd.it .i64) Cd.nil))) (Cd.cons (Cd.ro 0 0 (Cd.is .u8)) Cd.nil))) (fun a => (a.1.1.2, a.1.2.1, a.1.2.2.1, a.2.1.1, a.2.2.1)) (fun a => ((((), a.1), (a.2.1, (a.2.2.1, ()))), ((a.2.2.2.1, ()), (a.2.2.2.2, ())))) (fun _ => rfl)
noncomputable def laws_a2At.tr (a : Nat × Int × Int × Int × List Int) : T Int := laws_a2At.t a.1 a.2.1 a.2.2.1 a.2.2.2.1 a.2.2.2.2
def laws_a2At.enc : (Nat × Int × Int × Int × List Int) → Int → V := fun a r => .it .i64 r
noncomputable def laws_a2At.c : List V → Hp → T V := cdQ laws_a2At.cd (fun a => .br (laws_a2At.ok a.1 a.2.1 a.2.2.1 a.2.2.2.1 a.2.2.2.2) (.leaf (laws_a2At.enc a (laws_a2At a.1 a.2.1 a.2.2.1 a.2.2.2.1 a.2.2.2.2))) .bad)
theorem laws_a2At.run (a : Nat × Int × Int × Int × List Int) : runF laws_a2At.C Tryd.f20.results.toList laws_a2At.b (laws_a2At.cd.enc a).1 (laws_a2At.cd.enc a).2 = (laws_a2At.tr a).map fun r => (laws_a2At.enc a r, (laws_a2At.cd.enc a).2) := by kernel_rfl
theorem laws_a2At.cok : OKq Tryd.prog 20 laws_a2At.c := con_q' laws_a2At.cd laws_a2At.hC Tryd.func20 (by kernel_rfl) (by kernel_rfl) (by kernel_rfl) laws_a2At.lp (fun a => by kernel_rfl) laws_a2At.run (Tells.ok (tree := laws_a2At.tr))
/-! ### impl_Belt_pull -/
noncomputable def impl_Belt_pull.b : Code := bodyOf Tryd.f51
noncomputable def impl_Belt_pull.C : Ctx := { ty := tys, fn := [(44, .q impl_Belt_grip.c)], lp := [], n := 11, k := 1 }
theorem impl_Belt_pull.hC : CtxOK Tryd.prog impl_Belt_pull.C := CtxOK.of mo tys_ok (FnsOK.cons impl_Belt_grip.cok FnsOK.nil)
theorem impl_Belt_pull.lp : LpOK Tryd.prog impl_Belt_pull.C impl_Belt_pull.b := (LpOK.nil (by kernel_rfl))
noncomputable def impl_Belt_pull.t (x0 : Nat) (x1 : Nat) (x2 : Nat) (x3 : Nat) (x4 : Nat) (x5 : Bool) : T Nat :=
  .br (impl_Belt_grip.ok x1 x2 x3 x4 x5)
  (.leaf (fsub .f32 x0 (fdiv .f32 x0 (impl_Belt_grip x1 x2 x3 x4 x5))))
  .bad
noncomputable def impl_Belt_pull (x0 : Nat) (x1 : Nat) (x2 : Nat) (x3 : Nat) (x4 : Nat) (x5 : Bool) : Nat := (impl_Belt_pull.t x0 x1 x2 x3 x4 x5).val
noncomputable def impl_Belt_pull.ok (x0 : Nat) (x1 : Nat) (x2 : Nat) (x3 : Nat) (x4 : Nat) (x5 : Bool) : Bool := (impl_Belt_pull.t x0 x1 x2 x3 x4 x5).ok
def impl_Belt_pull.cd : Cd (Nat × Nat × Nat × Nat × Nat × Bool) (List V × Hp) := Cd.iso (Cd.pair (Cd.cons (Cd.pt 0 (Cd.natc 0)) (Cd.cons (Cd.fl .f32) Cd.nil)) (Cd.cons (Cd.rw 26 5 (Cd.vs (Cd.cons (Cd.fl .f32) (Cd.cons (Cd.fl .f32) (Cd.cons (Cd.fl .f32) (Cd.cons (Cd.fl .f32) (Cd.cons Cd.bo Cd.nil))))))) Cd.nil)) (fun a => (a.1.2.1, a.2.1.1, a.2.1.2.1, a.2.1.2.2.1, a.2.1.2.2.2.1, a.2.1.2.2.2.2.1)) (fun a => (((), (a.1, ())), ((a.2.1, (a.2.2.1, (a.2.2.2.1, (a.2.2.2.2.1, (a.2.2.2.2.2, ()))))), ()))) (fun _ => rfl)
noncomputable def impl_Belt_pull.tr (a : Nat × Nat × Nat × Nat × Nat × Bool) : T Nat := impl_Belt_pull.t a.1 a.2.1 a.2.2.1 a.2.2.2.1 a.2.2.2.2.1 a.2.2.2.2.2
def impl_Belt_pull.enc : (Nat × Nat × Nat × Nat × Nat × Bool) → Nat → V := fun a r => .fl .f32 r
noncomputable def impl_Belt_pull.c : List V → Hp → T V := cdQ impl_Belt_pull.cd (fun a => .br (impl_Belt_pull.ok a.1 a.2.1 a.2.2.1 a.2.2.2.1 a.2.2.2.2.1 a.2.2.2.2.2) (.leaf (impl_Belt_pull.enc a (impl_Belt_pull a.1 a.2.1 a.2.2.1 a.2.2.2.1 a.2.2.2.2.1 a.2.2.2.2.2))) .bad)
theorem impl_Belt_pull.run (a : Nat × Nat × Nat × Nat × Nat × Bool) : runF impl_Belt_pull.C Tryd.f51.results.toList impl_Belt_pull.b (impl_Belt_pull.cd.enc a).1 (impl_Belt_pull.cd.enc a).2 = (impl_Belt_pull.tr a).map fun r => (impl_Belt_pull.enc a r, (impl_Belt_pull.cd.enc a).2) := by kernel_rfl
theorem impl_Belt_pull.cok : OKq Tryd.prog 51 impl_Belt_pull.c := con_q' impl_Belt_pull.cd impl_Belt_pull.hC Tryd.func51 (by kernel_rfl) (by kernel_rfl) (by kernel_rfl) impl_Belt_pull.lp (fun a => by kernel_rfl) impl_Belt_pull.run (Tells.ok (tree := impl_Belt_pull.tr))
/-! ### impl_isAmount -/
noncomputable def impl_isAmount.b : Code := bodyOf Tryd.f52
noncomputable def impl_isAmount.C : Ctx := { ty := tys, fn := [(49, .q impl_between.c)], lp := [], n := 5, k := 0 }
theorem impl_isAmount.hC : CtxOK Tryd.prog impl_isAmount.C := CtxOK.of mo tys_ok (FnsOK.cons impl_between.cok FnsOK.nil)
theorem impl_isAmount.lp : LpOK Tryd.prog impl_isAmount.C impl_isAmount.b := (LpOK.nil (by kernel_rfl))
noncomputable def impl_isAmount.t (x0 : Nat) : T Bool :=
  .leaf (impl_between x0 0 1233125376)
noncomputable def impl_isAmount (x0 : Nat) : Bool := (impl_isAmount.t x0).val
def impl_isAmount.cd : Cd Nat (List V × Hp) := Cd.iso (Cd.pair (Cd.cons (Cd.fl .f32) Cd.nil) Cd.nil) (fun a => a.1.1) (fun a => ((a, ()), ())) (fun _ => rfl)
noncomputable def impl_isAmount.tr (a : Nat) : T Bool := impl_isAmount.t a
def impl_isAmount.enc : Nat → Bool → V := fun a r => .bo r
noncomputable def impl_isAmount.c : List V → Hp → T V := cdQ impl_isAmount.cd (fun a => .leaf (impl_isAmount.enc a (impl_isAmount a)))
theorem impl_isAmount.run (a : Nat) : runF impl_isAmount.C Tryd.f52.results.toList impl_isAmount.b (impl_isAmount.cd.enc a).1 (impl_isAmount.cd.enc a).2 = (impl_isAmount.tr a).map fun r => (impl_isAmount.enc a r, (impl_isAmount.cd.enc a).2) := by kernel_rfl
theorem impl_isAmount.cok : OKq Tryd.prog 52 impl_isAmount.c := con_q' impl_isAmount.cd impl_isAmount.hC Tryd.func52 (by kernel_rfl) (by kernel_rfl) (by kernel_rfl) impl_isAmount.lp (fun a => by kernel_rfl) impl_isAmount.run (Tells.val (tree := impl_isAmount.tr) fun a => by kernel_rfl)
/-! ### impl_PullOf -/
noncomputable def impl_PullOf.b : Code := bodyOf Tryd.f21
noncomputable def impl_PullOf.C : Ctx := { ty := tys, fn := [(51, .q impl_Belt_pull.c), (52, .q impl_isAmount.c), (39, .q impl_beltCode.c), (37, .q impl_orZero.c)], lp := [], n := 15, k := 1 }
theorem impl_PullOf.hC : CtxOK Tryd.prog impl_PullOf.C := CtxOK.of mo tys_ok (FnsOK.cons impl_Belt_pull.cok (FnsOK.cons impl_isAmount.cok (FnsOK.cons impl_beltCode.cok (FnsOK.cons impl_orZero.cok FnsOK.nil))))
theorem impl_PullOf.lp : LpOK Tryd.prog impl_PullOf.C impl_PullOf.b := (LpOK.nil (by kernel_rfl))
noncomputable def impl_PullOf.t (x0 : Nat) (x1 : Nat) (x2 : Nat) (x3 : Nat) (x4 : Bool) (x5 : Nat) (x6 : Int) : T (Nat × Int) :=
  .br (impl_Belt_pull.ok x5 x0 x1 x2 x3 x4)
  (.leaf ((impl_orZero (impl_Belt_pull x5 x0 x1 x2 x3 x4) (impl_beltCode x0 x1 x2 x3 x4 (impl_isAmount x5))).1, (impl_orZero (impl_Belt_pull x5 x0 x1 x2 x3 x4) (impl_beltCode x0 x1 x2 x3 x4 (impl_isAmount x5))).2))
  .bad
noncomputable def impl_PullOf (x0 : Nat) (x1 : Nat) (x2 : Nat) (x3 : Nat) (x4 : Bool) (x5 : Nat) (x6 : Int) : Nat × Int := (impl_PullOf.t x0 x1 x2 x3 x4 x5 x6).val
noncomputable def impl_PullOf.ok (x0 : Nat) (x1 : Nat) (x2 : Nat) (x3 : Nat) (x4 : Bool) (x5 : Nat) (x6 : Int) : Bool := (impl_PullOf.t x0 x1 x2 x3 x4 x5 x6).ok
def impl_PullOf.cd : Cd (Nat × Nat × Nat × Nat × Bool × Nat × Int) (List V × Hp) := Cd.iso (Cd.pair (Cd.cons (Cd.agg (Cd.cons (Cd.fl .f32) (Cd.cons (Cd.fl .f32) (Cd.cons (Cd.fl .f32) (Cd.cons (Cd.fl .f32) (Cd.cons Cd.bo Cd.nil)))))) (Cd.cons (Cd.fl .f32) Cd.nil)) (Cd.cons (Cd.ro 0 2 (Cd.vs (Cd.cons (Cd.it .i64) Cd.nil))) Cd.nil)) (fun a => (a.1.1.1, a.1.1.2.1, a.1.1.2.2.1, a.1.1.2.2.2.1, a.1.1.2.2.2.2.1, a.1.2.1, a.2.1.1)) (fun a => (((a.1, (a.2.1, (a.2.2.1, (a.2.2.2.1, (a.2.2.2.2.1, ()))))), (a.2.2.2.2.2.1, ())), ((a.2.2.2.2.2.2, ()), ()))) (fun _ => rfl)
noncomputable def impl_PullOf.tr (a : Nat × Nat × Nat × Nat × Bool × Nat × Int) : T (Nat × Int) := impl_PullOf.t a.1 a.2.1 a.2.2.1 a.2.2.2.1 a.2.2.2.2.1 a.2.2.2.2.2.1 a.2.2.2.2.2.2
def impl_PullOf.enc : (Nat × Nat × Nat × Nat × Bool × Nat × Int) → (Nat × Int) → V := fun a r => .tup [.fl .f32 r.1, .it .i64 r.2]
noncomputable def impl_PullOf.c : List V → Hp → T V := cdQ impl_PullOf.cd (fun a => .br (impl_PullOf.ok a.1 a.2.1 a.2.2.1 a.2.2.2.1 a.2.2.2.2.1 a.2.2.2.2.2.1 a.2.2.2.2.2.2) (.leaf (impl_PullOf.enc a (impl_PullOf a.1 a.2.1 a.2.2.1 a.2.2.2.1 a.2.2.2.2.1 a.2.2.2.2.2.1 a.2.2.2.2.2.2))) .bad)
theorem impl_PullOf.run (a : Nat × Nat × Nat × Nat × Bool × Nat × Int) : runF impl_PullOf.C Tryd.f21.results.toList impl_PullOf.b (impl_PullOf.cd.enc a).1 (impl_PullOf.cd.enc a).2 = (impl_PullOf.tr a).map fun r => (impl_PullOf.enc a r, (impl_PullOf.cd.enc a).2) := by kernel_rfl
theorem impl_PullOf.cok : OKq Tryd.prog 21 impl_PullOf.c := con_q' impl_PullOf.cd impl_PullOf.hC Tryd.func21 (by kernel_rfl) (by kernel_rfl) (by kernel_rfl) impl_PullOf.lp (fun a => by kernel_rfl) impl_PullOf.run (Tells.ok (tree := impl_PullOf.tr))
/-! ### spec_l02Tight -/
noncomputable def spec_l02Tight.b : Code := bodyOf Tryd.f75
noncomputable def spec_l02Tight.C : Ctx := { ty := tys, fn := [], lp := [], n := 9, k := 0 }
theorem spec_l02Tight.hC : CtxOK Tryd.prog spec_l02Tight.C := CtxOK.of mo tys_ok FnsOK.nil
theorem spec_l02Tight.lp : LpOK Tryd.prog spec_l02Tight.C spec_l02Tight.b := (LpOK.nil (by kernel_rfl))
noncomputable def spec_l02Tight.t (x0 : Nat) : T Bool :=
  .br (fge .f32 x0 0)
  (.leaf (fle .f32 x0 1233125376))
  (.leaf false)
noncomputable def spec_l02Tight (x0 : Nat) : Bool := (spec_l02Tight.t x0).val
def spec_l02Tight.cd : Cd Nat (List V × Hp) := Cd.iso (Cd.pair (Cd.cons (Cd.fl .f32) Cd.nil) Cd.nil) (fun a => a.1.1) (fun a => ((a, ()), ())) (fun _ => rfl)
noncomputable def spec_l02Tight.tr (a : Nat) : T Bool := spec_l02Tight.t a
def spec_l02Tight.enc : Nat → Bool → V := fun a r => .bo r
noncomputable def spec_l02Tight.c : List V → Hp → T V := cdQ spec_l02Tight.cd (fun a => .leaf (spec_l02Tight.enc a (spec_l02Tight a)))
theorem spec_l02Tight.run (a : Nat) : runF spec_l02Tight.C Tryd.f75.results.toList spec_l02Tight.b (spec_l02Tight.cd.enc a).1 (spec_l02Tight.cd.enc a).2 = (spec_l02Tight.tr a).map fun r => (spec_l02Tight.enc a r, (spec_l02Tight.cd.enc a).2) := by kernel_rfl
theorem spec_l02Tight.cok : OKq Tryd.prog 75 spec_l02Tight.c := con_q' spec_l02Tight.cd spec_l02Tight.hC Tryd.func75 (by kernel_rfl) (by kernel_rfl) (by kernel_rfl) spec_l02Tight.lp (fun a => by kernel_rfl) spec_l02Tight.run (Tells.val (tree := spec_l02Tight.tr) fun a => by kernel_rfl)
/-! ### spec_l01Plain -/
noncomputable def spec_l01Plain.b : Code := bodyOf Tryd.f76
noncomputable def spec_l01Plain.C : Ctx := { ty := tys, fn := [], lp := [], n := 9, k := 0 }
theorem spec_l01Plain.hC : CtxOK Tryd.prog spec_l01Plain.C := CtxOK.of mo tys_ok FnsOK.nil
theorem spec_l01Plain.lp : LpOK Tryd.prog spec_l01Plain.C spec_l01Plain.b := (LpOK.nil (by kernel_rfl))
noncomputable def spec_l01Plain.t (x0 : Nat) : T Bool :=
  .br (fge .f32 x0 3380609024)
  (.leaf (fle .f32 x0 1233125376))
  (.leaf false)
noncomputable def spec_l01Plain (x0 : Nat) : Bool := (spec_l01Plain.t x0).val
def spec_l01Plain.cd : Cd Nat (List V × Hp) := Cd.iso (Cd.pair (Cd.cons (Cd.fl .f32) Cd.nil) Cd.nil) (fun a => a.1.1) (fun a => ((a, ()), ())) (fun _ => rfl)
noncomputable def spec_l01Plain.tr (a : Nat) : T Bool := spec_l01Plain.t a
def spec_l01Plain.enc : Nat → Bool → V := fun a r => .bo r
noncomputable def spec_l01Plain.c : List V → Hp → T V := cdQ spec_l01Plain.cd (fun a => .leaf (spec_l01Plain.enc a (spec_l01Plain a)))
theorem spec_l01Plain.run (a : Nat) : runF spec_l01Plain.C Tryd.f76.results.toList spec_l01Plain.b (spec_l01Plain.cd.enc a).1 (spec_l01Plain.cd.enc a).2 = (spec_l01Plain.tr a).map fun r => (spec_l01Plain.enc a r, (spec_l01Plain.cd.enc a).2) := by kernel_rfl
theorem spec_l01Plain.cok : OKq Tryd.prog 76 spec_l01Plain.c := con_q' spec_l01Plain.cd spec_l01Plain.hC Tryd.func76 (by kernel_rfl) (by kernel_rfl) (by kernel_rfl) spec_l01Plain.lp (fun a => by kernel_rfl) spec_l01Plain.run (Tells.val (tree := spec_l01Plain.tr) fun a => by kernel_rfl)
/-! ### spec_l02Asked -/
noncomputable def spec_l02Asked.b : Code := bodyOf Tryd.f53
noncomputable def spec_l02Asked.C : Ctx := { ty := tys, fn := [(40, .q spec_l02Ok.c), (75, .q spec_l02Tight.c), (76, .q spec_l01Plain.c)], lp := [], n := 18, k := 1 }
theorem spec_l02Asked.hC : CtxOK Tryd.prog spec_l02Asked.C := CtxOK.of mo tys_ok (FnsOK.cons spec_l02Ok.cok (FnsOK.cons spec_l02Tight.cok (FnsOK.cons spec_l01Plain.cok FnsOK.nil)))
theorem spec_l02Asked.lp : LpOK Tryd.prog spec_l02Asked.C spec_l02Asked.b := (LpOK.nil (by kernel_rfl))
noncomputable def spec_l02Asked.t (x0 : Nat) (x1 : Nat) (x2 : Nat) (x3 : Nat) (x4 : Nat) (x5 : Nat) (x6 : Bool) : T Int :=
  .br (!(spec_l02Ok x2 x3 x4 x5 x6))
  (.leaf (1 : Int))
  (.br (!(spec_l02Tight x0))
   (.leaf (2 : Int))
   (.br (!(spec_l01Plain x1))
    (.leaf (2 : Int))
    (.leaf (0 : Int))))
noncomputable def spec_l02Asked (x0 : Nat) (x1 : Nat) (x2 : Nat) (x3 : Nat) (x4 : Nat) (x5 : Nat) (x6 : Bool) : Int := (spec_l02Asked.t x0 x1 x2 x3 x4 x5 x6).val
def spec_l02Asked.cd : Cd (Nat × Nat × Nat × Nat × Nat × Nat × Bool) (List V × Hp) := Cd.iso (Cd.pair (Cd.cons (Cd.pt 0 (Cd.natc 0)) (Cd.cons (Cd.fl .f32) (Cd.cons (Cd.fl .f32) Cd.nil))) (Cd.cons (Cd.rw 26 5 (Cd.vs (Cd.cons (Cd.fl .f32) (Cd.cons (Cd.fl .f32) (Cd.cons (Cd.fl .f32) (Cd.cons (Cd.fl .f32) (Cd.cons Cd.bo Cd.nil))))))) Cd.nil)) (fun a => (a.1.2.1, a.1.2.2.1, a.2.1.1, a.2.1.2.1, a.2.1.2.2.1, a.2.1.2.2.2.1, a.2.1.2.2.2.2.1)) (fun a => (((), (a.1, (a.2.1, ()))), ((a.2.2.1, (a.2.2.2.1, (a.2.2.2.2.1, (a.2.2.2.2.2.1, (a.2.2.2.2.2.2, ()))))), ()))) (fun _ => rfl)
noncomputable def spec_l02Asked.tr (a : Nat × Nat × Nat × Nat × Nat × Nat × Bool) : T Int := spec_l02Asked.t a.1 a.2.1 a.2.2.1 a.2.2.2.1 a.2.2.2.2.1 a.2.2.2.2.2.1 a.2.2.2.2.2.2
def spec_l02Asked.enc : (Nat × Nat × Nat × Nat × Nat × Nat × Bool) → Int → V := fun a r => .it .i64 r
noncomputable def spec_l02Asked.c : List V → Hp → T V := cdQ spec_l02Asked.cd (fun a => .leaf (spec_l02Asked.enc a (spec_l02Asked a.1 a.2.1 a.2.2.1 a.2.2.2.1 a.2.2.2.2.1 a.2.2.2.2.2.1 a.2.2.2.2.2.2)))
theorem spec_l02Asked.run (a : Nat × Nat × Nat × Nat × Nat × Nat × Bool) : runF spec_l02Asked.C Tryd.f53.results.toList spec_l02Asked.b (spec_l02Asked.cd.enc a).1 (spec_l02Asked.cd.enc a).2 = (spec_l02Asked.tr a).map fun r => (spec_l02Asked.enc a r, (spec_l02Asked.cd.enc a).2) := by kernel_rfl
theorem spec_l02Asked.cok : OKq Tryd.prog 53 spec_l02Asked.c := con_q' spec_l02Asked.cd spec_l02Asked.hC Tryd.func53 (by kernel_rfl) (by kernel_rfl) (by kernel_rfl) spec_l02Asked.lp (fun a => by kernel_rfl) spec_l02Asked.run (Tells.val (tree := spec_l02Asked.tr) fun a => by kernel_rfl)
/-! ### spec_l02Pull -/
noncomputable def spec_l02Pull.b : Code := bodyOf Tryd.f54
noncomputable def spec_l02Pull.C : Ctx := { ty := tys, fn := [(45, .q spec_l02Grip.c)], lp := [], n := 11, k := 1 }
theorem spec_l02Pull.hC : CtxOK Tryd.prog spec_l02Pull.C := CtxOK.of mo tys_ok (FnsOK.cons spec_l02Grip.cok FnsOK.nil)
theorem spec_l02Pull.lp : LpOK Tryd.prog spec_l02Pull.C spec_l02Pull.b := (LpOK.nil (by kernel_rfl))
noncomputable def spec_l02Pull.t (x0 : Nat) (x1 : Nat) (x2 : Nat) (x3 : Nat) (x4 : Nat) (x5 : Bool) : T Nat :=
  .br (spec_l02Grip.ok x1 x2 x3 x4 x5)
  (.leaf (fsub .f32 x0 (fdiv .f32 x0 (spec_l02Grip x1 x2 x3 x4 x5))))
  .bad
noncomputable def spec_l02Pull (x0 : Nat) (x1 : Nat) (x2 : Nat) (x3 : Nat) (x4 : Nat) (x5 : Bool) : Nat := (spec_l02Pull.t x0 x1 x2 x3 x4 x5).val
noncomputable def spec_l02Pull.ok (x0 : Nat) (x1 : Nat) (x2 : Nat) (x3 : Nat) (x4 : Nat) (x5 : Bool) : Bool := (spec_l02Pull.t x0 x1 x2 x3 x4 x5).ok
def spec_l02Pull.cd : Cd (Nat × Nat × Nat × Nat × Nat × Bool) (List V × Hp) := Cd.iso (Cd.pair (Cd.cons (Cd.pt 0 (Cd.natc 0)) (Cd.cons (Cd.fl .f32) Cd.nil)) (Cd.cons (Cd.rw 26 5 (Cd.vs (Cd.cons (Cd.fl .f32) (Cd.cons (Cd.fl .f32) (Cd.cons (Cd.fl .f32) (Cd.cons (Cd.fl .f32) (Cd.cons Cd.bo Cd.nil))))))) Cd.nil)) (fun a => (a.1.2.1, a.2.1.1, a.2.1.2.1, a.2.1.2.2.1, a.2.1.2.2.2.1, a.2.1.2.2.2.2.1)) (fun a => (((), (a.1, ())), ((a.2.1, (a.2.2.1, (a.2.2.2.1, (a.2.2.2.2.1, (a.2.2.2.2.2, ()))))), ()))) (fun _ => rfl)
noncomputable def spec_l02Pull.tr (a : Nat × Nat × Nat × Nat × Nat × Bool) : T Nat := spec_l02Pull.t a.1 a.2.1 a.2.2.1 a.2.2.2.1 a.2.2.2.2.1 a.2.2.2.2.2
def spec_l02Pull.enc : (Nat × Nat × Nat × Nat × Nat × Bool) → Nat → V := fun a r => .fl .f32 r
noncomputable def spec_l02Pull.c : List V → Hp → T V := cdQ spec_l02Pull.cd (fun a => .br (spec_l02Pull.ok a.1 a.2.1 a.2.2.1 a.2.2.2.1 a.2.2.2.2.1 a.2.2.2.2.2) (.leaf (spec_l02Pull.enc a (spec_l02Pull a.1 a.2.1 a.2.2.1 a.2.2.2.1 a.2.2.2.2.1 a.2.2.2.2.2))) .bad)
theorem spec_l02Pull.run (a : Nat × Nat × Nat × Nat × Nat × Bool) : runF spec_l02Pull.C Tryd.f54.results.toList spec_l02Pull.b (spec_l02Pull.cd.enc a).1 (spec_l02Pull.cd.enc a).2 = (spec_l02Pull.tr a).map fun r => (spec_l02Pull.enc a r, (spec_l02Pull.cd.enc a).2) := by kernel_rfl
theorem spec_l02Pull.cok : OKq Tryd.prog 54 spec_l02Pull.c := con_q' spec_l02Pull.cd spec_l02Pull.hC Tryd.func54 (by kernel_rfl) (by kernel_rfl) (by kernel_rfl) spec_l02Pull.lp (fun a => by kernel_rfl) spec_l02Pull.run (Tells.ok (tree := spec_l02Pull.tr))
/-! ### spec_PullOf -/
noncomputable def spec_PullOf.b : Code := bodyOf Tryd.f22
noncomputable def spec_PullOf.C : Ctx := { ty := tys, fn := [(53, .q spec_l02Asked.c), (54, .q spec_l02Pull.c)], lp := [], n := 14, k := 1 }
theorem spec_PullOf.hC : CtxOK Tryd.prog spec_PullOf.C := CtxOK.of mo tys_ok (FnsOK.cons spec_l02Asked.cok (FnsOK.cons spec_l02Pull.cok FnsOK.nil))
theorem spec_PullOf.lp : LpOK Tryd.prog spec_PullOf.C spec_PullOf.b := (LpOK.nil (by kernel_rfl))
noncomputable def spec_PullOf.t (x0 : Nat) (x1 : Nat) (x2 : Nat) (x3 : Nat) (x4 : Bool) (x5 : Nat) (x6 : Int) : T (Nat × Int) :=
  .br ((spec_l02Asked x5 0 x0 x1 x2 x3 x4) != (0 : Int))
  (.leaf (0, (spec_l02Asked x5 0 x0 x1 x2 x3 x4)))
  (.br (spec_l02Pull.ok x5 x0 x1 x2 x3 x4)
   (.leaf ((spec_l02Pull x5 x0 x1 x2 x3 x4), (0 : Int)))
   .bad)
noncomputable def spec_PullOf (x0 : Nat) (x1 : Nat) (x2 : Nat) (x3 : Nat) (x4 : Bool) (x5 : Nat) (x6 : Int) : Nat × Int := (spec_PullOf.t x0 x1 x2 x3 x4 x5 x6).val
noncomputable def spec_PullOf.ok (x0 : Nat) (x1 : Nat) (x2 : Nat) (x3 : Nat) (x4 : Bool) (x5 : Nat) (x6 : Int) : Bool := (spec_PullOf.t x0 x1 x2 x3 x4 x5 x6).ok
def spec_PullOf.cd : Cd (Nat × Nat × Nat × Nat × Bool × Nat × Int) (List V × Hp) := Cd.iso (Cd.pair (Cd.cons (Cd.agg (Cd.cons (Cd.fl .f32) (Cd.cons (Cd.fl .f32) (Cd.cons (Cd.fl .f32) (Cd.cons (Cd.fl .f32) (Cd.cons Cd.bo Cd.nil)))))) (Cd.cons (Cd.fl .f32) Cd.nil)) (Cd.cons (Cd.ro 0 2 (Cd.vs (Cd.cons (Cd.it .i64) Cd.nil))) Cd.nil)) (fun a => (a.1.1.1, a.1.1.2.1, a.1.1.2.2.1, a.1.1.2.2.2.1, a.1.1.2.2.2.2.1, a.1.2.1, a.2.1.1)) (fun a => (((a.1, (a.2.1, (a.2.2.1, (a.2.2.2.1, (a.2.2.2.2.1, ()))))), (a.2.2.2.2.2.1, ())), ((a.2.2.2.2.2.2, ()), ()))) (fun _ => rfl)
noncomputable def spec_PullOf.tr (a : Nat × Nat × Nat × Nat × Bool × Nat × Int) : T (Nat × Int) := spec_PullOf.t a.1 a.2.1 a.2.2.1 a.2.2.2.1 a.2.2.2.2.1 a.2.2.2.2.2.1 a.2.2.2.2.2.2
def spec_PullOf.enc : (Nat × Nat × Nat × Nat × Bool × Nat × Int) → (Nat × Int) → V := fun a r => .tup [.fl .f32 r.1, .it .i64 r.2]
noncomputable def spec_PullOf.c : List V → Hp → T V := cdQ spec_PullOf.cd (fun a => .br (spec_PullOf.ok a.1 a.2.1 a.2.2.1 a.2.2.2.1 a.2.2.2.2.1 a.2.2.2.2.2.1 a.2.2.2.2.2.2) (.leaf (spec_PullOf.enc a (spec_PullOf a.1 a.2.1 a.2.2.1 a.2.2.2.1 a.2.2.2.2.1 a.2.2.2.2.2.1 a.2.2.2.2.2.2))) .bad)
theorem spec_PullOf.run (a : Nat × Nat × Nat × Nat × Bool × Nat × Int) : runF spec_PullOf.C Tryd.f22.results.toList spec_PullOf.b (spec_PullOf.cd.enc a).1 (spec_PullOf.cd.enc a).2 = (spec_PullOf.tr a).map fun r => (spec_PullOf.enc a r, (spec_PullOf.cd.enc a).2) := by kernel_rfl
theorem spec_PullOf.cok : OKq Tryd.prog 22 spec_PullOf.c := con_q' spec_PullOf.cd spec_PullOf.hC Tryd.func22 (by kernel_rfl) (by kernel_rfl) (by kernel_rfl) spec_PullOf.lp (fun a => by kernel_rfl) spec_PullOf.run (Tells.ok (tree := spec_PullOf.tr))
/-! ### impl_Belt_torque -/
noncomputable def impl_Belt_torque.b : Code := bodyOf Tryd.f55
noncomputable def impl_Belt_torque.C : Ctx := { ty := tys, fn := [(51, .q impl_Belt_pull.c)], lp := [], n := 13, k := 1 }
theorem impl_Belt_torque.hC : CtxOK Tryd.prog impl_Belt_torque.C := CtxOK.of mo tys_ok (FnsOK.cons impl_Belt_pull.cok FnsOK.nil)
theorem impl_Belt_torque.lp : LpOK Tryd.prog impl_Belt_torque.C impl_Belt_torque.b := (LpOK.nil (by kernel_rfl))
noncomputable def impl_Belt_torque.t (x0 : Nat) (x1 : Nat) (x2 : Nat) (x3 : Nat) (x4 : Nat) (x5 : Bool) : T Nat :=
  .br (impl_Belt_pull.ok x0 x1 x2 x3 x4 x5)
  (.leaf (fmul .f32 (impl_Belt_pull x0 x1 x2 x3 x4 x5) x1))
  .bad
noncomputable def impl_Belt_torque (x0 : Nat) (x1 : Nat) (x2 : Nat) (x3 : Nat) (x4 : Nat) (x5 : Bool) : Nat := (impl_Belt_torque.t x0 x1 x2 x3 x4 x5).val
noncomputable def impl_Belt_torque.ok (x0 : Nat) (x1 : Nat) (x2 : Nat) (x3 : Nat) (x4 : Nat) (x5 : Bool) : Bool := (impl_Belt_torque.t x0 x1 x2 x3 x4 x5).ok
def impl_Belt_torque.cd : Cd (Nat × Nat × Nat × Nat × Nat × Bool) (List V × Hp) := Cd.iso (Cd.pair (Cd.cons (Cd.pt 0 (Cd.natc 0)) (Cd.cons (Cd.fl .f32) Cd.nil)) (Cd.cons (Cd.rw 26 5 (Cd.vs (Cd.cons (Cd.fl .f32) (Cd.cons (Cd.fl .f32) (Cd.cons (Cd.fl .f32) (Cd.cons (Cd.fl .f32) (Cd.cons Cd.bo Cd.nil))))))) Cd.nil)) (fun a => (a.1.2.1, a.2.1.1, a.2.1.2.1, a.2.1.2.2.1, a.2.1.2.2.2.1, a.2.1.2.2.2.2.1)) (fun a => (((), (a.1, ())), ((a.2.1, (a.2.2.1, (a.2.2.2.1, (a.2.2.2.2.1, (a.2.2.2.2.2, ()))))), ()))) (fun _ => rfl)
noncomputable def impl_Belt_torque.tr (a : Nat × Nat × Nat × Nat × Nat × Bool) : T Nat := impl_Belt_torque.t a.1 a.2.1 a.2.2.1 a.2.2.2.1 a.2.2.2.2.1 a.2.2.2.2.2
def impl_Belt_torque.enc : (Nat × Nat × Nat × Nat × Nat × Bool) → Nat → V := fun a r => .fl .f32 r
noncomputable def impl_Belt_torque.c : List V → Hp → T V := cdQ impl_Belt_torque.cd (fun a => .br (impl_Belt_torque.ok a.1 a.2.1 a.2.2.1 a.2.2.2.1 a.2.2.2.2.1 a.2.2.2.2.2) (.leaf (impl_Belt_torque.enc a (impl_Belt_torque a.1 a.2.1 a.2.2.1 a.2.2.2.1 a.2.2.2.2.1 a.2.2.2.2.2))) .bad)
theorem impl_Belt_torque.run (a : Nat × Nat × Nat × Nat × Nat × Bool) : runF impl_Belt_torque.C Tryd.f55.results.toList impl_Belt_torque.b (impl_Belt_torque.cd.enc a).1 (impl_Belt_torque.cd.enc a).2 = (impl_Belt_torque.tr a).map fun r => (impl_Belt_torque.enc a r, (impl_Belt_torque.cd.enc a).2) := by kernel_rfl
theorem impl_Belt_torque.cok : OKq Tryd.prog 55 impl_Belt_torque.c := con_q' impl_Belt_torque.cd impl_Belt_torque.hC Tryd.func55 (by kernel_rfl) (by kernel_rfl) (by kernel_rfl) impl_Belt_torque.lp (fun a => by kernel_rfl) impl_Belt_torque.run (Tells.ok (tree := impl_Belt_torque.tr))
/-! ### impl_TorqueOf -/
noncomputable def impl_TorqueOf.b : Code := bodyOf Tryd.f23
noncomputable def impl_TorqueOf.C : Ctx := { ty := tys, fn := [(55, .q impl_Belt_torque.c), (52, .q impl_isAmount.c), (39, .q impl_beltCode.c), (37, .q impl_orZero.c)], lp := [], n := 15, k := 1 }
theorem impl_TorqueOf.hC : CtxOK Tryd.prog impl_TorqueOf.C := CtxOK.of mo tys_ok (FnsOK.cons impl_Belt_torque.cok (FnsOK.cons impl_isAmount.cok (FnsOK.cons impl_beltCode.cok (FnsOK.cons impl_orZero.cok FnsOK.nil))))
theorem impl_TorqueOf.lp : LpOK Tryd.prog impl_TorqueOf.C impl_TorqueOf.b := (LpOK.nil (by kernel_rfl))
noncomputable def impl_TorqueOf.t (x0 : Nat) (x1 : Nat) (x2 : Nat) (x3 : Nat) (x4 : Bool) (x5 : Nat) (x6 : Int) : T (Nat × Int) :=
  .br (impl_Belt_torque.ok x5 x0 x1 x2 x3 x4)
  (.leaf ((impl_orZero (impl_Belt_torque x5 x0 x1 x2 x3 x4) (impl_beltCode x0 x1 x2 x3 x4 (impl_isAmount x5))).1, (impl_orZero (impl_Belt_torque x5 x0 x1 x2 x3 x4) (impl_beltCode x0 x1 x2 x3 x4 (impl_isAmount x5))).2))
  .bad
noncomputable def impl_TorqueOf (x0 : Nat) (x1 : Nat) (x2 : Nat) (x3 : Nat) (x4 : Bool) (x5 : Nat) (x6 : Int) : Nat × Int := (impl_TorqueOf.t x0 x1 x2 x3 x4 x5 x6).val
noncomputable def impl_TorqueOf.ok (x0 : Nat) (x1 : Nat) (x2 : Nat) (x3 : Nat) (x4 : Bool) (x5 : Nat) (x6 : Int) : Bool := (impl_TorqueOf.t x0 x1 x2 x3 x4 x5 x6).ok
def impl_TorqueOf.cd : Cd (Nat × Nat × Nat × Nat × Bool × Nat × Int) (List V × Hp) := Cd.iso (Cd.pair (Cd.cons (Cd.agg (Cd.cons (Cd.fl .f32) (Cd.cons (Cd.fl .f32) (Cd.cons (Cd.fl .f32) (Cd.cons (Cd.fl .f32) (Cd.cons Cd.bo Cd.nil)))))) (Cd.cons (Cd.fl .f32) Cd.nil)) (Cd.cons (Cd.ro 0 2 (Cd.vs (Cd.cons (Cd.it .i64) Cd.nil))) Cd.nil)) (fun a => (a.1.1.1, a.1.1.2.1, a.1.1.2.2.1, a.1.1.2.2.2.1, a.1.1.2.2.2.2.1, a.1.2.1, a.2.1.1)) (fun a => (((a.1, (a.2.1, (a.2.2.1, (a.2.2.2.1, (a.2.2.2.2.1, ()))))), (a.2.2.2.2.2.1, ())), ((a.2.2.2.2.2.2, ()), ()))) (fun _ => rfl)
noncomputable def impl_TorqueOf.tr (a : Nat × Nat × Nat × Nat × Bool × Nat × Int) : T (Nat × Int) := impl_TorqueOf.t a.1 a.2.1 a.2.2.1 a.2.2.2.1 a.2.2.2.2.1 a.2.2.2.2.2.1 a.2.2.2.2.2.2
def impl_TorqueOf.enc : (Nat × Nat × Nat × Nat × Bool × Nat × Int) → (Nat × Int) → V := fun a r => .tup [.fl .f32 r.1, .it .i64 r.2]
noncomputable def impl_TorqueOf.c : List V → Hp → T V := cdQ impl_TorqueOf.cd (fun a => .br (impl_TorqueOf.ok a.1 a.2.1 a.2.2.1 a.2.2.2.1 a.2.2.2.2.1 a.2.2.2.2.2.1 a.2.2.2.2.2.2) (.leaf (impl_TorqueOf.enc a (impl_TorqueOf a.1 a.2.1 a.2.2.1 a.2.2.2.1 a.2.2.2.2.1 a.2.2.2.2.2.1 a.2.2.2.2.2.2))) .bad)
theorem impl_TorqueOf.run (a : Nat × Nat × Nat × Nat × Bool × Nat × Int) : runF impl_TorqueOf.C Tryd.f23.results.toList impl_TorqueOf.b (impl_TorqueOf.cd.enc a).1 (impl_TorqueOf.cd.enc a).2 = (impl_TorqueOf.tr a).map fun r => (impl_TorqueOf.enc a r, (impl_TorqueOf.cd.enc a).2) := by kernel_rfl
theorem impl_TorqueOf.cok : OKq Tryd.prog 23 impl_TorqueOf.c := con_q' impl_TorqueOf.cd impl_TorqueOf.hC Tryd.func23 (by kernel_rfl) (by kernel_rfl) (by kernel_rfl) impl_TorqueOf.lp (fun a => by kernel_rfl) impl_TorqueOf.run (Tells.ok (tree := impl_TorqueOf.tr))
/-! ### spec_l01Few -/
noncomputable def spec_l01Few.b : Code := bodyOf Tryd.f56
noncomputable def spec_l01Few.C : Ctx := { ty := tys, fn := [(65, .e spec_l00Src_pick.c)], lp := [], n := 8, k := 2 }
theorem spec_l01Few.hC : CtxOK Tryd.prog spec_l01Few.C := CtxOK.of mo tys_ok (FnsOK.cons spec_l00Src_pick.cok FnsOK.nil)
theorem spec_l01Few.lp : LpOK Tryd.prog spec_l01Few.C spec_l01Few.b := (LpOK.nil (by kernel_rfl))
noncomputable def spec_l01Few.t (x0 : Nat) (x1 : Int) (x2 : Int) (x3 : List Int) : T (Nat × Nat × Int × Int) :=
  let y46 := (spec_l00Src_pick (65 : Int) x0 x1 x2 x3)
  .br (spec_l00Src_pick.ok (65 : Int) x0 x1 x2 x3)
  (.leaf ((fdiv .f32 (fofint .f32 (IntKind.wrap .i64 (y46.1 - (32 : Int)))) 1082130432), y46.2.1, y46.2.2.1, y46.2.2.2))
  .bad
noncomputable def spec_l01Few (x0 : Nat) (x1 : Int) (x2 : Int) (x3 : List Int) : Nat × Nat × Int × Int := (spec_l01Few.t x0 x1 x2 x3).val
noncomputable def spec_l01Few.ok (x0 : Nat) (x1 : Int) (x2 : Int) (x3 : List Int) : Bool := (spec_l01Few.t x0 x1 x2 x3).ok
def spec_l01Few.cd : Cd (Nat × Int × Int × List Int) (List V × Hp) := Cd.iso (Cd.pair (Cd.cons (Cd.pt 0 (Cd.natc 0)) Cd.nil) (Cd.cons (Cd.rw 73 3 (Cd.vs (Cd.cons (Cd.sl 1 (Cd.natc 0)) (Cd.cons (Cd.it .i64) (Cd.cons (Cd.it .u64) Cd.nil))))) (Cd.cons (Cd.ro 0 0 (Cd.is .u8)) Cd.nil))) (fun a => (a.2.1.1.2, a.2.1.2.1, a.2.1.2.2.1, a.2.2.1)) (fun a => (((), ()), ((((), a.1), (a.2.1, (a.2.2.1, ()))), (a.2.2.2, ())))) (fun _ => rfl)
noncomputable def spec_l01Few.tr (a : Nat × Int × Int × List Int) : T (Nat × Nat × Int × Int) := spec_l01Few.t a.1 a.2.1 a.2.2.1 a.2.2.2
def spec_l01Few.enc : (Nat × Int × Int × List Int) → (Nat × Nat × Int × Int) → V × Hp := fun a r => (.fl .f32 r.1, [some ⟨true, 73, 3, .vs [.sl 1 0 r.2.1, .it .i64 r.2.2.1, .it .u64 r.2.2.2]⟩, some ⟨false, 0, 0, .is .u8 a.2.2.2⟩])
noncomputable def spec_l01Few.c : List V → Hp → T (V × Hp) := cdE spec_l01Few.cd (fun a => .br (spec_l01Few.ok a.1 a.2.1 a.2.2.1 a.2.2.2) (.leaf (spec_l01Few.enc a (spec_l01Few a.1 a.2.1 a.2.2.1 a.2.2.2))) .bad)
theorem spec_l01Few.run (a : Nat × Int × Int × List Int) : runF spec_l01Few.C Tryd.f56.results.toList spec_l01Few.b (spec_l01Few.cd.enc a).1 (spec_l01Few.cd.enc a).2 = (spec_l01Few.tr a).map (spec_l01Few.enc a) := by kernel_rfl
theorem spec_l01Few.cok : OKe Tryd.prog 56 spec_l01Few.c := con_e' spec_l01Few.cd spec_l01Few.hC Tryd.func56 (by kernel_rfl) (by kernel_rfl) (by kernel_rfl) spec_l01Few.lp (fun a => by kernel_rfl) spec_l01Few.run (Tells.ok (tree := spec_l01Few.tr))
/-! ### spec_A2Number -/
noncomputable def spec_A2Number.b : Code := bodyOf Tryd.f24
noncomputable def spec_A2Number.C : Ctx := { ty := tys, fn := [(33, .e spec_l00From.c), (56, .e spec_l01Few.c)], lp := [], n := 6, k := 2 }
theorem spec_A2Number.hC : CtxOK Tryd.prog spec_A2Number.C := CtxOK.of mo tys_ok (FnsOK.cons spec_l00From.cok (FnsOK.cons spec_l01Few.cok FnsOK.nil))
theorem spec_A2Number.lp : LpOK Tryd.prog spec_A2Number.C spec_A2Number.b := (LpOK.nil (by kernel_rfl))
noncomputable def spec_A2Number.t (x0 : Nat) (x1 : Int) (x2 : List Int) : T Nat :=
  let y45 := (spec_l00From x0 x2)
  let y47 := (spec_l01Few y45.1 y45.2.1 y45.2.2 x2)
  .br (spec_l01Few.ok y45.1 y45.2.1 y45.2.2 x2)
  (.leaf y47.1)
  .bad
noncomputable def spec_A2Number (x0 : Nat) (x1 : Int) (x2 : List Int) : Nat := (spec_A2Number.t x0 x1 x2).val
noncomputable def spec_A2Number.ok (x0 : Nat) (x1 : Int) (x2 : List Int) : Bool := (spec_A2Number.t x0 x1 x2).ok
def spec_A2Number.cd : Cd (Nat × Int × List Int) (List V × Hp) := Cd.iso (Cd.pair (Cd.cons (Cd.sl 1 (Cd.natc 0)) Cd.nil) (Cd.cons (Cd.ro 0 2 (Cd.vs (Cd.cons (Cd.it .i64) Cd.nil))) (Cd.cons (Cd.ro 0 0 (Cd.is .u8)) Cd.nil))) (fun a => (a.1.1.2, a.2.1.1, a.2.2.1)) (fun a => ((((), a.1), ()), ((a.2.1, ()), (a.2.2, ())))) (fun _ => rfl)
noncomputable def spec_A2Number.tr (a : Nat × Int × List Int) : T Nat := spec_A2Number.t a.1 a.2.1 a.2.2
def spec_A2Number.enc : (Nat × Int × List Int) → Nat → V := fun a r => .fl .f32 r
noncomputable def spec_A2Number.c : List V → Hp → T V := cdQ spec_A2Number.cd (fun a => .br (spec_A2Number.ok a.1 a.2.1 a.2.2) (.leaf (spec_A2Number.enc a (spec_A2Number a.1 a.2.1 a.2.2))) .bad)
theorem spec_A2Number.run (a : Nat × Int × List Int) : runF spec_A2Number.C Tryd.f24.results.toList spec_A2Number.b (spec_A2Number.cd.enc a).1 (spec_A2Number.cd.enc a).2 = (spec_A2Number.tr a).map fun r => (spec_A2Number.enc a r, (spec_A2Number.cd.enc a).2) := by kernel_rfl
theorem spec_A2Number.cok : OKq Tryd.prog 24 spec_A2Number.c := con_q' spec_A2Number.cd spec_A2Number.hC Tryd.func24 (by kernel_rfl) (by kernel_rfl) (by kernel_rfl) spec_A2Number.lp (fun a => by kernel_rfl) spec_A2Number.run (Tells.ok (tree := spec_A2Number.tr))
/-! ### impl_IsPlain -/
noncomputable def impl_IsPlain.b : Code := bodyOf Tryd.f57
noncomputable def impl_IsPlain.C : Ctx := { ty := tys, fn := [(49, .q impl_between.c)], lp := [], n := 5, k := 0 }
theorem impl_IsPlain.hC : CtxOK Tryd.prog impl_IsPlain.C := CtxOK.of mo tys_ok (FnsOK.cons impl_between.cok FnsOK.nil)
theorem impl_IsPlain.lp : LpOK Tryd.prog impl_IsPlain.C impl_IsPlain.b := (LpOK.nil (by kernel_rfl))
noncomputable def impl_IsPlain.t (x0 : Nat) : T Bool :=
  .leaf (impl_between x0 3380609024 1233125376)
noncomputable def impl_IsPlain (x0 : Nat) : Bool := (impl_IsPlain.t x0).val
def impl_IsPlain.cd : Cd Nat (List V × Hp) := Cd.iso (Cd.pair (Cd.cons (Cd.fl .f32) Cd.nil) Cd.nil) (fun a => a.1.1) (fun a => ((a, ()), ())) (fun _ => rfl)
noncomputable def impl_IsPlain.tr (a : Nat) : T Bool := impl_IsPlain.t a
def impl_IsPlain.enc : Nat → Bool → V := fun a r => .bo r
noncomputable def impl_IsPlain.c : List V → Hp → T V := cdQ impl_IsPlain.cd (fun a => .leaf (impl_IsPlain.enc a (impl_IsPlain a)))
theorem impl_IsPlain.run (a : Nat) : runF impl_IsPlain.C Tryd.f57.results.toList impl_IsPlain.b (impl_IsPlain.cd.enc a).1 (impl_IsPlain.cd.enc a).2 = (impl_IsPlain.tr a).map fun r => (impl_IsPlain.enc a r, (impl_IsPlain.cd.enc a).2) := by kernel_rfl
theorem impl_IsPlain.cok : OKq Tryd.prog 57 impl_IsPlain.c := con_q' impl_IsPlain.cd impl_IsPlain.hC Tryd.func57 (by kernel_rfl) (by kernel_rfl) (by kernel_rfl) impl_IsPlain.lp (fun a => by kernel_rfl) impl_IsPlain.run (Tells.val (tree := impl_IsPlain.tr) fun a => by kernel_rfl)
/-! ### impl_size -/
noncomputable def impl_size.b : Code := bodyOf Tryd.f58
noncomputable def impl_size.C : Ctx := { ty := tys, fn := [], lp := [], n := 8, k := 0 }
theorem impl_size.hC : CtxOK Tryd.prog impl_size.C := CtxOK.of mo tys_ok FnsOK.nil
theorem impl_size.lp : LpOK Tryd.prog impl_size.C impl_size.b := (LpOK.nil (by kernel_rfl))
noncomputable def impl_size.t (x0 : Nat) : T Nat :=
  .br (flt .f32 x0 0)
  (.leaf (fsub .f32 0 x0))
  (.leaf x0)
noncomputable def impl_size (x0 : Nat) : Nat := (impl_size.t x0).val
def impl_size.cd : Cd Nat (List V × Hp) := Cd.iso (Cd.pair (Cd.cons (Cd.fl .f32) Cd.nil) Cd.nil) (fun a => a.1.1) (fun a => ((a, ()), ())) (fun _ => rfl)
noncomputable def impl_size.tr (a : Nat) : T Nat := impl_size.t a
def impl_size.enc : Nat → Nat → V := fun a r => .fl .f32 r
noncomputable def impl_size.c : List V → Hp → T V := cdQ impl_size.cd (fun a => .leaf (impl_size.enc a (impl_size a)))
theorem impl_size.run (a : Nat) : runF impl_size.C Tryd.f58.results.toList impl_size.b (impl_size.cd.enc a).1 (impl_size.cd.enc a).2 = (impl_size.tr a).map fun r => (impl_size.enc a r, (impl_size.cd.enc a).2) := by kernel_rfl
theorem impl_size.cok : OKq Tryd.prog 58 impl_size.c := con_q' impl_size.cd impl_size.hC Tryd.func58 (by kernel_rfl) (by kernel_rfl) (by kernel_rfl) impl_size.lp (fun a => by kernel_rfl) impl_size.run (Tells.val (tree := impl_size.tr) fun a => by kernel_rfl)
/-! ### impl_SlipFor -/
noncomputable def impl_SlipFor.b : Code := bodyOf Tryd.f25
noncomputable def impl_SlipFor.C : Ctx := { ty := tys, fn := [(52, .q impl_isAmount.c), (57, .q impl_IsPlain.c), (39, .q impl_beltCode.c), (51, .q impl_Belt_pull.c), (58, .q impl_size.c)], lp := [], n := 40, k := 1 }
theorem impl_SlipFor.hC : CtxOK Tryd.prog impl_SlipFor.C := CtxOK.of mo tys_ok (FnsOK.cons impl_isAmount.cok (FnsOK.cons impl_IsPlain.cok (FnsOK.cons impl_beltCode.cok (FnsOK.cons impl_Belt_pull.cok (FnsOK.cons impl_size.cok FnsOK.nil)))))
theorem impl_SlipFor.lp : LpOK Tryd.prog impl_SlipFor.C impl_SlipFor.b := (LpOK.nil (by kernel_rfl))
noncomputable def impl_SlipFor.t (x0 : Nat) (x1 : Nat) (x2 : Nat) (x3 : Nat) (x4 : Bool) (x5 : Nat) (x6 : Nat) (x7 : Int) : T (Nat × Int) :=
  .br (impl_isAmount x5)
  (.br ((impl_beltCode x0 x1 x2 x3 x4 (impl_IsPlain x6)) != (0 : Int))
   (.leaf (0, (impl_beltCode x0 x1 x2 x3 x4 (impl_IsPlain x6))))
   (.br (impl_Belt_pull.ok x5 x0 x1 x2 x3 x4)
    (.br (feq .f32 (fdiv .f32 (impl_size x6) x0) 0)
     (.leaf (0, (0 : Int)))
     (.br (fge .f32 (fdiv .f32 (impl_size x6) x0) (impl_Belt_pull x5 x0 x1 x2 x3 x4))
      (.leaf (1065353216, (0 : Int)))
      (.leaf ((fdiv .f32 (fdiv .f32 (fdiv .f32 (impl_size x6) x0) (impl_Belt_pull x5 x0 x1 x2 x3 x4)) 1115684864), (0 : Int)))))
    .bad))
  (.br ((impl_beltCode x0 x1 x2 x3 x4 false) != (0 : Int))
   (.leaf (0, (impl_beltCode x0 x1 x2 x3 x4 false)))
   (.br (impl_Belt_pull.ok x5 x0 x1 x2 x3 x4)
    (.br (feq .f32 (fdiv .f32 (impl_size x6) x0) 0)
     (.leaf (0, (0 : Int)))
     (.br (fge .f32 (fdiv .f32 (impl_size x6) x0) (impl_Belt_pull x5 x0 x1 x2 x3 x4))
      (.leaf (1065353216, (0 : Int)))
      (.leaf ((fdiv .f32 (fdiv .f32 (fdiv .f32 (impl_size x6) x0) (impl_Belt_pull x5 x0 x1 x2 x3 x4)) 1115684864), (0 : Int)))))
    .bad))
noncomputable def impl_SlipFor (x0 : Nat) (x1 : Nat) (x2 : Nat) (x3 : Nat) (x4 : Bool) (x5 : Nat) (x6 : Nat) (x7 : Int) : Nat × Int := (impl_SlipFor.t x0 x1 x2 x3 x4 x5 x6 x7).val
noncomputable def impl_SlipFor.ok (x0 : Nat) (x1 : Nat) (x2 : Nat) (x3 : Nat) (x4 : Bool) (x5 : Nat) (x6 : Nat) (x7 : Int) : Bool := (impl_SlipFor.t x0 x1 x2 x3 x4 x5 x6 x7).ok
def impl_SlipFor.cd : Cd (Nat × Nat × Nat × Nat × Bool × Nat × Nat × Int) (List V × Hp) := Cd.iso (Cd.pair (Cd.cons (Cd.agg (Cd.cons (Cd.fl .f32) (Cd.cons (Cd.fl .f32) (Cd.cons (Cd.fl .f32) (Cd.cons (Cd.fl .f32) (Cd.cons Cd.bo Cd.nil)))))) (Cd.cons (Cd.fl .f32) (Cd.cons (Cd.fl .f32) Cd.nil))) (Cd.cons (Cd.ro 0 2 (Cd.vs (Cd.cons (Cd.it .i64) Cd.nil))) Cd.nil)) (fun a => (a.1.1.1, a.1.1.2.1, a.1.1.2.2.1, a.1.1.2.2.2.1, a.1.1.2.2.2.2.1, a.1.2.1, a.1.2.2.1, a.2.1.1)) (fun a => (((a.1, (a.2.1, (a.2.2.1, (a.2.2.2.1, (a.2.2.2.2.1, ()))))), (a.2.2.2.2.2.1, (a.2.2.2.2.2.2.1, ()))), ((a.2.2.2.2.2.2.2, ()), ()))) (fun _ => rfl)
noncomputable def impl_SlipFor.tr (a : Nat × Nat × Nat × Nat × Bool × Nat × Nat × Int) : T (Nat × Int) := impl_SlipFor.t a.1 a.2.1 a.2.2.1 a.2.2.2.1 a.2.2.2.2.1 a.2.2.2.2.2.1 a.2.2.2.2.2.2.1 a.2.2.2.2.2.2.2
def impl_SlipFor.enc : (Nat × Nat × Nat × Nat × Bool × Nat × Nat × Int) → (Nat × Int) → V := fun a r => .tup [.fl .f32 r.1, .it .i64 r.2]
noncomputable def impl_SlipFor.c : List V → Hp → T V := cdQ impl_SlipFor.cd (fun a => .br (impl_SlipFor.ok a.1 a.2.1 a.2.2.1 a.2.2.2.1 a.2.2.2.2.1 a.2.2.2.2.2.1 a.2.2.2.2.2.2.1 a.2.2.2.2.2.2.2) (.leaf (impl_SlipFor.enc a (impl_SlipFor a.1 a.2.1 a.2.2.1 a.2.2.2.1 a.2.2.2.2.1 a.2.2.2.2.2.1 a.2.2.2.2.2.2.1 a.2.2.2.2.2.2.2))) .bad)
theorem impl_SlipFor.run (a : Nat × Nat × Nat × Nat × Bool × Nat × Nat × Int) : runF impl_SlipFor.C Tryd.f25.results.toList impl_SlipFor.b (impl_SlipFor.cd.enc a).1 (impl_SlipFor.cd.enc a).2 = (impl_SlipFor.tr a).map fun r => (impl_SlipFor.enc a r, (impl_SlipFor.cd.enc a).2) := by kernel_rfl
theorem impl_SlipFor.cok : OKq Tryd.prog 25 impl_SlipFor.c := con_q' impl_SlipFor.cd impl_SlipFor.hC Tryd.func25 (by kernel_rfl) (by kernel_rfl) (by kernel_rfl) impl_SlipFor.lp (fun a => by kernel_rfl) impl_SlipFor.run (Tells.ok (tree := impl_SlipFor.tr))
/-! ### spec_SlipFor -/
noncomputable def spec_SlipFor.b : Code := bodyOf Tryd.f26
noncomputable def spec_SlipFor.C : Ctx := { ty := tys, fn := [(53, .q spec_l02Asked.c), (54, .q spec_l02Pull.c), (50, .q spec_l01Size.c)], lp := [], n := 35, k := 1 }
theorem spec_SlipFor.hC : CtxOK Tryd.prog spec_SlipFor.C := CtxOK.of mo tys_ok (FnsOK.cons spec_l02Asked.cok (FnsOK.cons spec_l02Pull.cok (FnsOK.cons spec_l01Size.cok FnsOK.nil)))
theorem spec_SlipFor.lp : LpOK Tryd.prog spec_SlipFor.C spec_SlipFor.b := (LpOK.nil (by kernel_rfl))
noncomputable def spec_SlipFor.t (x0 : Nat) (x1 : Nat) (x2 : Nat) (x3 : Nat) (x4 : Bool) (x5 : Nat) (x6 : Nat) (x7 : Int) : T (Nat × Int) :=
  .br ((spec_l02Asked x5 x6 x0 x1 x2 x3 x4) != (0 : Int))
  (.leaf (0, (spec_l02Asked x5 x6 x0 x1 x2 x3 x4)))
  (.br (spec_l02Pull.ok x5 x0 x1 x2 x3 x4)
   (.br (feq .f32 (fdiv .f32 (spec_l01Size x6) x0) 0)
    (.leaf (0, (0 : Int)))
    (.br (fge .f32 (fdiv .f32 (spec_l01Size x6) x0) (spec_l02Pull x5 x0 x1 x2 x3 x4))
     (.leaf (1065353216, (0 : Int)))
     (.leaf ((fdiv .f32 (fdiv .f32 (fdiv .f32 (spec_l01Size x6) x0) (spec_l02Pull x5 x0 x1 x2 x3 x4)) 1115684864), (0 : Int)))))
   .bad)
noncomputable def spec_SlipFor (x0 : Nat) (x1 : Nat) (x2 : Nat) (x3 : Nat) (x4 : Bool) (x5 : Nat) (x6 : Nat) (x7 : Int) : Nat × Int := (spec_SlipFor.t x0 x1 x2 x3 x4 x5 x6 x7).val
noncomputable def spec_SlipFor.ok (x0 : Nat) (x1 : Nat) (x2 : Nat) (x3 : Nat) (x4 : Bool) (x5 : Nat) (x6 : Nat) (x7 : Int) : Bool := (spec_SlipFor.t x0 x1 x2 x3 x4 x5 x6 x7).ok
def spec_SlipFor.cd : Cd (Nat × Nat × Nat × Nat × Bool × Nat × Nat × Int) (List V × Hp) := Cd.iso (Cd.pair (Cd.cons (Cd.agg (Cd.cons (Cd.fl .f32) (Cd.cons (Cd.fl .f32) (Cd.cons (Cd.fl .f32) (Cd.cons (Cd.fl .f32) (Cd.cons Cd.bo Cd.nil)))))) (Cd.cons (Cd.fl .f32) (Cd.cons (Cd.fl .f32) Cd.nil))) (Cd.cons (Cd.ro 0 2 (Cd.vs (Cd.cons (Cd.it .i64) Cd.nil))) Cd.nil)) (fun a => (a.1.1.1, a.1.1.2.1, a.1.1.2.2.1, a.1.1.2.2.2.1, a.1.1.2.2.2.2.1, a.1.2.1, a.1.2.2.1, a.2.1.1)) (fun a => (((a.1, (a.2.1, (a.2.2.1, (a.2.2.2.1, (a.2.2.2.2.1, ()))))), (a.2.2.2.2.2.1, (a.2.2.2.2.2.2.1, ()))), ((a.2.2.2.2.2.2.2, ()), ()))) (fun _ => rfl)
noncomputable def spec_SlipFor.tr (a : Nat × Nat × Nat × Nat × Bool × Nat × Nat × Int) : T (Nat × Int) := spec_SlipFor.t a.1 a.2.1 a.2.2.1 a.2.2.2.1 a.2.2.2.2.1 a.2.2.2.2.2.1 a.2.2.2.2.2.2.1 a.2.2.2.2.2.2.2
def spec_SlipFor.enc : (Nat × Nat × Nat × Nat × Bool × Nat × Nat × Int) → (Nat × Int) → V := fun a r => .tup [.fl .f32 r.1, .it .i64 r.2]
noncomputable def spec_SlipFor.c : List V → Hp → T V := cdQ spec_SlipFor.cd (fun a => .br (spec_SlipFor.ok a.1 a.2.1 a.2.2.1 a.2.2.2.1 a.2.2.2.2.1 a.2.2.2.2.2.1 a.2.2.2.2.2.2.1 a.2.2.2.2.2.2.2) (.leaf (spec_SlipFor.enc a (spec_SlipFor a.1 a.2.1 a.2.2.1 a.2.2.2.1 a.2.2.2.2.1 a.2.2.2.2.2.1 a.2.2.2.2.2.2.1 a.2.2.2.2.2.2.2))) .bad)
theorem spec_SlipFor.run (a : Nat × Nat × Nat × Nat × Bool × Nat × Nat × Int) : runF spec_SlipFor.C Tryd.f26.results.toList spec_SlipFor.b (spec_SlipFor.cd.enc a).1 (spec_SlipFor.cd.enc a).2 = (spec_SlipFor.tr a).map fun r => (spec_SlipFor.enc a r, (spec_SlipFor.cd.enc a).2) := by kernel_rfl
theorem spec_SlipFor.cok : OKq Tryd.prog 26 spec_SlipFor.c := con_q' spec_SlipFor.cd spec_SlipFor.hC Tryd.func26 (by kernel_rfl) (by kernel_rfl) (by kernel_rfl) spec_SlipFor.lp (fun a => by kernel_rfl) spec_SlipFor.run (Tells.ok (tree := spec_SlipFor.tr))
/-! ### impl_Belt_out -/
noncomputable def impl_Belt_out.b : Code := bodyOf Tryd.f59
noncomputable def impl_Belt_out.C : Ctx := { ty := tys, fn := [], lp := [], n := 28, k := 1 }
theorem impl_Belt_out.hC : CtxOK Tryd.prog impl_Belt_out.C := CtxOK.of mo tys_ok FnsOK.nil
theorem impl_Belt_out.lp : LpOK Tryd.prog impl_Belt_out.C impl_Belt_out.b := (LpOK.nil (by kernel_rfl))
noncomputable def impl_Belt_out.t (x0 : Nat) (x1 : Nat) (x2 : Nat) (x3 : Nat) (x4 : Nat) (x5 : Nat) (x6 : Bool) : T Nat :=
  .br x6
  (.leaf (fneg .f32 (fmul .f32 (fmul .f32 x0 (fdiv .f32 x2 x3)) (fsub .f32 1065353216 x1))))
  (.leaf (fmul .f32 (fmul .f32 x0 (fdiv .f32 x2 x3)) (fsub .f32 1065353216 x1)))
noncomputable def impl_Belt_out (x0 : Nat) (x1 : Nat) (x2 : Nat) (x3 : Nat) (x4 : Nat) (x5 : Nat) (x6 : Bool) : Nat := (impl_Belt_out.t x0 x1 x2 x3 x4 x5 x6).val
def impl_Belt_out.cd : Cd (Nat × Nat × Nat × Nat × Nat × Nat × Bool) (List V × Hp) := Cd.iso (Cd.pair (Cd.cons (Cd.pt 0 (Cd.natc 0)) (Cd.cons (Cd.fl .f32) (Cd.cons (Cd.fl .f32) Cd.nil))) (Cd.cons (Cd.rw 26 5 (Cd.vs (Cd.cons (Cd.fl .f32) (Cd.cons (Cd.fl .f32) (Cd.cons (Cd.fl .f32) (Cd.cons (Cd.fl .f32) (Cd.cons Cd.bo Cd.nil))))))) Cd.nil)) (fun a => (a.1.2.1, a.1.2.2.1, a.2.1.1, a.2.1.2.1, a.2.1.2.2.1, a.2.1.2.2.2.1, a.2.1.2.2.2.2.1)) (fun a => (((), (a.1, (a.2.1, ()))), ((a.2.2.1, (a.2.2.2.1, (a.2.2.2.2.1, (a.2.2.2.2.2.1, (a.2.2.2.2.2.2, ()))))), ()))) (fun _ => rfl)
noncomputable def impl_Belt_out.tr (a : Nat × Nat × Nat × Nat × Nat × Nat × Bool) : T Nat := impl_Belt_out.t a.1 a.2.1 a.2.2.1 a.2.2.2.1 a.2.2.2.2.1 a.2.2.2.2.2.1 a.2.2.2.2.2.2
def impl_Belt_out.enc : (Nat × Nat × Nat × Nat × Nat × Nat × Bool) → Nat → V := fun a r => .fl .f32 r
noncomputable def impl_Belt_out.c : List V → Hp → T V := cdQ impl_Belt_out.cd (fun a => .leaf (impl_Belt_out.enc a (impl_Belt_out a.1 a.2.1 a.2.2.1 a.2.2.2.1 a.2.2.2.2.1 a.2.2.2.2.2.1 a.2.2.2.2.2.2)))
theorem impl_Belt_out.run (a : Nat × Nat × Nat × Nat × Nat × Nat × Bool) : runF impl_Belt_out.C Tryd.f59.results.toList impl_Belt_out.b (impl_Belt_out.cd.enc a).1 (impl_Belt_out.cd.enc a).2 = (impl_Belt_out.tr a).map fun r => (impl_Belt_out.enc a r, (impl_Belt_out.cd.enc a).2) := by kernel_rfl
theorem impl_Belt_out.cok : OKq Tryd.prog 59 impl_Belt_out.c := con_q' impl_Belt_out.cd impl_Belt_out.hC Tryd.func59 (by kernel_rfl) (by kernel_rfl) (by kernel_rfl) impl_Belt_out.lp (fun a => by kernel_rfl) impl_Belt_out.run (Tells.val (tree := impl_Belt_out.tr) fun a => by kernel_rfl)
/-! ### impl_IsPart -/
noncomputable def impl_IsPart.b : Code := bodyOf Tryd.f60
noncomputable def impl_IsPart.C : Ctx := { ty := tys, fn := [(49, .q impl_between.c)], lp := [], n := 5, k := 0 }
theorem impl_IsPart.hC : CtxOK Tryd.prog impl_IsPart.C := CtxOK.of mo tys_ok (FnsOK.cons impl_between.cok FnsOK.nil)
theorem impl_IsPart.lp : LpOK Tryd.prog impl_IsPart.C impl_IsPart.b := (LpOK.nil (by kernel_rfl))
noncomputable def impl_IsPart.t (x0 : Nat) : T Bool :=
  .leaf (impl_between x0 0 1065353216)
noncomputable def impl_IsPart (x0 : Nat) : Bool := (impl_IsPart.t x0).val
def impl_IsPart.cd : Cd Nat (List V × Hp) := Cd.iso (Cd.pair (Cd.cons (Cd.fl .f32) Cd.nil) Cd.nil) (fun a => a.1.1) (fun a => ((a, ()), ())) (fun _ => rfl)
noncomputable def impl_IsPart.tr (a : Nat) : T Bool := impl_IsPart.t a
def impl_IsPart.enc : Nat → Bool → V := fun a r => .bo r
noncomputable def impl_IsPart.c : List V → Hp → T V := cdQ impl_IsPart.cd (fun a => .leaf (impl_IsPart.enc a (impl_IsPart a)))
theorem impl_IsPart.run (a : Nat) : runF impl_IsPart.C Tryd.f60.results.toList impl_IsPart.b (impl_IsPart.cd.enc a).1 (impl_IsPart.cd.enc a).2 = (impl_IsPart.tr a).map fun r => (impl_IsPart.enc a r, (impl_IsPart.cd.enc a).2) := by kernel_rfl
theorem impl_IsPart.cok : OKq Tryd.prog 60 impl_IsPart.c := con_q' impl_IsPart.cd impl_IsPart.hC Tryd.func60 (by kernel_rfl) (by kernel_rfl) (by kernel_rfl) impl_IsPart.lp (fun a => by kernel_rfl) impl_IsPart.run (Tells.val (tree := impl_IsPart.tr) fun a => by kernel_rfl)
/-! ### impl_SpeedOut -/
noncomputable def impl_SpeedOut.b : Code := bodyOf Tryd.f27
noncomputable def impl_SpeedOut.C : Ctx := { ty := tys, fn := [(59, .q impl_Belt_out.c), (57, .q impl_IsPlain.c), (60, .q impl_IsPart.c), (39, .q impl_beltCode.c), (37, .q impl_orZero.c)], lp := [], n := 22, k := 1 }
theorem impl_SpeedOut.hC : CtxOK Tryd.prog impl_SpeedOut.C := CtxOK.of mo tys_ok (FnsOK.cons impl_Belt_out.cok (FnsOK.cons impl_IsPlain.cok (FnsOK.cons impl_IsPart.cok (FnsOK.cons impl_beltCode.cok (FnsOK.cons impl_orZero.cok FnsOK.nil)))))
theorem impl_SpeedOut.lp : LpOK Tryd.prog impl_SpeedOut.C impl_SpeedOut.b := (LpOK.nil (by kernel_rfl))
noncomputable def impl_SpeedOut.t (x0 : Nat) (x1 : Nat) (x2 : Nat) (x3 : Nat) (x4 : Bool) (x5 : Nat) (x6 : Nat) (x7 : Int) : T (Nat × Int) :=
  .br (impl_IsPlain x5)
  (.leaf ((impl_orZero (impl_Belt_out x5 x6 x0 x1 x2 x3 x4) (impl_beltCode x0 x1 x2 x3 x4 (impl_IsPart x6))).1, (impl_orZero (impl_Belt_out x5 x6 x0 x1 x2 x3 x4) (impl_beltCode x0 x1 x2 x3 x4 (impl_IsPart x6))).2))
  (.leaf ((impl_orZero (impl_Belt_out x5 x6 x0 x1 x2 x3 x4) (impl_beltCode x0 x1 x2 x3 x4 false)).1, (impl_orZero (impl_Belt_out x5 x6 x0 x1 x2 x3 x4) (impl_beltCode x0 x1 x2 x3 x4 false)).2))
noncomputable def impl_SpeedOut (x0 : Nat) (x1 : Nat) (x2 : Nat) (x3 : Nat) (x4 : Bool) (x5 : Nat) (x6 : Nat) (x7 : Int) : Nat × Int := (impl_SpeedOut.t x0 x1 x2 x3 x4 x5 x6 x7).val
def impl_SpeedOut.cd : Cd (Nat × Nat × Nat × Nat × Bool × Nat × Nat × Int) (List V × Hp) := Cd.iso (Cd.pair (Cd.cons (Cd.agg (Cd.cons (Cd.fl .f32) (Cd.cons (Cd.fl .f32) (Cd.cons (Cd.fl .f32) (Cd.cons (Cd.fl .f32) (Cd.cons Cd.bo Cd.nil)))))) (Cd.cons (Cd.fl .f32) (Cd.cons (Cd.fl .f32) Cd.nil))) (Cd.cons (Cd.ro 0 2 (Cd.vs (Cd.cons (Cd.it .i64) Cd.nil))) Cd.nil)) (fun a => (a.1.1.1, a.1.1.2.1, a.1.1.2.2.1, a.1.1.2.2.2.1, a.1.1.2.2.2.2.1, a.1.2.1, a.1.2.2.1, a.2.1.1)) (fun a => (((a.1, (a.2.1, (a.2.2.1, (a.2.2.2.1, (a.2.2.2.2.1, ()))))), (a.2.2.2.2.2.1, (a.2.2.2.2.2.2.1, ()))), ((a.2.2.2.2.2.2.2, ()), ()))) (fun _ => rfl)
noncomputable def impl_SpeedOut.tr (a : Nat × Nat × Nat × Nat × Bool × Nat × Nat × Int) : T (Nat × Int) := impl_SpeedOut.t a.1 a.2.1 a.2.2.1 a.2.2.2.1 a.2.2.2.2.1 a.2.2.2.2.2.1 a.2.2.2.2.2.2.1 a.2.2.2.2.2.2.2
def impl_SpeedOut.enc : (Nat × Nat × Nat × Nat × Bool × Nat × Nat × Int) → (Nat × Int) → V := fun a r => .tup [.fl .f32 r.1, .it .i64 r.2]
noncomputable def impl_SpeedOut.c : List V → Hp → T V := cdQ impl_SpeedOut.cd (fun a => .leaf (impl_SpeedOut.enc a (impl_SpeedOut a.1 a.2.1 a.2.2.1 a.2.2.2.1 a.2.2.2.2.1 a.2.2.2.2.2.1 a.2.2.2.2.2.2.1 a.2.2.2.2.2.2.2)))
theorem impl_SpeedOut.run (a : Nat × Nat × Nat × Nat × Bool × Nat × Nat × Int) : runF impl_SpeedOut.C Tryd.f27.results.toList impl_SpeedOut.b (impl_SpeedOut.cd.enc a).1 (impl_SpeedOut.cd.enc a).2 = (impl_SpeedOut.tr a).map fun r => (impl_SpeedOut.enc a r, (impl_SpeedOut.cd.enc a).2) := by kernel_rfl
theorem impl_SpeedOut.cok : OKq Tryd.prog 27 impl_SpeedOut.c := con_q' impl_SpeedOut.cd impl_SpeedOut.hC Tryd.func27 (by kernel_rfl) (by kernel_rfl) (by kernel_rfl) impl_SpeedOut.lp (fun a => by kernel_rfl) impl_SpeedOut.run (Tells.val (tree := impl_SpeedOut.tr) fun a => by kernel_rfl)
/-! ### spec_l01Part -/
noncomputable def spec_l01Part.b : Code := bodyOf Tryd.f61
noncomputable def spec_l01Part.C : Ctx := { ty := tys, fn := [], lp := [], n := 9, k := 0 }
theorem spec_l01Part.hC : CtxOK Tryd.prog spec_l01Part.C := CtxOK.of mo tys_ok FnsOK.nil
theorem spec_l01Part.lp : LpOK Tryd.prog spec_l01Part.C spec_l01Part.b := (LpOK.nil (by kernel_rfl))
noncomputable def spec_l01Part.t (x0 : Nat) : T Bool :=
  .br (fge .f32 x0 0)
  (.leaf (fle .f32 x0 1065353216))
  (.leaf false)
noncomputable def spec_l01Part (x0 : Nat) : Bool := (spec_l01Part.t x0).val
def spec_l01Part.cd : Cd Nat (List V × Hp) := Cd.iso (Cd.pair (Cd.cons (Cd.fl .f32) Cd.nil) Cd.nil) (fun a => a.1.1) (fun a => ((a, ()), ())) (fun _ => rfl)
noncomputable def spec_l01Part.tr (a : Nat) : T Bool := spec_l01Part.t a
def spec_l01Part.enc : Nat → Bool → V := fun a r => .bo r
noncomputable def spec_l01Part.c : List V → Hp → T V := cdQ spec_l01Part.cd (fun a => .leaf (spec_l01Part.enc a (spec_l01Part a)))
theorem spec_l01Part.run (a : Nat) : runF spec_l01Part.C Tryd.f61.results.toList spec_l01Part.b (spec_l01Part.cd.enc a).1 (spec_l01Part.cd.enc a).2 = (spec_l01Part.tr a).map fun r => (spec_l01Part.enc a r, (spec_l01Part.cd.enc a).2) := by kernel_rfl
theorem spec_l01Part.cok : OKq Tryd.prog 61 spec_l01Part.c := con_q' spec_l01Part.cd spec_l01Part.hC Tryd.func61 (by kernel_rfl) (by kernel_rfl) (by kernel_rfl) spec_l01Part.lp (fun a => by kernel_rfl) spec_l01Part.run (Tells.val (tree := spec_l01Part.tr) fun a => by kernel_rfl)
/-! ### spec_l02Out -/
noncomputable def spec_l02Out.b : Code := bodyOf Tryd.f62
noncomputable def spec_l02Out.C : Ctx := { ty := tys, fn := [], lp := [], n := 31, k := 1 }
theorem spec_l02Out.hC : CtxOK Tryd.prog spec_l02Out.C := CtxOK.of mo tys_ok FnsOK.nil
theorem spec_l02Out.lp : LpOK Tryd.prog spec_l02Out.C spec_l02Out.b := (LpOK.nil (by kernel_rfl))
noncomputable def spec_l02Out.t (x0 : Nat) (x1 : Nat) (x2 : Nat) (x3 : Nat) (x4 : Nat) (x5 : Nat) (x6 : Bool) : T Nat :=
  .br x6
  (.leaf (fneg .f32 (fmul .f32 (fmul .f32 x0 (fdiv .f32 x2 x3)) (fsub .f32 1065353216 x1))))
  (.leaf (fmul .f32 (fmul .f32 x0 (fdiv .f32 x2 x3)) (fsub .f32 1065353216 x1)))
noncomputable def spec_l02Out (x0 : Nat) (x1 : Nat) (x2 : Nat) (x3 : Nat) (x4 : Nat) (x5 : Nat) (x6 : Bool) : Nat := (spec_l02Out.t x0 x1 x2 x3 x4 x5 x6).val
def spec_l02Out.cd : Cd (Nat × Nat × Nat × Nat × Nat × Nat × Bool) (List V × Hp) := Cd.iso (Cd.pair (Cd.cons (Cd.pt 0 (Cd.natc 0)) (Cd.cons (Cd.fl .f32) (Cd.cons (Cd.fl .f32) Cd.nil))) (Cd.cons (Cd.rw 26 5 (Cd.vs (Cd.cons (Cd.fl .f32) (Cd.cons (Cd.fl .f32) (Cd.cons (Cd.fl .f32) (Cd.cons (Cd.fl .f32) (Cd.cons Cd.bo Cd.nil))))))) Cd.nil)) (fun a => (a.1.2.1, a.1.2.2.1, a.2.1.1, a.2.1.2.1, a.2.1.2.2.1, a.2.1.2.2.2.1, a.2.1.2.2.2.2.1)) (fun a => (((), (a.1, (a.2.1, ()))), ((a.2.2.1, (a.2.2.2.1, (a.2.2.2.2.1, (a.2.2.2.2.2.1, (a.2.2.2.2.2.2, ()))))), ()))) (fun _ => rfl)
noncomputable def spec_l02Out.tr (a : Nat × Nat × Nat × Nat × Nat × Nat × Bool) : T Nat := spec_l02Out.t a.1 a.2.1 a.2.2.1 a.2.2.2.1 a.2.2.2.2.1 a.2.2.2.2.2.1 a.2.2.2.2.2.2
def spec_l02Out.enc : (Nat × Nat × Nat × Nat × Nat × Nat × Bool) → Nat → V := fun a r => .fl .f32 r
noncomputable def spec_l02Out.c : List V → Hp → T V := cdQ spec_l02Out.cd (fun a => .leaf (spec_l02Out.enc a (spec_l02Out a.1 a.2.1 a.2.2.1 a.2.2.2.1 a.2.2.2.2.1 a.2.2.2.2.2.1 a.2.2.2.2.2.2)))
theorem spec_l02Out.run (a : Nat × Nat × Nat × Nat × Nat × Nat × Bool) : runF spec_l02Out.C Tryd.f62.results.toList spec_l02Out.b (spec_l02Out.cd.enc a).1 (spec_l02Out.cd.enc a).2 = (spec_l02Out.tr a).map fun r => (spec_l02Out.enc a r, (spec_l02Out.cd.enc a).2) := by kernel_rfl
theorem spec_l02Out.cok : OKq Tryd.prog 62 spec_l02Out.c := con_q' spec_l02Out.cd spec_l02Out.hC Tryd.func62 (by kernel_rfl) (by kernel_rfl) (by kernel_rfl) spec_l02Out.lp (fun a => by kernel_rfl) spec_l02Out.run (Tells.val (tree := spec_l02Out.tr) fun a => by kernel_rfl)
/-! ### spec_SpeedOut -/
noncomputable def spec_SpeedOut.b : Code := bodyOf Tryd.f28
noncomputable def spec_SpeedOut.C : Ctx := { ty := tys, fn := [(53, .q spec_l02Asked.c), (61, .q spec_l01Part.c), (62, .q spec_l02Out.c)], lp := [], n := 24, k := 1 }
theorem spec_SpeedOut.hC : CtxOK Tryd.prog spec_SpeedOut.C := CtxOK.of mo tys_ok (FnsOK.cons spec_l02Asked.cok (FnsOK.cons spec_l01Part.cok (FnsOK.cons spec_l02Out.cok FnsOK.nil)))
theorem spec_SpeedOut.lp : LpOK Tryd.prog spec_SpeedOut.C spec_SpeedOut.b := (LpOK.nil (by kernel_rfl))
noncomputable def spec_SpeedOut.t (x0 : Nat) (x1 : Nat) (x2 : Nat) (x3 : Nat) (x4 : Bool) (x5 : Nat) (x6 : Nat) (x7 : Int) : T (Nat × Int) :=
  .br ((spec_l02Asked 0 x5 x0 x1 x2 x3 x4) == (0 : Int))
  (.br (!(spec_l01Part x6))
   (.br ((2 : Int) != (0 : Int))
    (.leaf (0, (2 : Int)))
    (.leaf ((spec_l02Out x5 x6 x0 x1 x2 x3 x4), (0 : Int))))
   (.br ((spec_l02Asked 0 x5 x0 x1 x2 x3 x4) != (0 : Int))
    (.leaf (0, (spec_l02Asked 0 x5 x0 x1 x2 x3 x4)))
    (.leaf ((spec_l02Out x5 x6 x0 x1 x2 x3 x4), (0 : Int)))))
  (.br ((spec_l02Asked 0 x5 x0 x1 x2 x3 x4) != (0 : Int))
   (.leaf (0, (spec_l02Asked 0 x5 x0 x1 x2 x3 x4)))
   (.leaf ((spec_l02Out x5 x6 x0 x1 x2 x3 x4), (0 : Int))))
noncomputable def spec_SpeedOut (x0 : Nat) (x1 : Nat) (x2 : Nat) (x3 : Nat) (x4 : Bool) (x5 : Nat) (x6 : Nat) (x7 : Int) : Nat × Int := (spec_SpeedOut.t x0 x1 x2 x3 x4 x5 x6 x7).val
def spec_SpeedOut.cd : Cd (Nat × Nat × Nat × Nat × Bool × Nat × Nat × Int) (List V × Hp) := Cd.iso (Cd.pair (Cd.cons (Cd.agg (Cd.cons (Cd.fl .f32) (Cd.cons (Cd.fl .f32) (Cd.cons (Cd.fl .f32) (Cd.cons (Cd.fl .f32) (Cd.cons Cd.bo Cd.nil)))))) (Cd.cons (Cd.fl .f32) (Cd.cons (Cd.fl .f32) Cd.nil))) (Cd.cons (Cd.ro 0 2 (Cd.vs (Cd.cons (Cd.it .i64) Cd.nil))) Cd.nil)) (fun a => (a.1.1.1, a.1.1.2.1, a.1.1.2.2.1, a.1.1.2.2.2.1, a.1.1.2.2.2.2.1, a.1.2.1, a.1.2.2.1, a.2.1.1)) (fun a => (((a.1, (a.2.1, (a.2.2.1, (a.2.2.2.1, (a.2.2.2.2.1, ()))))), (a.2.2.2.2.2.1, (a.2.2.2.2.2.2.1, ()))), ((a.2.2.2.2.2.2.2, ()), ()))) (fun _ => rfl)
noncomputable def spec_SpeedOut.tr (a : Nat × Nat × Nat × Nat × Bool × Nat × Nat × Int) : T (Nat × Int) := spec_SpeedOut.t a.1 a.2.1 a.2.2.1 a.2.2.2.1 a.2.2.2.2.1 a.2.2.2.2.2.1 a.2.2.2.2.2.2.1 a.2.2.2.2.2.2.2
def spec_SpeedOut.enc : (Nat × Nat × Nat × Nat × Bool × Nat × Nat × Int) → (Nat × Int) → V := fun a r => .tup [.fl .f32 r.1, .it .i64 r.2]
noncomputable def spec_SpeedOut.c : List V → Hp → T V := cdQ spec_SpeedOut.cd (fun a => .leaf (spec_SpeedOut.enc a (spec_SpeedOut a.1 a.2.1 a.2.2.1 a.2.2.2.1 a.2.2.2.2.1 a.2.2.2.2.2.1 a.2.2.2.2.2.2.1 a.2.2.2.2.2.2.2)))
theorem spec_SpeedOut.run (a : Nat × Nat × Nat × Nat × Bool × Nat × Nat × Int) : runF spec_SpeedOut.C Tryd.f28.results.toList spec_SpeedOut.b (spec_SpeedOut.cd.enc a).1 (spec_SpeedOut.cd.enc a).2 = (spec_SpeedOut.tr a).map fun r => (spec_SpeedOut.enc a r, (spec_SpeedOut.cd.enc a).2) := by kernel_rfl
theorem spec_SpeedOut.cok : OKq Tryd.prog 28 spec_SpeedOut.c := con_q' spec_SpeedOut.cd spec_SpeedOut.hC Tryd.func28 (by kernel_rfl) (by kernel_rfl) (by kernel_rfl) spec_SpeedOut.lp (fun a => by kernel_rfl) spec_SpeedOut.run (Tells.val (tree := spec_SpeedOut.tr) fun a => by kernel_rfl)
/-! ### impl_BeltsNeeded -/
noncomputable def impl_BeltsNeeded.b : Code := bodyOf Tryd.f29
noncomputable def impl_BeltsNeeded.l5.s (x0 : Nat) (x1 : Nat) (x2 : Int) (x3 : Int) (x4 : Nat) (x5 : Nat) (x6 : Nat) (x7 : Nat) (x8 : Bool) : T (Int ⊕ ((Int × Int) ⊕ Unit)) :=
  .br (decide (x2 ≤ (12 : Int)))
  (.br (impl_Belt_torque.ok x0 x4 x5 x6 x7 x8)
   (.br (fge .f32 (fmul .f32 (impl_Belt_torque x0 x4 x5 x6 x7 x8) (fofint .f32 x2)) (impl_size x1))
    (.leaf (.inr (.inl (x2, (0 : Int)))))
    (.leaf (.inl (IntKind.wrap .i64 (x2 + (1 : Int))))))
   .bad)
  (.leaf (.inr (.inr ())))
noncomputable def impl_BeltsNeeded.l5.st (p : Nat × Nat × Int × Nat × Nat × Nat × Nat × Bool) (x : Int) : T (Int ⊕ ((Int × Int) ⊕ Unit)) := impl_BeltsNeeded.l5.s p.1 p.2.1 x p.2.2.1 p.2.2.2.1 p.2.2.2.2.1 p.2.2.2.2.2.1 p.2.2.2.2.2.2.1 p.2.2.2.2.2.2.2
noncomputable def impl_BeltsNeeded.l5.r (p : Nat × Nat × Int × Nat × Nat × Nat × Nat × Bool) (x : Int) : Option ((Int × Int) ⊕ Unit) := iterT (impl_BeltsNeeded.l5.st p) manyRounds x
def impl_BeltsNeeded.l5.cd : Cd ((Nat × Nat × Int × Nat × Nat × Nat × Nat × Bool) × Int) (List V × Hp) := Cd.iso (Cd.pair (Cd.cons (Cd.fl .f32) (Cd.cons (Cd.fl .f32) (Cd.cons (Cd.pt 1 (Cd.natc 0)) (Cd.cons (Cd.it .i64) Cd.nil)))) (Cd.cons (Cd.ro 0 2 (Cd.vs (Cd.cons (Cd.it .i64) Cd.nil))) (Cd.cons (Cd.rw 26 5 (Cd.vs (Cd.cons (Cd.fl .f32) (Cd.cons (Cd.fl .f32) (Cd.cons (Cd.fl .f32) (Cd.cons (Cd.fl .f32) (Cd.cons Cd.bo Cd.nil))))))) Cd.nil))) (fun a => ((a.1.1, a.1.2.1, a.2.1.1, a.2.2.1.1, a.2.2.1.2.1, a.2.2.1.2.2.1, a.2.2.1.2.2.2.1, a.2.2.1.2.2.2.2.1), a.1.2.2.2.1)) (fun a => ((a.1.1, (a.1.2.1, ((), (a.2, ())))), ((a.1.2.2.1, ()), ((a.1.2.2.2.1, (a.1.2.2.2.2.1, (a.1.2.2.2.2.2.1, (a.1.2.2.2.2.2.2.1, (a.1.2.2.2.2.2.2.2, ()))))), ())))) (fun _ => rfl)
def impl_BeltsNeeded.l5.out (p : Nat × Nat × Int × Nat × Nat × Nat × Nat × Bool) : ((Int × Int) ⊕ Unit) → X × List V × Hp := sumO (fun r => (.ret, [.it .i64 r.1, .it .i64 r.2], [some ⟨false, 0, 2, .vs [.it .i64 p.2.2.1]⟩])) (fun r => (.ex 0, [.unk, .unk], [some ⟨false, 0, 2, .vs [.it .i64 p.2.2.1]⟩]))
def impl_BeltsNeeded.l5.ex (p : Nat × Nat × Int × Nat × Nat × Nat × Nat × Bool) : ((Int × Int) ⊕ Unit) → T (X × List V × Hp) := sumT (leafT (fun r => (.ret, [.it .i64 r.1, .it .i64 r.2], [some ⟨false, 0, 2, .vs [.it .i64 p.2.2.1]⟩]))) (leafT (fun r => (.ex 0, [.unk, .unk], [some ⟨false, 0, 2, .vs [.it .i64 p.2.2.1]⟩])))
noncomputable def impl_BeltsNeeded.l5.c : List V → Hp → T (X × List V × Hp) := cdL impl_BeltsNeeded.l5.cd fun x => optT (impl_BeltsNeeded.l5.r x.1 x.2) (impl_BeltsNeeded.l5.ex x.1)
noncomputable def impl_BeltsNeeded.C : Ctx := { ty := tys, fn := [(52, .q impl_isAmount.c), (57, .q impl_IsPlain.c), (39, .q impl_beltCode.c), (55, .q impl_Belt_torque.c), (58, .q impl_size.c)], lp := [(5, ⟨[1, 2, 3, 9], [6, 7], impl_BeltsNeeded.l5.c⟩)], n := 34, k := 1 }
theorem impl_BeltsNeeded.hC : CtxOK Tryd.prog impl_BeltsNeeded.C := CtxOK.of mo tys_ok (FnsOK.cons impl_isAmount.cok (FnsOK.cons impl_IsPlain.cok (FnsOK.cons impl_beltCode.cok (FnsOK.cons impl_Belt_torque.cok (FnsOK.cons impl_size.cok FnsOK.nil)))))
noncomputable def impl_BeltsNeeded.b5 : Code := (nthC (loopsOf impl_BeltsNeeded.b) 0)
theorem impl_BeltsNeeded.lp5 : LpOK Tryd.prog impl_BeltsNeeded.C impl_BeltsNeeded.b5 := (LpOK.nil (by kernel_rfl))
theorem impl_BeltsNeeded.l5.round (p : Nat × Nat × Int × Nat × Nat × Nat × Nat × Bool) (s : Int) : roundL impl_BeltsNeeded.C [1, 2, 3, 9] [6, 7] impl_BeltsNeeded.b5 (impl_BeltsNeeded.l5.cd.enc (p, s)).1 (impl_BeltsNeeded.l5.cd.enc (p, s)).2 = (impl_BeltsNeeded.l5.st p s).map (encSum (fun s => impl_BeltsNeeded.l5.cd.enc (p, s)) (impl_BeltsNeeded.l5.out p)) := by kernel_rfl
theorem impl_BeltsNeeded.l5.lok : LoopOK Tryd.prog impl_BeltsNeeded.C ⟨[1, 2, 3, 9], [6, 7], impl_BeltsNeeded.l5.c⟩ impl_BeltsNeeded.b5 := loop_cd impl_BeltsNeeded.l5.cd impl_BeltsNeeded.hC impl_BeltsNeeded.lp5 impl_BeltsNeeded.l5.round fun p => (Gets.sum Gets.leaf Gets.leaf)
theorem impl_BeltsNeeded.lp : LpOK Tryd.prog impl_BeltsNeeded.C impl_BeltsNeeded.b := lp_of (by kernel_rfl) (LpsOK.cons (k := 5) (by kernel_rfl) (by kernel_rfl) impl_BeltsNeeded.l5.lok LpsOK.nil)
noncomputable def impl_BeltsNeeded.t (x0 : Nat) (x1 : Nat) (x2 : Nat) (x3 : Nat) (x4 : Bool) (x5 : Nat) (x6 : Nat) (x7 : Int) : T (Int × Int) :=
  .br (impl_isAmount x5)
  (.br ((impl_beltCode x0 x1 x2 x3 x4 (impl_IsPlain x6)) != (0 : Int))
   (.leaf ((0 : Int), (impl_beltCode x0 x1 x2 x3 x4 (impl_IsPlain x6))))
   (.br (Option.isSome (impl_BeltsNeeded.l5.r (x5, x6, x7, x0, x1, x2, x3, x4) (1 : Int)))
    (.br (Sum.isLeft (Option.getD (impl_BeltsNeeded.l5.r (x5, x6, x7, x0, x1, x2, x3, x4) (1 : Int)) default))
     (.leaf ((getLeftD (Option.getD (impl_BeltsNeeded.l5.r (x5, x6, x7, x0, x1, x2, x3, x4) (1 : Int)) default)).1, (getLeftD (Option.getD (impl_BeltsNeeded.l5.r (x5, x6, x7, x0, x1, x2, x3, x4) (1 : Int)) default)).2))
     (.leaf ((0 : Int), (6 : Int))))
    .bad))
  (.br ((impl_beltCode x0 x1 x2 x3 x4 false) != (0 : Int))
   (.leaf ((0 : Int), (impl_beltCode x0 x1 x2 x3 x4 false)))
   (.br (Option.isSome (impl_BeltsNeeded.l5.r (x5, x6, x7, x0, x1, x2, x3, x4) (1 : Int)))
    (.br (Sum.isLeft (Option.getD (impl_BeltsNeeded.l5.r (x5, x6, x7, x0, x1, x2, x3, x4) (1 : Int)) default))
     (.leaf ((getLeftD (Option.getD (impl_BeltsNeeded.l5.r (x5, x6, x7, x0, x1, x2, x3, x4) (1 : Int)) default)).1, (getLeftD (Option.getD (impl_BeltsNeeded.l5.r (x5, x6, x7, x0, x1, x2, x3, x4) (1 : Int)) default)).2))
     (.leaf ((0 : Int), (6 : Int))))
    .bad))
noncomputable def impl_BeltsNeeded (x0 : Nat) (x1 : Nat) (x2 : Nat) (x3 : Nat) (x4 : Bool) (x5 : Nat) (x6 : Nat) (x7 : Int) : Int × Int := (impl_BeltsNeeded.t x0 x1 x2 x3 x4 x5 x6 x7).val
noncomputable def impl_BeltsNeeded.ok (x0 : Nat) (x1 : Nat) (x2 : Nat) (x3 : Nat) (x4 : Bool) (x5 : Nat) (x6 : Nat) (x7 : Int) : Bool := (impl_BeltsNeeded.t x0 x1 x2 x3 x4 x5 x6 x7).ok
def impl_BeltsNeeded.cd : Cd (Nat × Nat × Nat × Nat × Bool × Nat × Nat × Int) (List V × Hp) := Cd.iso (Cd.pair (Cd.cons (Cd.agg (Cd.cons (Cd.fl .f32) (Cd.cons (Cd.fl .f32) (Cd.cons (Cd.fl .f32) (Cd.cons (Cd.fl .f32) (Cd.cons Cd.bo Cd.nil)))))) (Cd.cons (Cd.fl .f32) (Cd.cons (Cd.fl .f32) Cd.nil))) (Cd.cons (Cd.ro 0 2 (Cd.vs (Cd.cons (Cd.it .i64) Cd.nil))) Cd.nil)) (fun a => (a.1.1.1, a.1.1.2.1, a.1.1.2.2.1, a.1.1.2.2.2.1, a.1.1.2.2.2.2.1, a.1.2.1, a.1.2.2.1, a.2.1.1)) (fun a => (((a.1, (a.2.1, (a.2.2.1, (a.2.2.2.1, (a.2.2.2.2.1, ()))))), (a.2.2.2.2.2.1, (a.2.2.2.2.2.2.1, ()))), ((a.2.2.2.2.2.2.2, ()), ()))) (fun _ => rfl)
noncomputable def impl_BeltsNeeded.tr (a : Nat × Nat × Nat × Nat × Bool × Nat × Nat × Int) : T (Int × Int) := impl_BeltsNeeded.t a.1 a.2.1 a.2.2.1 a.2.2.2.1 a.2.2.2.2.1 a.2.2.2.2.2.1 a.2.2.2.2.2.2.1 a.2.2.2.2.2.2.2
def impl_BeltsNeeded.enc : (Nat × Nat × Nat × Nat × Bool × Nat × Nat × Int) → (Int × Int) → V := fun a r => .tup [.it .i64 r.1, .it .i64 r.2]
noncomputable def impl_BeltsNeeded.c : List V → Hp → T V := cdQ impl_BeltsNeeded.cd (fun a => .br (impl_BeltsNeeded.ok a.1 a.2.1 a.2.2.1 a.2.2.2.1 a.2.2.2.2.1 a.2.2.2.2.2.1 a.2.2.2.2.2.2.1 a.2.2.2.2.2.2.2) (.leaf (impl_BeltsNeeded.enc a (impl_BeltsNeeded a.1 a.2.1 a.2.2.1 a.2.2.2.1 a.2.2.2.2.1 a.2.2.2.2.2.1 a.2.2.2.2.2.2.1 a.2.2.2.2.2.2.2))) .bad)
theorem impl_BeltsNeeded.run (a : Nat × Nat × Nat × Nat × Bool × Nat × Nat × Int) : runF impl_BeltsNeeded.C Tryd.f29.results.toList impl_BeltsNeeded.b (impl_BeltsNeeded.cd.enc a).1 (impl_BeltsNeeded.cd.enc a).2 = (impl_BeltsNeeded.tr a).map fun r => (impl_BeltsNeeded.enc a r, (impl_BeltsNeeded.cd.enc a).2) := by kernel_rfl
theorem impl_BeltsNeeded.cok : OKq Tryd.prog 29 impl_BeltsNeeded.c := con_q' impl_BeltsNeeded.cd impl_BeltsNeeded.hC Tryd.func29 (by kernel_rfl) (by kernel_rfl) (by kernel_rfl) impl_BeltsNeeded.lp (fun a => by kernel_rfl) impl_BeltsNeeded.run (Tells.ok (tree := impl_BeltsNeeded.tr))
/-! ### spec_BeltsNeeded -/
noncomputable def spec_BeltsNeeded.b : Code := bodyOf Tryd.f30
noncomputable def spec_BeltsNeeded.l6.s (x0 : Nat) (x1 : Nat) (x2 : Int) (x3 : Int) : T (Int ⊕ ((Int × Int) ⊕ Unit)) :=
  .br (decide (x2 ≤ (12 : Int)))
  (.br (fge .f32 (fmul .f32 x1 (fofint .f32 x2)) (spec_l01Size x0))
   (.leaf (.inr (.inl (x2, (0 : Int)))))
   (.leaf (.inl (IntKind.wrap .i64 (x2 + (1 : Int))))))
  (.leaf (.inr (.inr ())))
noncomputable def spec_BeltsNeeded.l6.st (p : Nat × Nat × Int) (x : Int) : T (Int ⊕ ((Int × Int) ⊕ Unit)) := spec_BeltsNeeded.l6.s p.1 p.2.1 x p.2.2
noncomputable def spec_BeltsNeeded.l6.r (p : Nat × Nat × Int) (x : Int) : Option ((Int × Int) ⊕ Unit) := iterT (spec_BeltsNeeded.l6.st p) manyRounds x
def spec_BeltsNeeded.l6.cd : Cd ((Nat × Nat × Int) × Int) (List V × Hp) := Cd.iso (Cd.pair (Cd.cons (Cd.fl .f32) (Cd.cons (Cd.fl .f32) (Cd.cons (Cd.it .i64) Cd.nil))) (Cd.cons (Cd.ro 0 2 (Cd.vs (Cd.cons (Cd.it .i64) Cd.nil))) Cd.nil)) (fun a => ((a.1.1, a.1.2.1, a.2.1.1), a.1.2.2.1)) (fun a => ((a.1.1, (a.1.2.1, (a.2, ()))), ((a.1.2.2, ()), ()))) (fun _ => rfl)
def spec_BeltsNeeded.l6.out (p : Nat × Nat × Int) : ((Int × Int) ⊕ Unit) → X × List V × Hp := sumO (fun r => (.ret, [.it .i64 r.1, .it .i64 r.2], [some ⟨false, 0, 2, .vs [.it .i64 p.2.2]⟩])) (fun r => (.ex 0, [.unk, .unk], [some ⟨false, 0, 2, .vs [.it .i64 p.2.2]⟩]))
def spec_BeltsNeeded.l6.ex (p : Nat × Nat × Int) : ((Int × Int) ⊕ Unit) → T (X × List V × Hp) := sumT (leafT (fun r => (.ret, [.it .i64 r.1, .it .i64 r.2], [some ⟨false, 0, 2, .vs [.it .i64 p.2.2]⟩]))) (leafT (fun r => (.ex 0, [.unk, .unk], [some ⟨false, 0, 2, .vs [.it .i64 p.2.2]⟩])))
noncomputable def spec_BeltsNeeded.l6.c : List V → Hp → T (X × List V × Hp) := cdL spec_BeltsNeeded.l6.cd fun x => optT (spec_BeltsNeeded.l6.r x.1 x.2) (spec_BeltsNeeded.l6.ex x.1)
noncomputable def spec_BeltsNeeded.C : Ctx := { ty := tys, fn := [(53, .q spec_l02Asked.c), (54, .q spec_l02Pull.c), (50, .q spec_l01Size.c)], lp := [(6, ⟨[2, 9, 10], [6, 7], spec_BeltsNeeded.l6.c⟩)], n := 34, k := 1 }
theorem spec_BeltsNeeded.hC : CtxOK Tryd.prog spec_BeltsNeeded.C := CtxOK.of mo tys_ok (FnsOK.cons spec_l02Asked.cok (FnsOK.cons spec_l02Pull.cok (FnsOK.cons spec_l01Size.cok FnsOK.nil)))
noncomputable def spec_BeltsNeeded.b6 : Code := (nthC (loopsOf spec_BeltsNeeded.b) 0)
theorem spec_BeltsNeeded.lp6 : LpOK Tryd.prog spec_BeltsNeeded.C spec_BeltsNeeded.b6 := (LpOK.nil (by kernel_rfl))
theorem spec_BeltsNeeded.l6.round (p : Nat × Nat × Int) (s : Int) : roundL spec_BeltsNeeded.C [2, 9, 10] [6, 7] spec_BeltsNeeded.b6 (spec_BeltsNeeded.l6.cd.enc (p, s)).1 (spec_BeltsNeeded.l6.cd.enc (p, s)).2 = (spec_BeltsNeeded.l6.st p s).map (encSum (fun s => spec_BeltsNeeded.l6.cd.enc (p, s)) (spec_BeltsNeeded.l6.out p)) := by kernel_rfl
theorem spec_BeltsNeeded.l6.lok : LoopOK Tryd.prog spec_BeltsNeeded.C ⟨[2, 9, 10], [6, 7], spec_BeltsNeeded.l6.c⟩ spec_BeltsNeeded.b6 := loop_cd spec_BeltsNeeded.l6.cd spec_BeltsNeeded.hC spec_BeltsNeeded.lp6 spec_BeltsNeeded.l6.round fun p => (Gets.sum Gets.leaf Gets.leaf)
theorem spec_BeltsNeeded.lp : LpOK Tryd.prog spec_BeltsNeeded.C spec_BeltsNeeded.b := lp_of (by kernel_rfl) (LpsOK.cons (k := 6) (by kernel_rfl) (by kernel_rfl) spec_BeltsNeeded.l6.lok LpsOK.nil)
noncomputable def spec_BeltsNeeded.t (x0 : Nat) (x1 : Nat) (x2 : Nat) (x3 : Nat) (x4 : Bool) (x5 : Nat) (x6 : Nat) (x7 : Int) : T (Int × Int) :=
  .br ((spec_l02Asked x5 x6 x0 x1 x2 x3 x4) != (0 : Int))
  (.leaf ((0 : Int), (spec_l02Asked x5 x6 x0 x1 x2 x3 x4)))
  (.br (spec_l02Pull.ok x5 x0 x1 x2 x3 x4)
   (.br (Option.isSome (spec_BeltsNeeded.l6.r (x6, (fmul .f32 (spec_l02Pull x5 x0 x1 x2 x3 x4) x0), x7) (1 : Int)))
    (.br (Sum.isLeft (Option.getD (spec_BeltsNeeded.l6.r (x6, (fmul .f32 (spec_l02Pull x5 x0 x1 x2 x3 x4) x0), x7) (1 : Int)) default))
     (.leaf ((getLeftD (Option.getD (spec_BeltsNeeded.l6.r (x6, (fmul .f32 (spec_l02Pull x5 x0 x1 x2 x3 x4) x0), x7) (1 : Int)) default)).1, (getLeftD (Option.getD (spec_BeltsNeeded.l6.r (x6, (fmul .f32 (spec_l02Pull x5 x0 x1 x2 x3 x4) x0), x7) (1 : Int)) default)).2))
     (.leaf ((0 : Int), (6 : Int))))
    .bad)
   .bad)
noncomputable def spec_BeltsNeeded (x0 : Nat) (x1 : Nat) (x2 : Nat) (x3 : Nat) (x4 : Bool) (x5 : Nat) (x6 : Nat) (x7 : Int) : Int × Int := (spec_BeltsNeeded.t x0 x1 x2 x3 x4 x5 x6 x7).val
noncomputable def spec_BeltsNeeded.ok (x0 : Nat) (x1 : Nat) (x2 : Nat) (x3 : Nat) (x4 : Bool) (x5 : Nat) (x6 : Nat) (x7 : Int) : Bool := (spec_BeltsNeeded.t x0 x1 x2 x3 x4 x5 x6 x7).ok
def spec_BeltsNeeded.cd : Cd (Nat × Nat × Nat × Nat × Bool × Nat × Nat × Int) (List V × Hp) := Cd.iso (Cd.pair (Cd.cons (Cd.agg (Cd.cons (Cd.fl .f32) (Cd.cons (Cd.fl .f32) (Cd.cons (Cd.fl .f32) (Cd.cons (Cd.fl .f32) (Cd.cons Cd.bo Cd.nil)))))) (Cd.cons (Cd.fl .f32) (Cd.cons (Cd.fl .f32) Cd.nil))) (Cd.cons (Cd.ro 0 2 (Cd.vs (Cd.cons (Cd.it .i64) Cd.nil))) Cd.nil)) (fun a => (a.1.1.1, a.1.1.2.1, a.1.1.2.2.1, a.1.1.2.2.2.1, a.1.1.2.2.2.2.1, a.1.2.1, a.1.2.2.1, a.2.1.1)) (fun a => (((a.1, (a.2.1, (a.2.2.1, (a.2.2.2.1, (a.2.2.2.2.1, ()))))), (a.2.2.2.2.2.1, (a.2.2.2.2.2.2.1, ()))), ((a.2.2.2.2.2.2.2, ()), ()))) (fun _ => rfl)
noncomputable def spec_BeltsNeeded.tr (a : Nat × Nat × Nat × Nat × Bool × Nat × Nat × Int) : T (Int × Int) := spec_BeltsNeeded.t a.1 a.2.1 a.2.2.1 a.2.2.2.1 a.2.2.2.2.1 a.2.2.2.2.2.1 a.2.2.2.2.2.2.1 a.2.2.2.2.2.2.2
def spec_BeltsNeeded.enc : (Nat × Nat × Nat × Nat × Bool × Nat × Nat × Int) → (Int × Int) → V := fun a r => .tup [.it .i64 r.1, .it .i64 r.2]
noncomputable def spec_BeltsNeeded.c : List V → Hp → T V := cdQ spec_BeltsNeeded.cd (fun a => .br (spec_BeltsNeeded.ok a.1 a.2.1 a.2.2.1 a.2.2.2.1 a.2.2.2.2.1 a.2.2.2.2.2.1 a.2.2.2.2.2.2.1 a.2.2.2.2.2.2.2) (.leaf (spec_BeltsNeeded.enc a (spec_BeltsNeeded a.1 a.2.1 a.2.2.1 a.2.2.2.1 a.2.2.2.2.1 a.2.2.2.2.2.1 a.2.2.2.2.2.2.1 a.2.2.2.2.2.2.2))) .bad)
theorem spec_BeltsNeeded.run (a : Nat × Nat × Nat × Nat × Bool × Nat × Nat × Int) : runF spec_BeltsNeeded.C Tryd.f30.results.toList spec_BeltsNeeded.b (spec_BeltsNeeded.cd.enc a).1 (spec_BeltsNeeded.cd.enc a).2 = (spec_BeltsNeeded.tr a).map fun r => (spec_BeltsNeeded.enc a r, (spec_BeltsNeeded.cd.enc a).2) := by kernel_rfl
theorem spec_BeltsNeeded.cok : OKq Tryd.prog 30 spec_BeltsNeeded.c := con_q' spec_BeltsNeeded.cd spec_BeltsNeeded.hC Tryd.func30 (by kernel_rfl) (by kernel_rfl) (by kernel_rfl) spec_BeltsNeeded.lp (fun a => by kernel_rfl) spec_BeltsNeeded.run (Tells.ok (tree := spec_BeltsNeeded.tr))
/-! ### impl_StretchedLength -/
noncomputable def impl_StretchedLength.b : Code := bodyOf Tryd.f31
noncomputable def impl_StretchedLength.C : Ctx := { ty := tys, fn := [(38, .q impl_Belt_length.c), (52, .q impl_isAmount.c), (49, .q impl_between.c), (39, .q impl_beltCode.c), (37, .q impl_orZero.c)], lp := [], n := 25, k := 1 }
theorem impl_StretchedLength.hC : CtxOK Tryd.prog impl_StretchedLength.C := CtxOK.of mo tys_ok (FnsOK.cons impl_Belt_length.cok (FnsOK.cons impl_isAmount.cok (FnsOK.cons impl_between.cok (FnsOK.cons impl_beltCode.cok (FnsOK.cons impl_orZero.cok FnsOK.nil)))))
theorem impl_StretchedLength.lp : LpOK Tryd.prog impl_StretchedLength.C impl_StretchedLength.b := (LpOK.nil (by kernel_rfl))
noncomputable def impl_StretchedLength.t (x0 : Nat) (x1 : Nat) (x2 : Nat) (x3 : Nat) (x4 : Bool) (x5 : Nat) (x6 : Nat) (x7 : Int) : T (Nat × Int) :=
  .br (impl_isAmount x5)
  (.leaf ((impl_orZero (fmul .f32 (impl_Belt_length x0 x1 x2 x3 x4) (fadd .f32 1065353216 (fdiv .f32 x5 x6))) (impl_beltCode x0 x1 x2 x3 x4 (impl_between x6 1065353216 1233125376))).1, (impl_orZero (fmul .f32 (impl_Belt_length x0 x1 x2 x3 x4) (fadd .f32 1065353216 (fdiv .f32 x5 x6))) (impl_beltCode x0 x1 x2 x3 x4 (impl_between x6 1065353216 1233125376))).2))
  (.leaf ((impl_orZero (fmul .f32 (impl_Belt_length x0 x1 x2 x3 x4) (fadd .f32 1065353216 (fdiv .f32 x5 x6))) (impl_beltCode x0 x1 x2 x3 x4 false)).1, (impl_orZero (fmul .f32 (impl_Belt_length x0 x1 x2 x3 x4) (fadd .f32 1065353216 (fdiv .f32 x5 x6))) (impl_beltCode x0 x1 x2 x3 x4 false)).2))
noncomputable def impl_StretchedLength (x0 : Nat) (x1 : Nat) (x2 : Nat) (x3 : Nat) (x4 : Bool) (x5 : Nat) (x6 : Nat) (x7 : Int) : Nat × Int := (impl_StretchedLength.t x0 x1 x2 x3 x4 x5 x6 x7).val
def impl_StretchedLength.cd : Cd (Nat × Nat × Nat × Nat × Bool × Nat × Nat × Int) (List V × Hp) := Cd.iso (Cd.pair (Cd.cons (Cd.agg (Cd.cons (Cd.fl .f32) (Cd.cons (Cd.fl .f32) (Cd.cons (Cd.fl .f32) (Cd.cons (Cd.fl .f32) (Cd.cons Cd.bo Cd.nil)))))) (Cd.cons (Cd.fl .f32) (Cd.cons (Cd.fl .f32) Cd.nil))) (Cd.cons (Cd.ro 0 2 (Cd.vs (Cd.cons (Cd.it .i64) Cd.nil))) Cd.nil)) (fun a => (a.1.1.1, a.1.1.2.1, a.1.1.2.2.1, a.1.1.2.2.2.1, a.1.1.2.2.2.2.1, a.1.2.1, a.1.2.2.1, a.2.1.1)) (fun a => (((a.1, (a.2.1, (a.2.2.1, (a.2.2.2.1, (a.2.2.2.2.1, ()))))), (a.2.2.2.2.2.1, (a.2.2.2.2.2.2.1, ()))), ((a.2.2.2.2.2.2.2, ()), ()))) (fun _ => rfl)
noncomputable def impl_StretchedLength.tr (a : Nat × Nat × Nat × Nat × Bool × Nat × Nat × Int) : T (Nat × Int) := impl_StretchedLength.t a.1 a.2.1 a.2.2.1 a.2.2.2.1 a.2.2.2.2.1 a.2.2.2.2.2.1 a.2.2.2.2.2.2.1 a.2.2.2.2.2.2.2
def impl_StretchedLength.enc : (Nat × Nat × Nat × Nat × Bool × Nat × Nat × Int) → (Nat × Int) → V := fun a r => .tup [.fl .f32 r.1, .it .i64 r.2]
noncomputable def impl_StretchedLength.c : List V → Hp → T V := cdQ impl_StretchedLength.cd (fun a => .leaf (impl_StretchedLength.enc a (impl_StretchedLength a.1 a.2.1 a.2.2.1 a.2.2.2.1 a.2.2.2.2.1 a.2.2.2.2.2.1 a.2.2.2.2.2.2.1 a.2.2.2.2.2.2.2)))
theorem impl_StretchedLength.run (a : Nat × Nat × Nat × Nat × Bool × Nat × Nat × Int) : runF impl_StretchedLength.C Tryd.f31.results.toList impl_StretchedLength.b (impl_StretchedLength.cd.enc a).1 (impl_StretchedLength.cd.enc a).2 = (impl_StretchedLength.tr a).map fun r => (impl_StretchedLength.enc a r, (impl_StretchedLength.cd.enc a).2) := by kernel_rfl
theorem impl_StretchedLength.cok : OKq Tryd.prog 31 impl_StretchedLength.c := con_q' impl_StretchedLength.cd impl_StretchedLength.hC Tryd.func31 (by kernel_rfl) (by kernel_rfl) (by kernel_rfl) impl_StretchedLength.lp (fun a => by kernel_rfl) impl_StretchedLength.run (Tells.val (tree := impl_StretchedLength.tr) fun a => by kernel_rfl)
/-! ### laws_FnBelts -/
noncomputable def laws_FnBelts.b : Code := bodyOf Tryd.f3
noncomputable def laws_FnBelts.C : Ctx := { ty := tys, fn := [(4, .q laws_a2Long.c), (5, .q spec_A2Belt.c), (7, .q impl_BeltText.c), (6, .q impl_ReadBelt.c), (8, .q impl_LengthOf.c), (9, .q spec_LengthOf.c), (10, .q impl_TurnBelt.c), (11, .q impl_WrapOf.c), (12, .q spec_WrapOf.c), (13, .q impl_GripOf.c), (14, .q spec_GripOf.c), (15, .q spec_SameBelt.c), (16, .q impl_SameBelt.c), (17, .q impl_ValidBelt_w1.c), (18, .q spec_SameNumber.c), (19, .q spec_A2Near.c), (20, .q laws_a2At.c), (21, .q impl_PullOf.c), (22, .q spec_PullOf.c), (23, .q impl_TorqueOf.c), (24, .q spec_A2Number.c), (25, .q impl_SlipFor.c), (26, .q spec_SlipFor.c), (27, .q impl_SpeedOut.c), (28, .q spec_SpeedOut.c), (29, .q impl_BeltsNeeded.c), (30, .q spec_BeltsNeeded.c), (31, .q impl_StretchedLength.c)], lp := [], n := 531, k := 3, g := 1 }
theorem laws_FnBelts.hC : CtxOK Tryd.prog laws_FnBelts.C := CtxOK.of mo tys_ok (FnsOK.cons laws_a2Long.cok (FnsOK.cons spec_A2Belt.cok (FnsOK.cons impl_BeltText.cok (FnsOK.cons impl_ReadBelt.cok (FnsOK.cons impl_LengthOf.cok (FnsOK.cons spec_LengthOf.cok (FnsOK.cons impl_TurnBelt.cok (FnsOK.cons impl_WrapOf.cok (FnsOK.cons spec_WrapOf.cok (FnsOK.cons impl_GripOf.cok (FnsOK.cons spec_GripOf.cok (FnsOK.cons spec_SameBelt.cok (FnsOK.cons impl_SameBelt.cok (FnsOK.cons impl_ValidBelt_w1.cok (FnsOK.cons spec_SameNumber.cok (FnsOK.cons spec_A2Near.cok (FnsOK.cons laws_a2At.cok (FnsOK.cons impl_PullOf.cok (FnsOK.cons spec_PullOf.cok (FnsOK.cons impl_TorqueOf.cok (FnsOK.cons spec_A2Number.cok (FnsOK.cons impl_SlipFor.cok (FnsOK.cons spec_SlipFor.cok (FnsOK.cons impl_SpeedOut.cok (FnsOK.cons spec_SpeedOut.cok (FnsOK.cons impl_BeltsNeeded.cok (FnsOK.cons spec_BeltsNeeded.cok (FnsOK.cons impl_StretchedLength.cok FnsOK.nil))))))))))))))))))))))))))))
theorem laws_FnBelts.lp : LpOK Tryd.prog laws_FnBelts.C laws_FnBelts.b := (LpOK.nil (by kernel_rfl))
noncomputable def laws_FnBelts.t (x0 : Nat) (x1 : Nat) (x2 : Int) (x3 : List Int) (x4 : List Int) : T Bool :=
  let y1 := (laws_a2Long x0 x1 x2 x3 x4)
  .br y1
  (.leaf true)
  (let y11 := (spec_A2Belt x0 x2 x3)
   .br (spec_A2Belt.ok x0 x2 x3)
   (let y12 := (impl_BeltText y11.1 y11.2.1 y11.2.2.1 y11.2.2.2.1 y11.2.2.2.2 x2)
    .br (impl_BeltText.ok y11.1 y11.2.1 y11.2.2.1 y11.2.2.2.1 y11.2.2.2.2 x2)
    (let y13 := (impl_ReadBelt y12 x2)
     .br (impl_ReadBelt.ok y12 x2)
     (let y14 := (impl_LengthOf y11.1 y11.2.1 y11.2.2.1 y11.2.2.2.1 y11.2.2.2.2 x2)
      let y15 := (spec_LengthOf y11.1 y11.2.1 y11.2.2.1 y11.2.2.2.1 y11.2.2.2.2 x2)
      let y16 := (impl_TurnBelt y11.1 y11.2.1 y11.2.2.1 y11.2.2.2.1 y11.2.2.2.2 x2)
      let y17 := (impl_LengthOf y16.1 y16.2.1 y16.2.2.1 y16.2.2.2.1 y16.2.2.2.2.1 x2)
      let y18 := (impl_WrapOf y11.1 y11.2.1 y11.2.2.1 y11.2.2.2.1 y11.2.2.2.2 x2)
      let y19 := (spec_WrapOf y11.1 y11.2.1 y11.2.2.1 y11.2.2.2.1 y11.2.2.2.2 x2)
      let y20 := (impl_GripOf y11.1 y11.2.1 y11.2.2.1 y11.2.2.2.1 y11.2.2.2.2 x2)
      .br (impl_GripOf.ok y11.1 y11.2.1 y11.2.2.1 y11.2.2.2.1 y11.2.2.2.2 x2)
      (let y21 := (spec_GripOf y11.1 y11.2.1 y11.2.2.1 y11.2.2.2.1 y11.2.2.2.2 x2)
       .br (spec_GripOf.ok y11.1 y11.2.1 y11.2.2.1 y11.2.2.2.1 y11.2.2.2.2 x2)
       (.br (y13.2.2.2.2.2 != (0 : Int))
        (.leaf false)
        (let y22 := (spec_SameBelt y13.1 y13.2.1 y13.2.2.1 y13.2.2.2.1 y13.2.2.2.2.1 y11.1 y11.2.1 y11.2.2.1 y11.2.2.2.1 y11.2.2.2.2 x2)
         .br (spec_SameBelt.ok y13.1 y13.2.1 y13.2.2.1 y13.2.2.2.1 y13.2.2.2.2.1 y11.1 y11.2.1 y11.2.2.1 y11.2.2.2.1 y11.2.2.2.2 x2)
         (.br (!y22)
          (.leaf false)
          (let y23 := (impl_SameBelt y13.1 y13.2.1 y13.2.2.1 y13.2.2.2.1 y13.2.2.2.2.1 y11.1 y11.2.1 y11.2.2.1 y11.2.2.2.1 y11.2.2.2.2 x2)
           .br (impl_SameBelt.ok y13.1 y13.2.1 y13.2.2.1 y13.2.2.2.1 y13.2.2.2.2.1 y11.1 y11.2.1 y11.2.2.1 y11.2.2.2.1 y11.2.2.2.2 x2)
           (.br (!y23)
            (.leaf false)
            (.br (fne .f32 y13.1 y11.1)
             (.leaf false)
             (let y24 := (impl_ValidBelt_w1 y11.1 y11.2.1 y11.2.2.1 y11.2.2.2.1 y11.2.2.2.2 x2)
              .br (!y24)
              (.leaf false)
              (.br (y14.2 != y15.2)
               (.leaf false)
               (.br (y14.2 != (0 : Int))
                (.leaf false)
                (let y25 := (spec_SameNumber y14.1 y15.1 x2)
                 .br (spec_SameNumber.ok y14.1 y15.1 x2)
                 (.br (!y25)
                  (.leaf false)
                  (.br (flt .f32 y15.1 (fmul .f32 1073741824 y11.2.2.1))
                   (.leaf false)
                   (.br (y16.2.2.2.2.2 != (0 : Int))
                    (.leaf false)
                    (.br (fne .f32 y16.1 y11.2.1)
                     (.leaf false)
                     (.br (fne .f32 y16.2.1 y11.1)
                      (.leaf false)
                      (.br (y17.2 != (0 : Int))
                       (.leaf false)
                       (let y31 := (spec_A2Near y17.1 y15.1 897988541 0 x2)
                        .br (!y31)
                        (.leaf false)
                        (.br (y18.2 != y19.2)
                         (.leaf false)
                         (.br (y18.2 != (0 : Int))
                          (.leaf false)
                          (let y32 := (spec_SameNumber y18.1 y19.1 x2)
                           .br (spec_SameNumber.ok y18.1 y19.1 x2)
                           (.br (!y32)
                            (.leaf false)
                            (.br (y20.2 != y21.2)
                             (.leaf false)
                             (.br (y20.2 != (0 : Int))
                              (.leaf false)
                              (let y33 := (spec_SameNumber y20.1 y21.1 x2)
                               .br (spec_SameNumber.ok y20.1 y21.1 x2)
                               (.br (!y33)
                                (.leaf false)
                                (.br (flt .f32 y21.1 1065353216)
                                 (.leaf false)
                                 (let y34 := (impl_LengthOf y11.1 y11.2.1 y11.2.2.1 y11.2.2.2.1 true x2)
                                  let y35 := (impl_LengthOf y11.1 y11.2.1 y11.2.2.1 y11.2.2.2.1 false x2)
                                  let y36 := (impl_WrapOf y11.1 y11.2.1 y11.2.2.1 y11.2.2.2.1 true x2)
                                  let y37 := (impl_WrapOf y11.1 y11.2.1 y11.2.2.1 y11.2.2.2.1 false x2)
                                  .br (y34.2 != (0 : Int))
                                  (.leaf false)
                                  (.br (y35.2 != (0 : Int))
                                   (.leaf false)
                                   (.br (flt .f32 y34.1 y35.1)
                                    (.leaf false)
                                    (.br (y36.2 != (0 : Int))
                                     (.leaf false)
                                     (.br (y37.2 != (0 : Int))
                                      (.leaf false)
                                      (.br (flt .f32 y36.1 1078525952)
                                       (.leaf false)
                                       (.br (fgt .f32 y37.1 1078525952)
                                        (.leaf false)
                                        (let y38 := (laws_a2At x1 (0 : Int) (200 : Int) x2 x4)
                                         .br (laws_a2At.ok x1 (0 : Int) (200 : Int) x2 x4)
                                         (let y39 := (impl_PullOf y11.1 y11.2.1 y11.2.2.1 y11.2.2.2.1 y11.2.2.2.2 (fofint .f32 y38) x2)
                                          .br (impl_PullOf.ok y11.1 y11.2.1 y11.2.2.1 y11.2.2.2.1 y11.2.2.2.2 (fofint .f32 y38) x2)
                                          (let y40 := (spec_PullOf y11.1 y11.2.1 y11.2.2.1 y11.2.2.2.1 y11.2.2.2.2 (fofint .f32 y38) x2)
                                           .br (spec_PullOf.ok y11.1 y11.2.1 y11.2.2.1 y11.2.2.2.1 y11.2.2.2.2 (fofint .f32 y38) x2)
                                           (let y41 := (impl_PullOf y11.1 y11.2.1 y11.2.2.1 y11.2.2.2.1 y11.2.2.2.2 (fmul .f32 1073741824 (fofint .f32 y38)) x2)
                                            .br (impl_PullOf.ok y11.1 y11.2.1 y11.2.2.1 y11.2.2.2.1 y11.2.2.2.2 (fmul .f32 1073741824 (fofint .f32 y38)) x2)
                                            (let y42 := (impl_TorqueOf y11.1 y11.2.1 y11.2.2.1 y11.2.2.2.1 y11.2.2.2.2 (fofint .f32 y38) x2)
                                             .br (impl_TorqueOf.ok y11.1 y11.2.1 y11.2.2.1 y11.2.2.2.1 y11.2.2.2.2 (fofint .f32 y38) x2)
                                             (.br (y39.2 != y40.2)
                                              (.leaf false)
                                              (.br (y39.2 != (0 : Int))
                                               (.leaf false)
                                               (let y43 := (spec_SameNumber y39.1 y40.1 x2)
                                                .br (spec_SameNumber.ok y39.1 y40.1 x2)
                                                (.br (!y43)
                                                 (.leaf false)
                                                 (.br (flt .f32 y40.1 0)
                                                  (.leaf false)
                                                  (.br (fgt .f32 y40.1 (fofint .f32 y38))
                                                   (.leaf false)
                                                   (.br (y41.2 != (0 : Int))
                                                    (.leaf false)
                                                    (.br (flt .f32 y41.1 y40.1)
                                                     (.leaf false)
                                                     (.br (y42.2 != (0 : Int))
                                                      (.leaf false)
                                                      (let y44 := (spec_SameNumber y42.1 (fmul .f32 y40.1 y11.1) x2)
                                                       .br (spec_SameNumber.ok y42.1 (fmul .f32 y40.1 y11.1) x2)
                                                       (.br (!y44)
                                                        (.leaf false)
                                                        (let y48 := (spec_A2Number x1 x2 x4)
                                                         .br (spec_A2Number.ok x1 x2 x4)
                                                         (let y49 := (impl_SlipFor y11.1 y11.2.1 y11.2.2.1 y11.2.2.2.1 y11.2.2.2.2 (fofint .f32 y38) y48 x2)
                                                          .br (impl_SlipFor.ok y11.1 y11.2.1 y11.2.2.1 y11.2.2.2.1 y11.2.2.2.2 (fofint .f32 y38) y48 x2)
                                                          (let y50 := (spec_SlipFor y11.1 y11.2.1 y11.2.2.1 y11.2.2.2.1 y11.2.2.2.2 (fofint .f32 y38) y48 x2)
                                                           .br (spec_SlipFor.ok y11.1 y11.2.1 y11.2.2.1 y11.2.2.2.1 y11.2.2.2.2 (fofint .f32 y38) y48 x2)
                                                           (let y51 := (spec_SameNumber y49.1 y50.1 x2)
                                                            .join
                                                            (.br (y49.2 != y50.2)
                                                             (.leaf (some false))
                                                             (.br (y49.2 != (0 : Int))
                                                              (.leaf (some false))
                                                              (.br (spec_SameNumber.ok y49.1 y50.1 x2)
                                                               (.br (!y51)
                                                                (.leaf (some false))
                                                                (.br (!(fge .f32 y50.1 0))
                                                                 (.leaf (some false))
                                                                 (.br (fgt .f32 y50.1 1015021568)
                                                                  (.br (fne .f32 y50.1 1065353216)
                                                                   (.leaf (some false))
                                                                   (.br (feq .f32 y48 0)
                                                                    (.br (fne .f32 y50.1 0)
                                                                     (.leaf (some false))
                                                                     (.leaf none))
                                                                    (.leaf none)))
                                                                  (.br (feq .f32 y48 0)
                                                                   (.br (fne .f32 y50.1 0)
                                                                    (.leaf (some false))
                                                                    (.leaf none))
                                                                   (.leaf none)))))
                                                               .bad)))
                                                            (let y52 := (impl_SpeedOut y11.1 y11.2.1 y11.2.2.1 y11.2.2.2.1 y11.2.2.2.2 1090519040 0 x2)
                                                             let y53 := (impl_SpeedOut y11.1 y11.2.1 y11.2.2.1 y11.2.2.2.1 y11.2.2.2.2 1090519040 y50.1 x2)
                                                             let y54 := (spec_SpeedOut y11.1 y11.2.1 y11.2.2.1 y11.2.2.2.1 y11.2.2.2.2 1090519040 y50.1 x2)
                                                             .br (y52.2 != (0 : Int))
                                                             (.leaf false)
                                                             (.br (y53.2 != y54.2)
                                                              (.leaf false)
                                                              (.br (y53.2 != (0 : Int))
                                                               (.leaf false)
                                                               (let y55 := (spec_SameNumber y53.1 y54.1 x2)
                                                                .br (spec_SameNumber.ok y53.1 y54.1 x2)
                                                                (.br (!y55)
                                                                 (.leaf false)
                                                                 (.br (fgt .f32 (fmax .f32 y54.1 (fneg .f32 y54.1)) (fmax .f32 y52.1 (fneg .f32 y52.1)))
                                                                  (.leaf false)
                                                                  (.br (!((flt .f32 y52.1 0) == y11.2.2.2.2))
                                                                   (.leaf false)
                                                                   (let y56 := (impl_BeltsNeeded y11.1 y11.2.1 y11.2.2.1 y11.2.2.2.1 y11.2.2.2.2 (fofint .f32 y38) y48 x2)
                                                                    .br (impl_BeltsNeeded.ok y11.1 y11.2.1 y11.2.2.1 y11.2.2.2.1 y11.2.2.2.2 (fofint .f32 y38) y48 x2)
                                                                    (let y57 := (spec_BeltsNeeded y11.1 y11.2.1 y11.2.2.1 y11.2.2.2.1 y11.2.2.2.2 (fofint .f32 y38) y48 x2)
                                                                     .br (spec_BeltsNeeded.ok y11.1 y11.2.1 y11.2.2.1 y11.2.2.2.1 y11.2.2.2.2 (fofint .f32 y38) y48 x2)
                                                                     (let y58 := (impl_StretchedLength y11.1 y11.2.1 y11.2.2.1 y11.2.2.2.1 y11.2.2.2.2 (fofint .f32 y38) 1148846080 x2)
                                                                      .br (y56.2 != y57.2)
                                                                      (.leaf false)
                                                                      (.br (y56.1 != y57.1)
                                                                       (.leaf false)
                                                                       (.br (y58.2 != (0 : Int))
                                                                        (.leaf false)
                                                                        (.br (flt .f32 y58.1 y15.1)
                                                                         (.leaf false)
                                                                         (.br (y56.2 != (0 : Int))
                                                                          (.br (y56.2 == (6 : Int))
                                                                           (.leaf (flt .f32 (fmul .f32 1094713344 y42.1) (fmul .f32 (fmax .f32 y48 (fneg .f32 y48)) 1065353224)))
                                                                           (.leaf false))
                                                                          (.br (decide (y57.1 ≥ (1 : Int)))
                                                                           (.br (decide (y57.1 ≤ (12 : Int)))
                                                                            (.br (fge .f32 (fmul .f32 (fofint .f32 y57.1) y42.1) (fmul .f32 (fmax .f32 y48 (fneg .f32 y48)) 1065353199))
                                                                             (.br (y57.1 == (1 : Int))
                                                                              (.leaf true)
                                                                              (.leaf (flt .f32 (fmul .f32 (fofint .f32 (IntKind.wrap .i64 (y57.1 - (1 : Int)))) y42.1) (fmul .f32 (fmax .f32 y48 (fneg .f32 y48)) 1065353224))))
                                                                             (.leaf false))
                                                                            (.leaf false))
                                                                           (.leaf false)))))))
                                                                     .bad)
                                                                    .bad))))
                                                                .bad)))))
                                                           .bad)
                                                          .bad)
                                                         .bad))
                                                       .bad)))))))
                                                .bad)))
                                             .bad)
                                            .bad)
                                           .bad)
                                          .bad)
                                         .bad))))))))))
                               .bad))))
                           .bad))))))))))
                 .bad))))))
           .bad))
         .bad))
       .bad)
      .bad)
     .bad)
    .bad)
   .bad)
noncomputable def laws_FnBelts (x0 : Nat) (x1 : Nat) (x2 : Int) (x3 : List Int) (x4 : List Int) : Bool := (laws_FnBelts.t x0 x1 x2 x3 x4).val
noncomputable def laws_FnBelts.ok (x0 : Nat) (x1 : Nat) (x2 : Int) (x3 : List Int) (x4 : List Int) : Bool := (laws_FnBelts.t x0 x1 x2 x3 x4).ok
def laws_FnBelts.cd : Cd (Nat × Nat × Int × List Int × List Int) (List V × Hp) := Cd.iso (Cd.pair (Cd.cons (Cd.sl 1 (Cd.natc 0)) (Cd.cons (Cd.sl 2 (Cd.natc 0)) Cd.nil)) (Cd.cons (Cd.ro 0 2 (Cd.vs (Cd.cons (Cd.it .i64) Cd.nil))) (Cd.cons (Cd.ro 0 0 (Cd.is .u8)) (Cd.cons (Cd.ro 0 0 (Cd.is .u8)) Cd.nil)))) (fun a => (a.1.1.2, a.1.2.1.2, a.2.1.1, a.2.2.1, a.2.2.2.1)) (fun a => ((((), a.1), (((), a.2.1), ())), ((a.2.2.1, ()), (a.2.2.2.1, (a.2.2.2.2, ()))))) (fun _ => rfl)
noncomputable def laws_FnBelts.tr (a : Nat × Nat × Int × List Int × List Int) : T Bool := laws_FnBelts.t a.1 a.2.1 a.2.2.1 a.2.2.2.1 a.2.2.2.2
def laws_FnBelts.enc : (Nat × Nat × Int × List Int × List Int) → Bool → V := fun a r => .bo r
noncomputable def laws_FnBelts.c : List V → Hp → T V := cdQ laws_FnBelts.cd (fun a => .br (laws_FnBelts.ok a.1 a.2.1 a.2.2.1 a.2.2.2.1 a.2.2.2.2) (.leaf (laws_FnBelts.enc a (laws_FnBelts a.1 a.2.1 a.2.2.1 a.2.2.2.1 a.2.2.2.2))) .bad)
theorem laws_FnBelts.run (a : Nat × Nat × Int × List Int × List Int) : runF laws_FnBelts.C Tryd.f3.results.toList laws_FnBelts.b (laws_FnBelts.cd.enc a).1 (laws_FnBelts.cd.enc a).2 = (laws_FnBelts.tr a).map fun r => (laws_FnBelts.enc a r, (laws_FnBelts.cd.enc a).2) := by kernel_rfl
theorem laws_FnBelts.cok : OKq Tryd.prog 3 laws_FnBelts.c := con_q' laws_FnBelts.cd laws_FnBelts.hC Tryd.func3 (by kernel_rfl) (by kernel_rfl) (by kernel_rfl) laws_FnBelts.lp (fun a => by kernel_rfl) laws_FnBelts.run (Tells.ok (tree := laws_FnBelts.tr))
theorem laws_FnBelts.walk (a : Nat × Nat × Int × List Int × List Int) (h : (laws_FnBelts.tr a).get = some true) {ρ : Nat → Option Sx.Loc} {w : World} {vs : List Value} (hargs : V.Rs ρ (laws_FnBelts.cd.enc a).1 vs) (hh : HpR ρ (laws_FnBelts.cd.enc a).2 w) :
    Calls Tryd.prog 3 vs.toArray w fun e w' => e = .returned (.bool true) ∧ Below w.heap.size w w' :=
  law_cd laws_FnBelts.cd laws_FnBelts.hC Tryd.func3 (by kernel_rfl) (by kernel_rfl) laws_FnBelts.lp (fun a => by kernel_rfl) laws_FnBelts.run (fun a => by kernel_rfl) a (by kernel_rfl) h hargs hh
end Go.Proofs.YtkfpmiggolmabaaDoor
