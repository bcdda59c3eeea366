/- The walk of FnWater: what each function that it comes to computes, as a tree of tests. -/
import Derived.Test.YtccdbfmfdhhgfaaGreatDoorSxU
import Derived.Test.YtccdbfmfdhhgfaaGreatDoorShelf
import Derived.Test.YtccdbfmfdhhgfaaGreatDoorSxV
import Derived.Test.YtccdbfmfdhhgfaaGreatDoorSxB2
import Derived.Test.YtccdbfmfdhhgfaaGreatDoorCount
import Derived.Test.YtccdbfmfdhhgfaaGreatDoorSxW
import Derived.Test.YtccdbfmfdhhgfaaGreatDoorSxP
import Derived.Test.YtccdbfmfdhhgfaaGreatDoorChecked
namespace Go.Proofs.YtccdbfmfdhhgfaaGreatDoor
open Go Go.RowKit Sx
set_option linter.unusedVariables false
set_option maxRecDepth 100000
set_option maxHeartbeats 0
noncomputable def ti1 : TI := ⟨Tryz.t1.desc, 1, 8, [.nf]⟩
theorem ti1_ok : TyOK Tryz.prog 1 ti1 := TyOK.of (inf := Tryz.t1) Tryz.underlying1 (by kernel_rfl) (by kernel_rfl) (by kernel_rfl) (by kernel_rfl)
noncomputable def ti2 : TI := ⟨Tryz.t2.desc, 1, 8, [.it .i64 (0 : Int)]⟩
theorem ti2_ok : TyOK Tryz.prog 2 ti2 := TyOK.of (inf := Tryz.t2) Tryz.underlying2 (by kernel_rfl) (by kernel_rfl) (by kernel_rfl) (by kernel_rfl)
noncomputable def ti3 : TI := ⟨Tryz.t3.desc, 1, 8, [.it .i64 (0 : Int)]⟩
theorem ti3_ok : TyOK Tryz.prog 3 ti3 := TyOK.of (inf := Tryz.t3) Tryz.underlying3 (by kernel_rfl) (by kernel_rfl) (by kernel_rfl) (by kernel_rfl)
noncomputable def ti4 : TI := ⟨Tryz.t4.desc, 1, 1, [.kb false]⟩
theorem ti4_ok : TyOK Tryz.prog 4 ti4 := TyOK.of (inf := Tryz.t4) Tryz.underlying4 (by kernel_rfl) (by kernel_rfl) (by kernel_rfl) (by kernel_rfl)
noncomputable def ti5 : TI := ⟨Tryz.t5.desc, 1, 1, [.it .u8 (0 : Int)]⟩
theorem ti5_ok : TyOK Tryz.prog 5 ti5 := TyOK.of (inf := Tryz.t5) Tryz.underlying5 (by kernel_rfl) (by kernel_rfl) (by kernel_rfl) (by kernel_rfl)
noncomputable def ti6 : TI := ⟨Tryz.t5.desc, 1, 1, [.it .u8 (0 : Int)]⟩
theorem ti6_ok : TyOK Tryz.prog 6 ti6 := TyOK.of (inf := Tryz.t6) Tryz.underlying6 (by kernel_rfl) (by kernel_rfl) (by kernel_rfl) (by kernel_rfl)
noncomputable def ti7 : TI := ⟨Tryz.t7.desc, 4, 24, [.it .i64 (0 : Int), .it .i64 (0 : Int), .kb false, .it .u8 (0 : Int)]⟩
theorem ti7_ok : TyOK Tryz.prog 7 ti7 := TyOK.of (inf := Tryz.t7) Tryz.underlying7 (by kernel_rfl) (by kernel_rfl) (by kernel_rfl) (by kernel_rfl)
noncomputable def ti8 : TI := ⟨Tryz.t7.desc, 4, 24, [.it .i64 (0 : Int), .it .i64 (0 : Int), .kb false, .it .u8 (0 : Int)]⟩
theorem ti8_ok : TyOK Tryz.prog 8 ti8 := TyOK.of (inf := Tryz.t8) Tryz.underlying8 (by kernel_rfl) (by kernel_rfl) (by kernel_rfl) (by kernel_rfl)
noncomputable def ti9 : TI := ⟨Tryz.t9.desc, 1, 16, [.st (ByteArray.mk #[])]⟩
theorem ti9_ok : TyOK Tryz.prog 9 ti9 := TyOK.of (inf := Tryz.t9) Tryz.underlying9 (by kernel_rfl) (by kernel_rfl) (by kernel_rfl) (by kernel_rfl)
noncomputable def ti10 : TI := ⟨Tryz.t9.desc, 1, 16, [.st (ByteArray.mk #[])]⟩
theorem ti10_ok : TyOK Tryz.prog 10 ti10 := TyOK.of (inf := Tryz.t10) Tryz.underlying10 (by kernel_rfl) (by kernel_rfl) (by kernel_rfl) (by kernel_rfl)
noncomputable def ti11 : TI := ⟨Tryz.t9.desc, 1, 16, [.st (ByteArray.mk #[])]⟩
theorem ti11_ok : TyOK Tryz.prog 11 ti11 := TyOK.of (inf := Tryz.t11) Tryz.underlying11 (by kernel_rfl) (by kernel_rfl) (by kernel_rfl) (by kernel_rfl)
noncomputable def ti12 : TI := ⟨Tryz.t12.desc, 1, 8, [.it .u64 (0 : Int)]⟩
theorem ti12_ok : TyOK Tryz.prog 12 ti12 := TyOK.of (inf := Tryz.t12) Tryz.underlying12 (by kernel_rfl) (by kernel_rfl) (by kernel_rfl) (by kernel_rfl)
noncomputable def ti13 : TI := ⟨Tryz.t13.desc, 2, 24, [.st (ByteArray.mk #[]), .it .u64 (0 : Int)]⟩
theorem ti13_ok : TyOK Tryz.prog 13 ti13 := TyOK.of (inf := Tryz.t13) Tryz.underlying13 (by kernel_rfl) (by kernel_rfl) (by kernel_rfl) (by kernel_rfl)
noncomputable def ti14 : TI := ⟨Tryz.t13.desc, 2, 24, [.st (ByteArray.mk #[]), .it .u64 (0 : Int)]⟩
theorem ti14_ok : TyOK Tryz.prog 14 ti14 := TyOK.of (inf := Tryz.t14) Tryz.underlying14 (by kernel_rfl) (by kernel_rfl) (by kernel_rfl) (by kernel_rfl)
noncomputable def ti15 : TI := ⟨Tryz.t15.desc, 1, 8, [.pn]⟩
theorem ti15_ok : TyOK Tryz.prog 15 ti15 := TyOK.of (inf := Tryz.t15) Tryz.underlying15 (by kernel_rfl) (by kernel_rfl) (by kernel_rfl) (by kernel_rfl)
noncomputable def ti16 : TI := ⟨Tryz.t16.desc, 1, 8, [.pn]⟩
theorem ti16_ok : TyOK Tryz.prog 16 ti16 := TyOK.of (inf := Tryz.t16) Tryz.underlying16 (by kernel_rfl) (by kernel_rfl) (by kernel_rfl) (by kernel_rfl)
noncomputable def ti17 : TI := ⟨Tryz.t17.desc, 1, 8, [.pn]⟩
theorem ti17_ok : TyOK Tryz.prog 17 ti17 := TyOK.of (inf := Tryz.t17) Tryz.underlying17 (by kernel_rfl) (by kernel_rfl) (by kernel_rfl) (by kernel_rfl)
noncomputable def ti18 : TI := ⟨Tryz.t18.desc, 1, 8, [.pn]⟩
theorem ti18_ok : TyOK Tryz.prog 18 ti18 := TyOK.of (inf := Tryz.t18) Tryz.underlying18 (by kernel_rfl) (by kernel_rfl) (by kernel_rfl) (by kernel_rfl)
noncomputable def ti19 : TI := ⟨Tryz.t18.desc, 1, 8, [.pn]⟩
theorem ti19_ok : TyOK Tryz.prog 19 ti19 := TyOK.of (inf := Tryz.t19) Tryz.underlying19 (by kernel_rfl) (by kernel_rfl) (by kernel_rfl) (by kernel_rfl)
noncomputable def ti21 : TI := ⟨Tryz.t21.desc, 1, 4, [.it .i32 (0 : Int)]⟩
theorem ti21_ok : TyOK Tryz.prog 21 ti21 := TyOK.of (inf := Tryz.t21) Tryz.underlying21 (by kernel_rfl) (by kernel_rfl) (by kernel_rfl) (by kernel_rfl)
noncomputable def ti22 : TI := ⟨Tryz.t22.desc, 1, 24, [.sn]⟩
theorem ti22_ok : TyOK Tryz.prog 22 ti22 := TyOK.of (inf := Tryz.t22) Tryz.underlying22 (by kernel_rfl) (by kernel_rfl) (by kernel_rfl) (by kernel_rfl)
noncomputable def ti23 : TI := ⟨Tryz.t23.desc, 1, 8, [.nf]⟩
theorem ti23_ok : TyOK Tryz.prog 23 ti23 := TyOK.of (inf := Tryz.t23) Tryz.underlying23 (by kernel_rfl) (by kernel_rfl) (by kernel_rfl) (by kernel_rfl)
noncomputable def ti24 : TI := ⟨Tryz.t24.desc, 1, 2, [.it .i16 (0 : Int)]⟩
theorem ti24_ok : TyOK Tryz.prog 24 ti24 := TyOK.of (inf := Tryz.t24) Tryz.underlying24 (by kernel_rfl) (by kernel_rfl) (by kernel_rfl) (by kernel_rfl)
noncomputable def ti25 : TI := ⟨Tryz.t25.desc, 1, 4, [.fl .f32 0]⟩
theorem ti25_ok : TyOK Tryz.prog 25 ti25 := TyOK.of (inf := Tryz.t25) Tryz.underlying25 (by kernel_rfl) (by kernel_rfl) (by kernel_rfl) (by kernel_rfl)
noncomputable def ti26 : TI := ⟨Tryz.t26.desc, 3, 12, [.it .i16 (0 : Int), .fl .f32 0, .fl .f32 0]⟩
theorem ti26_ok : TyOK Tryz.prog 26 ti26 := TyOK.of (inf := Tryz.t26) Tryz.underlying26 (by kernel_rfl) (by kernel_rfl) (by kernel_rfl) (by kernel_rfl)
noncomputable def ti27 : TI := ⟨Tryz.t26.desc, 3, 12, [.it .i16 (0 : Int), .fl .f32 0, .fl .f32 0]⟩
theorem ti27_ok : TyOK Tryz.prog 27 ti27 := TyOK.of (inf := Tryz.t27) Tryz.underlying27 (by kernel_rfl) (by kernel_rfl) (by kernel_rfl) (by kernel_rfl)
noncomputable def ti28 : TI := ⟨Tryz.t28.desc, 1, 8, [.nf]⟩
theorem ti28_ok : TyOK Tryz.prog 28 ti28 := TyOK.of (inf := Tryz.t28) Tryz.underlying28 (by kernel_rfl) (by kernel_rfl) (by kernel_rfl) (by kernel_rfl)
noncomputable def ti29 : TI := ⟨Tryz.t29.desc, 1, 8, [.nf]⟩
theorem ti29_ok : TyOK Tryz.prog 29 ti29 := TyOK.of (inf := Tryz.t29) Tryz.underlying29 (by kernel_rfl) (by kernel_rfl) (by kernel_rfl) (by kernel_rfl)
noncomputable def ti31 : TI := ⟨Tryz.t31.desc, 1, 8, [.nf]⟩
theorem ti31_ok : TyOK Tryz.prog 31 ti31 := TyOK.of (inf := Tryz.t31) Tryz.underlying31 (by kernel_rfl) (by kernel_rfl) (by kernel_rfl) (by kernel_rfl)
noncomputable def ti32 : TI := ⟨Tryz.t32.desc, 1, 8, [.nf]⟩
theorem ti32_ok : TyOK Tryz.prog 32 ti32 := TyOK.of (inf := Tryz.t32) Tryz.underlying32 (by kernel_rfl) (by kernel_rfl) (by kernel_rfl) (by kernel_rfl)
noncomputable def ti34 : TI := ⟨Tryz.t34.desc, 1, 8, [.nf]⟩
theorem ti34_ok : TyOK Tryz.prog 34 ti34 := TyOK.of (inf := Tryz.t34) Tryz.underlying34 (by kernel_rfl) (by kernel_rfl) (by kernel_rfl) (by kernel_rfl)
noncomputable def ti35 : TI := ⟨Tryz.t35.desc, 1, 8, [.nf]⟩
theorem ti35_ok : TyOK Tryz.prog 35 ti35 := TyOK.of (inf := Tryz.t35) Tryz.underlying35 (by kernel_rfl) (by kernel_rfl) (by kernel_rfl) (by kernel_rfl)
noncomputable def ti36 : TI := ⟨Tryz.t36.desc, 1, 8, [.nf]⟩
theorem ti36_ok : TyOK Tryz.prog 36 ti36 := TyOK.of (inf := Tryz.t36) Tryz.underlying36 (by kernel_rfl) (by kernel_rfl) (by kernel_rfl) (by kernel_rfl)
noncomputable def ti37 : TI := ⟨Tryz.t37.desc, 1, 8, [.nf]⟩
theorem ti37_ok : TyOK Tryz.prog 37 ti37 := TyOK.of (inf := Tryz.t37) Tryz.underlying37 (by kernel_rfl) (by kernel_rfl) (by kernel_rfl) (by kernel_rfl)
noncomputable def ti38 : TI := ⟨Tryz.t38.desc, 1, 8, [.nf]⟩
theorem ti38_ok : TyOK Tryz.prog 38 ti38 := TyOK.of (inf := Tryz.t38) Tryz.underlying38 (by kernel_rfl) (by kernel_rfl) (by kernel_rfl) (by kernel_rfl)
noncomputable def ti39 : TI := ⟨Tryz.t39.desc, 1, 8, [.nf]⟩
theorem ti39_ok : TyOK Tryz.prog 39 ti39 := TyOK.of (inf := Tryz.t39) Tryz.underlying39 (by kernel_rfl) (by kernel_rfl) (by kernel_rfl) (by kernel_rfl)
noncomputable def ti40 : TI := ⟨Tryz.t40.desc, 1, 8, [.nf]⟩
theorem ti40_ok : TyOK Tryz.prog 40 ti40 := TyOK.of (inf := Tryz.t40) Tryz.underlying40 (by kernel_rfl) (by kernel_rfl) (by kernel_rfl) (by kernel_rfl)
noncomputable def ti41 : TI := ⟨Tryz.t41.desc, 1, 8, [.nf]⟩
theorem ti41_ok : TyOK Tryz.prog 41 ti41 := TyOK.of (inf := Tryz.t41) Tryz.underlying41 (by kernel_rfl) (by kernel_rfl) (by kernel_rfl) (by kernel_rfl)
noncomputable def ti42 : TI := ⟨Tryz.t42.desc, 1, 8, [.nf]⟩
theorem ti42_ok : TyOK Tryz.prog 42 ti42 := TyOK.of (inf := Tryz.t42) Tryz.underlying42 (by kernel_rfl) (by kernel_rfl) (by kernel_rfl) (by kernel_rfl)
noncomputable def ti43 : TI := ⟨Tryz.t43.desc, 1, 8, [.nf]⟩
theorem ti43_ok : TyOK Tryz.prog 43 ti43 := TyOK.of (inf := Tryz.t43) Tryz.underlying43 (by kernel_rfl) (by kernel_rfl) (by kernel_rfl) (by kernel_rfl)
noncomputable def ti44 : TI := ⟨Tryz.t44.desc, 1, 8, [.pn]⟩
theorem ti44_ok : TyOK Tryz.prog 44 ti44 := TyOK.of (inf := Tryz.t44) Tryz.underlying44 (by kernel_rfl) (by kernel_rfl) (by kernel_rfl) (by kernel_rfl)
noncomputable def ti45 : TI := ⟨Tryz.t45.desc, 1, 8, [.nf]⟩
theorem ti45_ok : TyOK Tryz.prog 45 ti45 := TyOK.of (inf := Tryz.t45) Tryz.underlying45 (by kernel_rfl) (by kernel_rfl) (by kernel_rfl) (by kernel_rfl)
noncomputable def ti46 : TI := ⟨Tryz.t46.desc, 1, 8, [.nf]⟩
theorem ti46_ok : TyOK Tryz.prog 46 ti46 := TyOK.of (inf := Tryz.t46) Tryz.underlying46 (by kernel_rfl) (by kernel_rfl) (by kernel_rfl) (by kernel_rfl)
noncomputable def ti47 : TI := ⟨Tryz.t47.desc, 1, 24, [.sn]⟩
theorem ti47_ok : TyOK Tryz.prog 47 ti47 := TyOK.of (inf := Tryz.t47) Tryz.underlying47 (by kernel_rfl) (by kernel_rfl) (by kernel_rfl) (by kernel_rfl)
noncomputable def ti48 : TI := ⟨Tryz.t48.desc, 1, 8, [.nf]⟩
theorem ti48_ok : TyOK Tryz.prog 48 ti48 := TyOK.of (inf := Tryz.t48) Tryz.underlying48 (by kernel_rfl) (by kernel_rfl) (by kernel_rfl) (by kernel_rfl)
noncomputable def ti50 : TI := ⟨Tryz.t50.desc, 1, 8, [.nf]⟩
theorem ti50_ok : TyOK Tryz.prog 50 ti50 := TyOK.of (inf := Tryz.t50) Tryz.underlying50 (by kernel_rfl) (by kernel_rfl) (by kernel_rfl) (by kernel_rfl)
noncomputable def ti51 : TI := ⟨Tryz.t51.desc, 1, 24, [.sn]⟩
theorem ti51_ok : TyOK Tryz.prog 51 ti51 := TyOK.of (inf := Tryz.t51) Tryz.underlying51 (by kernel_rfl) (by kernel_rfl) (by kernel_rfl) (by kernel_rfl)
noncomputable def ti53 : TI := ⟨Tryz.t53.desc, 1, 8, [.nf]⟩
theorem ti53_ok : TyOK Tryz.prog 53 ti53 := TyOK.of (inf := Tryz.t53) Tryz.underlying53 (by kernel_rfl) (by kernel_rfl) (by kernel_rfl) (by kernel_rfl)
noncomputable def ti54 : TI := ⟨Tryz.t54.desc, 1, 8, [.nf]⟩
theorem ti54_ok : TyOK Tryz.prog 54 ti54 := TyOK.of (inf := Tryz.t54) Tryz.underlying54 (by kernel_rfl) (by kernel_rfl) (by kernel_rfl) (by kernel_rfl)
noncomputable def ti55 : TI := ⟨Tryz.t55.desc, 1, 8, [.nf]⟩
theorem ti55_ok : TyOK Tryz.prog 55 ti55 := TyOK.of (inf := Tryz.t55) Tryz.underlying55 (by kernel_rfl) (by kernel_rfl) (by kernel_rfl) (by kernel_rfl)
noncomputable def ti56 : TI := ⟨Tryz.t56.desc, 1, 8, [.nf]⟩
theorem ti56_ok : TyOK Tryz.prog 56 ti56 := TyOK.of (inf := Tryz.t56) Tryz.underlying56 (by kernel_rfl) (by kernel_rfl) (by kernel_rfl) (by kernel_rfl)
noncomputable def ti57 : TI := ⟨Tryz.t57.desc, 1, 8, [.nf]⟩
theorem ti57_ok : TyOK Tryz.prog 57 ti57 := TyOK.of (inf := Tryz.t57) Tryz.underlying57 (by kernel_rfl) (by kernel_rfl) (by kernel_rfl) (by kernel_rfl)
noncomputable def ti58 : TI := ⟨Tryz.t58.desc, 1, 8, [.nf]⟩
theorem ti58_ok : TyOK Tryz.prog 58 ti58 := TyOK.of (inf := Tryz.t58) Tryz.underlying58 (by kernel_rfl) (by kernel_rfl) (by kernel_rfl) (by kernel_rfl)
noncomputable def ti59 : TI := ⟨Tryz.t59.desc, 1, 8, [.nf]⟩
theorem ti59_ok : TyOK Tryz.prog 59 ti59 := TyOK.of (inf := Tryz.t59) Tryz.underlying59 (by kernel_rfl) (by kernel_rfl) (by kernel_rfl) (by kernel_rfl)
noncomputable def ti60 : TI := ⟨Tryz.t60.desc, 1, 8, [.nf]⟩
theorem ti60_ok : TyOK Tryz.prog 60 ti60 := TyOK.of (inf := Tryz.t60) Tryz.underlying60 (by kernel_rfl) (by kernel_rfl) (by kernel_rfl) (by kernel_rfl)
noncomputable def ti61 : TI := ⟨Tryz.t61.desc, 1, 8, [.nf]⟩
theorem ti61_ok : TyOK Tryz.prog 61 ti61 := TyOK.of (inf := Tryz.t61) Tryz.underlying61 (by kernel_rfl) (by kernel_rfl) (by kernel_rfl) (by kernel_rfl)
noncomputable def ti62 : TI := ⟨Tryz.t62.desc, 1, 8, [.nf]⟩
theorem ti62_ok : TyOK Tryz.prog 62 ti62 := TyOK.of (inf := Tryz.t62) Tryz.underlying62 (by kernel_rfl) (by kernel_rfl) (by kernel_rfl) (by kernel_rfl)
noncomputable def ti63 : TI := ⟨Tryz.t63.desc, 1, 8, [.nf]⟩
theorem ti63_ok : TyOK Tryz.prog 63 ti63 := TyOK.of (inf := Tryz.t63) Tryz.underlying63 (by kernel_rfl) (by kernel_rfl) (by kernel_rfl) (by kernel_rfl)
noncomputable def ti64 : TI := ⟨Tryz.t64.desc, 1, 8, [.nf]⟩
theorem ti64_ok : TyOK Tryz.prog 64 ti64 := TyOK.of (inf := Tryz.t64) Tryz.underlying64 (by kernel_rfl) (by kernel_rfl) (by kernel_rfl) (by kernel_rfl)
noncomputable def ti65 : TI := ⟨Tryz.t65.desc, 1, 8, [.it .u64 (0 : Int)]⟩
theorem ti65_ok : TyOK Tryz.prog 65 ti65 := TyOK.of (inf := Tryz.t65) Tryz.underlying65 (by kernel_rfl) (by kernel_rfl) (by kernel_rfl) (by kernel_rfl)
noncomputable def ti66 : TI := ⟨Tryz.t66.desc, 3, 40, [.sn, .it .i64 (0 : Int), .it .u64 (0 : Int)]⟩
theorem ti66_ok : TyOK Tryz.prog 66 ti66 := TyOK.of (inf := Tryz.t66) Tryz.underlying66 (by kernel_rfl) (by kernel_rfl) (by kernel_rfl) (by kernel_rfl)
noncomputable def ti67 : TI := ⟨Tryz.t66.desc, 3, 40, [.sn, .it .i64 (0 : Int), .it .u64 (0 : Int)]⟩
theorem ti67_ok : TyOK Tryz.prog 67 ti67 := TyOK.of (inf := Tryz.t67) Tryz.underlying67 (by kernel_rfl) (by kernel_rfl) (by kernel_rfl) (by kernel_rfl)
noncomputable def ti68 : TI := ⟨Tryz.t68.desc, 1, 8, [.nf]⟩
theorem ti68_ok : TyOK Tryz.prog 68 ti68 := TyOK.of (inf := Tryz.t68) Tryz.underlying68 (by kernel_rfl) (by kernel_rfl) (by kernel_rfl) (by kernel_rfl)
noncomputable def ti69 : TI := ⟨Tryz.t69.desc, 1, 8, [.nf]⟩
theorem ti69_ok : TyOK Tryz.prog 69 ti69 := TyOK.of (inf := Tryz.t69) Tryz.underlying69 (by kernel_rfl) (by kernel_rfl) (by kernel_rfl) (by kernel_rfl)
noncomputable def ti73 : TI := ⟨Tryz.t73.desc, 1, 8, [.nf]⟩
theorem ti73_ok : TyOK Tryz.prog 73 ti73 := TyOK.of (inf := Tryz.t73) Tryz.underlying73 (by kernel_rfl) (by kernel_rfl) (by kernel_rfl) (by kernel_rfl)
noncomputable def ti74 : TI := ⟨Tryz.t74.desc, 1, 8, [.nf]⟩
theorem ti74_ok : TyOK Tryz.prog 74 ti74 := TyOK.of (inf := Tryz.t74) Tryz.underlying74 (by kernel_rfl) (by kernel_rfl) (by kernel_rfl) (by kernel_rfl)
noncomputable def ti75 : TI := ⟨Tryz.t75.desc, 1, 8, [.nf]⟩
theorem ti75_ok : TyOK Tryz.prog 75 ti75 := TyOK.of (inf := Tryz.t75) Tryz.underlying75 (by kernel_rfl) (by kernel_rfl) (by kernel_rfl) (by kernel_rfl)
noncomputable def ti76 : TI := ⟨Tryz.t76.desc, 1, 8, [.nf]⟩
theorem ti76_ok : TyOK Tryz.prog 76 ti76 := TyOK.of (inf := Tryz.t76) Tryz.underlying76 (by kernel_rfl) (by kernel_rfl) (by kernel_rfl) (by kernel_rfl)
noncomputable def ti77 : TI := ⟨Tryz.t77.desc, 1, 8, [.nf]⟩
theorem ti77_ok : TyOK Tryz.prog 77 ti77 := TyOK.of (inf := Tryz.t77) Tryz.underlying77 (by kernel_rfl) (by kernel_rfl) (by kernel_rfl) (by kernel_rfl)
noncomputable def ti78 : TI := ⟨Tryz.t78.desc, 1, 8, [.pn]⟩
theorem ti78_ok : TyOK Tryz.prog 78 ti78 := TyOK.of (inf := Tryz.t78) Tryz.underlying78 (by kernel_rfl) (by kernel_rfl) (by kernel_rfl) (by kernel_rfl)
noncomputable def ti79 : TI := ⟨Tryz.t79.desc, 1, 4, [.it .u32 (0 : Int)]⟩
theorem ti79_ok : TyOK Tryz.prog 79 ti79 := TyOK.of (inf := Tryz.t79) Tryz.underlying79 (by kernel_rfl) (by kernel_rfl) (by kernel_rfl) (by kernel_rfl)
noncomputable def ti80 : TI := ⟨Tryz.t80.desc, 1, 8, [.nf]⟩
theorem ti80_ok : TyOK Tryz.prog 80 ti80 := TyOK.of (inf := Tryz.t80) Tryz.underlying80 (by kernel_rfl) (by kernel_rfl) (by kernel_rfl) (by kernel_rfl)
noncomputable def ti81 : TI := ⟨Tryz.t81.desc, 1, 8, [.fl .f64 0]⟩
theorem ti81_ok : TyOK Tryz.prog 81 ti81 := TyOK.of (inf := Tryz.t81) Tryz.underlying81 (by kernel_rfl) (by kernel_rfl) (by kernel_rfl) (by kernel_rfl)
noncomputable def ti82 : TI := ⟨Tryz.t82.desc, 1, 8, [.nf]⟩
theorem ti82_ok : TyOK Tryz.prog 82 ti82 := TyOK.of (inf := Tryz.t82) Tryz.underlying82 (by kernel_rfl) (by kernel_rfl) (by kernel_rfl) (by kernel_rfl)
noncomputable def ti83 : TI := ⟨Tryz.t83.desc, 1, 8, [.it .u64 (0 : Int)]⟩
theorem ti83_ok : TyOK Tryz.prog 83 ti83 := TyOK.of (inf := Tryz.t83) Tryz.underlying83 (by kernel_rfl) (by kernel_rfl) (by kernel_rfl) (by kernel_rfl)
noncomputable def ti84 : TI := ⟨Tryz.t84.desc, 1, 8, [.nf]⟩
theorem ti84_ok : TyOK Tryz.prog 84 ti84 := TyOK.of (inf := Tryz.t84) Tryz.underlying84 (by kernel_rfl) (by kernel_rfl) (by kernel_rfl) (by kernel_rfl)
noncomputable def ti85 : TI := ⟨Tryz.t85.desc, 1, 8, [.nf]⟩
theorem ti85_ok : TyOK Tryz.prog 85 ti85 := TyOK.of (inf := Tryz.t85) Tryz.underlying85 (by kernel_rfl) (by kernel_rfl) (by kernel_rfl) (by kernel_rfl)
noncomputable def ti86 : TI := ⟨Tryz.t86.desc, 1, 8, [.nf]⟩
theorem ti86_ok : TyOK Tryz.prog 86 ti86 := TyOK.of (inf := Tryz.t86) Tryz.underlying86 (by kernel_rfl) (by kernel_rfl) (by kernel_rfl) (by kernel_rfl)
noncomputable def ti87 : TI := ⟨Tryz.t87.desc, 1, 8, [.nf]⟩
theorem ti87_ok : TyOK Tryz.prog 87 ti87 := TyOK.of (inf := Tryz.t87) Tryz.underlying87 (by kernel_rfl) (by kernel_rfl) (by kernel_rfl) (by kernel_rfl)
noncomputable def ti88 : TI := ⟨Tryz.t88.desc, 1, 8, [.nf]⟩
theorem ti88_ok : TyOK Tryz.prog 88 ti88 := TyOK.of (inf := Tryz.t88) Tryz.underlying88 (by kernel_rfl) (by kernel_rfl) (by kernel_rfl) (by kernel_rfl)
noncomputable def ti89 : TI := ⟨Tryz.t89.desc, 1, 8, [.pn]⟩
theorem ti89_ok : TyOK Tryz.prog 89 ti89 := TyOK.of (inf := Tryz.t89) Tryz.underlying89 (by kernel_rfl) (by kernel_rfl) (by kernel_rfl) (by kernel_rfl)
noncomputable def ti90 : TI := ⟨Tryz.t90.desc, 2, 32, [.pn, .sn]⟩
theorem ti90_ok : TyOK Tryz.prog 90 ti90 := TyOK.of (inf := Tryz.t90) Tryz.underlying90 (by kernel_rfl) (by kernel_rfl) (by kernel_rfl) (by kernel_rfl)
noncomputable def ti91 : TI := ⟨Tryz.t90.desc, 2, 32, [.pn, .sn]⟩
theorem ti91_ok : TyOK Tryz.prog 91 ti91 := TyOK.of (inf := Tryz.t91) Tryz.underlying91 (by kernel_rfl) (by kernel_rfl) (by kernel_rfl) (by kernel_rfl)
noncomputable def ti92 : TI := ⟨Tryz.t92.desc, 1, 8, [.nf]⟩
theorem ti92_ok : TyOK Tryz.prog 92 ti92 := TyOK.of (inf := Tryz.t92) Tryz.underlying92 (by kernel_rfl) (by kernel_rfl) (by kernel_rfl) (by kernel_rfl)
noncomputable def ti94 : TI := ⟨Tryz.t94.desc, 1, 8, [.nf]⟩
theorem ti94_ok : TyOK Tryz.prog 94 ti94 := TyOK.of (inf := Tryz.t94) Tryz.underlying94 (by kernel_rfl) (by kernel_rfl) (by kernel_rfl) (by kernel_rfl)
noncomputable def ti95 : TI := ⟨Tryz.t95.desc, 1, 8, [.nf]⟩
theorem ti95_ok : TyOK Tryz.prog 95 ti95 := TyOK.of (inf := Tryz.t95) Tryz.underlying95 (by kernel_rfl) (by kernel_rfl) (by kernel_rfl) (by kernel_rfl)
noncomputable def ti96 : TI := ⟨Tryz.t96.desc, 1, 8, [.nf]⟩
theorem ti96_ok : TyOK Tryz.prog 96 ti96 := TyOK.of (inf := Tryz.t96) Tryz.underlying96 (by kernel_rfl) (by kernel_rfl) (by kernel_rfl) (by kernel_rfl)
noncomputable def ti98 : TI := ⟨Tryz.t98.desc, 1, 8, [.nf]⟩
theorem ti98_ok : TyOK Tryz.prog 98 ti98 := TyOK.of (inf := Tryz.t98) Tryz.underlying98 (by kernel_rfl) (by kernel_rfl) (by kernel_rfl) (by kernel_rfl)
noncomputable def ti99 : TI := ⟨Tryz.t3.desc, 1, 8, [.it .i64 (0 : Int)]⟩
theorem ti99_ok : TyOK Tryz.prog 99 ti99 := TyOK.of (inf := Tryz.t99) Tryz.underlying99 (by kernel_rfl) (by kernel_rfl) (by kernel_rfl) (by kernel_rfl)
noncomputable def ti100 : TI := ⟨Tryz.t100.desc, 1, 8, [.nf]⟩
theorem ti100_ok : TyOK Tryz.prog 100 ti100 := TyOK.of (inf := Tryz.t100) Tryz.underlying100 (by kernel_rfl) (by kernel_rfl) (by kernel_rfl) (by kernel_rfl)
noncomputable def ti101 : TI := ⟨Tryz.t101.desc, 1, 8, [.nf]⟩
theorem ti101_ok : TyOK Tryz.prog 101 ti101 := TyOK.of (inf := Tryz.t101) Tryz.underlying101 (by kernel_rfl) (by kernel_rfl) (by kernel_rfl) (by kernel_rfl)
noncomputable def ti102 : TI := ⟨Tryz.t102.desc, 1, 8, [.pn]⟩
theorem ti102_ok : TyOK Tryz.prog 102 ti102 := TyOK.of (inf := Tryz.t102) Tryz.underlying102 (by kernel_rfl) (by kernel_rfl) (by kernel_rfl) (by kernel_rfl)
noncomputable def ti103 : TI := ⟨Tryz.t103.desc, 1, 8, [.nf]⟩
theorem ti103_ok : TyOK Tryz.prog 103 ti103 := TyOK.of (inf := Tryz.t103) Tryz.underlying103 (by kernel_rfl) (by kernel_rfl) (by kernel_rfl) (by kernel_rfl)
noncomputable def ti104 : TI := ⟨Tryz.t104.desc, 1, 8, [.nf]⟩
theorem ti104_ok : TyOK Tryz.prog 104 ti104 := TyOK.of (inf := Tryz.t104) Tryz.underlying104 (by kernel_rfl) (by kernel_rfl) (by kernel_rfl) (by kernel_rfl)
noncomputable def ti105 : TI := ⟨Tryz.t105.desc, 1, 8, [.nf]⟩
theorem ti105_ok : TyOK Tryz.prog 105 ti105 := TyOK.of (inf := Tryz.t105) Tryz.underlying105 (by kernel_rfl) (by kernel_rfl) (by kernel_rfl) (by kernel_rfl)
noncomputable def ti106 : TI := ⟨Tryz.t106.desc, 24, 24, [.it .u8 (0 : Int), .it .u8 (0 : Int), .it .u8 (0 : Int), .it .u8 (0 : Int), .it .u8 (0 : Int), .it .u8 (0 : Int), .it .u8 (0 : Int), .it .u8 (0 : Int), .it .u8 (0 : Int), .it .u8 (0 : Int), .it .u8 (0 : Int), .it .u8 (0 : Int), .it .u8 (0 : Int), .it .u8 (0 : Int), .it .u8 (0 : Int), .it .u8 (0 : Int), .it .u8 (0 : Int), .it .u8 (0 : Int), .it .u8 (0 : Int), .it .u8 (0 : Int), .it .u8 (0 : Int), .it .u8 (0 : Int), .it .u8 (0 : Int), .it .u8 (0 : Int)]⟩
theorem ti106_ok : TyOK Tryz.prog 106 ti106 := TyOK.of (inf := Tryz.t106) Tryz.underlying106 (by kernel_rfl) (by kernel_rfl) (by kernel_rfl) (by kernel_rfl)
noncomputable def ti107 : TI := ⟨Tryz.t107.desc, 1, 8, [.nf]⟩
theorem ti107_ok : TyOK Tryz.prog 107 ti107 := TyOK.of (inf := Tryz.t107) Tryz.underlying107 (by kernel_rfl) (by kernel_rfl) (by kernel_rfl) (by kernel_rfl)
noncomputable def ti108 : TI := ⟨Tryz.t108.desc, 1, 8, [.nf]⟩
theorem ti108_ok : TyOK Tryz.prog 108 ti108 := TyOK.of (inf := Tryz.t108) Tryz.underlying108 (by kernel_rfl) (by kernel_rfl) (by kernel_rfl) (by kernel_rfl)
noncomputable def ti110 : TI := ⟨Tryz.t110.desc, 1, 8, [.nf]⟩
theorem ti110_ok : TyOK Tryz.prog 110 ti110 := TyOK.of (inf := Tryz.t110) Tryz.underlying110 (by kernel_rfl) (by kernel_rfl) (by kernel_rfl) (by kernel_rfl)
noncomputable def ti111 : TI := ⟨Tryz.t111.desc, 1, 8, [.pn]⟩
theorem ti111_ok : TyOK Tryz.prog 111 ti111 := TyOK.of (inf := Tryz.t111) Tryz.underlying111 (by kernel_rfl) (by kernel_rfl) (by kernel_rfl) (by kernel_rfl)
noncomputable def ti112 : TI := ⟨Tryz.t112.desc, 1, 8, [.nf]⟩
theorem ti112_ok : TyOK Tryz.prog 112 ti112 := TyOK.of (inf := Tryz.t112) Tryz.underlying112 (by kernel_rfl) (by kernel_rfl) (by kernel_rfl) (by kernel_rfl)
noncomputable def ti113 : TI := ⟨Tryz.t113.desc, 1, 8, [.nf]⟩
theorem ti113_ok : TyOK Tryz.prog 113 ti113 := TyOK.of (inf := Tryz.t113) Tryz.underlying113 (by kernel_rfl) (by kernel_rfl) (by kernel_rfl) (by kernel_rfl)
noncomputable def ti116 : TI := ⟨Tryz.t116.desc, 1, 8, [.nf]⟩
theorem ti116_ok : TyOK Tryz.prog 116 ti116 := TyOK.of (inf := Tryz.t116) Tryz.underlying116 (by kernel_rfl) (by kernel_rfl) (by kernel_rfl) (by kernel_rfl)
noncomputable def ti117 : TI := ⟨Tryz.t117.desc, 1, 8, [.nf]⟩
theorem ti117_ok : TyOK Tryz.prog 117 ti117 := TyOK.of (inf := Tryz.t117) Tryz.underlying117 (by kernel_rfl) (by kernel_rfl) (by kernel_rfl) (by kernel_rfl)
noncomputable def ti118 : TI := ⟨Tryz.t118.desc, 20, 160, [.it .u64 (0 : Int), .it .u64 (0 : Int), .it .u64 (0 : Int), .it .u64 (0 : Int), .it .u64 (0 : Int), .it .u64 (0 : Int), .it .u64 (0 : Int), .it .u64 (0 : Int), .it .u64 (0 : Int), .it .u64 (0 : Int), .it .u64 (0 : Int), .it .u64 (0 : Int), .it .u64 (0 : Int), .it .u64 (0 : Int), .it .u64 (0 : Int), .it .u64 (0 : Int), .it .u64 (0 : Int), .it .u64 (0 : Int), .it .u64 (0 : Int), .it .u64 (0 : Int)]⟩
theorem ti118_ok : TyOK Tryz.prog 118 ti118 := TyOK.of (inf := Tryz.t118) Tryz.underlying118 (by kernel_rfl) (by kernel_rfl) (by kernel_rfl) (by kernel_rfl)
noncomputable def ti119 : TI := ⟨Tryz.t119.desc, 65, 65, [.it .u8 (0 : Int), .it .u8 (0 : Int), .it .u8 (0 : Int), .it .u8 (0 : Int), .it .u8 (0 : Int), .it .u8 (0 : Int), .it .u8 (0 : Int), .it .u8 (0 : Int), .it .u8 (0 : Int), .it .u8 (0 : Int), .it .u8 (0 : Int), .it .u8 (0 : Int), .it .u8 (0 : Int), .it .u8 (0 : Int), .it .u8 (0 : Int), .it .u8 (0 : Int), .it .u8 (0 : Int), .it .u8 (0 : Int), .it .u8 (0 : Int), .it .u8 (0 : Int), .it .u8 (0 : Int), .it .u8 (0 : Int), .it .u8 (0 : Int), .it .u8 (0 : Int), .it .u8 (0 : Int), .it .u8 (0 : Int), .it .u8 (0 : Int), .it .u8 (0 : Int), .it .u8 (0 : Int), .it .u8 (0 : Int), .it .u8 (0 : Int), .it .u8 (0 : Int), .it .u8 (0 : Int), .it .u8 (0 : Int), .it .u8 (0 : Int), .it .u8 (0 : Int), .it .u8 (0 : Int), .it .u8 (0 : Int), .it .u8 (0 : Int), .it .u8 (0 : Int), .it .u8 (0 : Int), .it .u8 (0 : Int), .it .u8 (0 : Int), .it .u8 (0 : Int), .it .u8 (0 : Int), .it .u8 (0 : Int), .it .u8 (0 : Int), .it .u8 (0 : Int), .it .u8 (0 : Int), .it .u8 (0 : Int), .it .u8 (0 : Int), .it .u8 (0 : Int), .it .u8 (0 : Int), .it .u8 (0 : Int), .it .u8 (0 : Int), .it .u8 (0 : Int), .it .u8 (0 : Int), .it .u8 (0 : Int), .it .u8 (0 : Int), .it .u8 (0 : Int), .it .u8 (0 : Int), .it .u8 (0 : Int), .it .u8 (0 : Int), .it .u8 (0 : Int), .it .u8 (0 : Int)]⟩
theorem ti119_ok : TyOK Tryz.prog 119 ti119 := TyOK.of (inf := Tryz.t119) Tryz.underlying119 (by kernel_rfl) (by kernel_rfl) (by kernel_rfl) (by kernel_rfl)
noncomputable def ti120 : TI := ⟨Tryz.t120.desc, 1, 8, [.nf]⟩
theorem ti120_ok : TyOK Tryz.prog 120 ti120 := TyOK.of (inf := Tryz.t120) Tryz.underlying120 (by kernel_rfl) (by kernel_rfl) (by kernel_rfl) (by kernel_rfl)
noncomputable def ti121 : TI := ⟨Tryz.t121.desc, 1, 8, [.nf]⟩
theorem ti121_ok : TyOK Tryz.prog 121 ti121 := TyOK.of (inf := Tryz.t121) Tryz.underlying121 (by kernel_rfl) (by kernel_rfl) (by kernel_rfl) (by kernel_rfl)
noncomputable def ti122 : TI := ⟨Tryz.t122.desc, 1, 8, [.pn]⟩
theorem ti122_ok : TyOK Tryz.prog 122 ti122 := TyOK.of (inf := Tryz.t122) Tryz.underlying122 (by kernel_rfl) (by kernel_rfl) (by kernel_rfl) (by kernel_rfl)
noncomputable def ti123 : TI := ⟨Tryz.t123.desc, 1, 8, [.nf]⟩
theorem ti123_ok : TyOK Tryz.prog 123 ti123 := TyOK.of (inf := Tryz.t123) Tryz.underlying123 (by kernel_rfl) (by kernel_rfl) (by kernel_rfl) (by kernel_rfl)
noncomputable def ti124 : TI := ⟨Tryz.t124.desc, 1, 8, [.nf]⟩
theorem ti124_ok : TyOK Tryz.prog 124 ti124 := TyOK.of (inf := Tryz.t124) Tryz.underlying124 (by kernel_rfl) (by kernel_rfl) (by kernel_rfl) (by kernel_rfl)
noncomputable def ti125 : TI := ⟨Tryz.t125.desc, 256, 256, [.it .u8 (0 : Int), .it .u8 (0 : Int), .it .u8 (0 : Int), .it .u8 (0 : Int), .it .u8 (0 : Int), .it .u8 (0 : Int), .it .u8 (0 : Int), .it .u8 (0 : Int), .it .u8 (0 : Int), .it .u8 (0 : Int), .it .u8 (0 : Int), .it .u8 (0 : Int), .it .u8 (0 : Int), .it .u8 (0 : Int), .it .u8 (0 : Int), .it .u8 (0 : Int), .it .u8 (0 : Int), .it .u8 (0 : Int), .it .u8 (0 : Int), .it .u8 (0 : Int), .it .u8 (0 : Int), .it .u8 (0 : Int), .it .u8 (0 : Int), .it .u8 (0 : Int), .it .u8 (0 : Int), .it .u8 (0 : Int), .it .u8 (0 : Int), .it .u8 (0 : Int), .it .u8 (0 : Int), .it .u8 (0 : Int), .it .u8 (0 : Int), .it .u8 (0 : Int), .it .u8 (0 : Int), .it .u8 (0 : Int), .it .u8 (0 : Int), .it .u8 (0 : Int), .it .u8 (0 : Int), .it .u8 (0 : Int), .it .u8 (0 : Int), .it .u8 (0 : Int), .it .u8 (0 : Int), .it .u8 (0 : Int), .it .u8 (0 : Int), .it .u8 (0 : Int), .it .u8 (0 : Int), .it .u8 (0 : Int), .it .u8 (0 : Int), .it .u8 (0 : Int), .it .u8 (0 : Int), .it .u8 (0 : Int), .it .u8 (0 : Int), .it .u8 (0 : Int), .it .u8 (0 : Int), .it .u8 (0 : Int), .it .u8 (0 : Int), .it .u8 (0 : Int), .it .u8 (0 : Int), .it .u8 (0 : Int), .it .u8 (0 : Int), .it .u8 (0 : Int), .it .u8 (0 : Int), .it .u8 (0 : Int), .it .u8 (0 : Int), .it .u8 (0 : Int), .it .u8 (0 : Int), .it .u8 (0 : Int), .it .u8 (0 : Int), .it .u8 (0 : Int), .it .u8 (0 : Int), .it .u8 (0 : Int), .it .u8 (0 : Int), .it .u8 (0 : Int), .it .u8 (0 : Int), .it .u8 (0 : Int), .it .u8 (0 : Int), .it .u8 (0 : Int), .it .u8 (0 : Int), .it .u8 (0 : Int), .it .u8 (0 : Int), .it .u8 (0 : Int), .it .u8 (0 : Int), .it .u8 (0 : Int), .it .u8 (0 : Int), .it .u8 (0 : Int), .it .u8 (0 : Int), .it .u8 (0 : Int), .it .u8 (0 : Int), .it .u8 (0 : Int), .it .u8 (0 : Int), .it .u8 (0 : Int), .it .u8 (0 : Int), .it .u8 (0 : Int), .it .u8 (0 : Int), .it .u8 (0 : Int), .it .u8 (0 : Int), .it .u8 (0 : Int), .it .u8 (0 : Int), .it .u8 (0 : Int), .it .u8 (0 : Int), .it .u8 (0 : Int), .it .u8 (0 : Int), .it .u8 (0 : Int), .it .u8 (0 : Int), .it .u8 (0 : Int), .it .u8 (0 : Int), .it .u8 (0 : Int), .it .u8 (0 : Int), .it .u8 (0 : Int), .it .u8 (0 : Int), .it .u8 (0 : Int), .it .u8 (0 : Int), .it .u8 (0 : Int), .it .u8 (0 : Int), .it .u8 (0 : Int), .it .u8 (0 : Int), .it .u8 (0 : Int), .it .u8 (0 : Int), .it .u8 (0 : Int), .it .u8 (0 : Int), .it .u8 (0 : Int), .it .u8 (0 : Int), .it .u8 (0 : Int), .it .u8 (0 : Int), .it .u8 (0 : Int), .it .u8 (0 : Int), .it .u8 (0 : Int), .it .u8 (0 : Int), .it .u8 (0 : Int), .it .u8 (0 : Int), .it .u8 (0 : Int), .it .u8 (0 : Int), .it .u8 (0 : Int), .it .u8 (0 : Int), .it .u8 (0 : Int), .it .u8 (0 : Int), .it .u8 (0 : Int), .it .u8 (0 : Int), .it .u8 (0 : Int), .it .u8 (0 : Int), .it .u8 (0 : Int), .it .u8 (0 : Int), .it .u8 (0 : Int), .it .u8 (0 : Int), .it .u8 (0 : Int), .it .u8 (0 : Int), .it .u8 (0 : Int), .it .u8 (0 : Int), .it .u8 (0 : Int), .it .u8 (0 : Int), .it .u8 (0 : Int), .it .u8 (0 : Int), .it .u8 (0 : Int), .it .u8 (0 : Int), .it .u8 (0 : Int), .it .u8 (0 : Int), .it .u8 (0 : Int), .it .u8 (0 : Int), .it .u8 (0 : Int), .it .u8 (0 : Int), .it .u8 (0 : Int), .it .u8 (0 : Int), .it .u8 (0 : Int), .it .u8 (0 : Int), .it .u8 (0 : Int), .it .u8 (0 : Int), .it .u8 (0 : Int), .it .u8 (0 : Int), .it .u8 (0 : Int), .it .u8 (0 : Int), .it .u8 (0 : Int), .it .u8 (0 : Int), .it .u8 (0 : Int), .it .u8 (0 : Int), .it .u8 (0 : Int), .it .u8 (0 : Int), .it .u8 (0 : Int), .it .u8 (0 : Int), .it .u8 (0 : Int), .it .u8 (0 : Int), .it .u8 (0 : Int), .it .u8 (0 : Int), .it .u8 (0 : Int), .it .u8 (0 : Int), .it .u8 (0 : Int), .it .u8 (0 : Int), .it .u8 (0 : Int), .it .u8 (0 : Int), .it .u8 (0 : Int), .it .u8 (0 : Int), .it .u8 (0 : Int), .it .u8 (0 : Int), .it .u8 (0 : Int), .it .u8 (0 : Int), .it .u8 (0 : Int), .it .u8 (0 : Int), .it .u8 (0 : Int), .it .u8 (0 : Int), .it .u8 (0 : Int), .it .u8 (0 : Int), .it .u8 (0 : Int), .it .u8 (0 : Int), .it .u8 (0 : Int), .it .u8 (0 : Int), .it .u8 (0 : Int), .it .u8 (0 : Int), .it .u8 (0 : Int), .it .u8 (0 : Int), .it .u8 (0 : Int), .it .u8 (0 : Int), .it .u8 (0 : Int), .it .u8 (0 : Int), .it .u8 (0 : Int), .it .u8 (0 : Int), .it .u8 (0 : Int), .it .u8 (0 : Int), .it .u8 (0 : Int), .it .u8 (0 : Int), .it .u8 (0 : Int), .it .u8 (0 : Int), .it .u8 (0 : Int), .it .u8 (0 : Int), .it .u8 (0 : Int), .it .u8 (0 : Int), .it .u8 (0 : Int), .it .u8 (0 : Int), .it .u8 (0 : Int), .it .u8 (0 : Int), .it .u8 (0 : Int), .it .u8 (0 : Int), .it .u8 (0 : Int), .it .u8 (0 : Int), .it .u8 (0 : Int), .it .u8 (0 : Int), .it .u8 (0 : Int), .it .u8 (0 : Int), .it .u8 (0 : Int), .it .u8 (0 : Int), .it .u8 (0 : Int), .it .u8 (0 : Int), .it .u8 (0 : Int), .it .u8 (0 : Int), .it .u8 (0 : Int), .it .u8 (0 : Int), .it .u8 (0 : Int), .it .u8 (0 : Int), .it .u8 (0 : Int), .it .u8 (0 : Int), .it .u8 (0 : Int), .it .u8 (0 : Int), .it .u8 (0 : Int), .it .u8 (0 : Int), .it .u8 (0 : Int), .it .u8 (0 : Int), .it .u8 (0 : Int), .it .u8 (0 : Int), .it .u8 (0 : Int)]⟩
theorem ti125_ok : TyOK Tryz.prog 125 ti125 := TyOK.of (inf := Tryz.t125) Tryz.underlying125 (by kernel_rfl) (by kernel_rfl) (by kernel_rfl) (by kernel_rfl)
noncomputable def ti126 : TI := ⟨Tryz.t126.desc, 2, 2, [.it .u8 (0 : Int), .it .u8 (0 : Int)]⟩
theorem ti126_ok : TyOK Tryz.prog 126 ti126 := TyOK.of (inf := Tryz.t126) Tryz.underlying126 (by kernel_rfl) (by kernel_rfl) (by kernel_rfl) (by kernel_rfl)
noncomputable def ti127 : TI := ⟨Tryz.t126.desc, 2, 2, [.it .u8 (0 : Int), .it .u8 (0 : Int)]⟩
theorem ti127_ok : TyOK Tryz.prog 127 ti127 := TyOK.of (inf := Tryz.t127) Tryz.underlying127 (by kernel_rfl) (by kernel_rfl) (by kernel_rfl) (by kernel_rfl)
noncomputable def ti128 : TI := ⟨Tryz.t128.desc, 32, 32, [.it .u8 (0 : Int), .it .u8 (0 : Int), .it .u8 (0 : Int), .it .u8 (0 : Int), .it .u8 (0 : Int), .it .u8 (0 : Int), .it .u8 (0 : Int), .it .u8 (0 : Int), .it .u8 (0 : Int), .it .u8 (0 : Int), .it .u8 (0 : Int), .it .u8 (0 : Int), .it .u8 (0 : Int), .it .u8 (0 : Int), .it .u8 (0 : Int), .it .u8 (0 : Int), .it .u8 (0 : Int), .it .u8 (0 : Int), .it .u8 (0 : Int), .it .u8 (0 : Int), .it .u8 (0 : Int), .it .u8 (0 : Int), .it .u8 (0 : Int), .it .u8 (0 : Int), .it .u8 (0 : Int), .it .u8 (0 : Int), .it .u8 (0 : Int), .it .u8 (0 : Int), .it .u8 (0 : Int), .it .u8 (0 : Int), .it .u8 (0 : Int), .it .u8 (0 : Int)]⟩
theorem ti128_ok : TyOK Tryz.prog 128 ti128 := TyOK.of (inf := Tryz.t128) Tryz.underlying128 (by kernel_rfl) (by kernel_rfl) (by kernel_rfl) (by kernel_rfl)
noncomputable def ti130 : TI := ⟨Tryz.t130.desc, 1, 8, [.nf]⟩
theorem ti130_ok : TyOK Tryz.prog 130 ti130 := TyOK.of (inf := Tryz.t130) Tryz.underlying130 (by kernel_rfl) (by kernel_rfl) (by kernel_rfl) (by kernel_rfl)
noncomputable def ti131 : TI := ⟨Tryz.t131.desc, 1, 8, [.pn]⟩
theorem ti131_ok : TyOK Tryz.prog 131 ti131 := TyOK.of (inf := Tryz.t131) Tryz.underlying131 (by kernel_rfl) (by kernel_rfl) (by kernel_rfl) (by kernel_rfl)
noncomputable def ti132 : TI := ⟨Tryz.t132.desc, 1, 16, [.st (ByteArray.mk #[])]⟩
theorem ti132_ok : TyOK Tryz.prog 132 ti132 := TyOK.of (inf := Tryz.t132) Tryz.underlying132 (by kernel_rfl) (by kernel_rfl) (by kernel_rfl) (by kernel_rfl)
noncomputable def ti133 : TI := ⟨Tryz.t132.desc, 1, 16, [.st (ByteArray.mk #[])]⟩
theorem ti133_ok : TyOK Tryz.prog 133 ti133 := TyOK.of (inf := Tryz.t133) Tryz.underlying133 (by kernel_rfl) (by kernel_rfl) (by kernel_rfl) (by kernel_rfl)
noncomputable def ti134 : TI := ⟨Tryz.t134.desc, 1, 8, [.nf]⟩
theorem ti134_ok : TyOK Tryz.prog 134 ti134 := TyOK.of (inf := Tryz.t134) Tryz.underlying134 (by kernel_rfl) (by kernel_rfl) (by kernel_rfl) (by kernel_rfl)
noncomputable def ti135 : TI := ⟨Tryz.t135.desc, 32, 32, [.it .u8 (0 : Int), .it .u8 (0 : Int), .it .u8 (0 : Int), .it .u8 (0 : Int), .it .u8 (0 : Int), .it .u8 (0 : Int), .it .u8 (0 : Int), .it .u8 (0 : Int), .it .u8 (0 : Int), .it .u8 (0 : Int), .it .u8 (0 : Int), .it .u8 (0 : Int), .it .u8 (0 : Int), .it .u8 (0 : Int), .it .u8 (0 : Int), .it .u8 (0 : Int), .it .u8 (0 : Int), .it .u8 (0 : Int), .it .u8 (0 : Int), .it .u8 (0 : Int), .it .u8 (0 : Int), .it .u8 (0 : Int), .it .u8 (0 : Int), .it .u8 (0 : Int), .it .u8 (0 : Int), .it .u8 (0 : Int), .it .u8 (0 : Int), .it .u8 (0 : Int), .it .u8 (0 : Int), .it .u8 (0 : Int), .it .u8 (0 : Int), .it .u8 (0 : Int)]⟩
theorem ti135_ok : TyOK Tryz.prog 135 ti135 := TyOK.of (inf := Tryz.t135) Tryz.underlying135 (by kernel_rfl) (by kernel_rfl) (by kernel_rfl) (by kernel_rfl)
noncomputable def ti136 : TI := ⟨Tryz.t136.desc, 64, 64, [.it .u8 (0 : Int), .it .u8 (0 : Int), .it .u8 (0 : Int), .it .u8 (0 : Int), .it .u8 (0 : Int), .it .u8 (0 : Int), .it .u8 (0 : Int), .it .u8 (0 : Int), .it .u8 (0 : Int), .it .u8 (0 : Int), .it .u8 (0 : Int), .it .u8 (0 : Int), .it .u8 (0 : Int), .it .u8 (0 : Int), .it .u8 (0 : Int), .it .u8 (0 : Int), .it .u8 (0 : Int), .it .u8 (0 : Int), .it .u8 (0 : Int), .it .u8 (0 : Int), .it .u8 (0 : Int), .it .u8 (0 : Int), .it .u8 (0 : Int), .it .u8 (0 : Int), .it .u8 (0 : Int), .it .u8 (0 : Int), .it .u8 (0 : Int), .it .u8 (0 : Int), .it .u8 (0 : Int), .it .u8 (0 : Int), .it .u8 (0 : Int), .it .u8 (0 : Int), .it .u8 (0 : Int), .it .u8 (0 : Int), .it .u8 (0 : Int), .it .u8 (0 : Int), .it .u8 (0 : Int), .it .u8 (0 : Int), .it .u8 (0 : Int), .it .u8 (0 : Int), .it .u8 (0 : Int), .it .u8 (0 : Int), .it .u8 (0 : Int), .it .u8 (0 : Int), .it .u8 (0 : Int), .it .u8 (0 : Int), .it .u8 (0 : Int), .it .u8 (0 : Int), .it .u8 (0 : Int), .it .u8 (0 : Int), .it .u8 (0 : Int), .it .u8 (0 : Int), .it .u8 (0 : Int), .it .u8 (0 : Int), .it .u8 (0 : Int), .it .u8 (0 : Int), .it .u8 (0 : Int), .it .u8 (0 : Int), .it .u8 (0 : Int), .it .u8 (0 : Int), .it .u8 (0 : Int), .it .u8 (0 : Int), .it .u8 (0 : Int), .it .u8 (0 : Int)]⟩
theorem ti136_ok : TyOK Tryz.prog 136 ti136 := TyOK.of (inf := Tryz.t136) Tryz.underlying136 (by kernel_rfl) (by kernel_rfl) (by kernel_rfl) (by kernel_rfl)
noncomputable def ti137 : TI := ⟨Tryz.t137.desc, 4, 40, [.pn, .pn, .pn, .st (ByteArray.mk #[])]⟩
theorem ti137_ok : TyOK Tryz.prog 137 ti137 := TyOK.of (inf := Tryz.t137) Tryz.underlying137 (by kernel_rfl) (by kernel_rfl) (by kernel_rfl) (by kernel_rfl)
noncomputable def ti138 : TI := ⟨Tryz.t137.desc, 4, 40, [.pn, .pn, .pn, .st (ByteArray.mk #[])]⟩
theorem ti138_ok : TyOK Tryz.prog 138 ti138 := TyOK.of (inf := Tryz.t138) Tryz.underlying138 (by kernel_rfl) (by kernel_rfl) (by kernel_rfl) (by kernel_rfl)
noncomputable def ti139 : TI := ⟨Tryz.t139.desc, 0, 0, []⟩
theorem ti139_ok : TyOK Tryz.prog 139 ti139 := TyOK.of (inf := Tryz.t139) Tryz.underlying139 (by kernel_rfl) (by kernel_rfl) (by kernel_rfl) (by kernel_rfl)
noncomputable def ti140 : TI := ⟨Tryz.t140.desc, 0, 0, []⟩
theorem ti140_ok : TyOK Tryz.prog 140 ti140 := TyOK.of (inf := Tryz.t140) Tryz.underlying140 (by kernel_rfl) (by kernel_rfl) (by kernel_rfl) (by kernel_rfl)
noncomputable def ti141 : TI := ⟨Tryz.t140.desc, 0, 0, []⟩
theorem ti141_ok : TyOK Tryz.prog 141 ti141 := TyOK.of (inf := Tryz.t141) Tryz.underlying141 (by kernel_rfl) (by kernel_rfl) (by kernel_rfl) (by kernel_rfl)
noncomputable def ti142 : TI := ⟨Tryz.t142.desc, 1, 8, [.nf]⟩
theorem ti142_ok : TyOK Tryz.prog 142 ti142 := TyOK.of (inf := Tryz.t142) Tryz.underlying142 (by kernel_rfl) (by kernel_rfl) (by kernel_rfl) (by kernel_rfl)
noncomputable def ti143 : TI := ⟨Tryz.t5.desc, 1, 1, [.it .u8 (0 : Int)]⟩
theorem ti143_ok : TyOK Tryz.prog 143 ti143 := TyOK.of (inf := Tryz.t143) Tryz.underlying143 (by kernel_rfl) (by kernel_rfl) (by kernel_rfl) (by kernel_rfl)
noncomputable def ti144 : TI := ⟨Tryz.t5.desc, 1, 1, [.it .u8 (0 : Int)]⟩
theorem ti144_ok : TyOK Tryz.prog 144 ti144 := TyOK.of (inf := Tryz.t144) Tryz.underlying144 (by kernel_rfl) (by kernel_rfl) (by kernel_rfl) (by kernel_rfl)
noncomputable def ti145 : TI := ⟨Tryz.t145.desc, 1, 8, [.nf]⟩
theorem ti145_ok : TyOK Tryz.prog 145 ti145 := TyOK.of (inf := Tryz.t145) Tryz.underlying145 (by kernel_rfl) (by kernel_rfl) (by kernel_rfl) (by kernel_rfl)
noncomputable def ti146 : TI := ⟨Tryz.t21.desc, 1, 4, [.it .i32 (0 : Int)]⟩
theorem ti146_ok : TyOK Tryz.prog 146 ti146 := TyOK.of (inf := Tryz.t146) Tryz.underlying146 (by kernel_rfl) (by kernel_rfl) (by kernel_rfl) (by kernel_rfl)
noncomputable def ti147 : TI := ⟨Tryz.t21.desc, 1, 4, [.it .i32 (0 : Int)]⟩
theorem ti147_ok : TyOK Tryz.prog 147 ti147 := TyOK.of (inf := Tryz.t147) Tryz.underlying147 (by kernel_rfl) (by kernel_rfl) (by kernel_rfl) (by kernel_rfl)
noncomputable def ti148 : TI := ⟨Tryz.t148.desc, 11, 48, [.it .u64 (0 : Int), .it .u64 (0 : Int), .it .u32 (0 : Int), .it .u8 (0 : Int), .it .u8 (0 : Int), .it .u8 (0 : Int), .it .u8 (0 : Int), .nf, .pn, .it .i32 (0 : Int), .it .i32 (0 : Int)]⟩
theorem ti148_ok : TyOK Tryz.prog 148 ti148 := TyOK.of (inf := Tryz.t148) Tryz.underlying148 (by kernel_rfl) (by kernel_rfl) (by kernel_rfl) (by kernel_rfl)
noncomputable def ti149 : TI := ⟨Tryz.t148.desc, 11, 48, [.it .u64 (0 : Int), .it .u64 (0 : Int), .it .u32 (0 : Int), .it .u8 (0 : Int), .it .u8 (0 : Int), .it .u8 (0 : Int), .it .u8 (0 : Int), .nf, .pn, .it .i32 (0 : Int), .it .i32 (0 : Int)]⟩
theorem ti149_ok : TyOK Tryz.prog 149 ti149 := TyOK.of (inf := Tryz.t149) Tryz.underlying149 (by kernel_rfl) (by kernel_rfl) (by kernel_rfl) (by kernel_rfl)
noncomputable def tys : List (Nat × TI) := [(1, ti1), (2, ti2), (3, ti3), (4, ti4), (5, ti5), (6, ti6), (7, ti7), (8, ti8), (9, ti9), (10, ti10), (11, ti11), (12, ti12), (13, ti13), (14, ti14), (15, ti15), (16, ti16), (17, ti17), (18, ti18), (19, ti19), (21, ti21), (22, ti22), (23, ti23), (24, ti24), (25, ti25), (26, ti26), (27, ti27), (28, ti28), (29, ti29), (31, ti31), (32, ti32), (34, ti34), (35, ti35), (36, ti36), (37, ti37), (38, ti38), (39, ti39), (40, ti40), (41, ti41), (42, ti42), (43, ti43), (44, ti44), (45, ti45), (46, ti46), (47, ti47), (48, ti48), (50, ti50), (51, ti51), (53, ti53), (54, ti54), (55, ti55), (56, ti56), (57, ti57), (58, ti58), (59, ti59), (60, ti60), (61, ti61), (62, ti62), (63, ti63), (64, ti64), (65, ti65), (66, ti66), (67, ti67), (68, ti68), (69, ti69), (73, ti73), (74, ti74), (75, ti75), (76, ti76), (77, ti77), (78, ti78), (79, ti79), (80, ti80), (81, ti81), (82, ti82), (83, ti83), (84, ti84), (85, ti85), (86, ti86), (87, ti87), (88, ti88), (89, ti89), (90, ti90), (91, ti91), (92, ti92), (94, ti94), (95, ti95), (96, ti96), (98, ti98), (99, ti99), (100, ti100), (101, ti101), (102, ti102), (103, ti103), (104, ti104), (105, ti105), (106, ti106), (107, ti107), (108, ti108), (110, ti110), (111, ti111), (112, ti112), (113, ti113), (116, ti116), (117, ti117), (118, ti118), (119, ti119), (120, ti120), (121, ti121), (122, ti122), (123, ti123), (124, ti124), (125, ti125), (126, ti126), (127, ti127), (128, ti128), (130, ti130), (131, ti131), (132, ti132), (133, ti133), (134, ti134), (135, ti135), (136, ti136), (137, ti137), (138, ti138), (139, ti139), (140, ti140), (141, ti141), (142, ti142), (143, ti143), (144, ti144), (145, ti145), (146, ti146), (147, ti147), (148, ti148), (149, ti149)]
theorem mo : Tryz.prog.follows .mixedOrders = true := by kernel_rfl
theorem tys_ok : TysOK Tryz.prog tys := (TysOK.cons ti1_ok (TysOK.cons ti2_ok (TysOK.cons ti3_ok (TysOK.cons ti4_ok (TysOK.cons ti5_ok (TysOK.cons ti6_ok (TysOK.cons ti7_ok (TysOK.cons ti8_ok (TysOK.cons ti9_ok (TysOK.cons ti10_ok (TysOK.cons ti11_ok (TysOK.cons ti12_ok (TysOK.cons ti13_ok (TysOK.cons ti14_ok (TysOK.cons ti15_ok (TysOK.cons ti16_ok (TysOK.cons ti17_ok (TysOK.cons ti18_ok (TysOK.cons ti19_ok (TysOK.cons ti21_ok (TysOK.cons ti22_ok (TysOK.cons ti23_ok (TysOK.cons ti24_ok (TysOK.cons ti25_ok (TysOK.cons ti26_ok (TysOK.cons ti27_ok (TysOK.cons ti28_ok (TysOK.cons ti29_ok (TysOK.cons ti31_ok (TysOK.cons ti32_ok (TysOK.cons ti34_ok (TysOK.cons ti35_ok (TysOK.cons ti36_ok (TysOK.cons ti37_ok (TysOK.cons ti38_ok (TysOK.cons ti39_ok (TysOK.cons ti40_ok (TysOK.cons ti41_ok (TysOK.cons ti42_ok (TysOK.cons ti43_ok (TysOK.cons ti44_ok (TysOK.cons ti45_ok (TysOK.cons ti46_ok (TysOK.cons ti47_ok (TysOK.cons ti48_ok (TysOK.cons ti50_ok (TysOK.cons ti51_ok (TysOK.cons ti53_ok (TysOK.cons ti54_ok (TysOK.cons ti55_ok (TysOK.cons ti56_ok (TysOK.cons ti57_ok (TysOK.cons ti58_ok (TysOK.cons ti59_ok (TysOK.cons ti60_ok (TysOK.cons ti61_ok (TysOK.cons ti62_ok (TysOK.cons ti63_ok (TysOK.cons ti64_ok (TysOK.cons ti65_ok (TysOK.cons ti66_ok (TysOK.cons ti67_ok (TysOK.cons ti68_ok (TysOK.cons ti69_ok (TysOK.cons ti73_ok (TysOK.cons ti74_ok (TysOK.cons ti75_ok (TysOK.cons ti76_ok (TysOK.cons ti77_ok (TysOK.cons ti78_ok (TysOK.cons ti79_ok (TysOK.cons ti80_ok (TysOK.cons ti81_ok (TysOK.cons ti82_ok (TysOK.cons ti83_ok (TysOK.cons ti84_ok (TysOK.cons ti85_ok (TysOK.cons ti86_ok (TysOK.cons ti87_ok (TysOK.cons ti88_ok (TysOK.cons ti89_ok (TysOK.cons ti90_ok (TysOK.cons ti91_ok (TysOK.cons ti92_ok (TysOK.cons ti94_ok (TysOK.cons ti95_ok (TysOK.cons ti96_ok (TysOK.cons ti98_ok (TysOK.cons ti99_ok (TysOK.cons ti100_ok (TysOK.cons ti101_ok (TysOK.cons ti102_ok (TysOK.cons ti103_ok (TysOK.cons ti104_ok (TysOK.cons ti105_ok (TysOK.cons ti106_ok (TysOK.cons ti107_ok (TysOK.cons ti108_ok (TysOK.cons ti110_ok (TysOK.cons ti111_ok (TysOK.cons ti112_ok (TysOK.cons ti113_ok (TysOK.cons ti116_ok (TysOK.cons ti117_ok (TysOK.cons ti118_ok (TysOK.cons ti119_ok (TysOK.cons ti120_ok (TysOK.cons ti121_ok (TysOK.cons ti122_ok (TysOK.cons ti123_ok (TysOK.cons ti124_ok (TysOK.cons ti125_ok (TysOK.cons ti126_ok (TysOK.cons ti127_ok (TysOK.cons ti128_ok (TysOK.cons ti130_ok (TysOK.cons ti131_ok (TysOK.cons ti132_ok (TysOK.cons ti133_ok (TysOK.cons ti134_ok (TysOK.cons ti135_ok (TysOK.cons ti136_ok (TysOK.cons ti137_ok (TysOK.cons ti138_ok (TysOK.cons ti139_ok (TysOK.cons ti140_ok (TysOK.cons ti141_ok (TysOK.cons ti142_ok (TysOK.cons ti143_ok (TysOK.cons ti144_ok (TysOK.cons ti145_ok (TysOK.cons ti146_ok (TysOK.cons ti147_ok (TysOK.cons ti148_ok (TysOK.cons ti149_ok TysOK.nil)))))))))))))))))))))))))))))))))))))))))))))))))))))))))))))))))))))))))))))))))))))))))))))))))))))))))))))))))))))))))))))))))))))))
/-! ### laws_f6big -/
noncomputable def laws_f6big.b : Code := bodyOf Tryz.f4
noncomputable def laws_f6big.C : Ctx := { ty := tys, fn := [], lp := [], n := 6, k := 5 }
theorem laws_f6big.hC : CtxOK Tryz.prog laws_f6big.C := CtxOK.of mo tys_ok FnsOK.nil
theorem laws_f6big.lp : LpOK Tryz.prog laws_f6big.C laws_f6big.b := (LpOK.nil (by kernel_rfl))
noncomputable def laws_f6big.t (x0 : Nat) (x1 : Int) (x2 : List Int) (x3 : List Int) : T Bool :=
  .leaf (decide (((x0 : Nat) : Int) > (4096 : Int)))
noncomputable def laws_f6big (x0 : Nat) (x1 : Int) (x2 : List Int) (x3 : List Int) : Bool := (laws_f6big.t x0 x1 x2 x3).val
def laws_f6big.cd : Cd (Nat × Int × List Int × List Int) (List V × Hp) := Cd.iso (Cd.pair (Cd.cons (Cd.sl 4 (Cd.natc 0)) Cd.nil) (Cd.cons (Cd.ro 0 2 (Cd.vs (Cd.cons (Cd.it .i64) Cd.nil))) (Cd.cons (Cd.ro 0 3 (Cd.vs (Cd.cons Cd.er Cd.nil))) (Cd.cons (Cd.ro 0 4 (Cd.vs (Cd.cons Cd.er Cd.nil))) (Cd.cons (Cd.ro 21 5 (Cd.is .u64)) (Cd.cons (Cd.ro 0 0 (Cd.is .u8)) Cd.nil)))))) (fun a => (a.1.1.2, a.2.1.1, a.2.2.2.2.1, a.2.2.2.2.2.1)) (fun a => ((((), a.1), ()), ((a.2.1, ()), (((), ()), (((), ()), (a.2.2.1, (a.2.2.2, ()))))))) (fun _ => rfl)
noncomputable def laws_f6big.tr (a : Nat × Int × List Int × List Int) : T Bool := laws_f6big.t a.1 a.2.1 a.2.2.1 a.2.2.2
def laws_f6big.enc : (Nat × Int × List Int × List Int) → Bool → V := fun a r => .bo r
noncomputable def laws_f6big.c : List V → Hp → T V := cdQ laws_f6big.cd (fun a => .leaf (laws_f6big.enc a (laws_f6big a.1 a.2.1 a.2.2.1 a.2.2.2)))
theorem laws_f6big.run (a : Nat × Int × List Int × List Int) : runF laws_f6big.C Tryz.f4.results.toList laws_f6big.b (laws_f6big.cd.enc a).1 (laws_f6big.cd.enc a).2 = (laws_f6big.tr a).map fun r => (laws_f6big.enc a r, (laws_f6big.cd.enc a).2) := by kernel_rfl
theorem laws_f6big.cok : OKq Tryz.prog 4 laws_f6big.c := con_q' laws_f6big.cd laws_f6big.hC Tryz.func4 (by kernel_rfl) (by kernel_rfl) (by kernel_rfl) laws_f6big.lp (fun a => by kernel_rfl) laws_f6big.run (Tells.val (tree := laws_f6big.tr) fun a => by kernel_rfl)
/-! ### spec_l00From -/
noncomputable def spec_l00From.b : Code := bodyOf Tryz.f26
noncomputable def spec_l00From.C : Ctx := { ty := tys, fn := [], lp := [], n := 6, k := 1 }
theorem spec_l00From.hC : CtxOK Tryz.prog spec_l00From.C := CtxOK.of mo tys_ok FnsOK.nil
theorem spec_l00From.lp : LpOK Tryz.prog spec_l00From.C spec_l00From.b := (LpOK.nil (by kernel_rfl))
noncomputable def spec_l00From.t (x0 : Nat) (x1 : List Int) : T (Nat × Int × Int) :=
  .leaf (x0, (0 : Int), (0 : Int))
noncomputable def spec_l00From (x0 : Nat) (x1 : List Int) : Nat × Int × Int := (spec_l00From.t x0 x1).val
def spec_l00From.cd : Cd (Nat × List Int) (List V × Hp) := Cd.iso (Cd.pair (Cd.cons (Cd.sl 0 (Cd.natc 0)) Cd.nil) (Cd.cons (Cd.ro 0 0 (Cd.is .u8)) Cd.nil)) (fun a => (a.1.1.2, a.2.1)) (fun a => ((((), a.1), ()), (a.2, ()))) (fun _ => rfl)
noncomputable def spec_l00From.tr (a : Nat × List Int) : T (Nat × Int × Int) := spec_l00From.t a.1 a.2
def spec_l00From.enc : (Nat × List Int) → (Nat × Int × Int) → V × Hp := fun a r => (.pt 1 0, [some ⟨false, 0, 0, .is .u8 a.2⟩, some ⟨true, 67, 3, .vs [.sl 0 0 r.1, .it .i64 r.2.1, .it .u64 r.2.2]⟩])
noncomputable def spec_l00From.c : List V → Hp → T (V × Hp) := cdE spec_l00From.cd (fun a => .leaf (spec_l00From.enc a (spec_l00From a.1 a.2)))
theorem spec_l00From.run (a : Nat × List Int) : runF spec_l00From.C Tryz.f26.results.toList spec_l00From.b (spec_l00From.cd.enc a).1 (spec_l00From.cd.enc a).2 = (spec_l00From.tr a).map (spec_l00From.enc a) := by kernel_rfl
theorem spec_l00From.cok : OKe Tryz.prog 26 spec_l00From.c := con_e' spec_l00From.cd spec_l00From.hC Tryz.func26 (by kernel_rfl) (by kernel_rfl) (by kernel_rfl) spec_l00From.lp (fun a => by kernel_rfl) spec_l00From.run (Tells.val (tree := spec_l00From.tr) fun a => by kernel_rfl)
/-! ### spec_l00Src_next -/
noncomputable def spec_l00Src_next.b : Code := bodyOf Tryz.f56
noncomputable def spec_l00Src_next.C : Ctx := { ty := tys, fn := [], lp := [], n := 62, k := 2 }
theorem spec_l00Src_next.hC : CtxOK Tryz.prog spec_l00Src_next.C := CtxOK.of mo tys_ok FnsOK.nil
theorem spec_l00Src_next.lp : LpOK Tryz.prog spec_l00Src_next.C spec_l00Src_next.b := (LpOK.nil (by kernel_rfl))
noncomputable def spec_l00Src_next.t (x0 : Nat) (x1 : Int) (x2 : Int) (x3 : List Int) : T (Int × Nat × Int × Int) :=
  .br (decide (x1 < ((x0 : Nat) : Int)))
  (.br (bounds x1 x0)
   (.br (Nat.ble ((0 + (Int.toNat x1 * 1)) + 1) (List.length x3))
    (.br (decide ((IntKind.wrap .i64 (x1 + (1 : Int))) ≤ ((x0 : Nat) : Int)))
     (.leaf ((IntKind.wrap .i64 (List.getD x3 (0 + (Int.toNat x1 * 1)) 0)), x0, (IntKind.wrap .i64 (x1 + (1 : Int))), (IntKind.wrap .u64 ((IntKind.wrap .u64 ((IntKind.wrap .u64 (x2 * (6364136223846793005 : Int))) + (IntKind.wrap .u64 (IntKind.wrap .i64 (List.getD x3 (0 + (Int.toNat x1 * 1)) 0))))) + (1442695040888963407 : Int)))))
     (.leaf ((IntKind.wrap .i64 (ibits .and .u64 (Int.fdiv (IntKind.wrap .u64 ((IntKind.wrap .u64 ((IntKind.wrap .u64 (x2 * (6364136223846793005 : Int))) + (IntKind.wrap .u64 (IntKind.wrap .i64 (List.getD x3 (0 + (Int.toNat x1 * 1)) 0))))) + (1442695040888963407 : Int))) (2 ^ min (Int.toNat (40 : Int)) 64)) (255 : Int))), x0, (IntKind.wrap .i64 (x1 + (1 : Int))), (IntKind.wrap .u64 ((IntKind.wrap .u64 ((IntKind.wrap .u64 (x2 * (6364136223846793005 : Int))) + (IntKind.wrap .u64 (IntKind.wrap .i64 (List.getD x3 (0 + (Int.toNat x1 * 1)) 0))))) + (1442695040888963407 : Int))))))
    .bad)
   .bad)
  (.br (decide ((IntKind.wrap .i64 (x1 + (1 : Int))) ≤ ((x0 : Nat) : Int)))
   (.leaf ((0 : Int), x0, (IntKind.wrap .i64 (x1 + (1 : Int))), (IntKind.wrap .u64 ((IntKind.wrap .u64 ((IntKind.wrap .u64 (x2 * (6364136223846793005 : Int))) + (IntKind.wrap .u64 (0 : Int)))) + (1442695040888963407 : Int)))))
   (.leaf ((IntKind.wrap .i64 (ibits .and .u64 (Int.fdiv (IntKind.wrap .u64 ((IntKind.wrap .u64 ((IntKind.wrap .u64 (x2 * (6364136223846793005 : Int))) + (IntKind.wrap .u64 (0 : Int)))) + (1442695040888963407 : Int))) (2 ^ min (Int.toNat (40 : Int)) 64)) (255 : Int))), x0, (IntKind.wrap .i64 (x1 + (1 : Int))), (IntKind.wrap .u64 ((IntKind.wrap .u64 ((IntKind.wrap .u64 (x2 * (6364136223846793005 : Int))) + (IntKind.wrap .u64 (0 : Int)))) + (1442695040888963407 : Int))))))
noncomputable def spec_l00Src_next (x0 : Nat) (x1 : Int) (x2 : Int) (x3 : List Int) : Int × Nat × Int × Int := (spec_l00Src_next.t x0 x1 x2 x3).val
noncomputable def spec_l00Src_next.ok (x0 : Nat) (x1 : Int) (x2 : Int) (x3 : List Int) : Bool := (spec_l00Src_next.t x0 x1 x2 x3).ok
def spec_l00Src_next.cd : Cd (Nat × Int × Int × List Int) (List V × Hp) := Cd.iso (Cd.pair (Cd.cons (Cd.pt 0 (Cd.natc 0)) Cd.nil) (Cd.cons (Cd.rw 67 3 (Cd.vs (Cd.cons (Cd.sl 1 (Cd.natc 0)) (Cd.cons (Cd.it .i64) (Cd.cons (Cd.it .u64) Cd.nil))))) (Cd.cons (Cd.ro 0 0 (Cd.is .u8)) Cd.nil))) (fun a => (a.2.1.1.2, a.2.1.2.1, a.2.1.2.2.1, a.2.2.1)) (fun a => (((), ()), ((((), a.1), (a.2.1, (a.2.2.1, ()))), (a.2.2.2, ())))) (fun _ => rfl)
noncomputable def spec_l00Src_next.tr (a : Nat × Int × Int × List Int) : T (Int × Nat × Int × Int) := spec_l00Src_next.t a.1 a.2.1 a.2.2.1 a.2.2.2
def spec_l00Src_next.enc : (Nat × Int × Int × List Int) → (Int × Nat × Int × Int) → V × Hp := fun a r => (.it .i64 r.1, [some ⟨true, 67, 3, .vs [.sl 1 0 r.2.1, .it .i64 r.2.2.1, .it .u64 r.2.2.2]⟩, some ⟨false, 0, 0, .is .u8 a.2.2.2⟩])
noncomputable def spec_l00Src_next.c : List V → Hp → T (V × Hp) := cdE spec_l00Src_next.cd (fun a => .br (spec_l00Src_next.ok a.1 a.2.1 a.2.2.1 a.2.2.2) (.leaf (spec_l00Src_next.enc a (spec_l00Src_next a.1 a.2.1 a.2.2.1 a.2.2.2))) .bad)
theorem spec_l00Src_next.run (a : Nat × Int × Int × List Int) : runF spec_l00Src_next.C Tryz.f56.results.toList spec_l00Src_next.b (spec_l00Src_next.cd.enc a).1 (spec_l00Src_next.cd.enc a).2 = (spec_l00Src_next.tr a).map (spec_l00Src_next.enc a) := by kernel_rfl
theorem spec_l00Src_next.cok : OKe Tryz.prog 56 spec_l00Src_next.c := con_e' spec_l00Src_next.cd spec_l00Src_next.hC Tryz.func56 (by kernel_rfl) (by kernel_rfl) (by kernel_rfl) spec_l00Src_next.lp (fun a => by kernel_rfl) spec_l00Src_next.run (Tells.ok (tree := spec_l00Src_next.tr))
/-! ### spec_l00Src_pick -/
noncomputable def spec_l00Src_pick.b : Code := bodyOf Tryz.f27
noncomputable def spec_l00Src_pick.C : Ctx := { ty := tys, fn := [(56, .e spec_l00Src_next.c)], lp := [], n := 20, k := 2 }
theorem spec_l00Src_pick.hC : CtxOK Tryz.prog spec_l00Src_pick.C := CtxOK.of mo tys_ok (FnsOK.cons spec_l00Src_next.cok FnsOK.nil)
theorem spec_l00Src_pick.lp : LpOK Tryz.prog spec_l00Src_pick.C spec_l00Src_pick.b := (LpOK.nil (by kernel_rfl))
noncomputable def spec_l00Src_pick.t (x0 : Int) (x1 : Nat) (x2 : Int) (x3 : Int) (x4 : List Int) : T (Int × Nat × Int × Int) :=
  .br (decide (x0 ≤ (1 : Int)))
  (.leaf ((0 : Int), x1, x2, x3))
  (.br (spec_l00Src_next.ok x1 x2 x3 x4)
   (.br (decide (x0 > (200 : Int)))
    (.br (spec_l00Src_next.ok ((spec_l00Src_next x1 x2 x3 x4).2.1) ((spec_l00Src_next x1 x2 x3 x4).2.2.1) ((spec_l00Src_next x1 x2 x3 x4).2.2.2) x4)
     (.br (x0 == 0)
      .bad
      (.leaf ((Int.tmod (IntKind.wrap .i64 ((IntKind.wrap .i64 ((spec_l00Src_next x1 x2 x3 x4).1 * (256 : Int))) + (spec_l00Src_next ((spec_l00Src_next x1 x2 x3 x4).2.1) ((spec_l00Src_next x1 x2 x3 x4).2.2.1) ((spec_l00Src_next x1 x2 x3 x4).2.2.2) x4).1)) x0), (spec_l00Src_next ((spec_l00Src_next x1 x2 x3 x4).2.1) ((spec_l00Src_next x1 x2 x3 x4).2.2.1) ((spec_l00Src_next x1 x2 x3 x4).2.2.2) x4).2.1, (spec_l00Src_next ((spec_l00Src_next x1 x2 x3 x4).2.1) ((spec_l00Src_next x1 x2 x3 x4).2.2.1) ((spec_l00Src_next x1 x2 x3 x4).2.2.2) x4).2.2.1, (spec_l00Src_next ((spec_l00Src_next x1 x2 x3 x4).2.1) ((spec_l00Src_next x1 x2 x3 x4).2.2.1) ((spec_l00Src_next x1 x2 x3 x4).2.2.2) x4).2.2.2)))
     .bad)
    (.br (x0 == 0)
     .bad
     (.leaf ((Int.tmod (spec_l00Src_next x1 x2 x3 x4).1 x0), (spec_l00Src_next x1 x2 x3 x4).2.1, (spec_l00Src_next x1 x2 x3 x4).2.2.1, (spec_l00Src_next x1 x2 x3 x4).2.2.2))))
   .bad)
noncomputable def spec_l00Src_pick (x0 : Int) (x1 : Nat) (x2 : Int) (x3 : Int) (x4 : List Int) : Int × Nat × Int × Int := (spec_l00Src_pick.t x0 x1 x2 x3 x4).val
noncomputable def spec_l00Src_pick.ok (x0 : Int) (x1 : Nat) (x2 : Int) (x3 : Int) (x4 : List Int) : Bool := (spec_l00Src_pick.t x0 x1 x2 x3 x4).ok
def spec_l00Src_pick.cd : Cd (Int × Nat × Int × Int × List Int) (List V × Hp) := Cd.iso (Cd.pair (Cd.cons (Cd.pt 0 (Cd.natc 0)) (Cd.cons (Cd.it .i64) Cd.nil)) (Cd.cons (Cd.rw 67 3 (Cd.vs (Cd.cons (Cd.sl 1 (Cd.natc 0)) (Cd.cons (Cd.it .i64) (Cd.cons (Cd.it .u64) Cd.nil))))) (Cd.cons (Cd.ro 0 0 (Cd.is .u8)) Cd.nil))) (fun a => (a.1.2.1, a.2.1.1.2, a.2.1.2.1, a.2.1.2.2.1, a.2.2.1)) (fun a => (((), (a.1, ())), ((((), a.2.1), (a.2.2.1, (a.2.2.2.1, ()))), (a.2.2.2.2, ())))) (fun _ => rfl)
noncomputable def spec_l00Src_pick.tr (a : Int × Nat × Int × Int × List Int) : T (Int × Nat × Int × Int) := spec_l00Src_pick.t a.1 a.2.1 a.2.2.1 a.2.2.2.1 a.2.2.2.2
def spec_l00Src_pick.enc : (Int × Nat × Int × Int × List Int) → (Int × Nat × Int × Int) → V × Hp := fun a r => (.it .i64 r.1, [some ⟨true, 67, 3, .vs [.sl 1 0 r.2.1, .it .i64 r.2.2.1, .it .u64 r.2.2.2]⟩, some ⟨false, 0, 0, .is .u8 a.2.2.2.2⟩])
noncomputable def spec_l00Src_pick.c : List V → Hp → T (V × Hp) := cdE spec_l00Src_pick.cd (fun a => .br (spec_l00Src_pick.ok a.1 a.2.1 a.2.2.1 a.2.2.2.1 a.2.2.2.2) (.leaf (spec_l00Src_pick.enc a (spec_l00Src_pick a.1 a.2.1 a.2.2.1 a.2.2.2.1 a.2.2.2.2))) .bad)
theorem spec_l00Src_pick.run (a : Int × Nat × Int × Int × List Int) : runF spec_l00Src_pick.C Tryz.f27.results.toList spec_l00Src_pick.b (spec_l00Src_pick.cd.enc a).1 (spec_l00Src_pick.cd.enc a).2 = (spec_l00Src_pick.tr a).map (spec_l00Src_pick.enc a) := by kernel_rfl
theorem spec_l00Src_pick.cok : OKe Tryz.prog 27 spec_l00Src_pick.c := con_e' spec_l00Src_pick.cd spec_l00Src_pick.hC Tryz.func27 (by kernel_rfl) (by kernel_rfl) (by kernel_rfl) spec_l00Src_pick.lp (fun a => by kernel_rfl) spec_l00Src_pick.run (Tells.ok (tree := spec_l00Src_pick.tr))
/-! ### spec_l03Long -/
noncomputable def spec_l03Long.b : Code := bodyOf Tryz.f55
noncomputable def spec_l03Long.C : Ctx := { ty := tys, fn := [(27, .e spec_l00Src_pick.c)], lp := [], n := 8, k := 2 }
theorem spec_l03Long.hC : CtxOK Tryz.prog spec_l03Long.C := CtxOK.of mo tys_ok (FnsOK.cons spec_l00Src_pick.cok FnsOK.nil)
theorem spec_l03Long.lp : LpOK Tryz.prog spec_l03Long.C spec_l03Long.b := (LpOK.nil (by kernel_rfl))
noncomputable def spec_l03Long.t (x0 : Nat) (x1 : Int) (x2 : Int) (x3 : List Int) : T (Nat × Nat × Int × Int) :=
  .br (spec_l00Src_pick.ok (64 : Int) x0 x1 x2 x3)
  (.leaf ((fdiv .f32 (fofint .f32 (IntKind.wrap .i64 ((1 : Int) + (spec_l00Src_pick (64 : Int) x0 x1 x2 x3).1))) 1090519040), (spec_l00Src_pick (64 : Int) x0 x1 x2 x3).2.1, (spec_l00Src_pick (64 : Int) x0 x1 x2 x3).2.2.1, (spec_l00Src_pick (64 : Int) x0 x1 x2 x3).2.2.2))
  .bad
noncomputable def spec_l03Long (x0 : Nat) (x1 : Int) (x2 : Int) (x3 : List Int) : Nat × Nat × Int × Int := (spec_l03Long.t x0 x1 x2 x3).val
noncomputable def spec_l03Long.ok (x0 : Nat) (x1 : Int) (x2 : Int) (x3 : List Int) : Bool := (spec_l03Long.t x0 x1 x2 x3).ok
def spec_l03Long.cd : Cd (Nat × Int × Int × List Int) (List V × Hp) := Cd.iso (Cd.pair (Cd.cons (Cd.pt 0 (Cd.natc 0)) Cd.nil) (Cd.cons (Cd.rw 67 3 (Cd.vs (Cd.cons (Cd.sl 1 (Cd.natc 0)) (Cd.cons (Cd.it .i64) (Cd.cons (Cd.it .u64) Cd.nil))))) (Cd.cons (Cd.ro 0 0 (Cd.is .u8)) Cd.nil))) (fun a => (a.2.1.1.2, a.2.1.2.1, a.2.1.2.2.1, a.2.2.1)) (fun a => (((), ()), ((((), a.1), (a.2.1, (a.2.2.1, ()))), (a.2.2.2, ())))) (fun _ => rfl)
noncomputable def spec_l03Long.tr (a : Nat × Int × Int × List Int) : T (Nat × Nat × Int × Int) := spec_l03Long.t a.1 a.2.1 a.2.2.1 a.2.2.2
def spec_l03Long.enc : (Nat × Int × Int × List Int) → (Nat × Nat × Int × Int) → V × Hp := fun a r => (.fl .f32 r.1, [some ⟨true, 67, 3, .vs [.sl 1 0 r.2.1, .it .i64 r.2.2.1, .it .u64 r.2.2.2]⟩, some ⟨false, 0, 0, .is .u8 a.2.2.2⟩])
noncomputable def spec_l03Long.c : List V → Hp → T (V × Hp) := cdE spec_l03Long.cd (fun a => .br (spec_l03Long.ok a.1 a.2.1 a.2.2.1 a.2.2.2) (.leaf (spec_l03Long.enc a (spec_l03Long a.1 a.2.1 a.2.2.1 a.2.2.2))) .bad)
theorem spec_l03Long.run (a : Nat × Int × Int × List Int) : runF spec_l03Long.C Tryz.f55.results.toList spec_l03Long.b (spec_l03Long.cd.enc a).1 (spec_l03Long.cd.enc a).2 = (spec_l03Long.tr a).map (spec_l03Long.enc a) := by kernel_rfl
theorem spec_l03Long.cok : OKe Tryz.prog 55 spec_l03Long.c := con_e' spec_l03Long.cd spec_l03Long.hC Tryz.func55 (by kernel_rfl) (by kernel_rfl) (by kernel_rfl) spec_l03Long.lp (fun a => by kernel_rfl) spec_l03Long.run (Tells.ok (tree := spec_l03Long.tr))
/-! ### spec_l03Wheel -/
noncomputable def spec_l03Wheel.b : Code := bodyOf Tryz.f25
noncomputable def spec_l03Wheel.C : Ctx := { ty := tys, fn := [(27, .e spec_l00Src_pick.c), (55, .e spec_l03Long.c)], lp := [], n := 15, k := 2 }
theorem spec_l03Wheel.hC : CtxOK Tryz.prog spec_l03Wheel.C := CtxOK.of mo tys_ok (FnsOK.cons spec_l00Src_pick.cok (FnsOK.cons spec_l03Long.cok FnsOK.nil))
theorem spec_l03Wheel.lp : LpOK Tryz.prog spec_l03Wheel.C spec_l03Wheel.b := (LpOK.nil (by kernel_rfl))
noncomputable def spec_l03Wheel.t (x0 : Nat) (x1 : Int) (x2 : Int) (x3 : List Int) : T (Int × Nat × Nat × Nat × Int × Int) :=
  let y4 := (spec_l00Src_pick (20 : Int) x0 x1 x2 x3)
  .br (spec_l00Src_pick.ok (20 : Int) x0 x1 x2 x3)
  (let y5 := (spec_l03Long y4.2.1 y4.2.2.1 y4.2.2.2 x3)
   .br (spec_l03Long.ok y4.2.1 y4.2.2.1 y4.2.2.2 x3)
   (let y6 := (spec_l03Long y5.2.1 y5.2.2.1 y5.2.2.2 x3)
    .br (spec_l03Long.ok y5.2.1 y5.2.2.1 y5.2.2.2 x3)
    (.leaf ((IntKind.wrap .i16 (IntKind.wrap .i64 ((4 : Int) + y4.1))), y5.1, y6.1, y6.2.1, y6.2.2.1, y6.2.2.2))
    .bad)
   .bad)
  .bad
noncomputable def spec_l03Wheel (x0 : Nat) (x1 : Int) (x2 : Int) (x3 : List Int) : Int × Nat × Nat × Nat × Int × Int := (spec_l03Wheel.t x0 x1 x2 x3).val
noncomputable def spec_l03Wheel.ok (x0 : Nat) (x1 : Int) (x2 : Int) (x3 : List Int) : Bool := (spec_l03Wheel.t x0 x1 x2 x3).ok
def spec_l03Wheel.cd : Cd (Nat × Int × Int × List Int) (List V × Hp) := Cd.iso (Cd.pair (Cd.cons (Cd.pt 0 (Cd.natc 0)) Cd.nil) (Cd.cons (Cd.rw 67 3 (Cd.vs (Cd.cons (Cd.sl 1 (Cd.natc 0)) (Cd.cons (Cd.it .i64) (Cd.cons (Cd.it .u64) Cd.nil))))) (Cd.cons (Cd.ro 0 0 (Cd.is .u8)) Cd.nil))) (fun a => (a.2.1.1.2, a.2.1.2.1, a.2.1.2.2.1, a.2.2.1)) (fun a => (((), ()), ((((), a.1), (a.2.1, (a.2.2.1, ()))), (a.2.2.2, ())))) (fun _ => rfl)
noncomputable def spec_l03Wheel.tr (a : Nat × Int × Int × List Int) : T (Int × Nat × Nat × Nat × Int × Int) := spec_l03Wheel.t a.1 a.2.1 a.2.2.1 a.2.2.2
def spec_l03Wheel.enc : (Nat × Int × Int × List Int) → (Int × Nat × Nat × Nat × Int × Int) → V × Hp := fun a r => (.agg [.it .i16 r.1, .fl .f32 r.2.1, .fl .f32 r.2.2.1], [some ⟨true, 67, 3, .vs [.sl 1 0 r.2.2.2.1, .it .i64 r.2.2.2.2.1, .it .u64 r.2.2.2.2.2]⟩, some ⟨false, 0, 0, .is .u8 a.2.2.2⟩])
noncomputable def spec_l03Wheel.c : List V → Hp → T (V × Hp) := cdE spec_l03Wheel.cd (fun a => .br (spec_l03Wheel.ok a.1 a.2.1 a.2.2.1 a.2.2.2) (.leaf (spec_l03Wheel.enc a (spec_l03Wheel a.1 a.2.1 a.2.2.1 a.2.2.2))) .bad)
theorem spec_l03Wheel.run (a : Nat × Int × Int × List Int) : runF spec_l03Wheel.C Tryz.f25.results.toList spec_l03Wheel.b (spec_l03Wheel.cd.enc a).1 (spec_l03Wheel.cd.enc a).2 = (spec_l03Wheel.tr a).map (spec_l03Wheel.enc a) := by kernel_rfl
theorem spec_l03Wheel.cok : OKe Tryz.prog 25 spec_l03Wheel.c := con_e' spec_l03Wheel.cd spec_l03Wheel.hC Tryz.func25 (by kernel_rfl) (by kernel_rfl) (by kernel_rfl) spec_l03Wheel.lp (fun a => by kernel_rfl) spec_l03Wheel.run (Tells.ok (tree := spec_l03Wheel.tr))
/-! ### spec_P6Mill -/
noncomputable def spec_P6Mill.b : Code := bodyOf Tryz.f5
noncomputable def spec_P6Mill.C : Ctx := { ty := tys, fn := [(26, .e spec_l00From.c), (25, .e spec_l03Wheel.c)], lp := [], n := 6, k := 5 }
theorem spec_P6Mill.hC : CtxOK Tryz.prog spec_P6Mill.C := CtxOK.of mo tys_ok (FnsOK.cons spec_l00From.cok (FnsOK.cons spec_l03Wheel.cok FnsOK.nil))
theorem spec_P6Mill.lp : LpOK Tryz.prog spec_P6Mill.C spec_P6Mill.b := (LpOK.nil (by kernel_rfl))
noncomputable def spec_P6Mill.t (x0 : Nat) (x1 : Int) (x2 : List Int) (x3 : List Int) : T (Int × Nat × Nat) :=
  let y3 := (spec_l00From x0 x3)
  let y7 := (spec_l03Wheel y3.1 y3.2.1 y3.2.2 x3)
  .br (spec_l03Wheel.ok y3.1 y3.2.1 y3.2.2 x3)
  (.leaf (y7.1, y7.2.1, y7.2.2.1))
  .bad
noncomputable def spec_P6Mill (x0 : Nat) (x1 : Int) (x2 : List Int) (x3 : List Int) : Int × Nat × Nat := (spec_P6Mill.t x0 x1 x2 x3).val
noncomputable def spec_P6Mill.ok (x0 : Nat) (x1 : Int) (x2 : List Int) (x3 : List Int) : Bool := (spec_P6Mill.t x0 x1 x2 x3).ok
def spec_P6Mill.cd : Cd (Nat × Int × List Int × List Int) (List V × Hp) := Cd.iso (Cd.pair (Cd.cons (Cd.sl 4 (Cd.natc 0)) Cd.nil) (Cd.cons (Cd.ro 0 2 (Cd.vs (Cd.cons (Cd.it .i64) Cd.nil))) (Cd.cons (Cd.ro 0 3 (Cd.vs (Cd.cons Cd.er Cd.nil))) (Cd.cons (Cd.ro 0 4 (Cd.vs (Cd.cons Cd.er Cd.nil))) (Cd.cons (Cd.ro 21 5 (Cd.is .u64)) (Cd.cons (Cd.ro 0 0 (Cd.is .u8)) Cd.nil)))))) (fun a => (a.1.1.2, a.2.1.1, a.2.2.2.2.1, a.2.2.2.2.2.1)) (fun a => ((((), a.1), ()), ((a.2.1, ()), (((), ()), (((), ()), (a.2.2.1, (a.2.2.2, ()))))))) (fun _ => rfl)
noncomputable def spec_P6Mill.tr (a : Nat × Int × List Int × List Int) : T (Int × Nat × Nat) := spec_P6Mill.t a.1 a.2.1 a.2.2.1 a.2.2.2
def spec_P6Mill.enc : (Nat × Int × List Int × List Int) → (Int × Nat × Nat) → V := fun a r => .agg [.it .i16 r.1, .fl .f32 r.2.1, .fl .f32 r.2.2]
noncomputable def spec_P6Mill.c : List V → Hp → T V := cdQ spec_P6Mill.cd (fun a => .br (spec_P6Mill.ok a.1 a.2.1 a.2.2.1 a.2.2.2) (.leaf (spec_P6Mill.enc a (spec_P6Mill a.1 a.2.1 a.2.2.1 a.2.2.2))) .bad)
theorem spec_P6Mill.run (a : Nat × Int × List Int × List Int) : runF spec_P6Mill.C Tryz.f5.results.toList spec_P6Mill.b (spec_P6Mill.cd.enc a).1 (spec_P6Mill.cd.enc a).2 = (spec_P6Mill.tr a).map fun r => (spec_P6Mill.enc a r, (spec_P6Mill.cd.enc a).2) := by kernel_rfl
theorem spec_P6Mill.cok : OKq Tryz.prog 5 spec_P6Mill.c := con_q' spec_P6Mill.cd spec_P6Mill.hC Tryz.func5 (by kernel_rfl) (by kernel_rfl) (by kernel_rfl) spec_P6Mill.lp (fun a => by kernel_rfl) spec_P6Mill.run (Tells.ok (tree := spec_P6Mill.tr))
/-! ### spec_P6Pick -/
noncomputable def spec_P6Pick.b : Code := bodyOf Tryz.f6
noncomputable def spec_P6Pick.C : Ctx := { ty := tys, fn := [(26, .e spec_l00From.c), (27, .e spec_l00Src_pick.c)], lp := [], n := 9, k := 5 }
theorem spec_P6Pick.hC : CtxOK Tryz.prog spec_P6Pick.C := CtxOK.of mo tys_ok (FnsOK.cons spec_l00From.cok (FnsOK.cons spec_l00Src_pick.cok FnsOK.nil))
theorem spec_P6Pick.lp : LpOK Tryz.prog spec_P6Pick.C spec_P6Pick.b := (LpOK.nil (by kernel_rfl))
noncomputable def spec_P6Pick.t (x0 : Nat) (x1 : Int) (x2 : Int) (x3 : List Int) (x4 : List Int) : T Int :=
  let y9 := (spec_l00From x0 x4)
  let y10 := (spec_l00Src_pick x1 y9.1 y9.2.1 y9.2.2 x4)
  .br (spec_l00Src_pick.ok x1 y9.1 y9.2.1 y9.2.2 x4)
  (.leaf y10.1)
  .bad
noncomputable def spec_P6Pick (x0 : Nat) (x1 : Int) (x2 : Int) (x3 : List Int) (x4 : List Int) : Int := (spec_P6Pick.t x0 x1 x2 x3 x4).val
noncomputable def spec_P6Pick.ok (x0 : Nat) (x1 : Int) (x2 : Int) (x3 : List Int) (x4 : List Int) : Bool := (spec_P6Pick.t x0 x1 x2 x3 x4).ok
def spec_P6Pick.cd : Cd (Nat × Int × Int × List Int × List Int) (List V × Hp) := Cd.iso (Cd.pair (Cd.cons (Cd.sl 4 (Cd.natc 0)) (Cd.cons (Cd.it .i64) Cd.nil)) (Cd.cons (Cd.ro 0 2 (Cd.vs (Cd.cons (Cd.it .i64) Cd.nil))) (Cd.cons (Cd.ro 0 3 (Cd.vs (Cd.cons Cd.er Cd.nil))) (Cd.cons (Cd.ro 0 4 (Cd.vs (Cd.cons Cd.er Cd.nil))) (Cd.cons (Cd.ro 21 5 (Cd.is .u64)) (Cd.cons (Cd.ro 0 0 (Cd.is .u8)) Cd.nil)))))) (fun a => (a.1.1.2, a.1.2.1, a.2.1.1, a.2.2.2.2.1, a.2.2.2.2.2.1)) (fun a => ((((), a.1), (a.2.1, ())), ((a.2.2.1, ()), (((), ()), (((), ()), (a.2.2.2.1, (a.2.2.2.2, ()))))))) (fun _ => rfl)
noncomputable def spec_P6Pick.tr (a : Nat × Int × Int × List Int × List Int) : T Int := spec_P6Pick.t a.1 a.2.1 a.2.2.1 a.2.2.2.1 a.2.2.2.2
def spec_P6Pick.enc : (Nat × Int × Int × List Int × List Int) → Int → V := fun a r => .it .i64 r
noncomputable def spec_P6Pick.c : List V → Hp → T V := cdQ spec_P6Pick.cd (fun a => .br (spec_P6Pick.ok a.1 a.2.1 a.2.2.1 a.2.2.2.1 a.2.2.2.2) (.leaf (spec_P6Pick.enc a (spec_P6Pick a.1 a.2.1 a.2.2.1 a.2.2.2.1 a.2.2.2.2))) .bad)
theorem spec_P6Pick.run (a : Nat × Int × Int × List Int × List Int) : runF spec_P6Pick.C Tryz.f6.results.toList spec_P6Pick.b (spec_P6Pick.cd.enc a).1 (spec_P6Pick.cd.enc a).2 = (spec_P6Pick.tr a).map fun r => (spec_P6Pick.enc a r, (spec_P6Pick.cd.enc a).2) := by kernel_rfl
theorem spec_P6Pick.cok : OKq Tryz.prog 6 spec_P6Pick.c := con_q' spec_P6Pick.cd spec_P6Pick.hC Tryz.func6 (by kernel_rfl) (by kernel_rfl) (by kernel_rfl) spec_P6Pick.lp (fun a => by kernel_rfl) spec_P6Pick.run (Tells.ok (tree := spec_P6Pick.tr))
/-! ### impl_within -/
noncomputable def impl_within.b : Code := bodyOf Tryz.f43
noncomputable def impl_within.C : Ctx := { ty := tys, fn := [], lp := [], n := 15, k := 0 }
theorem impl_within.hC : CtxOK Tryz.prog impl_within.C := CtxOK.of mo tys_ok FnsOK.nil
theorem impl_within.lp : LpOK Tryz.prog impl_within.C impl_within.b := (LpOK.nil (by kernel_rfl))
noncomputable def impl_within.t (x0 : Int) (x1 : Int) (x2 : Int) : T Bool :=
  .br (decide (x1 ≤ x0))
  (.leaf (decide (x0 ≤ x2)))
  (.leaf false)
noncomputable def impl_within (x0 : Int) (x1 : Int) (x2 : Int) : Bool := (impl_within.t x0 x1 x2).val
def impl_within.cd : Cd (Int × Int × Int) (List V × Hp) := Cd.iso (Cd.pair (Cd.cons (Cd.it .i64) (Cd.cons (Cd.it .i64) (Cd.cons (Cd.it .i64) Cd.nil))) Cd.nil) (fun a => (a.1.1, a.1.2.1, a.1.2.2.1)) (fun a => ((a.1, (a.2.1, (a.2.2, ()))), ())) (fun _ => rfl)
noncomputable def impl_within.tr (a : Int × Int × Int) : T Bool := impl_within.t a.1 a.2.1 a.2.2
def impl_within.enc : (Int × Int × Int) → Bool → V := fun a r => .bo r
noncomputable def impl_within.c : List V → Hp → T V := cdQ impl_within.cd (fun a => .leaf (impl_within.enc a (impl_within a.1 a.2.1 a.2.2)))
theorem impl_within.run (a : Int × Int × Int) : runF impl_within.C Tryz.f43.results.toList impl_within.b (impl_within.cd.enc a).1 (impl_within.cd.enc a).2 = (impl_within.tr a).map fun r => (impl_within.enc a r, (impl_within.cd.enc a).2) := by kernel_rfl
theorem impl_within.cok : OKq Tryz.prog 43 impl_within.c := con_q' impl_within.cd impl_within.hC Tryz.func43 (by kernel_rfl) (by kernel_rfl) (by kernel_rfl) impl_within.lp (fun a => by kernel_rfl) impl_within.run (Tells.val (tree := impl_within.tr) fun a => by kernel_rfl)
/-! ### impl_between -/
noncomputable def impl_between.b : Code := bodyOf Tryz.f51
noncomputable def impl_between.C : Ctx := { ty := tys, fn := [], lp := [], n := 15, k := 0 }
theorem impl_between.hC : CtxOK Tryz.prog impl_between.C := CtxOK.of mo tys_ok FnsOK.nil
theorem impl_between.lp : LpOK Tryz.prog impl_between.C impl_between.b := (LpOK.nil (by kernel_rfl))
noncomputable def impl_between.t (x0 : Nat) (x1 : Nat) (x2 : Nat) : T Bool :=
  .br (fle .f32 x1 x0)
  (.leaf (fle .f32 x0 x2))
  (.leaf false)
noncomputable def impl_between (x0 : Nat) (x1 : Nat) (x2 : Nat) : Bool := (impl_between.t x0 x1 x2).val
def impl_between.cd : Cd (Nat × Nat × Nat) (List V × Hp) := Cd.iso (Cd.pair (Cd.cons (Cd.fl .f32) (Cd.cons (Cd.fl .f32) (Cd.cons (Cd.fl .f32) Cd.nil))) Cd.nil) (fun a => (a.1.1, a.1.2.1, a.1.2.2.1)) (fun a => ((a.1, (a.2.1, (a.2.2, ()))), ())) (fun _ => rfl)
noncomputable def impl_between.tr (a : Nat × Nat × Nat) : T Bool := impl_between.t a.1 a.2.1 a.2.2
def impl_between.enc : (Nat × Nat × Nat) → Bool → V := fun a r => .bo r
noncomputable def impl_between.c : List V → Hp → T V := cdQ impl_between.cd (fun a => .leaf (impl_between.enc a (impl_between a.1 a.2.1 a.2.2)))
theorem impl_between.run (a : Nat × Nat × Nat) : runF impl_between.C Tryz.f51.results.toList impl_between.b (impl_between.cd.enc a).1 (impl_between.cd.enc a).2 = (impl_between.tr a).map fun r => (impl_between.enc a r, (impl_between.cd.enc a).2) := by kernel_rfl
theorem impl_between.cok : OKq Tryz.prog 51 impl_between.c := con_q' impl_between.cd impl_between.hC Tryz.func51 (by kernel_rfl) (by kernel_rfl) (by kernel_rfl) impl_between.lp (fun a => by kernel_rfl) impl_between.run (Tells.val (tree := impl_between.tr) fun a => by kernel_rfl)
/-! ### impl_IsLength -/
noncomputable def impl_IsLength.b : Code := bodyOf Tryz.f22
noncomputable def impl_IsLength.C : Ctx := { ty := tys, fn := [(51, .q impl_between.c)], lp := [], n := 5, k := 0 }
theorem impl_IsLength.hC : CtxOK Tryz.prog impl_IsLength.C := CtxOK.of mo tys_ok (FnsOK.cons impl_between.cok FnsOK.nil)
theorem impl_IsLength.lp : LpOK Tryz.prog impl_IsLength.C impl_IsLength.b := (LpOK.nil (by kernel_rfl))
noncomputable def impl_IsLength.t (x0 : Nat) : T Bool :=
  .leaf (impl_between x0 1031798784 1149239296)
noncomputable def impl_IsLength (x0 : Nat) : Bool := (impl_IsLength.t x0).val
def impl_IsLength.cd : Cd Nat (List V × Hp) := Cd.iso (Cd.pair (Cd.cons (Cd.fl .f32) Cd.nil) Cd.nil) (fun a => a.1.1) (fun a => ((a, ()), ())) (fun _ => rfl)
noncomputable def impl_IsLength.tr (a : Nat) : T Bool := impl_IsLength.t a
def impl_IsLength.enc : Nat → Bool → V := fun a r => .bo r
noncomputable def impl_IsLength.c : List V → Hp → T V := cdQ impl_IsLength.cd (fun a => .leaf (impl_IsLength.enc a (impl_IsLength a)))
theorem impl_IsLength.run (a : Nat) : runF impl_IsLength.C Tryz.f22.results.toList impl_IsLength.b (impl_IsLength.cd.enc a).1 (impl_IsLength.cd.enc a).2 = (impl_IsLength.tr a).map fun r => (impl_IsLength.enc a r, (impl_IsLength.cd.enc a).2) := by kernel_rfl
theorem impl_IsLength.cok : OKq Tryz.prog 22 impl_IsLength.c := con_q' impl_IsLength.cd impl_IsLength.hC Tryz.func22 (by kernel_rfl) (by kernel_rfl) (by kernel_rfl) impl_IsLength.lp (fun a => by kernel_rfl) impl_IsLength.run (Tells.val (tree := impl_IsLength.tr) fun a => by kernel_rfl)
/-! ### impl_ValidMill -/
noncomputable def impl_ValidMill.b : Code := bodyOf Tryz.f16
noncomputable def impl_ValidMill.C : Ctx := { ty := tys, fn := [(43, .q impl_within.c), (22, .q impl_IsLength.c)], lp := [], n := 17, k := 0 }
theorem impl_ValidMill.hC : CtxOK Tryz.prog impl_ValidMill.C := CtxOK.of mo tys_ok (FnsOK.cons impl_within.cok (FnsOK.cons impl_IsLength.cok FnsOK.nil))
theorem impl_ValidMill.lp : LpOK Tryz.prog impl_ValidMill.C impl_ValidMill.b := (LpOK.nil (by kernel_rfl))
noncomputable def impl_ValidMill.t (x0 : Int) (x1 : Nat) (x2 : Nat) : T Bool :=
  .br (impl_within (IntKind.wrap .i64 x0) (4 : Int) (48 : Int))
  (.br (impl_IsLength x1)
   (.leaf (impl_IsLength x2))
   (.leaf false))
  (.leaf false)
noncomputable def impl_ValidMill (x0 : Int) (x1 : Nat) (x2 : Nat) : Bool := (impl_ValidMill.t x0 x1 x2).val
def impl_ValidMill.cd : Cd (Int × Nat × Nat) (List V × Hp) := Cd.iso (Cd.pair (Cd.cons (Cd.agg (Cd.cons (Cd.it .i16) (Cd.cons (Cd.fl .f32) (Cd.cons (Cd.fl .f32) Cd.nil)))) Cd.nil) Cd.nil) (fun a => (a.1.1.1, a.1.1.2.1, a.1.1.2.2.1)) (fun a => (((a.1, (a.2.1, (a.2.2, ()))), ()), ())) (fun _ => rfl)
noncomputable def impl_ValidMill.tr (a : Int × Nat × Nat) : T Bool := impl_ValidMill.t a.1 a.2.1 a.2.2
def impl_ValidMill.enc : (Int × Nat × Nat) → Bool → V := fun a r => .bo r
noncomputable def impl_ValidMill.c : List V → Hp → T V := cdQ impl_ValidMill.cd (fun a => .leaf (impl_ValidMill.enc a (impl_ValidMill a.1 a.2.1 a.2.2)))
theorem impl_ValidMill.run (a : Int × Nat × Nat) : runF impl_ValidMill.C Tryz.f16.results.toList impl_ValidMill.b (impl_ValidMill.cd.enc a).1 (impl_ValidMill.cd.enc a).2 = (impl_ValidMill.tr a).map fun r => (impl_ValidMill.enc a r, (impl_ValidMill.cd.enc a).2) := by kernel_rfl
theorem impl_ValidMill.cok : OKq Tryz.prog 16 impl_ValidMill.c := con_q' impl_ValidMill.cd impl_ValidMill.hC Tryz.func16 (by kernel_rfl) (by kernel_rfl) (by kernel_rfl) impl_ValidMill.lp (fun a => by kernel_rfl) impl_ValidMill.run (Tells.val (tree := impl_ValidMill.tr) fun a => by kernel_rfl)
/-! ### impl_decimal -/
noncomputable def impl_decimal.b : Code := bodyOf Tryz.f31
noncomputable def impl_decimal.C : Ctx := { ty := tys, fn := [(60, .q formatC)], lp := [], n := 5, k := 0 }
theorem impl_decimal.hC : CtxOK Tryz.prog impl_decimal.C := CtxOK.of mo tys_ok (FnsOK.cons (format_ok Tryz.func60 (by kernel_rfl) (by kernel_rfl) (fun i w h => Tryz.strconv_FormatInt i w h)) FnsOK.nil)
theorem impl_decimal.lp : LpOK Tryz.prog impl_decimal.C impl_decimal.b := (LpOK.nil (by kernel_rfl))
noncomputable def impl_decimal.t (x0 : Int) : T ByteArray :=
  .br (decide (0 ≤ x0) && (decide (x0 < 100) && decide ((10 : Int) = 10)))
  (.leaf (decB x0))
  .bad
noncomputable def impl_decimal (x0 : Int) : ByteArray := (impl_decimal.t x0).val
noncomputable def impl_decimal.ok (x0 : Int) : Bool := (impl_decimal.t x0).ok
def impl_decimal.cd : Cd Int (List V × Hp) := Cd.iso (Cd.pair (Cd.cons (Cd.it .i64) Cd.nil) Cd.nil) (fun a => a.1.1) (fun a => ((a, ()), ())) (fun _ => rfl)
noncomputable def impl_decimal.tr (a : Int) : T ByteArray := impl_decimal.t a
def impl_decimal.enc : Int → ByteArray → V := fun a r => .st r
noncomputable def impl_decimal.c : List V → Hp → T V := cdQ impl_decimal.cd (fun a => .br (impl_decimal.ok a) (.leaf (impl_decimal.enc a (impl_decimal a))) .bad)
theorem impl_decimal.run (a : Int) : runF impl_decimal.C Tryz.f31.results.toList impl_decimal.b (impl_decimal.cd.enc a).1 (impl_decimal.cd.enc a).2 = (impl_decimal.tr a).map fun r => (impl_decimal.enc a r, (impl_decimal.cd.enc a).2) := by kernel_rfl
theorem impl_decimal.cok : OKq Tryz.prog 31 impl_decimal.c := con_q' impl_decimal.cd impl_decimal.hC Tryz.func31 (by kernel_rfl) (by kernel_rfl) (by kernel_rfl) impl_decimal.lp (fun a => by kernel_rfl) impl_decimal.run (Tells.ok (tree := impl_decimal.tr))
/-! ### impl_NumberText -/
noncomputable def impl_NumberText.b : Code := bodyOf Tryz.f61
noncomputable def impl_NumberText.l5.s (x0 : Nat) (x1 : Int) (x2 : List Int) : T (Unit ⊕ Unit) :=
  .br (decide (x1 ≥ (0 : Int)))
  .bad
  (.leaf (.inr ()))
noncomputable def impl_NumberText.l5.st (p : Nat × Int × List Int) (x : Unit) : T (Unit ⊕ Unit) := impl_NumberText.l5.s p.1 p.2.1 p.2.2
noncomputable def impl_NumberText.l5.r (p : Nat × Int × List Int) (x : Unit) : Option Unit := iterT (impl_NumberText.l5.st p) manyRounds x
def impl_NumberText.l5.cd : Cd ((Nat × Int × List Int) × Unit) (List V × Hp) := Cd.iso (Cd.pair (Cd.cons Cd.qn (Cd.cons (Cd.own 0) (Cd.cons (Cd.it .i64) Cd.nil))) (Cd.cons (Cd.rw 5 1 (Cd.is .u8)) Cd.nil)) (fun a => ((a.1.2.1, a.1.2.2.1, a.2.1), ())) (fun a => (((), (a.1.1, (a.1.2.1, ()))), (a.1.2.2, ()))) (fun _ => rfl)
def impl_NumberText.l5.out (p : Nat × Int × List Int) : Unit → X × List V × Hp := (fun r => (.ex 0, [.own 0 p.1], [some ⟨true, 5, 1, .is .u8 p.2.2⟩]))
def impl_NumberText.l5.ex (p : Nat × Int × List Int) : Unit → T (X × List V × Hp) := leafT (fun r => (.ex 0, [.own 0 p.1], [some ⟨true, 5, 1, .is .u8 p.2.2⟩]))
noncomputable def impl_NumberText.l5.c : List V → Hp → T (X × List V × Hp) := cdL impl_NumberText.l5.cd fun x => optT (impl_NumberText.l5.r x.1 x.2) (impl_NumberText.l5.ex x.1)
noncomputable def impl_NumberText.l5v1.s (x0 : Int) (x1 : Nat) (x2 : Int) (x3 : List Int) : T ((Nat × Int × List Int) ⊕ (Nat × List Int)) :=
  .br (decide (x2 ≥ (0 : Int)))
  (.br (decide (x2 < 0))
   .bad
   (.br (bounds (ibits .and .u32 (Int.fdiv x0 (2 ^ min (Int.toNat x2) 32)) (15 : Int)) (ByteArray.size (ByteArray.mk #[48, 49, 50, 51, 52, 53, 54, 55, 56, 57, 97, 98, 99, 100, 101, 102])))
    (.br ((Nat.ble 1 (List.length [(byteAt (ByteArray.mk #[48, 49, 50, 51, 52, 53, 54, 55, 56, 57, 97, 98, 99, 100, 101, 102]) (ibits .and .u32 (Int.fdiv x0 (2 ^ min (Int.toNat x2) 32)) (15 : Int)))])) && (Nat.beq (List.length x3) (x1 * 1) && Nat.ble ((x1 + 1) * 1) 35184372088832 && Nat.ble (x1 + 1) 35184372088832))
     (.leaf (.inl ((x1 + 1), (IntKind.wrap .i64 (x2 - (4 : Int))), (x3 ++ (List.take 1 (List.drop 0 [(byteAt (ByteArray.mk #[48, 49, 50, 51, 52, 53, 54, 55, 56, 57, 97, 98, 99, 100, 101, 102]) (ibits .and .u32 (Int.fdiv x0 (2 ^ min (Int.toNat x2) 32)) (15 : Int)))]))))))
     .bad)
    .bad))
  (.leaf (.inr (x1, x3)))
noncomputable def impl_NumberText.l5v1.st (p : Int) (x : Nat × Int × List Int) : T ((Nat × Int × List Int) ⊕ (Nat × List Int)) := impl_NumberText.l5v1.s p x.1 x.2.1 x.2.2
noncomputable def impl_NumberText.l5v1.r (p : Int) (x : Nat × Int × List Int) : Option (Nat × List Int) := iterT (impl_NumberText.l5v1.st p) manyRounds x
def impl_NumberText.l5v1.cd : Cd (Int × (Nat × Int × List Int)) (List V × Hp) := Cd.iso (Cd.pair (Cd.cons (Cd.it .u32) (Cd.cons (Cd.own 0) (Cd.cons (Cd.it .i64) Cd.nil))) (Cd.cons (Cd.rw 5 1 (Cd.is .u8)) Cd.nil)) (fun a => (a.1.1, (a.1.2.1, a.1.2.2.1, a.2.1))) (fun a => ((a.1, (a.2.1, (a.2.2.1, ()))), (a.2.2.2, ()))) (fun _ => rfl)
def impl_NumberText.l5v1.out (p : Int) : (Nat × List Int) → X × List V × Hp := (fun r => (.ex 0, [.own 0 r.1], [some ⟨true, 5, 1, .is .u8 r.2⟩]))
def impl_NumberText.l5v1.ex (p : Int) : (Nat × List Int) → T (X × List V × Hp) := leafT (fun r => (.ex 0, [.own 0 r.1], [some ⟨true, 5, 1, .is .u8 r.2⟩]))
noncomputable def impl_NumberText.l5v1.c : List V → Hp → T (X × List V × Hp) := cdL impl_NumberText.l5v1.cd fun x => optT (impl_NumberText.l5v1.r x.1 x.2) (impl_NumberText.l5v1.ex x.1)
noncomputable def impl_NumberText.C : Ctx := { ty := tys, fn := [(66, .q f32bitsC)], lp := [(5, ⟨[3, 4, 5], [4], altL impl_NumberText.l5.c impl_NumberText.l5v1.c⟩)], n := 26, k := 0 }
theorem impl_NumberText.hC : CtxOK Tryz.prog impl_NumberText.C := CtxOK.of mo tys_ok (FnsOK.cons (f32bits_ok Tryz.func66 (by kernel_rfl) (by kernel_rfl) (by kernel_rfl) (by kernel_rfl)) FnsOK.nil)
noncomputable def impl_NumberText.b5 : Code := (nthC (loopsOf impl_NumberText.b) 0)
theorem impl_NumberText.lp5 : LpOK Tryz.prog impl_NumberText.C impl_NumberText.b5 := (LpOK.nil (by kernel_rfl))
theorem impl_NumberText.l5.round (p : Nat × Int × List Int) (s : Unit) : roundL impl_NumberText.C [3, 4, 5] [4] impl_NumberText.b5 (impl_NumberText.l5.cd.enc (p, s)).1 (impl_NumberText.l5.cd.enc (p, s)).2 = (impl_NumberText.l5.st p s).map (encSum (fun s => impl_NumberText.l5.cd.enc (p, s)) (impl_NumberText.l5.out p)) := by kernel_rfl
theorem impl_NumberText.l5.lok : LoopOK Tryz.prog impl_NumberText.C ⟨[3, 4, 5], [4], impl_NumberText.l5.c⟩ impl_NumberText.b5 := loop_cd impl_NumberText.l5.cd impl_NumberText.hC impl_NumberText.lp5 impl_NumberText.l5.round fun p => Gets.leaf
theorem impl_NumberText.l5v1.round (p : Int) (s : Nat × Int × List Int) : roundL impl_NumberText.C [3, 4, 5] [4] impl_NumberText.b5 (impl_NumberText.l5v1.cd.enc (p, s)).1 (impl_NumberText.l5v1.cd.enc (p, s)).2 = (impl_NumberText.l5v1.st p s).map (encSum (fun s => impl_NumberText.l5v1.cd.enc (p, s)) (impl_NumberText.l5v1.out p)) := by kernel_rfl
theorem impl_NumberText.l5v1.lok : LoopOK Tryz.prog impl_NumberText.C ⟨[3, 4, 5], [4], impl_NumberText.l5v1.c⟩ impl_NumberText.b5 := loop_cd impl_NumberText.l5v1.cd impl_NumberText.hC impl_NumberText.lp5 impl_NumberText.l5v1.round fun p => Gets.leaf
theorem impl_NumberText.lp : LpOK Tryz.prog impl_NumberText.C impl_NumberText.b := lp_of (by kernel_rfl) (LpsOK.cons (k := 5) (by kernel_rfl) (by kernel_rfl) (LoopOK.alt impl_NumberText.l5.lok impl_NumberText.l5v1.lok) LpsOK.nil)
noncomputable def impl_NumberText.t (x0 : Nat) : T ByteArray :=
  .br (fne .f32 x0 x0)
  (.leaf (ByteArray.mk #[55, 102, 99, 48, 48, 48, 48, 48]))
  (.br (isNaN .f32 x0)
   (.br (Option.isSome (impl_NumberText.l5.r (0, (28 : Int), []) ()))
    (.br (Nat.ble 0 (List.length ([] : List Int)))
     (.leaf (strOf (List.take 0 ([] : List Int))))
     .bad)
    .bad)
   (.br (Option.isSome (impl_NumberText.l5v1.r ((x0 : Nat) : Int) (0, (28 : Int), [])))
    (.br (Nat.ble ((Option.getD (impl_NumberText.l5v1.r ((x0 : Nat) : Int) (0, (28 : Int), [])) default).1) (List.length ((Option.getD (impl_NumberText.l5v1.r ((x0 : Nat) : Int) (0, (28 : Int), [])) default).2)))
     (.leaf (strOf (List.take ((Option.getD (impl_NumberText.l5v1.r ((x0 : Nat) : Int) (0, (28 : Int), [])) default).1) ((Option.getD (impl_NumberText.l5v1.r ((x0 : Nat) : Int) (0, (28 : Int), [])) default).2))))
     .bad)
    .bad))
noncomputable def impl_NumberText (x0 : Nat) : ByteArray := (impl_NumberText.t x0).val
noncomputable def impl_NumberText.ok (x0 : Nat) : Bool := (impl_NumberText.t x0).ok
def impl_NumberText.cd : Cd Nat (List V × Hp) := Cd.iso (Cd.pair (Cd.cons (Cd.fl .f32) Cd.nil) Cd.nil) (fun a => a.1.1) (fun a => ((a, ()), ())) (fun _ => rfl)
noncomputable def impl_NumberText.tr (a : Nat) : T ByteArray := impl_NumberText.t a
def impl_NumberText.enc : Nat → ByteArray → V := fun a r => .st r
noncomputable def impl_NumberText.c : List V → Hp → T V := cdQ impl_NumberText.cd (fun a => .br (impl_NumberText.ok a) (.leaf (impl_NumberText.enc a (impl_NumberText a))) .bad)
theorem impl_NumberText.run (a : Nat) : runF impl_NumberText.C Tryz.f61.results.toList impl_NumberText.b (impl_NumberText.cd.enc a).1 (impl_NumberText.cd.enc a).2 = (impl_NumberText.tr a).map fun r => (impl_NumberText.enc a r, (impl_NumberText.cd.enc a).2) := by kernel_rfl
theorem impl_NumberText.cok : OKq Tryz.prog 61 impl_NumberText.c := con_q' impl_NumberText.cd impl_NumberText.hC Tryz.func61 (by kernel_rfl) (by kernel_rfl) (by kernel_rfl) impl_NumberText.lp (fun a => by kernel_rfl) impl_NumberText.run (Tells.ok (tree := impl_NumberText.tr))
/-! ### impl_texts -/
noncomputable def impl_texts.b : Code := bodyOf Tryz.f32
noncomputable def impl_texts.l3.s (x0 : ByteArray) (x1 : Nat) (x2 : Nat) (x3 : Int) (x4 : Int) (x5 : List Nat) (x6 : List ByteArray) : T ((Nat × Int × List ByteArray) ⊕ (Nat × List ByteArray)) :=
  .br (decide (x4 < x3))
  (.br (bounds x4 x2)
   (.br (Nat.ble ((Int.toNat x4 * 1) + 1) (List.length x5))
    (.br (impl_NumberText.ok (List.getD x5 (Int.toNat x4 * 1) 0))
     (.br ((Nat.ble 1 (List.length [(impl_NumberText (List.getD x5 (Int.toNat x4 * 1) 0))])) && (Nat.beq (List.length x6) (x1 * 1) && Nat.ble ((x1 + 1) * 16) 35184372088832 && Nat.ble (x1 + 1) 35184372088832))
      (.leaf (.inl ((x1 + 1), (IntKind.wrap .i64 (x4 + (1 : Int))), (x6 ++ (List.take 1 (List.drop 0 [(impl_NumberText (List.getD x5 (Int.toNat x4 * 1) 0))]))))))
      .bad)
     .bad)
    .bad)
   .bad)
  (.leaf (.inr (x1, x6)))
noncomputable def impl_texts.l3.st (p : ByteArray × Nat × Int × List Nat) (x : Nat × Int × List ByteArray) : T ((Nat × Int × List ByteArray) ⊕ (Nat × List ByteArray)) := impl_texts.l3.s p.1 x.1 p.2.1 p.2.2.1 x.2.1 p.2.2.2 x.2.2
noncomputable def impl_texts.l3.r (p : ByteArray × Nat × Int × List Nat) (x : Nat × Int × List ByteArray) : Option (Nat × List ByteArray) := iterT (impl_texts.l3.st p) manyRounds x
def impl_texts.l3.cd : Cd ((ByteArray × Nat × Int × List Nat) × (Nat × Int × List ByteArray)) (List V × Hp) := Cd.iso (Cd.pair (Cd.cons Cd.st (Cd.cons (Cd.own 1) (Cd.cons (Cd.own 0) (Cd.cons (Cd.it .i64) (Cd.cons (Cd.it .i64) Cd.nil))))) (Cd.cons (Cd.rw 25 1 (Cd.fs .f32)) (Cd.cons (Cd.rw 9 1 Cd.ss) Cd.nil))) (fun a => ((a.1.1, a.1.2.2.1, a.1.2.2.2.1, a.2.1), (a.1.2.1, a.1.2.2.2.2.1, a.2.2.1))) (fun a => ((a.1.1, (a.2.1, (a.1.2.1, (a.1.2.2.1, (a.2.2.1, ()))))), (a.1.2.2.2, (a.2.2.2, ())))) (fun _ => rfl)
def impl_texts.l3.out (p : ByteArray × Nat × Int × List Nat) : (Nat × List ByteArray) → X × List V × Hp := (fun r => (.ex 0, [.st p.1, .own 1 r.1], [some ⟨true, 25, 1, .fs .f32 p.2.2.2⟩, some ⟨true, 9, 1, .ss r.2⟩]))
def impl_texts.l3.ex (p : ByteArray × Nat × Int × List Nat) : (Nat × List ByteArray) → T (X × List V × Hp) := leafT (fun r => (.ex 0, [.st p.1, .own 1 r.1], [some ⟨true, 25, 1, .fs .f32 p.2.2.2⟩, some ⟨true, 9, 1, .ss r.2⟩]))
noncomputable def impl_texts.l3.c : List V → Hp → T (X × List V × Hp) := cdL impl_texts.l3.cd fun x => optT (impl_texts.l3.r x.1 x.2) (impl_texts.l3.ex x.1)
noncomputable def impl_texts.C : Ctx := { ty := tys, fn := [(61, .q impl_NumberText.c), (62, .q joinC)], lp := [(3, ⟨[0, 5, 9, 10, 11], [0, 5], impl_texts.l3.c⟩)], n := 24, k := 1 }
theorem impl_texts.hC : CtxOK Tryz.prog impl_texts.C := CtxOK.of mo tys_ok (FnsOK.cons impl_NumberText.cok (FnsOK.cons (join_ok Tryz.func62 (by kernel_rfl) (by kernel_rfl) (fun bk o c xs sep w h1 h2 h3 h4 h5 => Tryz.strings_Join bk o c xs sep w h1 h2 h3 h4 h5)) FnsOK.nil))
noncomputable def impl_texts.b3 : Code := (nthC (loopsOf impl_texts.b) 0)
theorem impl_texts.lp3 : LpOK Tryz.prog impl_texts.C impl_texts.b3 := (LpOK.nil (by kernel_rfl))
theorem impl_texts.l3.round (p : ByteArray × Nat × Int × List Nat) (s : Nat × Int × List ByteArray) : roundL impl_texts.C [0, 5, 9, 10, 11] [0, 5] impl_texts.b3 (impl_texts.l3.cd.enc (p, s)).1 (impl_texts.l3.cd.enc (p, s)).2 = (impl_texts.l3.st p s).map (encSum (fun s => impl_texts.l3.cd.enc (p, s)) (impl_texts.l3.out p)) := by kernel_rfl
theorem impl_texts.l3.lok : LoopOK Tryz.prog impl_texts.C ⟨[0, 5, 9, 10, 11], [0, 5], impl_texts.l3.c⟩ impl_texts.b3 := loop_cd impl_texts.l3.cd impl_texts.hC impl_texts.lp3 impl_texts.l3.round fun p => Gets.leaf
theorem impl_texts.lp : LpOK Tryz.prog impl_texts.C impl_texts.b := lp_of (by kernel_rfl) (LpsOK.cons (k := 3) (by kernel_rfl) (by kernel_rfl) impl_texts.l3.lok LpsOK.nil)
noncomputable def impl_texts.t (x0 : ByteArray) (x1 : Nat) (x2 : List Nat) : T ByteArray :=
  .br (Option.isSome (impl_texts.l3.r (x0, x1, ((x1 : Nat) : Int), x2) (0, (0 : Int), [])))
  (.br (joinOk ((Option.getD (impl_texts.l3.r (x0, x1, ((x1 : Nat) : Int), x2) (0, (0 : Int), [])) default).2) ((Option.getD (impl_texts.l3.r (x0, x1, ((x1 : Nat) : Int), x2) (0, (0 : Int), [])) default).1) x0)
   (.leaf (joinB ((Option.getD (impl_texts.l3.r (x0, x1, ((x1 : Nat) : Int), x2) (0, (0 : Int), [])) default).2) x0))
   .bad)
  .bad
noncomputable def impl_texts (x0 : ByteArray) (x1 : Nat) (x2 : List Nat) : ByteArray := (impl_texts.t x0 x1 x2).val
noncomputable def impl_texts.ok (x0 : ByteArray) (x1 : Nat) (x2 : List Nat) : Bool := (impl_texts.t x0 x1 x2).ok
def impl_texts.cd : Cd (ByteArray × Nat × List Nat) (List V × Hp) := Cd.iso (Cd.pair (Cd.cons Cd.st (Cd.cons (Cd.own 0) Cd.nil)) (Cd.cons (Cd.rw 25 1 (Cd.fs .f32)) Cd.nil)) (fun a => (a.1.1, a.1.2.1, a.2.1)) (fun a => ((a.1, (a.2.1, ())), (a.2.2, ()))) (fun _ => rfl)
noncomputable def impl_texts.tr (a : ByteArray × Nat × List Nat) : T ByteArray := impl_texts.t a.1 a.2.1 a.2.2
def impl_texts.enc : (ByteArray × Nat × List Nat) → ByteArray → V := fun a r => .st r
noncomputable def impl_texts.c : List V → Hp → T V := cdQ impl_texts.cd (fun a => .br (impl_texts.ok a.1 a.2.1 a.2.2) (.leaf (impl_texts.enc a (impl_texts a.1 a.2.1 a.2.2))) .bad)
theorem impl_texts.run (a : ByteArray × Nat × List Nat) : runF impl_texts.C Tryz.f32.results.toList impl_texts.b (impl_texts.cd.enc a).1 (impl_texts.cd.enc a).2 = (impl_texts.tr a).map fun r => (impl_texts.enc a r, (impl_texts.cd.enc a).2) := by kernel_rfl
theorem impl_texts.cok : OKq Tryz.prog 32 impl_texts.c := con_q' impl_texts.cd impl_texts.hC Tryz.func32 (by kernel_rfl) (by kernel_rfl) (by kernel_rfl) impl_texts.lp (fun a => by kernel_rfl) impl_texts.run (Tells.ok (tree := impl_texts.tr))
/-! ### impl_MillText -/
noncomputable def impl_MillText.b : Code := bodyOf Tryz.f8
noncomputable def impl_MillText.C : Ctx := { ty := tys, fn := [(16, .q impl_ValidMill.c), (31, .q impl_decimal.c), (32, .q impl_texts.c)], lp := [], n := 18, k := 4 }
theorem impl_MillText.hC : CtxOK Tryz.prog impl_MillText.C := CtxOK.of mo tys_ok (FnsOK.cons impl_ValidMill.cok (FnsOK.cons impl_decimal.cok (FnsOK.cons impl_texts.cok FnsOK.nil)))
theorem impl_MillText.lp : LpOK Tryz.prog impl_MillText.C impl_MillText.b := (LpOK.nil (by kernel_rfl))
noncomputable def impl_MillText.t (x0 : Int) (x1 : Nat) (x2 : Nat) (x3 : Int) (x4 : List Int) : T ByteArray :=
  .br (!(impl_ValidMill x0 x1 x2))
  (.leaf (ByteArray.mk #[]))
  (.br (impl_decimal.ok (IntKind.wrap .i64 x0))
   (.br (decide (((ByteArray.size (impl_decimal (IntKind.wrap .i64 x0)) + ByteArray.size (ByteArray.mk #[58]) : Nat) : Int) > IntKind.max .i64))
    .bad
    (.br (impl_texts.ok (ByteArray.mk #[58]) 2 [x1, x2])
     (.br (decide (((ByteArray.size ((impl_decimal (IntKind.wrap .i64 x0)) ++ (ByteArray.mk #[58])) + ByteArray.size (impl_texts (ByteArray.mk #[58]) 2 [x1, x2]) : Nat) : Int) > IntKind.max .i64))
      .bad
      (.leaf (((impl_decimal (IntKind.wrap .i64 x0)) ++ (ByteArray.mk #[58])) ++ (impl_texts (ByteArray.mk #[58]) 2 [x1, x2]))))
     .bad))
   .bad)
noncomputable def impl_MillText (x0 : Int) (x1 : Nat) (x2 : Nat) (x3 : Int) (x4 : List Int) : ByteArray := (impl_MillText.t x0 x1 x2 x3 x4).val
noncomputable def impl_MillText.ok (x0 : Int) (x1 : Nat) (x2 : Nat) (x3 : Int) (x4 : List Int) : Bool := (impl_MillText.t x0 x1 x2 x3 x4).ok
def impl_MillText.cd : Cd (Int × Nat × Nat × Int × List Int) (List V × Hp) := Cd.iso (Cd.pair (Cd.cons (Cd.agg (Cd.cons (Cd.it .i16) (Cd.cons (Cd.fl .f32) (Cd.cons (Cd.fl .f32) Cd.nil)))) Cd.nil) (Cd.cons (Cd.ro 0 2 (Cd.vs (Cd.cons (Cd.it .i64) Cd.nil))) (Cd.cons (Cd.ro 0 3 (Cd.vs (Cd.cons Cd.er Cd.nil))) (Cd.cons (Cd.ro 0 4 (Cd.vs (Cd.cons Cd.er Cd.nil))) (Cd.cons (Cd.ro 21 5 (Cd.is .u64)) Cd.nil))))) (fun a => (a.1.1.1, a.1.1.2.1, a.1.1.2.2.1, a.2.1.1, a.2.2.2.2.1)) (fun a => (((a.1, (a.2.1, (a.2.2.1, ()))), ()), ((a.2.2.2.1, ()), (((), ()), (((), ()), (a.2.2.2.2, ())))))) (fun _ => rfl)
noncomputable def impl_MillText.tr (a : Int × Nat × Nat × Int × List Int) : T ByteArray := impl_MillText.t a.1 a.2.1 a.2.2.1 a.2.2.2.1 a.2.2.2.2
def impl_MillText.enc : (Int × Nat × Nat × Int × List Int) → ByteArray → V := fun a r => .st r
noncomputable def impl_MillText.c : List V → Hp → T V := cdQ impl_MillText.cd (fun a => .br (impl_MillText.ok a.1 a.2.1 a.2.2.1 a.2.2.2.1 a.2.2.2.2) (.leaf (impl_MillText.enc a (impl_MillText a.1 a.2.1 a.2.2.1 a.2.2.2.1 a.2.2.2.2))) .bad)
theorem impl_MillText.run (a : Int × Nat × Nat × Int × List Int) : runF impl_MillText.C Tryz.f8.results.toList impl_MillText.b (impl_MillText.cd.enc a).1 (impl_MillText.cd.enc a).2 = (impl_MillText.tr a).map fun r => (impl_MillText.enc a r, (impl_MillText.cd.enc a).2) := by kernel_rfl
theorem impl_MillText.cok : OKq Tryz.prog 8 impl_MillText.c := con_q' impl_MillText.cd impl_MillText.hC Tryz.func8 (by kernel_rfl) (by kernel_rfl) (by kernel_rfl) impl_MillText.lp (fun a => by kernel_rfl) impl_MillText.run (Tells.ok (tree := impl_MillText.tr))
/-! ### impl_ReadNumber -/
noncomputable def impl_ReadNumber.b : Code := bodyOf Tryz.f59
noncomputable def impl_ReadNumber.l3.s (x0 : ByteArray) (x1 : Int) (x2 : Int) (x3 : Int) : T ((Int × Int) ⊕ Int) :=
  .br (decide (x3 < x2))
  (.br (bounds x3 (ByteArray.size x0))
   (.leaf (.inl ((ibits .or .u32 (IntKind.wrap .u32 (x1 * (2 ^ min (Int.toNat (4 : Int)) 32))) (IntKind.wrap .u32 (if (0 : Int) > (Go.Lib.indexByte (ByteArray.data (ByteArray.mk #[48, 49, 50, 51, 52, 53, 54, 55, 56, 57, 97, 98, 99, 100, 101, 102])).toList (Nat.toUInt8 (Int.toNat (byteAt x0 x3)))) then (0 : Int) else (Go.Lib.indexByte (ByteArray.data (ByteArray.mk #[48, 49, 50, 51, 52, 53, 54, 55, 56, 57, 97, 98, 99, 100, 101, 102])).toList (Nat.toUInt8 (Int.toNat (byteAt x0 x3))))))), (IntKind.wrap .i64 (x3 + (1 : Int))))))
   .bad)
  (.leaf (.inr x1))
noncomputable def impl_ReadNumber.l3.st (p : ByteArray × Int) (x : Int × Int) : T ((Int × Int) ⊕ Int) := impl_ReadNumber.l3.s p.1 x.1 p.2 x.2
noncomputable def impl_ReadNumber.l3.r (p : ByteArray × Int) (x : Int × Int) : Option Int := iterT (impl_ReadNumber.l3.st p) manyRounds x
def impl_ReadNumber.l3.cd : Cd ((ByteArray × Int) × (Int × Int)) (List V × Hp) := Cd.iso (Cd.pair (Cd.cons Cd.st (Cd.cons (Cd.it .u32) (Cd.cons (Cd.it .i64) (Cd.cons (Cd.it .i64) Cd.nil)))) Cd.nil) (fun a => ((a.1.1, a.1.2.2.1), (a.1.2.1, a.1.2.2.2.1))) (fun a => ((a.1.1, (a.2.1, (a.1.2, (a.2.2, ())))), ())) (fun _ => rfl)
def impl_ReadNumber.l3.out (p : ByteArray × Int) : Int → X × List V × Hp := (fun r => (.ex 0, [.st p.1, .it .u32 r], []))
def impl_ReadNumber.l3.ex (p : ByteArray × Int) : Int → T (X × List V × Hp) := leafT (fun r => (.ex 0, [.st p.1, .it .u32 r], []))
noncomputable def impl_ReadNumber.l3.c : List V → Hp → T (X × List V × Hp) := cdL impl_ReadNumber.l3.cd fun x => optT (impl_ReadNumber.l3.r x.1 x.2) (impl_ReadNumber.l3.ex x.1)
noncomputable def impl_ReadNumber.C : Ctx := { ty := tys, fn := [(74, .q indexByteC), (75, .q f32fromC), (61, .q impl_NumberText.c)], lp := [(3, ⟨[0, 4, 9, 10], [0, 4], impl_ReadNumber.l3.c⟩)], n := 30, k := 0 }
theorem impl_ReadNumber.hC : CtxOK Tryz.prog impl_ReadNumber.C := CtxOK.of mo tys_ok (FnsOK.cons (indexByte_ok Tryz.func74 (by kernel_rfl) (by kernel_rfl) (fun s c w => Tryz.strings_IndexByte s c w)) (FnsOK.cons (f32from_ok Tryz.func75 (by kernel_rfl) (by kernel_rfl) (by kernel_rfl) (by kernel_rfl)) (FnsOK.cons impl_NumberText.cok FnsOK.nil)))
noncomputable def impl_ReadNumber.b3 : Code := (nthC (loopsOf impl_ReadNumber.b) 0)
theorem impl_ReadNumber.lp3 : LpOK Tryz.prog impl_ReadNumber.C impl_ReadNumber.b3 := (LpOK.nil (by kernel_rfl))
theorem impl_ReadNumber.l3.round (p : ByteArray × Int) (s : Int × Int) : roundL impl_ReadNumber.C [0, 4, 9, 10] [0, 4] impl_ReadNumber.b3 (impl_ReadNumber.l3.cd.enc (p, s)).1 (impl_ReadNumber.l3.cd.enc (p, s)).2 = (impl_ReadNumber.l3.st p s).map (encSum (fun s => impl_ReadNumber.l3.cd.enc (p, s)) (impl_ReadNumber.l3.out p)) := by kernel_rfl
theorem impl_ReadNumber.l3.lok : LoopOK Tryz.prog impl_ReadNumber.C ⟨[0, 4, 9, 10], [0, 4], impl_ReadNumber.l3.c⟩ impl_ReadNumber.b3 := loop_cd impl_ReadNumber.l3.cd impl_ReadNumber.hC impl_ReadNumber.lp3 impl_ReadNumber.l3.round fun p => Gets.leaf
theorem impl_ReadNumber.lp : LpOK Tryz.prog impl_ReadNumber.C impl_ReadNumber.b := lp_of (by kernel_rfl) (LpsOK.cons (k := 3) (by kernel_rfl) (by kernel_rfl) impl_ReadNumber.l3.lok LpsOK.nil)
noncomputable def impl_ReadNumber.t (x0 : ByteArray) : T (Nat × Int) :=
  .br (Option.isSome (impl_ReadNumber.l3.r (x0, (if (8 : Int) < ((ByteArray.size x0 : Nat) : Int) then (8 : Int) else ((ByteArray.size x0 : Nat) : Int))) ((0 : Int), (0 : Int))))
  (.br (impl_NumberText.ok (nz .f32 (Int.toNat (Option.getD (impl_ReadNumber.l3.r (x0, (if (8 : Int) < ((ByteArray.size x0 : Nat) : Int) then (8 : Int) else ((ByteArray.size x0 : Nat) : Int))) ((0 : Int), (0 : Int))) default))))
   (.br (seq? (impl_NumberText (nz .f32 (Int.toNat (Option.getD (impl_ReadNumber.l3.r (x0, (if (8 : Int) < ((ByteArray.size x0 : Nat) : Int) then (8 : Int) else ((ByteArray.size x0 : Nat) : Int))) ((0 : Int), (0 : Int))) default)))) x0)
    (.leaf ((nz .f32 (Int.toNat (Option.getD (impl_ReadNumber.l3.r (x0, (if (8 : Int) < ((ByteArray.size x0 : Nat) : Int) then (8 : Int) else ((ByteArray.size x0 : Nat) : Int))) ((0 : Int), (0 : Int))) default))), (0 : Int)))
    (.leaf (0, (5 : Int))))
   .bad)
  .bad
noncomputable def impl_ReadNumber (x0 : ByteArray) : Nat × Int := (impl_ReadNumber.t x0).val
noncomputable def impl_ReadNumber.ok (x0 : ByteArray) : Bool := (impl_ReadNumber.t x0).ok
def impl_ReadNumber.cd : Cd ByteArray (List V × Hp) := Cd.iso (Cd.pair (Cd.cons Cd.st Cd.nil) Cd.nil) (fun a => a.1.1) (fun a => ((a, ()), ())) (fun _ => rfl)
noncomputable def impl_ReadNumber.tr (a : ByteArray) : T (Nat × Int) := impl_ReadNumber.t a
def impl_ReadNumber.enc : ByteArray → (Nat × Int) → V := fun a r => .tup [.fl .f32 r.1, .it .i64 r.2]
noncomputable def impl_ReadNumber.c : List V → Hp → T V := cdQ impl_ReadNumber.cd (fun a => .br (impl_ReadNumber.ok a) (.leaf (impl_ReadNumber.enc a (impl_ReadNumber a))) .bad)
theorem impl_ReadNumber.run (a : ByteArray) : runF impl_ReadNumber.C Tryz.f59.results.toList impl_ReadNumber.b (impl_ReadNumber.cd.enc a).1 (impl_ReadNumber.cd.enc a).2 = (impl_ReadNumber.tr a).map fun r => (impl_ReadNumber.enc a r, (impl_ReadNumber.cd.enc a).2) := by kernel_rfl
theorem impl_ReadNumber.cok : OKq Tryz.prog 59 impl_ReadNumber.c := con_q' impl_ReadNumber.cd impl_ReadNumber.hC Tryz.func59 (by kernel_rfl) (by kernel_rfl) (by kernel_rfl) impl_ReadNumber.lp (fun a => by kernel_rfl) impl_ReadNumber.run (Tells.ok (tree := impl_ReadNumber.tr))
/-! ### impl_numbersOf -/
noncomputable def impl_numbersOf.b : Code := bodyOf Tryz.f30
noncomputable def impl_numbersOf.l3.s (x0 : Nat) (x1 : Nat) (x2 : Int) (x3 : Int) (x4 : Int) (x5 : List Int) (x6 : List ByteArray) (x7 : List Nat) : T ((Nat × Int × List Nat) ⊕ ((Bool × Nat × List Nat) ⊕ (Nat × List Nat))) :=
  .br (decide (x3 < x2))
  (.br (bounds x3 x1)
   (.br (Nat.ble ((1 + (Int.toNat x3 * 1)) + 1) (List.length x6))
    (.br (impl_ReadNumber.ok (List.getD x6 (1 + (Int.toNat x3 * 1)) ByteArray.empty))
     (.br ((impl_ReadNumber (List.getD x6 (1 + (Int.toNat x3 * 1)) ByteArray.empty)).2 != (0 : Int))
      (.leaf (.inr (.inl (false, x0, x7))))
      (.br ((Nat.ble 1 (List.length [(impl_ReadNumber (List.getD x6 (1 + (Int.toNat x3 * 1)) ByteArray.empty)).1])) && (Nat.beq (List.length x7) (x0 * 1) && Nat.ble ((x0 + 1) * 4) 35184372088832 && Nat.ble (x0 + 1) 35184372088832))
       (.leaf (.inl ((x0 + 1), (IntKind.wrap .i64 (x3 + (1 : Int))), (x7 ++ (List.take 1 (List.drop 0 [(impl_ReadNumber (List.getD x6 (1 + (Int.toNat x3 * 1)) ByteArray.empty)).1]))))))
       .bad))
     .bad)
    .bad)
   .bad)
  (.leaf (.inr (.inr (x0, x7))))
noncomputable def impl_numbersOf.l3.st (p : Nat × Int × Int × List Int × List ByteArray) (x : Nat × Int × List Nat) : T ((Nat × Int × List Nat) ⊕ ((Bool × Nat × List Nat) ⊕ (Nat × List Nat))) := impl_numbersOf.l3.s x.1 p.1 p.2.1 x.2.1 p.2.2.1 p.2.2.2.1 p.2.2.2.2 x.2.2
noncomputable def impl_numbersOf.l3.r (p : Nat × Int × Int × List Int × List ByteArray) (x : Nat × Int × List Nat) : Option ((Bool × Nat × List Nat) ⊕ (Nat × List Nat)) := iterT (impl_numbersOf.l3.st p) manyRounds x
def impl_numbersOf.l3.cd : Cd ((Nat × Int × Int × List Int × List ByteArray) × (Nat × Int × List Nat)) (List V × Hp) := Cd.iso (Cd.pair (Cd.cons (Cd.own 5) (Cd.cons (Cd.sl 4 (Cd.natc 1)) (Cd.cons (Cd.it .i64) (Cd.cons (Cd.it .i64) Cd.nil)))) (Cd.cons (Cd.ro 0 2 (Cd.vs (Cd.cons (Cd.it .i64) Cd.nil))) (Cd.cons (Cd.ro 0 3 (Cd.vs (Cd.cons Cd.er Cd.nil))) (Cd.cons (Cd.ro 0 4 (Cd.vs (Cd.cons Cd.er Cd.nil))) (Cd.cons (Cd.ro 21 5 (Cd.is .u64)) (Cd.cons (Cd.rw 9 1 Cd.ss) (Cd.cons (Cd.rw 25 1 (Cd.fs .f32)) Cd.nil))))))) (fun a => ((a.1.2.1.2, a.1.2.2.1, a.2.1.1, a.2.2.2.2.1, a.2.2.2.2.2.1), (a.1.1, a.1.2.2.2.1, a.2.2.2.2.2.2.1))) (fun a => ((a.2.1, (((), a.1.1), (a.1.2.1, (a.2.2.1, ())))), ((a.1.2.2.1, ()), (((), ()), (((), ()), (a.1.2.2.2.1, (a.1.2.2.2.2, (a.2.2.2, ())))))))) (fun _ => rfl)
def impl_numbersOf.l3.out (p : Nat × Int × Int × List Int × List ByteArray) : ((Bool × Nat × List Nat) ⊕ (Nat × List Nat)) → X × List V × Hp := sumO (fun r => (.ret, [.sn, .bo r.1, .own 5 r.2.1], [some ⟨false, 0, 2, .vs [.it .i64 p.2.2.1]⟩, some ⟨false, 0, 3, .vs [.er]⟩, some ⟨false, 0, 4, .vs [.er]⟩, some ⟨false, 21, 5, .is .u64 p.2.2.2.1⟩, some ⟨true, 9, 1, .ss p.2.2.2.2⟩, some ⟨true, 25, 1, .fs .f32 r.2.2⟩])) (fun r => (.ex 0, [.unk, .unk, .own 5 r.1], [some ⟨false, 0, 2, .vs [.it .i64 p.2.2.1]⟩, some ⟨false, 0, 3, .vs [.er]⟩, some ⟨false, 0, 4, .vs [.er]⟩, some ⟨false, 21, 5, .is .u64 p.2.2.2.1⟩, some ⟨true, 9, 1, .ss p.2.2.2.2⟩, some ⟨true, 25, 1, .fs .f32 r.2⟩]))
def impl_numbersOf.l3.ex (p : Nat × Int × Int × List Int × List ByteArray) : ((Bool × Nat × List Nat) ⊕ (Nat × List Nat)) → T (X × List V × Hp) := sumT (leafT (fun r => (.ret, [.sn, .bo r.1, .own 5 r.2.1], [some ⟨false, 0, 2, .vs [.it .i64 p.2.2.1]⟩, some ⟨false, 0, 3, .vs [.er]⟩, some ⟨false, 0, 4, .vs [.er]⟩, some ⟨false, 21, 5, .is .u64 p.2.2.2.1⟩, some ⟨true, 9, 1, .ss p.2.2.2.2⟩, some ⟨true, 25, 1, .fs .f32 r.2.2⟩]))) (leafT (fun r => (.ex 0, [.unk, .unk, .own 5 r.1], [some ⟨false, 0, 2, .vs [.it .i64 p.2.2.1]⟩, some ⟨false, 0, 3, .vs [.er]⟩, some ⟨false, 0, 4, .vs [.er]⟩, some ⟨false, 21, 5, .is .u64 p.2.2.2.1⟩, some ⟨true, 9, 1, .ss p.2.2.2.2⟩, some ⟨true, 25, 1, .fs .f32 r.2⟩])))
noncomputable def impl_numbersOf.l3.c : List V → Hp → T (X × List V × Hp) := cdL impl_numbersOf.l3.cd fun x => optT (impl_numbersOf.l3.r x.1 x.2) (impl_numbersOf.l3.ex x.1)
noncomputable def impl_numbersOf.C : Ctx := { ty := tys, fn := [(59, .q impl_ReadNumber.c)], lp := [(3, ⟨[4, 10, 11, 12], [2, 3, 4], impl_numbersOf.l3.c⟩)], n := 29, k := 5 }
theorem impl_numbersOf.hC : CtxOK Tryz.prog impl_numbersOf.C := CtxOK.of mo tys_ok (FnsOK.cons impl_ReadNumber.cok FnsOK.nil)
noncomputable def impl_numbersOf.b3 : Code := (nthC (loopsOf impl_numbersOf.b) 0)
theorem impl_numbersOf.lp3 : LpOK Tryz.prog impl_numbersOf.C impl_numbersOf.b3 := (LpOK.nil (by kernel_rfl))
theorem impl_numbersOf.l3.round (p : Nat × Int × Int × List Int × List ByteArray) (s : Nat × Int × List Nat) : roundL impl_numbersOf.C [4, 10, 11, 12] [2, 3, 4] impl_numbersOf.b3 (impl_numbersOf.l3.cd.enc (p, s)).1 (impl_numbersOf.l3.cd.enc (p, s)).2 = (impl_numbersOf.l3.st p s).map (encSum (fun s => impl_numbersOf.l3.cd.enc (p, s)) (impl_numbersOf.l3.out p)) := by kernel_rfl
theorem impl_numbersOf.l3.lok : LoopOK Tryz.prog impl_numbersOf.C ⟨[4, 10, 11, 12], [2, 3, 4], impl_numbersOf.l3.c⟩ impl_numbersOf.b3 := loop_cd impl_numbersOf.l3.cd impl_numbersOf.hC impl_numbersOf.lp3 impl_numbersOf.l3.round fun p => (Gets.sum Gets.leaf Gets.leaf)
theorem impl_numbersOf.lp : LpOK Tryz.prog impl_numbersOf.C impl_numbersOf.b := lp_of (by kernel_rfl) (LpsOK.cons (k := 3) (by kernel_rfl) (by kernel_rfl) impl_numbersOf.l3.lok LpsOK.nil)
noncomputable def impl_numbersOf.t (x0 : Nat) (x1 : Int) (x2 : List Int) (x3 : List ByteArray) : T (Bool ⊕ (Nat × Bool × List Nat)) :=
  .br (Option.isSome (impl_numbersOf.l3.r (x0, ((x0 : Nat) : Int), x1, x2, x3) (0, (0 : Int), [])))
  (.br (Sum.isLeft (Option.getD (impl_numbersOf.l3.r (x0, ((x0 : Nat) : Int), x1, x2, x3) (0, (0 : Int), [])) default))
   (.leaf (.inl ((getLeftD (Option.getD (impl_numbersOf.l3.r (x0, ((x0 : Nat) : Int), x1, x2, x3) (0, (0 : Int), [])) default)).1)))
   (.leaf (.inr ((getRightD (Option.getD (impl_numbersOf.l3.r (x0, ((x0 : Nat) : Int), x1, x2, x3) (0, (0 : Int), [])) default)).1, true, (getRightD (Option.getD (impl_numbersOf.l3.r (x0, ((x0 : Nat) : Int), x1, x2, x3) (0, (0 : Int), [])) default)).2))))
  .bad
noncomputable def impl_numbersOf (x0 : Nat) (x1 : Int) (x2 : List Int) (x3 : List ByteArray) : Bool ⊕ (Nat × Bool × List Nat) := (impl_numbersOf.t x0 x1 x2 x3).val
noncomputable def impl_numbersOf.ok (x0 : Nat) (x1 : Int) (x2 : List Int) (x3 : List ByteArray) : Bool := (impl_numbersOf.t x0 x1 x2 x3).ok
def impl_numbersOf.cd : Cd (Nat × Int × List Int × List ByteArray) (List V × Hp) := Cd.iso (Cd.pair (Cd.cons (Cd.sl 4 (Cd.natc 1)) Cd.nil) (Cd.cons (Cd.ro 0 2 (Cd.vs (Cd.cons (Cd.it .i64) Cd.nil))) (Cd.cons (Cd.ro 0 3 (Cd.vs (Cd.cons Cd.er Cd.nil))) (Cd.cons (Cd.ro 0 4 (Cd.vs (Cd.cons Cd.er Cd.nil))) (Cd.cons (Cd.ro 21 5 (Cd.is .u64)) (Cd.cons (Cd.rw 9 1 Cd.ss) Cd.nil)))))) (fun a => (a.1.1.2, a.2.1.1, a.2.2.2.2.1, a.2.2.2.2.2.1)) (fun a => ((((), a.1), ()), ((a.2.1, ()), (((), ()), (((), ()), (a.2.2.1, (a.2.2.2, ()))))))) (fun _ => rfl)
noncomputable def impl_numbersOf.tr (a : Nat × Int × List Int × List ByteArray) : T (Bool ⊕ (Nat × Bool × List Nat)) := impl_numbersOf.t a.1 a.2.1 a.2.2.1 a.2.2.2
def impl_numbersOf.enc : (Nat × Int × List Int × List ByteArray) → (Bool ⊕ (Nat × Bool × List Nat)) → V × Hp := fun a => sumO (fun r => (.tup [.sn, .bo r], [some ⟨false, 0, 2, .vs [.it .i64 a.2.1]⟩, some ⟨false, 0, 3, .vs [.er]⟩, some ⟨false, 0, 4, .vs [.er]⟩, some ⟨false, 21, 5, .is .u64 a.2.2.1⟩, some ⟨true, 9, 1, .ss a.2.2.2⟩])) (fun r => (.tup [.own 5 r.1, .bo r.2.1], [some ⟨false, 0, 2, .vs [.it .i64 a.2.1]⟩, some ⟨false, 0, 3, .vs [.er]⟩, some ⟨false, 0, 4, .vs [.er]⟩, some ⟨false, 21, 5, .is .u64 a.2.2.1⟩, some ⟨true, 9, 1, .ss a.2.2.2⟩, some ⟨true, 25, 1, .fs .f32 r.2.2⟩]))
noncomputable def impl_numbersOf.ex : (Nat × Int × List Int × List ByteArray) → (Bool ⊕ (Nat × Bool × List Nat)) → T (V × Hp) := fun a => sumT (leafT (fun r => (.tup [.sn, .bo r], [some ⟨false, 0, 2, .vs [.it .i64 a.2.1]⟩, some ⟨false, 0, 3, .vs [.er]⟩, some ⟨false, 0, 4, .vs [.er]⟩, some ⟨false, 21, 5, .is .u64 a.2.2.1⟩, some ⟨true, 9, 1, .ss a.2.2.2⟩]))) (leafT (fun r => (.tup [.own 5 r.1, .bo r.2.1], [some ⟨false, 0, 2, .vs [.it .i64 a.2.1]⟩, some ⟨false, 0, 3, .vs [.er]⟩, some ⟨false, 0, 4, .vs [.er]⟩, some ⟨false, 21, 5, .is .u64 a.2.2.1⟩, some ⟨true, 9, 1, .ss a.2.2.2⟩, some ⟨true, 25, 1, .fs .f32 r.2.2⟩])))
noncomputable def impl_numbersOf.c : List V → Hp → T (V × Hp) := cdE impl_numbersOf.cd (fun a => .br (impl_numbersOf.ok a.1 a.2.1 a.2.2.1 a.2.2.2) (impl_numbersOf.ex a (impl_numbersOf a.1 a.2.1 a.2.2.1 a.2.2.2)) .bad)
theorem impl_numbersOf.run (a : Nat × Int × List Int × List ByteArray) : runF impl_numbersOf.C Tryz.f30.results.toList impl_numbersOf.b (impl_numbersOf.cd.enc a).1 (impl_numbersOf.cd.enc a).2 = (impl_numbersOf.tr a).map (impl_numbersOf.enc a) := by kernel_rfl
theorem impl_numbersOf.cok : OKe Tryz.prog 30 impl_numbersOf.c := con_e' impl_numbersOf.cd impl_numbersOf.hC Tryz.func30 (by kernel_rfl) (by kernel_rfl) (by kernel_rfl) impl_numbersOf.lp (fun a => by kernel_rfl) impl_numbersOf.run (Tells.okS (tree := impl_numbersOf.tr) (ex := impl_numbersOf.ex) fun a => (Gets.sum Gets.leaf Gets.leaf))
/-! ### impl_ReadMill -/
noncomputable def impl_ReadMill.b : Code := bodyOf Tryz.f7
noncomputable def impl_ReadMill.C : Ctx := { ty := tys, fn := [(28, .e (splitC 2 9)), (29, .q (countC 2 3 4)), (30, .e impl_numbersOf.c), (8, .q impl_MillText.c)], lp := [], n := 51, k := 4, g := 4 }
theorem impl_ReadMill.hC : CtxOK Tryz.prog impl_ReadMill.C := CtxOK.of mo tys_ok (FnsOK.cons (split_ok Tryz.func28 (by kernel_rfl) (by kernel_rfl) (fun s sep m w h1 h2 h3 => Tryz.strings_Split s sep m w h1 h2 h3)) (FnsOK.cons (count_ok Tryz.func29 (by kernel_rfl) (by kernel_rfl) (by kernel_rfl) (fun t e0 e1 w h a b c d k => count_calls t h e0 e1 w a b c d k)) (FnsOK.cons impl_numbersOf.cok (FnsOK.cons impl_MillText.cok FnsOK.nil))))
theorem impl_ReadMill.lp : LpOK Tryz.prog impl_ReadMill.C impl_ReadMill.b := (LpOK.nil (by kernel_rfl))
noncomputable def impl_ReadMill.t (x0 : ByteArray) (x1 : Int) (x2 : List Int) : T (Int × Nat × Nat × Int) :=
  .br (Nat.ble (ByteArray.size x0) 1048576 && Nat.ble 1 (ByteArray.size (ByteArray.mk #[58])))
  (.br (bounds (0 : Int) (List.length (splitL x0 (ByteArray.mk #[58]))))
   (.br (Nat.ble 1 (List.length (splitL x0 (ByteArray.mk #[58]))))
    (.br (Nat.ble (ByteArray.size (List.getD (splitL x0 (ByteArray.mk #[58])) 0 ByteArray.empty)) 1048576 && decide (x2 = Go.Lib.pow10Tab))
     (.br (decide (0 ≤ (1 : Int)) && decide ((1 : Int) ≤ (((List.length (splitL x0 (ByteArray.mk #[58]))) : Nat) : Int)) && decide ((((List.length (splitL x0 (ByteArray.mk #[58]))) : Nat) : Int) ≤ (((List.length (splitL x0 (ByteArray.mk #[58]))) : Nat) : Int)))
      (.br (impl_numbersOf.ok (Int.toNat (((List.length (splitL x0 (ByteArray.mk #[58]))) : Nat) : Int) - Int.toNat (1 : Int)) x1 x2 (splitL x0 (ByteArray.mk #[58])))
       (.br (Sum.isLeft (impl_numbersOf (Int.toNat (((List.length (splitL x0 (ByteArray.mk #[58]))) : Nat) : Int) - Int.toNat (1 : Int)) x1 x2 (splitL x0 (ByteArray.mk #[58]))))
        (.br (!(counts (List.getD (splitL x0 (ByteArray.mk #[58])) 0 ByteArray.empty)))
         (.leaf ((0 : Int), 0, 0, (5 : Int)))
         (.br (!(getLeftD (impl_numbersOf (Int.toNat (((List.length (splitL x0 (ByteArray.mk #[58]))) : Nat) : Int) - Int.toNat (1 : Int)) x1 x2 (splitL x0 (ByteArray.mk #[58])))))
          (.leaf ((0 : Int), 0, 0, (5 : Int)))
          (.br (((0 : Nat) : Int) != (2 : Int))
           (.leaf ((0 : Int), 0, 0, (5 : Int)))
           .bad)))
        (.br (!(counts (List.getD (splitL x0 (ByteArray.mk #[58])) 0 ByteArray.empty)))
         (.leaf ((0 : Int), 0, 0, (5 : Int)))
         (.br (!(getRightD (impl_numbersOf (Int.toNat (((List.length (splitL x0 (ByteArray.mk #[58]))) : Nat) : Int) - Int.toNat (1 : Int)) x1 x2 (splitL x0 (ByteArray.mk #[58])))).2.1)
          (.leaf ((0 : Int), 0, 0, (5 : Int)))
          (.br ((((getRightD (impl_numbersOf (Int.toNat (((List.length (splitL x0 (ByteArray.mk #[58]))) : Nat) : Int) - Int.toNat (1 : Int)) x1 x2 (splitL x0 (ByteArray.mk #[58])))).1 : Nat) : Int) != (2 : Int))
           (.leaf ((0 : Int), 0, 0, (5 : Int)))
           (.br (bounds (0 : Int) ((getRightD (impl_numbersOf (Int.toNat (((List.length (splitL x0 (ByteArray.mk #[58]))) : Nat) : Int) - Int.toNat (1 : Int)) x1 x2 (splitL x0 (ByteArray.mk #[58])))).1))
            (.br (Nat.ble 1 (List.length ((getRightD (impl_numbersOf (Int.toNat (((List.length (splitL x0 (ByteArray.mk #[58]))) : Nat) : Int) - Int.toNat (1 : Int)) x1 x2 (splitL x0 (ByteArray.mk #[58])))).2.2)))
             (.br (bounds (1 : Int) ((getRightD (impl_numbersOf (Int.toNat (((List.length (splitL x0 (ByteArray.mk #[58]))) : Nat) : Int) - Int.toNat (1 : Int)) x1 x2 (splitL x0 (ByteArray.mk #[58])))).1))
              (.br (Nat.ble 2 (List.length ((getRightD (impl_numbersOf (Int.toNat (((List.length (splitL x0 (ByteArray.mk #[58]))) : Nat) : Int) - Int.toNat (1 : Int)) x1 x2 (splitL x0 (ByteArray.mk #[58])))).2.2)))
               (.br (impl_MillText.ok ((numOf 32767 (Go.Lib.parseUintB 15 (ByteArray.data (List.getD (splitL x0 (ByteArray.mk #[58])) 0 ByteArray.empty)).toList) : Nat) : Int) (List.getD ((getRightD (impl_numbersOf (Int.toNat (((List.length (splitL x0 (ByteArray.mk #[58]))) : Nat) : Int) - Int.toNat (1 : Int)) x1 x2 (splitL x0 (ByteArray.mk #[58])))).2.2) 0 0) (List.getD ((getRightD (impl_numbersOf (Int.toNat (((List.length (splitL x0 (ByteArray.mk #[58]))) : Nat) : Int) - Int.toNat (1 : Int)) x1 x2 (splitL x0 (ByteArray.mk #[58])))).2.2) 1 0) x1 x2)
                (.br (!seq? (impl_MillText ((numOf 32767 (Go.Lib.parseUintB 15 (ByteArray.data (List.getD (splitL x0 (ByteArray.mk #[58])) 0 ByteArray.empty)).toList) : Nat) : Int) (List.getD ((getRightD (impl_numbersOf (Int.toNat (((List.length (splitL x0 (ByteArray.mk #[58]))) : Nat) : Int) - Int.toNat (1 : Int)) x1 x2 (splitL x0 (ByteArray.mk #[58])))).2.2) 0 0) (List.getD ((getRightD (impl_numbersOf (Int.toNat (((List.length (splitL x0 (ByteArray.mk #[58]))) : Nat) : Int) - Int.toNat (1 : Int)) x1 x2 (splitL x0 (ByteArray.mk #[58])))).2.2) 1 0) x1 x2) x0)
                 (.leaf ((0 : Int), 0, 0, (5 : Int)))
                 (.leaf (((numOf 32767 (Go.Lib.parseUintB 15 (ByteArray.data (List.getD (splitL x0 (ByteArray.mk #[58])) 0 ByteArray.empty)).toList) : Nat) : Int), (List.getD ((getRightD (impl_numbersOf (Int.toNat (((List.length (splitL x0 (ByteArray.mk #[58]))) : Nat) : Int) - Int.toNat (1 : Int)) x1 x2 (splitL x0 (ByteArray.mk #[58])))).2.2) 0 0), (List.getD ((getRightD (impl_numbersOf (Int.toNat (((List.length (splitL x0 (ByteArray.mk #[58]))) : Nat) : Int) - Int.toNat (1 : Int)) x1 x2 (splitL x0 (ByteArray.mk #[58])))).2.2) 1 0), (0 : Int))))
                .bad)
               .bad)
              .bad)
             .bad)
            .bad)))))
       .bad)
      .bad)
     .bad)
    .bad)
   .bad)
  .bad
noncomputable def impl_ReadMill (x0 : ByteArray) (x1 : Int) (x2 : List Int) : Int × Nat × Nat × Int := (impl_ReadMill.t x0 x1 x2).val
noncomputable def impl_ReadMill.ok (x0 : ByteArray) (x1 : Int) (x2 : List Int) : Bool := (impl_ReadMill.t x0 x1 x2).ok
def impl_ReadMill.cd : Cd (ByteArray × Int × List Int) (List V × Hp) := Cd.iso (Cd.pair (Cd.cons Cd.st Cd.nil) (Cd.cons (Cd.ro 0 2 (Cd.vs (Cd.cons (Cd.it .i64) Cd.nil))) (Cd.cons (Cd.ro 0 3 (Cd.vs (Cd.cons Cd.er Cd.nil))) (Cd.cons (Cd.ro 0 4 (Cd.vs (Cd.cons Cd.er Cd.nil))) (Cd.cons (Cd.ro 21 5 (Cd.is .u64)) Cd.nil))))) (fun a => (a.1.1, a.2.1.1, a.2.2.2.2.1)) (fun a => ((a.1, ()), ((a.2.1, ()), (((), ()), (((), ()), (a.2.2, ())))))) (fun _ => rfl)
noncomputable def impl_ReadMill.tr (a : ByteArray × Int × List Int) : T (Int × Nat × Nat × Int) := impl_ReadMill.t a.1 a.2.1 a.2.2
def impl_ReadMill.enc : (ByteArray × Int × List Int) → (Int × Nat × Nat × Int) → V := fun a r => .tup [.agg [.it .i16 r.1, .fl .f32 r.2.1, .fl .f32 r.2.2.1], .it .i64 r.2.2.2]
noncomputable def impl_ReadMill.c : List V → Hp → T V := cdQ impl_ReadMill.cd (fun a => .br (impl_ReadMill.ok a.1 a.2.1 a.2.2) (.leaf (impl_ReadMill.enc a (impl_ReadMill a.1 a.2.1 a.2.2))) .bad)
theorem impl_ReadMill.run (a : ByteArray × Int × List Int) : runF impl_ReadMill.C Tryz.f7.results.toList impl_ReadMill.b (impl_ReadMill.cd.enc a).1 (impl_ReadMill.cd.enc a).2 = (impl_ReadMill.tr a).map fun r => (impl_ReadMill.enc a r, (impl_ReadMill.cd.enc a).2) := by kernel_rfl
theorem impl_ReadMill.cok : OKq Tryz.prog 7 impl_ReadMill.c := con_q' impl_ReadMill.cd impl_ReadMill.hC Tryz.func7 (by kernel_rfl) (by kernel_rfl) (by kernel_rfl) impl_ReadMill.lp (fun a => by kernel_rfl) impl_ReadMill.run (Tells.ok (tree := impl_ReadMill.tr))
/-! ### impl_Mill_fill -/
noncomputable def impl_Mill_fill.b : Code := bodyOf Tryz.f34
noncomputable def impl_Mill_fill.C : Ctx := { ty := tys, fn := [], lp := [], n := 31, k := 1 }
theorem impl_Mill_fill.hC : CtxOK Tryz.prog impl_Mill_fill.C := CtxOK.of mo tys_ok FnsOK.nil
theorem impl_Mill_fill.lp : LpOK Tryz.prog impl_Mill_fill.C impl_Mill_fill.b := (LpOK.nil (by kernel_rfl))
noncomputable def impl_Mill_fill.t (x0 : Nat) (x1 : Nat) (x2 : Int) (x3 : Nat) (x4 : Nat) : T Nat :=
  .br (feq .f32 x0 0)
  (.leaf 0)
  (.br (feq .f32 x1 0)
   (.leaf x3)
   (.leaf (fmin .f32 (fdiv .f32 x0 (fmul .f32 x1 (fofint .f32 x2))) x3)))
noncomputable def impl_Mill_fill (x0 : Nat) (x1 : Nat) (x2 : Int) (x3 : Nat) (x4 : Nat) : Nat := (impl_Mill_fill.t x0 x1 x2 x3 x4).val
def impl_Mill_fill.cd : Cd (Nat × Nat × Int × Nat × Nat) (List V × Hp) := Cd.iso (Cd.pair (Cd.cons (Cd.pt 0 (Cd.natc 0)) (Cd.cons (Cd.fl .f32) (Cd.cons (Cd.fl .f32) Cd.nil))) (Cd.cons (Cd.rw 27 3 (Cd.vs (Cd.cons (Cd.it .i16) (Cd.cons (Cd.fl .f32) (Cd.cons (Cd.fl .f32) Cd.nil))))) Cd.nil)) (fun a => (a.1.2.1, a.1.2.2.1, a.2.1.1, a.2.1.2.1, a.2.1.2.2.1)) (fun a => (((), (a.1, (a.2.1, ()))), ((a.2.2.1, (a.2.2.2.1, (a.2.2.2.2, ()))), ()))) (fun _ => rfl)
noncomputable def impl_Mill_fill.tr (a : Nat × Nat × Int × Nat × Nat) : T Nat := impl_Mill_fill.t a.1 a.2.1 a.2.2.1 a.2.2.2.1 a.2.2.2.2
def impl_Mill_fill.enc : (Nat × Nat × Int × Nat × Nat) → Nat → V := fun a r => .fl .f32 r
noncomputable def impl_Mill_fill.c : List V → Hp → T V := cdQ impl_Mill_fill.cd (fun a => .leaf (impl_Mill_fill.enc a (impl_Mill_fill a.1 a.2.1 a.2.2.1 a.2.2.2.1 a.2.2.2.2)))
theorem impl_Mill_fill.run (a : Nat × Nat × Int × Nat × Nat) : runF impl_Mill_fill.C Tryz.f34.results.toList impl_Mill_fill.b (impl_Mill_fill.cd.enc a).1 (impl_Mill_fill.cd.enc a).2 = (impl_Mill_fill.tr a).map fun r => (impl_Mill_fill.enc a r, (impl_Mill_fill.cd.enc a).2) := by kernel_rfl
theorem impl_Mill_fill.cok : OKq Tryz.prog 34 impl_Mill_fill.c := con_q' impl_Mill_fill.cd impl_Mill_fill.hC Tryz.func34 (by kernel_rfl) (by kernel_rfl) (by kernel_rfl) impl_Mill_fill.lp (fun a => by kernel_rfl) impl_Mill_fill.run (Tells.val (tree := impl_Mill_fill.tr) fun a => by kernel_rfl)
/-! ### impl_isAmount -/
noncomputable def impl_isAmount.b : Code := bodyOf Tryz.f47
noncomputable def impl_isAmount.C : Ctx := { ty := tys, fn := [(51, .q impl_between.c)], lp := [], n := 5, k := 0 }
theorem impl_isAmount.hC : CtxOK Tryz.prog impl_isAmount.C := CtxOK.of mo tys_ok (FnsOK.cons impl_between.cok FnsOK.nil)
theorem impl_isAmount.lp : LpOK Tryz.prog impl_isAmount.C impl_isAmount.b := (LpOK.nil (by kernel_rfl))
noncomputable def impl_isAmount.t (x0 : Nat) : T Bool :=
  .leaf (impl_between x0 0 1233125376)
noncomputable def impl_isAmount (x0 : Nat) : Bool := (impl_isAmount.t x0).val
def impl_isAmount.cd : Cd Nat (List V × Hp) := Cd.iso (Cd.pair (Cd.cons (Cd.fl .f32) Cd.nil) Cd.nil) (fun a => a.1.1) (fun a => ((a, ()), ())) (fun _ => rfl)
noncomputable def impl_isAmount.tr (a : Nat) : T Bool := impl_isAmount.t a
def impl_isAmount.enc : Nat → Bool → V := fun a r => .bo r
noncomputable def impl_isAmount.c : List V → Hp → T V := cdQ impl_isAmount.cd (fun a => .leaf (impl_isAmount.enc a (impl_isAmount a)))
theorem impl_isAmount.run (a : Nat) : runF impl_isAmount.C Tryz.f47.results.toList impl_isAmount.b (impl_isAmount.cd.enc a).1 (impl_isAmount.cd.enc a).2 = (impl_isAmount.tr a).map fun r => (impl_isAmount.enc a r, (impl_isAmount.cd.enc a).2) := by kernel_rfl
theorem impl_isAmount.cok : OKq Tryz.prog 47 impl_isAmount.c := con_q' impl_isAmount.cd impl_isAmount.hC Tryz.func47 (by kernel_rfl) (by kernel_rfl) (by kernel_rfl) impl_isAmount.lp (fun a => by kernel_rfl) impl_isAmount.run (Tells.val (tree := impl_isAmount.tr) fun a => by kernel_rfl)
/-! ### impl_isSpeed -/
noncomputable def impl_isSpeed.b : Code := bodyOf Tryz.f63
noncomputable def impl_isSpeed.C : Ctx := { ty := tys, fn := [(51, .q impl_between.c)], lp := [], n := 5, k := 0 }
theorem impl_isSpeed.hC : CtxOK Tryz.prog impl_isSpeed.C := CtxOK.of mo tys_ok (FnsOK.cons impl_between.cok FnsOK.nil)
theorem impl_isSpeed.lp : LpOK Tryz.prog impl_isSpeed.C impl_isSpeed.b := (LpOK.nil (by kernel_rfl))
noncomputable def impl_isSpeed.t (x0 : Nat) : T Bool :=
  .leaf (impl_between x0 0 1149239296)
noncomputable def impl_isSpeed (x0 : Nat) : Bool := (impl_isSpeed.t x0).val
def impl_isSpeed.cd : Cd Nat (List V × Hp) := Cd.iso (Cd.pair (Cd.cons (Cd.fl .f32) Cd.nil) Cd.nil) (fun a => a.1.1) (fun a => ((a, ()), ())) (fun _ => rfl)
noncomputable def impl_isSpeed.tr (a : Nat) : T Bool := impl_isSpeed.t a
def impl_isSpeed.enc : Nat → Bool → V := fun a r => .bo r
noncomputable def impl_isSpeed.c : List V → Hp → T V := cdQ impl_isSpeed.cd (fun a => .leaf (impl_isSpeed.enc a (impl_isSpeed a)))
theorem impl_isSpeed.run (a : Nat) : runF impl_isSpeed.C Tryz.f63.results.toList impl_isSpeed.b (impl_isSpeed.cd.enc a).1 (impl_isSpeed.cd.enc a).2 = (impl_isSpeed.tr a).map fun r => (impl_isSpeed.enc a r, (impl_isSpeed.cd.enc a).2) := by kernel_rfl
theorem impl_isSpeed.cok : OKq Tryz.prog 63 impl_isSpeed.c := con_q' impl_isSpeed.cd impl_isSpeed.hC Tryz.func63 (by kernel_rfl) (by kernel_rfl) (by kernel_rfl) impl_isSpeed.lp (fun a => by kernel_rfl) impl_isSpeed.run (Tells.val (tree := impl_isSpeed.tr) fun a => by kernel_rfl)
/-! ### impl_millCode -/
noncomputable def impl_millCode.b : Code := bodyOf Tryz.f35
noncomputable def impl_millCode.C : Ctx := { ty := tys, fn := [(16, .q impl_ValidMill.c), (47, .q impl_isAmount.c), (63, .q impl_isSpeed.c)], lp := [], n := 20, k := 0 }
theorem impl_millCode.hC : CtxOK Tryz.prog impl_millCode.C := CtxOK.of mo tys_ok (FnsOK.cons impl_ValidMill.cok (FnsOK.cons impl_isAmount.cok (FnsOK.cons impl_isSpeed.cok FnsOK.nil)))
theorem impl_millCode.lp : LpOK Tryz.prog impl_millCode.C impl_millCode.b := (LpOK.nil (by kernel_rfl))
noncomputable def impl_millCode.t (x0 : Int) (x1 : Nat) (x2 : Nat) (x3 : Nat) (x4 : Nat) : T Int :=
  .br (!(impl_ValidMill x0 x1 x2))
  (.leaf (1 : Int))
  (.br (!(impl_isAmount x3))
   (.leaf (2 : Int))
   (.br (!(impl_isSpeed x4))
    (.leaf (2 : Int))
    (.leaf (0 : Int))))
noncomputable def impl_millCode (x0 : Int) (x1 : Nat) (x2 : Nat) (x3 : Nat) (x4 : Nat) : Int := (impl_millCode.t x0 x1 x2 x3 x4).val
def impl_millCode.cd : Cd (Int × Nat × Nat × Nat × Nat) (List V × Hp) := Cd.iso (Cd.pair (Cd.cons (Cd.agg (Cd.cons (Cd.it .i16) (Cd.cons (Cd.fl .f32) (Cd.cons (Cd.fl .f32) Cd.nil)))) (Cd.cons (Cd.fl .f32) (Cd.cons (Cd.fl .f32) Cd.nil))) Cd.nil) (fun a => (a.1.1.1, a.1.1.2.1, a.1.1.2.2.1, a.1.2.1, a.1.2.2.1)) (fun a => (((a.1, (a.2.1, (a.2.2.1, ()))), (a.2.2.2.1, (a.2.2.2.2, ()))), ())) (fun _ => rfl)
noncomputable def impl_millCode.tr (a : Int × Nat × Nat × Nat × Nat) : T Int := impl_millCode.t a.1 a.2.1 a.2.2.1 a.2.2.2.1 a.2.2.2.2
def impl_millCode.enc : (Int × Nat × Nat × Nat × Nat) → Int → V := fun a r => .it .i64 r
noncomputable def impl_millCode.c : List V → Hp → T V := cdQ impl_millCode.cd (fun a => .leaf (impl_millCode.enc a (impl_millCode a.1 a.2.1 a.2.2.1 a.2.2.2.1 a.2.2.2.2)))
theorem impl_millCode.run (a : Int × Nat × Nat × Nat × Nat) : runF impl_millCode.C Tryz.f35.results.toList impl_millCode.b (impl_millCode.cd.enc a).1 (impl_millCode.cd.enc a).2 = (impl_millCode.tr a).map fun r => (impl_millCode.enc a r, (impl_millCode.cd.enc a).2) := by kernel_rfl
theorem impl_millCode.cok : OKq Tryz.prog 35 impl_millCode.c := con_q' impl_millCode.cd impl_millCode.hC Tryz.func35 (by kernel_rfl) (by kernel_rfl) (by kernel_rfl) impl_millCode.lp (fun a => by kernel_rfl) impl_millCode.run (Tells.val (tree := impl_millCode.tr) fun a => by kernel_rfl)
/-! ### impl_orZero -/
noncomputable def impl_orZero.b : Code := bodyOf Tryz.f33
noncomputable def impl_orZero.C : Ctx := { ty := tys, fn := [], lp := [], n := 10, k := 0 }
theorem impl_orZero.hC : CtxOK Tryz.prog impl_orZero.C := CtxOK.of mo tys_ok FnsOK.nil
theorem impl_orZero.lp : LpOK Tryz.prog impl_orZero.C impl_orZero.b := (LpOK.nil (by kernel_rfl))
noncomputable def impl_orZero.t (x0 : Nat) (x1 : Int) : T (Nat × Int) :=
  .br (x1 != (0 : Int))
  (.leaf (0, x1))
  (.leaf (x0, (0 : Int)))
noncomputable def impl_orZero (x0 : Nat) (x1 : Int) : Nat × Int := (impl_orZero.t x0 x1).val
def impl_orZero.cd : Cd (Nat × Int) (List V × Hp) := Cd.iso (Cd.pair (Cd.cons (Cd.fl .f32) (Cd.cons (Cd.it .i64) Cd.nil)) Cd.nil) (fun a => (a.1.1, a.1.2.1)) (fun a => ((a.1, (a.2, ())), ())) (fun _ => rfl)
noncomputable def impl_orZero.tr (a : Nat × Int) : T (Nat × Int) := impl_orZero.t a.1 a.2
def impl_orZero.enc : (Nat × Int) → (Nat × Int) → V := fun a r => .tup [.fl .f32 r.1, .it .i64 r.2]
noncomputable def impl_orZero.c : List V → Hp → T V := cdQ impl_orZero.cd (fun a => .leaf (impl_orZero.enc a (impl_orZero a.1 a.2)))
theorem impl_orZero.run (a : Nat × Int) : runF impl_orZero.C Tryz.f33.results.toList impl_orZero.b (impl_orZero.cd.enc a).1 (impl_orZero.cd.enc a).2 = (impl_orZero.tr a).map fun r => (impl_orZero.enc a r, (impl_orZero.cd.enc a).2) := by kernel_rfl
theorem impl_orZero.cok : OKq Tryz.prog 33 impl_orZero.c := con_q' impl_orZero.cd impl_orZero.hC Tryz.func33 (by kernel_rfl) (by kernel_rfl) (by kernel_rfl) impl_orZero.lp (fun a => by kernel_rfl) impl_orZero.run (Tells.val (tree := impl_orZero.tr) fun a => by kernel_rfl)
/-! ### impl_FillOf -/
noncomputable def impl_FillOf.b : Code := bodyOf Tryz.f9
noncomputable def impl_FillOf.C : Ctx := { ty := tys, fn := [(34, .q impl_Mill_fill.c), (35, .q impl_millCode.c), (33, .q impl_orZero.c)], lp := [], n := 18, k := 4 }
theorem impl_FillOf.hC : CtxOK Tryz.prog impl_FillOf.C := CtxOK.of mo tys_ok (FnsOK.cons impl_Mill_fill.cok (FnsOK.cons impl_millCode.cok (FnsOK.cons impl_orZero.cok FnsOK.nil)))
theorem impl_FillOf.lp : LpOK Tryz.prog impl_FillOf.C impl_FillOf.b := (LpOK.nil (by kernel_rfl))
noncomputable def impl_FillOf.t (x0 : Int) (x1 : Nat) (x2 : Nat) (x3 : Nat) (x4 : Nat) (x5 : Int) (x6 : List Int) : T (Nat × Int) :=
  .leaf ((impl_orZero (impl_Mill_fill x3 x4 x0 x1 x2) (impl_millCode x0 x1 x2 x3 x4)).1, (impl_orZero (impl_Mill_fill x3 x4 x0 x1 x2) (impl_millCode x0 x1 x2 x3 x4)).2)
noncomputable def impl_FillOf (x0 : Int) (x1 : Nat) (x2 : Nat) (x3 : Nat) (x4 : Nat) (x5 : Int) (x6 : List Int) : Nat × Int := (impl_FillOf.t x0 x1 x2 x3 x4 x5 x6).val
def impl_FillOf.cd : Cd (Int × Nat × Nat × Nat × Nat × Int × List Int) (List V × Hp) := Cd.iso (Cd.pair (Cd.cons (Cd.agg (Cd.cons (Cd.it .i16) (Cd.cons (Cd.fl .f32) (Cd.cons (Cd.fl .f32) Cd.nil)))) (Cd.cons (Cd.fl .f32) (Cd.cons (Cd.fl .f32) Cd.nil))) (Cd.cons (Cd.ro 0 2 (Cd.vs (Cd.cons (Cd.it .i64) Cd.nil))) (Cd.cons (Cd.ro 0 3 (Cd.vs (Cd.cons Cd.er Cd.nil))) (Cd.cons (Cd.ro 0 4 (Cd.vs (Cd.cons Cd.er Cd.nil))) (Cd.cons (Cd.ro 21 5 (Cd.is .u64)) Cd.nil))))) (fun a => (a.1.1.1, a.1.1.2.1, a.1.1.2.2.1, a.1.2.1, a.1.2.2.1, a.2.1.1, a.2.2.2.2.1)) (fun a => (((a.1, (a.2.1, (a.2.2.1, ()))), (a.2.2.2.1, (a.2.2.2.2.1, ()))), ((a.2.2.2.2.2.1, ()), (((), ()), (((), ()), (a.2.2.2.2.2.2, ())))))) (fun _ => rfl)
noncomputable def impl_FillOf.tr (a : Int × Nat × Nat × Nat × Nat × Int × List Int) : T (Nat × Int) := impl_FillOf.t a.1 a.2.1 a.2.2.1 a.2.2.2.1 a.2.2.2.2.1 a.2.2.2.2.2.1 a.2.2.2.2.2.2
def impl_FillOf.enc : (Int × Nat × Nat × Nat × Nat × Int × List Int) → (Nat × Int) → V := fun a r => .tup [.fl .f32 r.1, .it .i64 r.2]
noncomputable def impl_FillOf.c : List V → Hp → T V := cdQ impl_FillOf.cd (fun a => .leaf (impl_FillOf.enc a (impl_FillOf a.1 a.2.1 a.2.2.1 a.2.2.2.1 a.2.2.2.2.1 a.2.2.2.2.2.1 a.2.2.2.2.2.2)))
theorem impl_FillOf.run (a : Int × Nat × Nat × Nat × Nat × Int × List Int) : runF impl_FillOf.C Tryz.f9.results.toList impl_FillOf.b (impl_FillOf.cd.enc a).1 (impl_FillOf.cd.enc a).2 = (impl_FillOf.tr a).map fun r => (impl_FillOf.enc a r, (impl_FillOf.cd.enc a).2) := by kernel_rfl
theorem impl_FillOf.cok : OKq Tryz.prog 9 impl_FillOf.c := con_q' impl_FillOf.cd impl_FillOf.hC Tryz.func9 (by kernel_rfl) (by kernel_rfl) (by kernel_rfl) impl_FillOf.lp (fun a => by kernel_rfl) impl_FillOf.run (Tells.val (tree := impl_FillOf.tr) fun a => by kernel_rfl)
/-! ### spec_l00In -/
noncomputable def spec_l00In.b : Code := bodyOf Tryz.f53
noncomputable def spec_l00In.C : Ctx := { ty := tys, fn := [], lp := [], n := 15, k := 0 }
theorem spec_l00In.hC : CtxOK Tryz.prog spec_l00In.C := CtxOK.of mo tys_ok FnsOK.nil
theorem spec_l00In.lp : LpOK Tryz.prog spec_l00In.C spec_l00In.b := (LpOK.nil (by kernel_rfl))
noncomputable def spec_l00In.t (x0 : Int) (x1 : Int) (x2 : Int) : T Bool :=
  .br (decide (x0 ≥ x1))
  (.leaf (decide (x0 ≤ x2)))
  (.leaf false)
noncomputable def spec_l00In (x0 : Int) (x1 : Int) (x2 : Int) : Bool := (spec_l00In.t x0 x1 x2).val
def spec_l00In.cd : Cd (Int × Int × Int) (List V × Hp) := Cd.iso (Cd.pair (Cd.cons (Cd.it .i64) (Cd.cons (Cd.it .i64) (Cd.cons (Cd.it .i64) Cd.nil))) Cd.nil) (fun a => (a.1.1, a.1.2.1, a.1.2.2.1)) (fun a => ((a.1, (a.2.1, (a.2.2, ()))), ())) (fun _ => rfl)
noncomputable def spec_l00In.tr (a : Int × Int × Int) : T Bool := spec_l00In.t a.1 a.2.1 a.2.2
def spec_l00In.enc : (Int × Int × Int) → Bool → V := fun a r => .bo r
noncomputable def spec_l00In.c : List V → Hp → T V := cdQ spec_l00In.cd (fun a => .leaf (spec_l00In.enc a (spec_l00In a.1 a.2.1 a.2.2)))
theorem spec_l00In.run (a : Int × Int × Int) : runF spec_l00In.C Tryz.f53.results.toList spec_l00In.b (spec_l00In.cd.enc a).1 (spec_l00In.cd.enc a).2 = (spec_l00In.tr a).map fun r => (spec_l00In.enc a r, (spec_l00In.cd.enc a).2) := by kernel_rfl
theorem spec_l00In.cok : OKq Tryz.prog 53 spec_l00In.c := con_q' spec_l00In.cd spec_l00In.hC Tryz.func53 (by kernel_rfl) (by kernel_rfl) (by kernel_rfl) spec_l00In.lp (fun a => by kernel_rfl) spec_l00In.run (Tells.val (tree := spec_l00In.tr) fun a => by kernel_rfl)
/-! ### spec_l03Length -/
noncomputable def spec_l03Length.b : Code := bodyOf Tryz.f45
noncomputable def spec_l03Length.C : Ctx := { ty := tys, fn := [], lp := [], n := 9, k := 0 }
theorem spec_l03Length.hC : CtxOK Tryz.prog spec_l03Length.C := CtxOK.of mo tys_ok FnsOK.nil
theorem spec_l03Length.lp : LpOK Tryz.prog spec_l03Length.C spec_l03Length.b := (LpOK.nil (by kernel_rfl))
noncomputable def spec_l03Length.t (x0 : Nat) : T Bool :=
  .br (fge .f32 x0 1031798784)
  (.leaf (fle .f32 x0 1149239296))
  (.leaf false)
noncomputable def spec_l03Length (x0 : Nat) : Bool := (spec_l03Length.t x0).val
def spec_l03Length.cd : Cd Nat (List V × Hp) := Cd.iso (Cd.pair (Cd.cons (Cd.fl .f32) Cd.nil) Cd.nil) (fun a => a.1.1) (fun a => ((a, ()), ())) (fun _ => rfl)
noncomputable def spec_l03Length.tr (a : Nat) : T Bool := spec_l03Length.t a
def spec_l03Length.enc : Nat → Bool → V := fun a r => .bo r
noncomputable def spec_l03Length.c : List V → Hp → T V := cdQ spec_l03Length.cd (fun a => .leaf (spec_l03Length.enc a (spec_l03Length a)))
theorem spec_l03Length.run (a : Nat) : runF spec_l03Length.C Tryz.f45.results.toList spec_l03Length.b (spec_l03Length.cd.enc a).1 (spec_l03Length.cd.enc a).2 = (spec_l03Length.tr a).map fun r => (spec_l03Length.enc a r, (spec_l03Length.cd.enc a).2) := by kernel_rfl
theorem spec_l03Length.cok : OKq Tryz.prog 45 spec_l03Length.c := con_q' spec_l03Length.cd spec_l03Length.hC Tryz.func45 (by kernel_rfl) (by kernel_rfl) (by kernel_rfl) spec_l03Length.lp (fun a => by kernel_rfl) spec_l03Length.run (Tells.val (tree := spec_l03Length.tr) fun a => by kernel_rfl)
/-! ### spec_l03Mill -/
noncomputable def spec_l03Mill.b : Code := bodyOf Tryz.f64
noncomputable def spec_l03Mill.C : Ctx := { ty := tys, fn := [(53, .q spec_l00In.c), (45, .q spec_l03Length.c)], lp := [], n := 17, k := 0 }
theorem spec_l03Mill.hC : CtxOK Tryz.prog spec_l03Mill.C := CtxOK.of mo tys_ok (FnsOK.cons spec_l00In.cok (FnsOK.cons spec_l03Length.cok FnsOK.nil))
theorem spec_l03Mill.lp : LpOK Tryz.prog spec_l03Mill.C spec_l03Mill.b := (LpOK.nil (by kernel_rfl))
noncomputable def spec_l03Mill.t (x0 : Int) (x1 : Nat) (x2 : Nat) : T Bool :=
  .br (spec_l00In (IntKind.wrap .i64 x0) (4 : Int) (48 : Int))
  (.br (spec_l03Length x1)
   (.leaf (spec_l03Length x2))
   (.leaf false))
  (.leaf false)
noncomputable def spec_l03Mill (x0 : Int) (x1 : Nat) (x2 : Nat) : Bool := (spec_l03Mill.t x0 x1 x2).val
def spec_l03Mill.cd : Cd (Int × Nat × Nat) (List V × Hp) := Cd.iso (Cd.pair (Cd.cons (Cd.agg (Cd.cons (Cd.it .i16) (Cd.cons (Cd.fl .f32) (Cd.cons (Cd.fl .f32) Cd.nil)))) Cd.nil) Cd.nil) (fun a => (a.1.1.1, a.1.1.2.1, a.1.1.2.2.1)) (fun a => (((a.1, (a.2.1, (a.2.2, ()))), ()), ())) (fun _ => rfl)
noncomputable def spec_l03Mill.tr (a : Int × Nat × Nat) : T Bool := spec_l03Mill.t a.1 a.2.1 a.2.2
def spec_l03Mill.enc : (Int × Nat × Nat) → Bool → V := fun a r => .bo r
noncomputable def spec_l03Mill.c : List V → Hp → T V := cdQ spec_l03Mill.cd (fun a => .leaf (spec_l03Mill.enc a (spec_l03Mill a.1 a.2.1 a.2.2)))
theorem spec_l03Mill.run (a : Int × Nat × Nat) : runF spec_l03Mill.C Tryz.f64.results.toList spec_l03Mill.b (spec_l03Mill.cd.enc a).1 (spec_l03Mill.cd.enc a).2 = (spec_l03Mill.tr a).map fun r => (spec_l03Mill.enc a r, (spec_l03Mill.cd.enc a).2) := by kernel_rfl
theorem spec_l03Mill.cok : OKq Tryz.prog 64 spec_l03Mill.c := con_q' spec_l03Mill.cd spec_l03Mill.hC Tryz.func64 (by kernel_rfl) (by kernel_rfl) (by kernel_rfl) spec_l03Mill.lp (fun a => by kernel_rfl) spec_l03Mill.run (Tells.val (tree := spec_l03Mill.tr) fun a => by kernel_rfl)
/-! ### spec_l03Amount -/
noncomputable def spec_l03Amount.b : Code := bodyOf Tryz.f49
noncomputable def spec_l03Amount.C : Ctx := { ty := tys, fn := [], lp := [], n := 9, k := 0 }
theorem spec_l03Amount.hC : CtxOK Tryz.prog spec_l03Amount.C := CtxOK.of mo tys_ok FnsOK.nil
theorem spec_l03Amount.lp : LpOK Tryz.prog spec_l03Amount.C spec_l03Amount.b := (LpOK.nil (by kernel_rfl))
noncomputable def spec_l03Amount.t (x0 : Nat) : T Bool :=
  .br (fge .f32 x0 0)
  (.leaf (fle .f32 x0 1233125376))
  (.leaf false)
noncomputable def spec_l03Amount (x0 : Nat) : Bool := (spec_l03Amount.t x0).val
def spec_l03Amount.cd : Cd Nat (List V × Hp) := Cd.iso (Cd.pair (Cd.cons (Cd.fl .f32) Cd.nil) Cd.nil) (fun a => a.1.1) (fun a => ((a, ()), ())) (fun _ => rfl)
noncomputable def spec_l03Amount.tr (a : Nat) : T Bool := spec_l03Amount.t a
def spec_l03Amount.enc : Nat → Bool → V := fun a r => .bo r
noncomputable def spec_l03Amount.c : List V → Hp → T V := cdQ spec_l03Amount.cd (fun a => .leaf (spec_l03Amount.enc a (spec_l03Amount a)))
theorem spec_l03Amount.run (a : Nat) : runF spec_l03Amount.C Tryz.f49.results.toList spec_l03Amount.b (spec_l03Amount.cd.enc a).1 (spec_l03Amount.cd.enc a).2 = (spec_l03Amount.tr a).map fun r => (spec_l03Amount.enc a r, (spec_l03Amount.cd.enc a).2) := by kernel_rfl
theorem spec_l03Amount.cok : OKq Tryz.prog 49 spec_l03Amount.c := con_q' spec_l03Amount.cd spec_l03Amount.hC Tryz.func49 (by kernel_rfl) (by kernel_rfl) (by kernel_rfl) spec_l03Amount.lp (fun a => by kernel_rfl) spec_l03Amount.run (Tells.val (tree := spec_l03Amount.tr) fun a => by kernel_rfl)
/-! ### spec_l03Speed -/
noncomputable def spec_l03Speed.b : Code := bodyOf Tryz.f65
noncomputable def spec_l03Speed.C : Ctx := { ty := tys, fn := [], lp := [], n := 9, k := 0 }
theorem spec_l03Speed.hC : CtxOK Tryz.prog spec_l03Speed.C := CtxOK.of mo tys_ok FnsOK.nil
theorem spec_l03Speed.lp : LpOK Tryz.prog spec_l03Speed.C spec_l03Speed.b := (LpOK.nil (by kernel_rfl))
noncomputable def spec_l03Speed.t (x0 : Nat) : T Bool :=
  .br (fge .f32 x0 0)
  (.leaf (fle .f32 x0 1149239296))
  (.leaf false)
noncomputable def spec_l03Speed (x0 : Nat) : Bool := (spec_l03Speed.t x0).val
def spec_l03Speed.cd : Cd Nat (List V × Hp) := Cd.iso (Cd.pair (Cd.cons (Cd.fl .f32) Cd.nil) Cd.nil) (fun a => a.1.1) (fun a => ((a, ()), ())) (fun _ => rfl)
noncomputable def spec_l03Speed.tr (a : Nat) : T Bool := spec_l03Speed.t a
def spec_l03Speed.enc : Nat → Bool → V := fun a r => .bo r
noncomputable def spec_l03Speed.c : List V → Hp → T V := cdQ spec_l03Speed.cd (fun a => .leaf (spec_l03Speed.enc a (spec_l03Speed a)))
theorem spec_l03Speed.run (a : Nat) : runF spec_l03Speed.C Tryz.f65.results.toList spec_l03Speed.b (spec_l03Speed.cd.enc a).1 (spec_l03Speed.cd.enc a).2 = (spec_l03Speed.tr a).map fun r => (spec_l03Speed.enc a r, (spec_l03Speed.cd.enc a).2) := by kernel_rfl
theorem spec_l03Speed.cok : OKq Tryz.prog 65 spec_l03Speed.c := con_q' spec_l03Speed.cd spec_l03Speed.hC Tryz.func65 (by kernel_rfl) (by kernel_rfl) (by kernel_rfl) spec_l03Speed.lp (fun a => by kernel_rfl) spec_l03Speed.run (Tells.val (tree := spec_l03Speed.tr) fun a => by kernel_rfl)
/-! ### spec_l03Asked -/
noncomputable def spec_l03Asked.b : Code := bodyOf Tryz.f36
noncomputable def spec_l03Asked.C : Ctx := { ty := tys, fn := [(64, .q spec_l03Mill.c), (49, .q spec_l03Amount.c), (65, .q spec_l03Speed.c)], lp := [], n := 18, k := 0 }
theorem spec_l03Asked.hC : CtxOK Tryz.prog spec_l03Asked.C := CtxOK.of mo tys_ok (FnsOK.cons spec_l03Mill.cok (FnsOK.cons spec_l03Amount.cok (FnsOK.cons spec_l03Speed.cok FnsOK.nil)))
theorem spec_l03Asked.lp : LpOK Tryz.prog spec_l03Asked.C spec_l03Asked.b := (LpOK.nil (by kernel_rfl))
noncomputable def spec_l03Asked.t (x0 : Int) (x1 : Nat) (x2 : Nat) (x3 : Nat) (x4 : Nat) : T Int :=
  .br (!(spec_l03Mill x0 x1 x2))
  (.leaf (1 : Int))
  (.br (!(spec_l03Amount x3))
   (.leaf (2 : Int))
   (.br (!(spec_l03Speed x4))
    (.leaf (2 : Int))
    (.leaf (0 : Int))))
noncomputable def spec_l03Asked (x0 : Int) (x1 : Nat) (x2 : Nat) (x3 : Nat) (x4 : Nat) : Int := (spec_l03Asked.t x0 x1 x2 x3 x4).val
def spec_l03Asked.cd : Cd (Int × Nat × Nat × Nat × Nat) (List V × Hp) := Cd.iso (Cd.pair (Cd.cons (Cd.agg (Cd.cons (Cd.it .i16) (Cd.cons (Cd.fl .f32) (Cd.cons (Cd.fl .f32) Cd.nil)))) (Cd.cons (Cd.fl .f32) (Cd.cons (Cd.fl .f32) Cd.nil))) Cd.nil) (fun a => (a.1.1.1, a.1.1.2.1, a.1.1.2.2.1, a.1.2.1, a.1.2.2.1)) (fun a => (((a.1, (a.2.1, (a.2.2.1, ()))), (a.2.2.2.1, (a.2.2.2.2, ()))), ())) (fun _ => rfl)
noncomputable def spec_l03Asked.tr (a : Int × Nat × Nat × Nat × Nat) : T Int := spec_l03Asked.t a.1 a.2.1 a.2.2.1 a.2.2.2.1 a.2.2.2.2
def spec_l03Asked.enc : (Int × Nat × Nat × Nat × Nat) → Int → V := fun a r => .it .i64 r
noncomputable def spec_l03Asked.c : List V → Hp → T V := cdQ spec_l03Asked.cd (fun a => .leaf (spec_l03Asked.enc a (spec_l03Asked a.1 a.2.1 a.2.2.1 a.2.2.2.1 a.2.2.2.2)))
theorem spec_l03Asked.run (a : Int × Nat × Nat × Nat × Nat) : runF spec_l03Asked.C Tryz.f36.results.toList spec_l03Asked.b (spec_l03Asked.cd.enc a).1 (spec_l03Asked.cd.enc a).2 = (spec_l03Asked.tr a).map fun r => (spec_l03Asked.enc a r, (spec_l03Asked.cd.enc a).2) := by kernel_rfl
theorem spec_l03Asked.cok : OKq Tryz.prog 36 spec_l03Asked.c := con_q' spec_l03Asked.cd spec_l03Asked.hC Tryz.func36 (by kernel_rfl) (by kernel_rfl) (by kernel_rfl) spec_l03Asked.lp (fun a => by kernel_rfl) spec_l03Asked.run (Tells.val (tree := spec_l03Asked.tr) fun a => by kernel_rfl)
/-! ### spec_l03Fill -/
noncomputable def spec_l03Fill.b : Code := bodyOf Tryz.f37
noncomputable def spec_l03Fill.C : Ctx := { ty := tys, fn := [], lp := [], n := 28, k := 0 }
theorem spec_l03Fill.hC : CtxOK Tryz.prog spec_l03Fill.C := CtxOK.of mo tys_ok FnsOK.nil
theorem spec_l03Fill.lp : LpOK Tryz.prog spec_l03Fill.C spec_l03Fill.b := (LpOK.nil (by kernel_rfl))
noncomputable def spec_l03Fill.t (x0 : Int) (x1 : Nat) (x2 : Nat) (x3 : Nat) (x4 : Nat) : T Nat :=
  .br (feq .f32 x3 0)
  (.leaf 0)
  (.br (feq .f32 x4 0)
   (.leaf x1)
   (.br (fgt .f32 (fdiv .f32 x3 (fmul .f32 x4 (fofint .f32 x0))) x1)
    (.leaf x1)
    (.leaf (fdiv .f32 x3 (fmul .f32 x4 (fofint .f32 x0))))))
noncomputable def spec_l03Fill (x0 : Int) (x1 : Nat) (x2 : Nat) (x3 : Nat) (x4 : Nat) : Nat := (spec_l03Fill.t x0 x1 x2 x3 x4).val
def spec_l03Fill.cd : Cd (Int × Nat × Nat × Nat × Nat) (List V × Hp) := Cd.iso (Cd.pair (Cd.cons (Cd.agg (Cd.cons (Cd.it .i16) (Cd.cons (Cd.fl .f32) (Cd.cons (Cd.fl .f32) Cd.nil)))) (Cd.cons (Cd.fl .f32) (Cd.cons (Cd.fl .f32) Cd.nil))) Cd.nil) (fun a => (a.1.1.1, a.1.1.2.1, a.1.1.2.2.1, a.1.2.1, a.1.2.2.1)) (fun a => (((a.1, (a.2.1, (a.2.2.1, ()))), (a.2.2.2.1, (a.2.2.2.2, ()))), ())) (fun _ => rfl)
noncomputable def spec_l03Fill.tr (a : Int × Nat × Nat × Nat × Nat) : T Nat := spec_l03Fill.t a.1 a.2.1 a.2.2.1 a.2.2.2.1 a.2.2.2.2
def spec_l03Fill.enc : (Int × Nat × Nat × Nat × Nat) → Nat → V := fun a r => .fl .f32 r
noncomputable def spec_l03Fill.c : List V → Hp → T V := cdQ spec_l03Fill.cd (fun a => .leaf (spec_l03Fill.enc a (spec_l03Fill a.1 a.2.1 a.2.2.1 a.2.2.2.1 a.2.2.2.2)))
theorem spec_l03Fill.run (a : Int × Nat × Nat × Nat × Nat) : runF spec_l03Fill.C Tryz.f37.results.toList spec_l03Fill.b (spec_l03Fill.cd.enc a).1 (spec_l03Fill.cd.enc a).2 = (spec_l03Fill.tr a).map fun r => (spec_l03Fill.enc a r, (spec_l03Fill.cd.enc a).2) := by kernel_rfl
theorem spec_l03Fill.cok : OKq Tryz.prog 37 spec_l03Fill.c := con_q' spec_l03Fill.cd spec_l03Fill.hC Tryz.func37 (by kernel_rfl) (by kernel_rfl) (by kernel_rfl) spec_l03Fill.lp (fun a => by kernel_rfl) spec_l03Fill.run (Tells.val (tree := spec_l03Fill.tr) fun a => by kernel_rfl)
/-! ### spec_FillOf -/
noncomputable def spec_FillOf.b : Code := bodyOf Tryz.f10
noncomputable def spec_FillOf.C : Ctx := { ty := tys, fn := [(36, .q spec_l03Asked.c), (37, .q spec_l03Fill.c)], lp := [], n := 20, k := 4 }
theorem spec_FillOf.hC : CtxOK Tryz.prog spec_FillOf.C := CtxOK.of mo tys_ok (FnsOK.cons spec_l03Asked.cok (FnsOK.cons spec_l03Fill.cok FnsOK.nil))
theorem spec_FillOf.lp : LpOK Tryz.prog spec_FillOf.C spec_FillOf.b := (LpOK.nil (by kernel_rfl))
noncomputable def spec_FillOf.t (x0 : Int) (x1 : Nat) (x2 : Nat) (x3 : Nat) (x4 : Nat) (x5 : Int) (x6 : List Int) : T (Nat × Int) :=
  .br ((spec_l03Asked x0 x1 x2 x3 x4) != (0 : Int))
  (.leaf (0, (spec_l03Asked x0 x1 x2 x3 x4)))
  (.leaf ((spec_l03Fill x0 x1 x2 x3 x4), (0 : Int)))
noncomputable def spec_FillOf (x0 : Int) (x1 : Nat) (x2 : Nat) (x3 : Nat) (x4 : Nat) (x5 : Int) (x6 : List Int) : Nat × Int := (spec_FillOf.t x0 x1 x2 x3 x4 x5 x6).val
def spec_FillOf.cd : Cd (Int × Nat × Nat × Nat × Nat × Int × List Int) (List V × Hp) := Cd.iso (Cd.pair (Cd.cons (Cd.agg (Cd.cons (Cd.it .i16) (Cd.cons (Cd.fl .f32) (Cd.cons (Cd.fl .f32) Cd.nil)))) (Cd.cons (Cd.fl .f32) (Cd.cons (Cd.fl .f32) Cd.nil))) (Cd.cons (Cd.ro 0 2 (Cd.vs (Cd.cons (Cd.it .i64) Cd.nil))) (Cd.cons (Cd.ro 0 3 (Cd.vs (Cd.cons Cd.er Cd.nil))) (Cd.cons (Cd.ro 0 4 (Cd.vs (Cd.cons Cd.er Cd.nil))) (Cd.cons (Cd.ro 21 5 (Cd.is .u64)) Cd.nil))))) (fun a => (a.1.1.1, a.1.1.2.1, a.1.1.2.2.1, a.1.2.1, a.1.2.2.1, a.2.1.1, a.2.2.2.2.1)) (fun a => (((a.1, (a.2.1, (a.2.2.1, ()))), (a.2.2.2.1, (a.2.2.2.2.1, ()))), ((a.2.2.2.2.2.1, ()), (((), ()), (((), ()), (a.2.2.2.2.2.2, ())))))) (fun _ => rfl)
noncomputable def spec_FillOf.tr (a : Int × Nat × Nat × Nat × Nat × Int × List Int) : T (Nat × Int) := spec_FillOf.t a.1 a.2.1 a.2.2.1 a.2.2.2.1 a.2.2.2.2.1 a.2.2.2.2.2.1 a.2.2.2.2.2.2
def spec_FillOf.enc : (Int × Nat × Nat × Nat × Nat × Int × List Int) → (Nat × Int) → V := fun a r => .tup [.fl .f32 r.1, .it .i64 r.2]
noncomputable def spec_FillOf.c : List V → Hp → T V := cdQ spec_FillOf.cd (fun a => .leaf (spec_FillOf.enc a (spec_FillOf a.1 a.2.1 a.2.2.1 a.2.2.2.1 a.2.2.2.2.1 a.2.2.2.2.2.1 a.2.2.2.2.2.2)))
theorem spec_FillOf.run (a : Int × Nat × Nat × Nat × Nat × Int × List Int) : runF spec_FillOf.C Tryz.f10.results.toList spec_FillOf.b (spec_FillOf.cd.enc a).1 (spec_FillOf.cd.enc a).2 = (spec_FillOf.tr a).map fun r => (spec_FillOf.enc a r, (spec_FillOf.cd.enc a).2) := by kernel_rfl
theorem spec_FillOf.cok : OKq Tryz.prog 10 spec_FillOf.c := con_q' spec_FillOf.cd spec_FillOf.hC Tryz.func10 (by kernel_rfl) (by kernel_rfl) (by kernel_rfl) spec_FillOf.lp (fun a => by kernel_rfl) spec_FillOf.run (Tells.val (tree := spec_FillOf.tr) fun a => by kernel_rfl)
/-! ### impl_atLeast0 -/
noncomputable def impl_atLeast0.b : Code := bodyOf Tryz.f38
noncomputable def impl_atLeast0.C : Ctx := { ty := tys, fn := [], lp := [], n := 6, k := 0 }
theorem impl_atLeast0.hC : CtxOK Tryz.prog impl_atLeast0.C := CtxOK.of mo tys_ok FnsOK.nil
theorem impl_atLeast0.lp : LpOK Tryz.prog impl_atLeast0.C impl_atLeast0.b := (LpOK.nil (by kernel_rfl))
noncomputable def impl_atLeast0.t (x0 : Nat) : T Nat :=
  .br (fgt .f32 x0 0)
  (.leaf x0)
  (.leaf 0)
noncomputable def impl_atLeast0 (x0 : Nat) : Nat := (impl_atLeast0.t x0).val
def impl_atLeast0.cd : Cd Nat (List V × Hp) := Cd.iso (Cd.pair (Cd.cons (Cd.fl .f32) Cd.nil) Cd.nil) (fun a => a.1.1) (fun a => ((a, ()), ())) (fun _ => rfl)
noncomputable def impl_atLeast0.tr (a : Nat) : T Nat := impl_atLeast0.t a
def impl_atLeast0.enc : Nat → Nat → V := fun a r => .fl .f32 r
noncomputable def impl_atLeast0.c : List V → Hp → T V := cdQ impl_atLeast0.cd (fun a => .leaf (impl_atLeast0.enc a (impl_atLeast0 a)))
theorem impl_atLeast0.run (a : Nat) : runF impl_atLeast0.C Tryz.f38.results.toList impl_atLeast0.b (impl_atLeast0.cd.enc a).1 (impl_atLeast0.cd.enc a).2 = (impl_atLeast0.tr a).map fun r => (impl_atLeast0.enc a r, (impl_atLeast0.cd.enc a).2) := by kernel_rfl
theorem impl_atLeast0.cok : OKq Tryz.prog 38 impl_atLeast0.c := con_q' impl_atLeast0.cd impl_atLeast0.hC Tryz.func38 (by kernel_rfl) (by kernel_rfl) (by kernel_rfl) impl_atLeast0.lp (fun a => by kernel_rfl) impl_atLeast0.run (Tells.val (tree := impl_atLeast0.tr) fun a => by kernel_rfl)
/-! ### impl_SpilledBy -/
noncomputable def impl_SpilledBy.b : Code := bodyOf Tryz.f11
noncomputable def impl_SpilledBy.C : Ctx := { ty := tys, fn := [(34, .q impl_Mill_fill.c), (38, .q impl_atLeast0.c), (35, .q impl_millCode.c), (33, .q impl_orZero.c)], lp := [], n := 29, k := 4 }
theorem impl_SpilledBy.hC : CtxOK Tryz.prog impl_SpilledBy.C := CtxOK.of mo tys_ok (FnsOK.cons impl_Mill_fill.cok (FnsOK.cons impl_atLeast0.cok (FnsOK.cons impl_millCode.cok (FnsOK.cons impl_orZero.cok FnsOK.nil))))
theorem impl_SpilledBy.lp : LpOK Tryz.prog impl_SpilledBy.C impl_SpilledBy.b := (LpOK.nil (by kernel_rfl))
noncomputable def impl_SpilledBy.t (x0 : Int) (x1 : Nat) (x2 : Nat) (x3 : Nat) (x4 : Nat) (x5 : Int) (x6 : List Int) : T (Nat × Int) :=
  .leaf ((impl_orZero (impl_atLeast0 (fsub .f32 x3 (fmul .f32 (impl_Mill_fill x3 x4 x0 x1 x2) (fmul .f32 x4 (fofint .f32 x0))))) (impl_millCode x0 x1 x2 x3 x4)).1, (impl_orZero (impl_atLeast0 (fsub .f32 x3 (fmul .f32 (impl_Mill_fill x3 x4 x0 x1 x2) (fmul .f32 x4 (fofint .f32 x0))))) (impl_millCode x0 x1 x2 x3 x4)).2)
noncomputable def impl_SpilledBy (x0 : Int) (x1 : Nat) (x2 : Nat) (x3 : Nat) (x4 : Nat) (x5 : Int) (x6 : List Int) : Nat × Int := (impl_SpilledBy.t x0 x1 x2 x3 x4 x5 x6).val
def impl_SpilledBy.cd : Cd (Int × Nat × Nat × Nat × Nat × Int × List Int) (List V × Hp) := Cd.iso (Cd.pair (Cd.cons (Cd.agg (Cd.cons (Cd.it .i16) (Cd.cons (Cd.fl .f32) (Cd.cons (Cd.fl .f32) Cd.nil)))) (Cd.cons (Cd.fl .f32) (Cd.cons (Cd.fl .f32) Cd.nil))) (Cd.cons (Cd.ro 0 2 (Cd.vs (Cd.cons (Cd.it .i64) Cd.nil))) (Cd.cons (Cd.ro 0 3 (Cd.vs (Cd.cons Cd.er Cd.nil))) (Cd.cons (Cd.ro 0 4 (Cd.vs (Cd.cons Cd.er Cd.nil))) (Cd.cons (Cd.ro 21 5 (Cd.is .u64)) Cd.nil))))) (fun a => (a.1.1.1, a.1.1.2.1, a.1.1.2.2.1, a.1.2.1, a.1.2.2.1, a.2.1.1, a.2.2.2.2.1)) (fun a => (((a.1, (a.2.1, (a.2.2.1, ()))), (a.2.2.2.1, (a.2.2.2.2.1, ()))), ((a.2.2.2.2.2.1, ()), (((), ()), (((), ()), (a.2.2.2.2.2.2, ())))))) (fun _ => rfl)
noncomputable def impl_SpilledBy.tr (a : Int × Nat × Nat × Nat × Nat × Int × List Int) : T (Nat × Int) := impl_SpilledBy.t a.1 a.2.1 a.2.2.1 a.2.2.2.1 a.2.2.2.2.1 a.2.2.2.2.2.1 a.2.2.2.2.2.2
def impl_SpilledBy.enc : (Int × Nat × Nat × Nat × Nat × Int × List Int) → (Nat × Int) → V := fun a r => .tup [.fl .f32 r.1, .it .i64 r.2]
noncomputable def impl_SpilledBy.c : List V → Hp → T V := cdQ impl_SpilledBy.cd (fun a => .leaf (impl_SpilledBy.enc a (impl_SpilledBy a.1 a.2.1 a.2.2.1 a.2.2.2.1 a.2.2.2.2.1 a.2.2.2.2.2.1 a.2.2.2.2.2.2)))
theorem impl_SpilledBy.run (a : Int × Nat × Nat × Nat × Nat × Int × List Int) : runF impl_SpilledBy.C Tryz.f11.results.toList impl_SpilledBy.b (impl_SpilledBy.cd.enc a).1 (impl_SpilledBy.cd.enc a).2 = (impl_SpilledBy.tr a).map fun r => (impl_SpilledBy.enc a r, (impl_SpilledBy.cd.enc a).2) := by kernel_rfl
theorem impl_SpilledBy.cok : OKq Tryz.prog 11 impl_SpilledBy.c := con_q' impl_SpilledBy.cd impl_SpilledBy.hC Tryz.func11 (by kernel_rfl) (by kernel_rfl) (by kernel_rfl) impl_SpilledBy.lp (fun a => by kernel_rfl) impl_SpilledBy.run (Tells.val (tree := impl_SpilledBy.tr) fun a => by kernel_rfl)
/-! ### spec_l03Least -/
noncomputable def spec_l03Least.b : Code := bodyOf Tryz.f39
noncomputable def spec_l03Least.C : Ctx := { ty := tys, fn := [], lp := [], n := 6, k := 0 }
theorem spec_l03Least.hC : CtxOK Tryz.prog spec_l03Least.C := CtxOK.of mo tys_ok FnsOK.nil
theorem spec_l03Least.lp : LpOK Tryz.prog spec_l03Least.C spec_l03Least.b := (LpOK.nil (by kernel_rfl))
noncomputable def spec_l03Least.t (x0 : Nat) : T Nat :=
  .br (fgt .f32 x0 0)
  (.leaf x0)
  (.leaf 0)
noncomputable def spec_l03Least (x0 : Nat) : Nat := (spec_l03Least.t x0).val
def spec_l03Least.cd : Cd Nat (List V × Hp) := Cd.iso (Cd.pair (Cd.cons (Cd.fl .f32) Cd.nil) Cd.nil) (fun a => a.1.1) (fun a => ((a, ()), ())) (fun _ => rfl)
noncomputable def spec_l03Least.tr (a : Nat) : T Nat := spec_l03Least.t a
def spec_l03Least.enc : Nat → Nat → V := fun a r => .fl .f32 r
noncomputable def spec_l03Least.c : List V → Hp → T V := cdQ spec_l03Least.cd (fun a => .leaf (spec_l03Least.enc a (spec_l03Least a)))
theorem spec_l03Least.run (a : Nat) : runF spec_l03Least.C Tryz.f39.results.toList spec_l03Least.b (spec_l03Least.cd.enc a).1 (spec_l03Least.cd.enc a).2 = (spec_l03Least.tr a).map fun r => (spec_l03Least.enc a r, (spec_l03Least.cd.enc a).2) := by kernel_rfl
theorem spec_l03Least.cok : OKq Tryz.prog 39 spec_l03Least.c := con_q' spec_l03Least.cd spec_l03Least.hC Tryz.func39 (by kernel_rfl) (by kernel_rfl) (by kernel_rfl) spec_l03Least.lp (fun a => by kernel_rfl) spec_l03Least.run (Tells.val (tree := spec_l03Least.tr) fun a => by kernel_rfl)
/-! ### spec_SpilledBy -/
noncomputable def spec_SpilledBy.b : Code := bodyOf Tryz.f12
noncomputable def spec_SpilledBy.C : Ctx := { ty := tys, fn := [(36, .q spec_l03Asked.c), (37, .q spec_l03Fill.c), (39, .q spec_l03Least.c)], lp := [], n := 31, k := 4 }
theorem spec_SpilledBy.hC : CtxOK Tryz.prog spec_SpilledBy.C := CtxOK.of mo tys_ok (FnsOK.cons spec_l03Asked.cok (FnsOK.cons spec_l03Fill.cok (FnsOK.cons spec_l03Least.cok FnsOK.nil)))
theorem spec_SpilledBy.lp : LpOK Tryz.prog spec_SpilledBy.C spec_SpilledBy.b := (LpOK.nil (by kernel_rfl))
noncomputable def spec_SpilledBy.t (x0 : Int) (x1 : Nat) (x2 : Nat) (x3 : Nat) (x4 : Nat) (x5 : Int) (x6 : List Int) : T (Nat × Int) :=
  .br ((spec_l03Asked x0 x1 x2 x3 x4) != (0 : Int))
  (.leaf (0, (spec_l03Asked x0 x1 x2 x3 x4)))
  (.leaf ((spec_l03Least (fsub .f32 x3 (fmul .f32 (spec_l03Fill x0 x1 x2 x3 x4) (fmul .f32 x4 (fofint .f32 x0))))), (0 : Int)))
noncomputable def spec_SpilledBy (x0 : Int) (x1 : Nat) (x2 : Nat) (x3 : Nat) (x4 : Nat) (x5 : Int) (x6 : List Int) : Nat × Int := (spec_SpilledBy.t x0 x1 x2 x3 x4 x5 x6).val
def spec_SpilledBy.cd : Cd (Int × Nat × Nat × Nat × Nat × Int × List Int) (List V × Hp) := Cd.iso (Cd.pair (Cd.cons (Cd.agg (Cd.cons (Cd.it .i16) (Cd.cons (Cd.fl .f32) (Cd.cons (Cd.fl .f32) Cd.nil)))) (Cd.cons (Cd.fl .f32) (Cd.cons (Cd.fl .f32) Cd.nil))) (Cd.cons (Cd.ro 0 2 (Cd.vs (Cd.cons (Cd.it .i64) Cd.nil))) (Cd.cons (Cd.ro 0 3 (Cd.vs (Cd.cons Cd.er Cd.nil))) (Cd.cons (Cd.ro 0 4 (Cd.vs (Cd.cons Cd.er Cd.nil))) (Cd.cons (Cd.ro 21 5 (Cd.is .u64)) Cd.nil))))) (fun a => (a.1.1.1, a.1.1.2.1, a.1.1.2.2.1, a.1.2.1, a.1.2.2.1, a.2.1.1, a.2.2.2.2.1)) (fun a => (((a.1, (a.2.1, (a.2.2.1, ()))), (a.2.2.2.1, (a.2.2.2.2.1, ()))), ((a.2.2.2.2.2.1, ()), (((), ()), (((), ()), (a.2.2.2.2.2.2, ())))))) (fun _ => rfl)
noncomputable def spec_SpilledBy.tr (a : Int × Nat × Nat × Nat × Nat × Int × List Int) : T (Nat × Int) := spec_SpilledBy.t a.1 a.2.1 a.2.2.1 a.2.2.2.1 a.2.2.2.2.1 a.2.2.2.2.2.1 a.2.2.2.2.2.2
def spec_SpilledBy.enc : (Int × Nat × Nat × Nat × Nat × Int × List Int) → (Nat × Int) → V := fun a r => .tup [.fl .f32 r.1, .it .i64 r.2]
noncomputable def spec_SpilledBy.c : List V → Hp → T V := cdQ spec_SpilledBy.cd (fun a => .leaf (spec_SpilledBy.enc a (spec_SpilledBy a.1 a.2.1 a.2.2.1 a.2.2.2.1 a.2.2.2.2.1 a.2.2.2.2.2.1 a.2.2.2.2.2.2)))
theorem spec_SpilledBy.run (a : Int × Nat × Nat × Nat × Nat × Int × List Int) : runF spec_SpilledBy.C Tryz.f12.results.toList spec_SpilledBy.b (spec_SpilledBy.cd.enc a).1 (spec_SpilledBy.cd.enc a).2 = (spec_SpilledBy.tr a).map fun r => (spec_SpilledBy.enc a r, (spec_SpilledBy.cd.enc a).2) := by kernel_rfl
theorem spec_SpilledBy.cok : OKq Tryz.prog 12 spec_SpilledBy.c := con_q' spec_SpilledBy.cd spec_SpilledBy.hC Tryz.func12 (by kernel_rfl) (by kernel_rfl) (by kernel_rfl) spec_SpilledBy.lp (fun a => by kernel_rfl) spec_SpilledBy.run (Tells.val (tree := spec_SpilledBy.tr) fun a => by kernel_rfl)
/-! ### impl_Mill_torque -/
noncomputable def impl_Mill_torque.b : Code := bodyOf Tryz.f40
noncomputable def impl_Mill_torque.C : Ctx := { ty := tys, fn := [(34, .q impl_Mill_fill.c)], lp := [], n := 27, k := 1 }
theorem impl_Mill_torque.hC : CtxOK Tryz.prog impl_Mill_torque.C := CtxOK.of mo tys_ok (FnsOK.cons impl_Mill_fill.cok FnsOK.nil)
theorem impl_Mill_torque.lp : LpOK Tryz.prog impl_Mill_torque.C impl_Mill_torque.b := (LpOK.nil (by kernel_rfl))
noncomputable def impl_Mill_torque.t (x0 : Nat) (x1 : Nat) (x2 : Int) (x3 : Nat) (x4 : Nat) : T Nat :=
  .leaf (fmul .f32 (fmul .f32 (fmul .f32 (fmul .f32 (impl_Mill_fill x0 x1 x2 x3 x4) 1092419584) (fofint .f32 (IntKind.wrap .i16 (Int.tdiv x2 (2 : Int))))) x4) 1059061760)
noncomputable def impl_Mill_torque (x0 : Nat) (x1 : Nat) (x2 : Int) (x3 : Nat) (x4 : Nat) : Nat := (impl_Mill_torque.t x0 x1 x2 x3 x4).val
def impl_Mill_torque.cd : Cd (Nat × Nat × Int × Nat × Nat) (List V × Hp) := Cd.iso (Cd.pair (Cd.cons (Cd.pt 0 (Cd.natc 0)) (Cd.cons (Cd.fl .f32) (Cd.cons (Cd.fl .f32) Cd.nil))) (Cd.cons (Cd.rw 27 3 (Cd.vs (Cd.cons (Cd.it .i16) (Cd.cons (Cd.fl .f32) (Cd.cons (Cd.fl .f32) Cd.nil))))) Cd.nil)) (fun a => (a.1.2.1, a.1.2.2.1, a.2.1.1, a.2.1.2.1, a.2.1.2.2.1)) (fun a => (((), (a.1, (a.2.1, ()))), ((a.2.2.1, (a.2.2.2.1, (a.2.2.2.2, ()))), ()))) (fun _ => rfl)
noncomputable def impl_Mill_torque.tr (a : Nat × Nat × Int × Nat × Nat) : T Nat := impl_Mill_torque.t a.1 a.2.1 a.2.2.1 a.2.2.2.1 a.2.2.2.2
def impl_Mill_torque.enc : (Nat × Nat × Int × Nat × Nat) → Nat → V := fun a r => .fl .f32 r
noncomputable def impl_Mill_torque.c : List V → Hp → T V := cdQ impl_Mill_torque.cd (fun a => .leaf (impl_Mill_torque.enc a (impl_Mill_torque a.1 a.2.1 a.2.2.1 a.2.2.2.1 a.2.2.2.2)))
theorem impl_Mill_torque.run (a : Nat × Nat × Int × Nat × Nat) : runF impl_Mill_torque.C Tryz.f40.results.toList impl_Mill_torque.b (impl_Mill_torque.cd.enc a).1 (impl_Mill_torque.cd.enc a).2 = (impl_Mill_torque.tr a).map fun r => (impl_Mill_torque.enc a r, (impl_Mill_torque.cd.enc a).2) := by kernel_rfl
theorem impl_Mill_torque.cok : OKq Tryz.prog 40 impl_Mill_torque.c := con_q' impl_Mill_torque.cd impl_Mill_torque.hC Tryz.func40 (by kernel_rfl) (by kernel_rfl) (by kernel_rfl) impl_Mill_torque.lp (fun a => by kernel_rfl) impl_Mill_torque.run (Tells.val (tree := impl_Mill_torque.tr) fun a => by kernel_rfl)
/-! ### impl_TorqueFrom -/
noncomputable def impl_TorqueFrom.b : Code := bodyOf Tryz.f13
noncomputable def impl_TorqueFrom.C : Ctx := { ty := tys, fn := [(40, .q impl_Mill_torque.c), (35, .q impl_millCode.c), (33, .q impl_orZero.c)], lp := [], n := 18, k := 4 }
theorem impl_TorqueFrom.hC : CtxOK Tryz.prog impl_TorqueFrom.C := CtxOK.of mo tys_ok (FnsOK.cons impl_Mill_torque.cok (FnsOK.cons impl_millCode.cok (FnsOK.cons impl_orZero.cok FnsOK.nil)))
theorem impl_TorqueFrom.lp : LpOK Tryz.prog impl_TorqueFrom.C impl_TorqueFrom.b := (LpOK.nil (by kernel_rfl))
noncomputable def impl_TorqueFrom.t (x0 : Int) (x1 : Nat) (x2 : Nat) (x3 : Nat) (x4 : Nat) (x5 : Int) (x6 : List Int) : T (Nat × Int) :=
  .leaf ((impl_orZero (impl_Mill_torque x3 x4 x0 x1 x2) (impl_millCode x0 x1 x2 x3 x4)).1, (impl_orZero (impl_Mill_torque x3 x4 x0 x1 x2) (impl_millCode x0 x1 x2 x3 x4)).2)
noncomputable def impl_TorqueFrom (x0 : Int) (x1 : Nat) (x2 : Nat) (x3 : Nat) (x4 : Nat) (x5 : Int) (x6 : List Int) : Nat × Int := (impl_TorqueFrom.t x0 x1 x2 x3 x4 x5 x6).val
def impl_TorqueFrom.cd : Cd (Int × Nat × Nat × Nat × Nat × Int × List Int) (List V × Hp) := Cd.iso (Cd.pair (Cd.cons (Cd.agg (Cd.cons (Cd.it .i16) (Cd.cons (Cd.fl .f32) (Cd.cons (Cd.fl .f32) Cd.nil)))) (Cd.cons (Cd.fl .f32) (Cd.cons (Cd.fl .f32) Cd.nil))) (Cd.cons (Cd.ro 0 2 (Cd.vs (Cd.cons (Cd.it .i64) Cd.nil))) (Cd.cons (Cd.ro 0 3 (Cd.vs (Cd.cons Cd.er Cd.nil))) (Cd.cons (Cd.ro 0 4 (Cd.vs (Cd.cons Cd.er Cd.nil))) (Cd.cons (Cd.ro 21 5 (Cd.is .u64)) Cd.nil))))) (fun a => (a.1.1.1, a.1.1.2.1, a.1.1.2.2.1, a.1.2.1, a.1.2.2.1, a.2.1.1, a.2.2.2.2.1)) (fun a => (((a.1, (a.2.1, (a.2.2.1, ()))), (a.2.2.2.1, (a.2.2.2.2.1, ()))), ((a.2.2.2.2.2.1, ()), (((), ()), (((), ()), (a.2.2.2.2.2.2, ())))))) (fun _ => rfl)
noncomputable def impl_TorqueFrom.tr (a : Int × Nat × Nat × Nat × Nat × Int × List Int) : T (Nat × Int) := impl_TorqueFrom.t a.1 a.2.1 a.2.2.1 a.2.2.2.1 a.2.2.2.2.1 a.2.2.2.2.2.1 a.2.2.2.2.2.2
def impl_TorqueFrom.enc : (Int × Nat × Nat × Nat × Nat × Int × List Int) → (Nat × Int) → V := fun a r => .tup [.fl .f32 r.1, .it .i64 r.2]
noncomputable def impl_TorqueFrom.c : List V → Hp → T V := cdQ impl_TorqueFrom.cd (fun a => .leaf (impl_TorqueFrom.enc a (impl_TorqueFrom a.1 a.2.1 a.2.2.1 a.2.2.2.1 a.2.2.2.2.1 a.2.2.2.2.2.1 a.2.2.2.2.2.2)))
theorem impl_TorqueFrom.run (a : Int × Nat × Nat × Nat × Nat × Int × List Int) : runF impl_TorqueFrom.C Tryz.f13.results.toList impl_TorqueFrom.b (impl_TorqueFrom.cd.enc a).1 (impl_TorqueFrom.cd.enc a).2 = (impl_TorqueFrom.tr a).map fun r => (impl_TorqueFrom.enc a r, (impl_TorqueFrom.cd.enc a).2) := by kernel_rfl
theorem impl_TorqueFrom.cok : OKq Tryz.prog 13 impl_TorqueFrom.c := con_q' impl_TorqueFrom.cd impl_TorqueFrom.hC Tryz.func13 (by kernel_rfl) (by kernel_rfl) (by kernel_rfl) impl_TorqueFrom.lp (fun a => by kernel_rfl) impl_TorqueFrom.run (Tells.val (tree := impl_TorqueFrom.tr) fun a => by kernel_rfl)
/-! ### spec_l03Torque -/
noncomputable def spec_l03Torque.b : Code := bodyOf Tryz.f41
noncomputable def spec_l03Torque.C : Ctx := { ty := tys, fn := [(37, .q spec_l03Fill.c)], lp := [], n := 23, k := 0 }
theorem spec_l03Torque.hC : CtxOK Tryz.prog spec_l03Torque.C := CtxOK.of mo tys_ok (FnsOK.cons spec_l03Fill.cok FnsOK.nil)
theorem spec_l03Torque.lp : LpOK Tryz.prog spec_l03Torque.C spec_l03Torque.b := (LpOK.nil (by kernel_rfl))
noncomputable def spec_l03Torque.t (x0 : Int) (x1 : Nat) (x2 : Nat) (x3 : Nat) (x4 : Nat) : T Nat :=
  .leaf (fmul .f32 (fmul .f32 (fmul .f32 (fmul .f32 (spec_l03Fill x0 x1 x2 x3 x4) 1092419584) (fofint .f32 (IntKind.wrap .i16 (Int.tdiv x0 (2 : Int))))) x2) 1059061760)
noncomputable def spec_l03Torque (x0 : Int) (x1 : Nat) (x2 : Nat) (x3 : Nat) (x4 : Nat) : Nat := (spec_l03Torque.t x0 x1 x2 x3 x4).val
def spec_l03Torque.cd : Cd (Int × Nat × Nat × Nat × Nat) (List V × Hp) := Cd.iso (Cd.pair (Cd.cons (Cd.agg (Cd.cons (Cd.it .i16) (Cd.cons (Cd.fl .f32) (Cd.cons (Cd.fl .f32) Cd.nil)))) (Cd.cons (Cd.fl .f32) (Cd.cons (Cd.fl .f32) Cd.nil))) Cd.nil) (fun a => (a.1.1.1, a.1.1.2.1, a.1.1.2.2.1, a.1.2.1, a.1.2.2.1)) (fun a => (((a.1, (a.2.1, (a.2.2.1, ()))), (a.2.2.2.1, (a.2.2.2.2, ()))), ())) (fun _ => rfl)
noncomputable def spec_l03Torque.tr (a : Int × Nat × Nat × Nat × Nat) : T Nat := spec_l03Torque.t a.1 a.2.1 a.2.2.1 a.2.2.2.1 a.2.2.2.2
def spec_l03Torque.enc : (Int × Nat × Nat × Nat × Nat) → Nat → V := fun a r => .fl .f32 r
noncomputable def spec_l03Torque.c : List V → Hp → T V := cdQ spec_l03Torque.cd (fun a => .leaf (spec_l03Torque.enc a (spec_l03Torque a.1 a.2.1 a.2.2.1 a.2.2.2.1 a.2.2.2.2)))
theorem spec_l03Torque.run (a : Int × Nat × Nat × Nat × Nat) : runF spec_l03Torque.C Tryz.f41.results.toList spec_l03Torque.b (spec_l03Torque.cd.enc a).1 (spec_l03Torque.cd.enc a).2 = (spec_l03Torque.tr a).map fun r => (spec_l03Torque.enc a r, (spec_l03Torque.cd.enc a).2) := by kernel_rfl
theorem spec_l03Torque.cok : OKq Tryz.prog 41 spec_l03Torque.c := con_q' spec_l03Torque.cd spec_l03Torque.hC Tryz.func41 (by kernel_rfl) (by kernel_rfl) (by kernel_rfl) spec_l03Torque.lp (fun a => by kernel_rfl) spec_l03Torque.run (Tells.val (tree := spec_l03Torque.tr) fun a => by kernel_rfl)
/-! ### spec_TorqueFrom -/
noncomputable def spec_TorqueFrom.b : Code := bodyOf Tryz.f14
noncomputable def spec_TorqueFrom.C : Ctx := { ty := tys, fn := [(36, .q spec_l03Asked.c), (41, .q spec_l03Torque.c)], lp := [], n := 20, k := 4 }
theorem spec_TorqueFrom.hC : CtxOK Tryz.prog spec_TorqueFrom.C := CtxOK.of mo tys_ok (FnsOK.cons spec_l03Asked.cok (FnsOK.cons spec_l03Torque.cok FnsOK.nil))
theorem spec_TorqueFrom.lp : LpOK Tryz.prog spec_TorqueFrom.C spec_TorqueFrom.b := (LpOK.nil (by kernel_rfl))
noncomputable def spec_TorqueFrom.t (x0 : Int) (x1 : Nat) (x2 : Nat) (x3 : Nat) (x4 : Nat) (x5 : Int) (x6 : List Int) : T (Nat × Int) :=
  .br ((spec_l03Asked x0 x1 x2 x3 x4) != (0 : Int))
  (.leaf (0, (spec_l03Asked x0 x1 x2 x3 x4)))
  (.leaf ((spec_l03Torque x0 x1 x2 x3 x4), (0 : Int)))
noncomputable def spec_TorqueFrom (x0 : Int) (x1 : Nat) (x2 : Nat) (x3 : Nat) (x4 : Nat) (x5 : Int) (x6 : List Int) : Nat × Int := (spec_TorqueFrom.t x0 x1 x2 x3 x4 x5 x6).val
def spec_TorqueFrom.cd : Cd (Int × Nat × Nat × Nat × Nat × Int × List Int) (List V × Hp) := Cd.iso (Cd.pair (Cd.cons (Cd.agg (Cd.cons (Cd.it .i16) (Cd.cons (Cd.fl .f32) (Cd.cons (Cd.fl .f32) Cd.nil)))) (Cd.cons (Cd.fl .f32) (Cd.cons (Cd.fl .f32) Cd.nil))) (Cd.cons (Cd.ro 0 2 (Cd.vs (Cd.cons (Cd.it .i64) Cd.nil))) (Cd.cons (Cd.ro 0 3 (Cd.vs (Cd.cons Cd.er Cd.nil))) (Cd.cons (Cd.ro 0 4 (Cd.vs (Cd.cons Cd.er Cd.nil))) (Cd.cons (Cd.ro 21 5 (Cd.is .u64)) Cd.nil))))) (fun a => (a.1.1.1, a.1.1.2.1, a.1.1.2.2.1, a.1.2.1, a.1.2.2.1, a.2.1.1, a.2.2.2.2.1)) (fun a => (((a.1, (a.2.1, (a.2.2.1, ()))), (a.2.2.2.1, (a.2.2.2.2.1, ()))), ((a.2.2.2.2.2.1, ()), (((), ()), (((), ()), (a.2.2.2.2.2.2, ())))))) (fun _ => rfl)
noncomputable def spec_TorqueFrom.tr (a : Int × Nat × Nat × Nat × Nat × Int × List Int) : T (Nat × Int) := spec_TorqueFrom.t a.1 a.2.1 a.2.2.1 a.2.2.2.1 a.2.2.2.2.1 a.2.2.2.2.2.1 a.2.2.2.2.2.2
def spec_TorqueFrom.enc : (Int × Nat × Nat × Nat × Nat × Int × List Int) → (Nat × Int) → V := fun a r => .tup [.fl .f32 r.1, .it .i64 r.2]
noncomputable def spec_TorqueFrom.c : List V → Hp → T V := cdQ spec_TorqueFrom.cd (fun a => .leaf (spec_TorqueFrom.enc a (spec_TorqueFrom a.1 a.2.1 a.2.2.1 a.2.2.2.1 a.2.2.2.2.1 a.2.2.2.2.2.1 a.2.2.2.2.2.2)))
theorem spec_TorqueFrom.run (a : Int × Nat × Nat × Nat × Nat × Int × List Int) : runF spec_TorqueFrom.C Tryz.f14.results.toList spec_TorqueFrom.b (spec_TorqueFrom.cd.enc a).1 (spec_TorqueFrom.cd.enc a).2 = (spec_TorqueFrom.tr a).map fun r => (spec_TorqueFrom.enc a r, (spec_TorqueFrom.cd.enc a).2) := by kernel_rfl
theorem spec_TorqueFrom.cok : OKq Tryz.prog 14 spec_TorqueFrom.c := con_q' spec_TorqueFrom.cd spec_TorqueFrom.hC Tryz.func14 (by kernel_rfl) (by kernel_rfl) (by kernel_rfl) spec_TorqueFrom.lp (fun a => by kernel_rfl) spec_TorqueFrom.run (Tells.val (tree := spec_TorqueFrom.tr) fun a => by kernel_rfl)
/-! ### spec_l01Same -/
noncomputable def spec_l01Same.b : Code := bodyOf Tryz.f42
noncomputable def spec_l01Same.C : Ctx := { ty := tys, fn := [(66, .q f32bitsC)], lp := [], n := 26, k := 0 }
theorem spec_l01Same.hC : CtxOK Tryz.prog spec_l01Same.C := CtxOK.of mo tys_ok (FnsOK.cons (f32bits_ok Tryz.func66 (by kernel_rfl) (by kernel_rfl) (by kernel_rfl) (by kernel_rfl)) FnsOK.nil)
theorem spec_l01Same.lp : LpOK Tryz.prog spec_l01Same.C spec_l01Same.b := (LpOK.nil (by kernel_rfl))
noncomputable def spec_l01Same.t (x0 : Nat) (x1 : Nat) : T Bool :=
  .br (fne .f32 x0 x0)
  (.br (fne .f32 x0 x0)
   (.leaf (fne .f32 x1 x1))
   (.leaf false))
  (.br (fne .f32 x1 x1)
   (.br (fne .f32 x0 x0)
    (.leaf (fne .f32 x1 x1))
    (.leaf false))
   (.br (isNaN .f32 x0)
    (.br (isNaN .f32 x1)
     .bad
     (.br (isNaN .f32 (Int.toNat ((x1 : Nat) : Int)))
      .bad
      (.leaf false)))
    (.br (isNaN .f32 x1)
     (.br (isNaN .f32 (Int.toNat ((x0 : Nat) : Int)))
      .bad
      (.leaf false))
     (.leaf (((x0 : Nat) : Int) == ((x1 : Nat) : Int))))))
noncomputable def spec_l01Same (x0 : Nat) (x1 : Nat) : Bool := (spec_l01Same.t x0 x1).val
noncomputable def spec_l01Same.ok (x0 : Nat) (x1 : Nat) : Bool := (spec_l01Same.t x0 x1).ok
def spec_l01Same.cd : Cd (Nat × Nat) (List V × Hp) := Cd.iso (Cd.pair (Cd.cons (Cd.fl .f32) (Cd.cons (Cd.fl .f32) Cd.nil)) Cd.nil) (fun a => (a.1.1, a.1.2.1)) (fun a => ((a.1, (a.2, ())), ())) (fun _ => rfl)
noncomputable def spec_l01Same.tr (a : Nat × Nat) : T Bool := spec_l01Same.t a.1 a.2
def spec_l01Same.enc : (Nat × Nat) → Bool → V := fun a r => .bo r
noncomputable def spec_l01Same.c : List V → Hp → T V := cdQ spec_l01Same.cd (fun a => .br (spec_l01Same.ok a.1 a.2) (.leaf (spec_l01Same.enc a (spec_l01Same a.1 a.2))) .bad)
theorem spec_l01Same.run (a : Nat × Nat) : runF spec_l01Same.C Tryz.f42.results.toList spec_l01Same.b (spec_l01Same.cd.enc a).1 (spec_l01Same.cd.enc a).2 = (spec_l01Same.tr a).map fun r => (spec_l01Same.enc a r, (spec_l01Same.cd.enc a).2) := by kernel_rfl
theorem spec_l01Same.cok : OKq Tryz.prog 42 spec_l01Same.c := con_q' spec_l01Same.cd spec_l01Same.hC Tryz.func42 (by kernel_rfl) (by kernel_rfl) (by kernel_rfl) spec_l01Same.lp (fun a => by kernel_rfl) spec_l01Same.run (Tells.ok (tree := spec_l01Same.tr))
/-! ### spec_SameMill -/
noncomputable def spec_SameMill.b : Code := bodyOf Tryz.f15
noncomputable def spec_SameMill.C : Ctx := { ty := tys, fn := [(42, .q spec_l01Same.c)], lp := [], n := 24, k := 4 }
theorem spec_SameMill.hC : CtxOK Tryz.prog spec_SameMill.C := CtxOK.of mo tys_ok (FnsOK.cons spec_l01Same.cok FnsOK.nil)
theorem spec_SameMill.lp : LpOK Tryz.prog spec_SameMill.C spec_SameMill.b := (LpOK.nil (by kernel_rfl))
noncomputable def spec_SameMill.t (x0 : Int) (x1 : Nat) (x2 : Nat) (x3 : Int) (x4 : Nat) (x5 : Nat) (x6 : Int) (x7 : List Int) : T Bool :=
  .br (x0 == x3)
  (.br (spec_l01Same.ok x1 x4)
   (.br (spec_l01Same x1 x4)
    (.br (spec_l01Same.ok x2 x5)
     (.leaf (spec_l01Same x2 x5))
     .bad)
    (.leaf false))
   .bad)
  (.leaf false)
noncomputable def spec_SameMill (x0 : Int) (x1 : Nat) (x2 : Nat) (x3 : Int) (x4 : Nat) (x5 : Nat) (x6 : Int) (x7 : List Int) : Bool := (spec_SameMill.t x0 x1 x2 x3 x4 x5 x6 x7).val
noncomputable def spec_SameMill.ok (x0 : Int) (x1 : Nat) (x2 : Nat) (x3 : Int) (x4 : Nat) (x5 : Nat) (x6 : Int) (x7 : List Int) : Bool := (spec_SameMill.t x0 x1 x2 x3 x4 x5 x6 x7).ok
def spec_SameMill.cd : Cd (Int × Nat × Nat × Int × Nat × Nat × Int × List Int) (List V × Hp) := Cd.iso (Cd.pair (Cd.cons (Cd.agg (Cd.cons (Cd.it .i16) (Cd.cons (Cd.fl .f32) (Cd.cons (Cd.fl .f32) Cd.nil)))) (Cd.cons (Cd.agg (Cd.cons (Cd.it .i16) (Cd.cons (Cd.fl .f32) (Cd.cons (Cd.fl .f32) Cd.nil)))) Cd.nil)) (Cd.cons (Cd.ro 0 2 (Cd.vs (Cd.cons (Cd.it .i64) Cd.nil))) (Cd.cons (Cd.ro 0 3 (Cd.vs (Cd.cons Cd.er Cd.nil))) (Cd.cons (Cd.ro 0 4 (Cd.vs (Cd.cons Cd.er Cd.nil))) (Cd.cons (Cd.ro 21 5 (Cd.is .u64)) Cd.nil))))) (fun a => (a.1.1.1, a.1.1.2.1, a.1.1.2.2.1, a.1.2.1.1, a.1.2.1.2.1, a.1.2.1.2.2.1, a.2.1.1, a.2.2.2.2.1)) (fun a => (((a.1, (a.2.1, (a.2.2.1, ()))), ((a.2.2.2.1, (a.2.2.2.2.1, (a.2.2.2.2.2.1, ()))), ())), ((a.2.2.2.2.2.2.1, ()), (((), ()), (((), ()), (a.2.2.2.2.2.2.2, ())))))) (fun _ => rfl)
noncomputable def spec_SameMill.tr (a : Int × Nat × Nat × Int × Nat × Nat × Int × List Int) : T Bool := spec_SameMill.t a.1 a.2.1 a.2.2.1 a.2.2.2.1 a.2.2.2.2.1 a.2.2.2.2.2.1 a.2.2.2.2.2.2.1 a.2.2.2.2.2.2.2
def spec_SameMill.enc : (Int × Nat × Nat × Int × Nat × Nat × Int × List Int) → Bool → V := fun a r => .bo r
noncomputable def spec_SameMill.c : List V → Hp → T V := cdQ spec_SameMill.cd (fun a => .br (spec_SameMill.ok a.1 a.2.1 a.2.2.1 a.2.2.2.1 a.2.2.2.2.1 a.2.2.2.2.2.1 a.2.2.2.2.2.2.1 a.2.2.2.2.2.2.2) (.leaf (spec_SameMill.enc a (spec_SameMill a.1 a.2.1 a.2.2.1 a.2.2.2.1 a.2.2.2.2.1 a.2.2.2.2.2.1 a.2.2.2.2.2.2.1 a.2.2.2.2.2.2.2))) .bad)
theorem spec_SameMill.run (a : Int × Nat × Nat × Int × Nat × Nat × Int × List Int) : runF spec_SameMill.C Tryz.f15.results.toList spec_SameMill.b (spec_SameMill.cd.enc a).1 (spec_SameMill.cd.enc a).2 = (spec_SameMill.tr a).map fun r => (spec_SameMill.enc a r, (spec_SameMill.cd.enc a).2) := by kernel_rfl
theorem spec_SameMill.cok : OKq Tryz.prog 15 spec_SameMill.c := con_q' spec_SameMill.cd spec_SameMill.hC Tryz.func15 (by kernel_rfl) (by kernel_rfl) (by kernel_rfl) spec_SameMill.lp (fun a => by kernel_rfl) spec_SameMill.run (Tells.ok (tree := spec_SameMill.tr))
/-! ### impl_ValidMill_w1 -/
noncomputable def impl_ValidMill_w1.b : Code := bodyOf Tryz.f16
noncomputable def impl_ValidMill_w1.C : Ctx := { ty := tys, fn := [(43, .q impl_within.c), (22, .q impl_IsLength.c)], lp := [], n := 17, k := 4 }
theorem impl_ValidMill_w1.hC : CtxOK Tryz.prog impl_ValidMill_w1.C := CtxOK.of mo tys_ok (FnsOK.cons impl_within.cok (FnsOK.cons impl_IsLength.cok FnsOK.nil))
theorem impl_ValidMill_w1.lp : LpOK Tryz.prog impl_ValidMill_w1.C impl_ValidMill_w1.b := (LpOK.nil (by kernel_rfl))
noncomputable def impl_ValidMill_w1.t (x0 : Int) (x1 : Nat) (x2 : Nat) (x3 : Int) (x4 : List Int) : T Bool :=
  .br (impl_within (IntKind.wrap .i64 x0) (4 : Int) (48 : Int))
  (.br (impl_IsLength x1)
   (.leaf (impl_IsLength x2))
   (.leaf false))
  (.leaf false)
noncomputable def impl_ValidMill_w1 (x0 : Int) (x1 : Nat) (x2 : Nat) (x3 : Int) (x4 : List Int) : Bool := (impl_ValidMill_w1.t x0 x1 x2 x3 x4).val
def impl_ValidMill_w1.cd : Cd (Int × Nat × Nat × Int × List Int) (List V × Hp) := Cd.iso (Cd.pair (Cd.cons (Cd.agg (Cd.cons (Cd.it .i16) (Cd.cons (Cd.fl .f32) (Cd.cons (Cd.fl .f32) Cd.nil)))) Cd.nil) (Cd.cons (Cd.ro 0 2 (Cd.vs (Cd.cons (Cd.it .i64) Cd.nil))) (Cd.cons (Cd.ro 0 3 (Cd.vs (Cd.cons Cd.er Cd.nil))) (Cd.cons (Cd.ro 0 4 (Cd.vs (Cd.cons Cd.er Cd.nil))) (Cd.cons (Cd.ro 21 5 (Cd.is .u64)) Cd.nil))))) (fun a => (a.1.1.1, a.1.1.2.1, a.1.1.2.2.1, a.2.1.1, a.2.2.2.2.1)) (fun a => (((a.1, (a.2.1, (a.2.2.1, ()))), ()), ((a.2.2.2.1, ()), (((), ()), (((), ()), (a.2.2.2.2, ())))))) (fun _ => rfl)
noncomputable def impl_ValidMill_w1.tr (a : Int × Nat × Nat × Int × List Int) : T Bool := impl_ValidMill_w1.t a.1 a.2.1 a.2.2.1 a.2.2.2.1 a.2.2.2.2
def impl_ValidMill_w1.enc : (Int × Nat × Nat × Int × List Int) → Bool → V := fun a r => .bo r
noncomputable def impl_ValidMill_w1.c : List V → Hp → T V := cdQ impl_ValidMill_w1.cd (fun a => .leaf (impl_ValidMill_w1.enc a (impl_ValidMill_w1 a.1 a.2.1 a.2.2.1 a.2.2.2.1 a.2.2.2.2)))
theorem impl_ValidMill_w1.run (a : Int × Nat × Nat × Int × List Int) : runF impl_ValidMill_w1.C Tryz.f16.results.toList impl_ValidMill_w1.b (impl_ValidMill_w1.cd.enc a).1 (impl_ValidMill_w1.cd.enc a).2 = (impl_ValidMill_w1.tr a).map fun r => (impl_ValidMill_w1.enc a r, (impl_ValidMill_w1.cd.enc a).2) := by kernel_rfl
theorem impl_ValidMill_w1.cok : OKq Tryz.prog 16 impl_ValidMill_w1.c := con_q' impl_ValidMill_w1.cd impl_ValidMill_w1.hC Tryz.func16 (by kernel_rfl) (by kernel_rfl) (by kernel_rfl) impl_ValidMill_w1.lp (fun a => by kernel_rfl) impl_ValidMill_w1.run (Tells.val (tree := impl_ValidMill_w1.tr) fun a => by kernel_rfl)
/-! ### spec_SameNumber -/
noncomputable def spec_SameNumber.b : Code := bodyOf Tryz.f17
noncomputable def spec_SameNumber.C : Ctx := { ty := tys, fn := [(42, .q spec_l01Same.c)], lp := [], n := 8, k := 4 }
theorem spec_SameNumber.hC : CtxOK Tryz.prog spec_SameNumber.C := CtxOK.of mo tys_ok (FnsOK.cons spec_l01Same.cok FnsOK.nil)
theorem spec_SameNumber.lp : LpOK Tryz.prog spec_SameNumber.C spec_SameNumber.b := (LpOK.nil (by kernel_rfl))
noncomputable def spec_SameNumber.t (x0 : Nat) (x1 : Nat) (x2 : Int) (x3 : List Int) : T Bool :=
  .br (spec_l01Same.ok x0 x1)
  (.leaf (spec_l01Same x0 x1))
  .bad
noncomputable def spec_SameNumber (x0 : Nat) (x1 : Nat) (x2 : Int) (x3 : List Int) : Bool := (spec_SameNumber.t x0 x1 x2 x3).val
noncomputable def spec_SameNumber.ok (x0 : Nat) (x1 : Nat) (x2 : Int) (x3 : List Int) : Bool := (spec_SameNumber.t x0 x1 x2 x3).ok
def spec_SameNumber.cd : Cd (Nat × Nat × Int × List Int) (List V × Hp) := Cd.iso (Cd.pair (Cd.cons (Cd.fl .f32) (Cd.cons (Cd.fl .f32) Cd.nil)) (Cd.cons (Cd.ro 0 2 (Cd.vs (Cd.cons (Cd.it .i64) Cd.nil))) (Cd.cons (Cd.ro 0 3 (Cd.vs (Cd.cons Cd.er Cd.nil))) (Cd.cons (Cd.ro 0 4 (Cd.vs (Cd.cons Cd.er Cd.nil))) (Cd.cons (Cd.ro 21 5 (Cd.is .u64)) Cd.nil))))) (fun a => (a.1.1, a.1.2.1, a.2.1.1, a.2.2.2.2.1)) (fun a => ((a.1, (a.2.1, ())), ((a.2.2.1, ()), (((), ()), (((), ()), (a.2.2.2, ())))))) (fun _ => rfl)
noncomputable def spec_SameNumber.tr (a : Nat × Nat × Int × List Int) : T Bool := spec_SameNumber.t a.1 a.2.1 a.2.2.1 a.2.2.2
def spec_SameNumber.enc : (Nat × Nat × Int × List Int) → Bool → V := fun a r => .bo r
noncomputable def spec_SameNumber.c : List V → Hp → T V := cdQ spec_SameNumber.cd (fun a => .br (spec_SameNumber.ok a.1 a.2.1 a.2.2.1 a.2.2.2) (.leaf (spec_SameNumber.enc a (spec_SameNumber a.1 a.2.1 a.2.2.1 a.2.2.2))) .bad)
theorem spec_SameNumber.run (a : Nat × Nat × Int × List Int) : runF spec_SameNumber.C Tryz.f17.results.toList spec_SameNumber.b (spec_SameNumber.cd.enc a).1 (spec_SameNumber.cd.enc a).2 = (spec_SameNumber.tr a).map fun r => (spec_SameNumber.enc a r, (spec_SameNumber.cd.enc a).2) := by kernel_rfl
theorem spec_SameNumber.cok : OKq Tryz.prog 17 spec_SameNumber.c := con_q' spec_SameNumber.cd spec_SameNumber.hC Tryz.func17 (by kernel_rfl) (by kernel_rfl) (by kernel_rfl) spec_SameNumber.lp (fun a => by kernel_rfl) spec_SameNumber.run (Tells.ok (tree := spec_SameNumber.tr))
/-! ### math_Sqrt -/
noncomputable def math_Sqrt.b : Code := bodyOf Tryz.f67
noncomputable def math_Sqrt.C : Ctx := { ty := tys, fn := [(80, .q sqrtC)], lp := [], n := 5, k := 0 }
theorem math_Sqrt.hC : CtxOK Tryz.prog math_Sqrt.C := CtxOK.of mo tys_ok (FnsOK.cons (sqrt_ok Tryz.func80 (by kernel_rfl) (by kernel_rfl) (by kernel_rfl) (by kernel_rfl)) FnsOK.nil)
theorem math_Sqrt.lp : LpOK Tryz.prog math_Sqrt.C math_Sqrt.b := (LpOK.nil (by kernel_rfl))
noncomputable def math_Sqrt.t (x0 : Nat) : T Nat :=
  .leaf (fsqrt x0)
noncomputable def math_Sqrt (x0 : Nat) : Nat := (math_Sqrt.t x0).val
def math_Sqrt.cd : Cd Nat (List V × Hp) := Cd.iso (Cd.pair (Cd.cons (Cd.fl .f64) Cd.nil) Cd.nil) (fun a => a.1.1) (fun a => ((a, ()), ())) (fun _ => rfl)
noncomputable def math_Sqrt.tr (a : Nat) : T Nat := math_Sqrt.t a
def math_Sqrt.enc : Nat → Nat → V := fun a r => .fl .f64 r
noncomputable def math_Sqrt.c : List V → Hp → T V := cdQ math_Sqrt.cd (fun a => .leaf (math_Sqrt.enc a (math_Sqrt a)))
theorem math_Sqrt.run (a : Nat) : runF math_Sqrt.C Tryz.f67.results.toList math_Sqrt.b (math_Sqrt.cd.enc a).1 (math_Sqrt.cd.enc a).2 = (math_Sqrt.tr a).map fun r => (math_Sqrt.enc a r, (math_Sqrt.cd.enc a).2) := by kernel_rfl
theorem math_Sqrt.cok : OKq Tryz.prog 67 math_Sqrt.c := con_q' math_Sqrt.cd math_Sqrt.hC Tryz.func67 (by kernel_rfl) (by kernel_rfl) (by kernel_rfl) math_Sqrt.lp (fun a => by kernel_rfl) math_Sqrt.run (Tells.val (tree := math_Sqrt.tr) fun a => by kernel_rfl)
/-! ### impl_waterSpeed -/
noncomputable def impl_waterSpeed.b : Code := bodyOf Tryz.f44
noncomputable def impl_waterSpeed.C : Ctx := { ty := tys, fn := [(67, .q math_Sqrt.c)], lp := [], n := 8, k := 0 }
theorem impl_waterSpeed.hC : CtxOK Tryz.prog impl_waterSpeed.C := CtxOK.of mo tys_ok (FnsOK.cons math_Sqrt.cok FnsOK.nil)
theorem impl_waterSpeed.lp : LpOK Tryz.prog impl_waterSpeed.C impl_waterSpeed.b := (LpOK.nil (by kernel_rfl))
noncomputable def impl_waterSpeed.t (x0 : Nat) : T Nat :=
  .br (fcvOpen .f32 .f64 (fmul .f32 1100808192 x0))
  .bad
  (.br (fcvOpen .f64 .f32 (math_Sqrt (fcv .f32 .f64 (fmul .f32 1100808192 x0))))
   .bad
   (.leaf (fcv .f64 .f32 (math_Sqrt (fcv .f32 .f64 (fmul .f32 1100808192 x0))))))
noncomputable def impl_waterSpeed (x0 : Nat) : Nat := (impl_waterSpeed.t x0).val
noncomputable def impl_waterSpeed.ok (x0 : Nat) : Bool := (impl_waterSpeed.t x0).ok
def impl_waterSpeed.cd : Cd Nat (List V × Hp) := Cd.iso (Cd.pair (Cd.cons (Cd.fl .f32) Cd.nil) Cd.nil) (fun a => a.1.1) (fun a => ((a, ()), ())) (fun _ => rfl)
noncomputable def impl_waterSpeed.tr (a : Nat) : T Nat := impl_waterSpeed.t a
def impl_waterSpeed.enc : Nat → Nat → V := fun a r => .fl .f32 r
noncomputable def impl_waterSpeed.c : List V → Hp → T V := cdQ impl_waterSpeed.cd (fun a => .br (impl_waterSpeed.ok a) (.leaf (impl_waterSpeed.enc a (impl_waterSpeed a))) .bad)
theorem impl_waterSpeed.run (a : Nat) : runF impl_waterSpeed.C Tryz.f44.results.toList impl_waterSpeed.b (impl_waterSpeed.cd.enc a).1 (impl_waterSpeed.cd.enc a).2 = (impl_waterSpeed.tr a).map fun r => (impl_waterSpeed.enc a r, (impl_waterSpeed.cd.enc a).2) := by kernel_rfl
theorem impl_waterSpeed.cok : OKq Tryz.prog 44 impl_waterSpeed.c := con_q' impl_waterSpeed.cd impl_waterSpeed.hC Tryz.func44 (by kernel_rfl) (by kernel_rfl) (by kernel_rfl) impl_waterSpeed.lp (fun a => by kernel_rfl) impl_waterSpeed.run (Tells.ok (tree := impl_waterSpeed.tr))
/-! ### impl_WaterSpeed -/
noncomputable def impl_WaterSpeed.b : Code := bodyOf Tryz.f18
noncomputable def impl_WaterSpeed.C : Ctx := { ty := tys, fn := [(22, .q impl_IsLength.c), (44, .q impl_waterSpeed.c)], lp := [], n := 9, k := 4 }
theorem impl_WaterSpeed.hC : CtxOK Tryz.prog impl_WaterSpeed.C := CtxOK.of mo tys_ok (FnsOK.cons impl_IsLength.cok (FnsOK.cons impl_waterSpeed.cok FnsOK.nil))
theorem impl_WaterSpeed.lp : LpOK Tryz.prog impl_WaterSpeed.C impl_WaterSpeed.b := (LpOK.nil (by kernel_rfl))
noncomputable def impl_WaterSpeed.t (x0 : Nat) (x1 : Int) (x2 : List Int) : T (Nat × Int) :=
  .br (!(impl_IsLength x0))
  (.leaf (0, (2 : Int)))
  (.br (impl_waterSpeed.ok x0)
   (.leaf ((impl_waterSpeed x0), (0 : Int)))
   .bad)
noncomputable def impl_WaterSpeed (x0 : Nat) (x1 : Int) (x2 : List Int) : Nat × Int := (impl_WaterSpeed.t x0 x1 x2).val
noncomputable def impl_WaterSpeed.ok (x0 : Nat) (x1 : Int) (x2 : List Int) : Bool := (impl_WaterSpeed.t x0 x1 x2).ok
def impl_WaterSpeed.cd : Cd (Nat × Int × List Int) (List V × Hp) := Cd.iso (Cd.pair (Cd.cons (Cd.fl .f32) Cd.nil) (Cd.cons (Cd.ro 0 2 (Cd.vs (Cd.cons (Cd.it .i64) Cd.nil))) (Cd.cons (Cd.ro 0 3 (Cd.vs (Cd.cons Cd.er Cd.nil))) (Cd.cons (Cd.ro 0 4 (Cd.vs (Cd.cons Cd.er Cd.nil))) (Cd.cons (Cd.ro 21 5 (Cd.is .u64)) Cd.nil))))) (fun a => (a.1.1, a.2.1.1, a.2.2.2.2.1)) (fun a => ((a.1, ()), ((a.2.1, ()), (((), ()), (((), ()), (a.2.2, ())))))) (fun _ => rfl)
noncomputable def impl_WaterSpeed.tr (a : Nat × Int × List Int) : T (Nat × Int) := impl_WaterSpeed.t a.1 a.2.1 a.2.2
def impl_WaterSpeed.enc : (Nat × Int × List Int) → (Nat × Int) → V := fun a r => .tup [.fl .f32 r.1, .it .i64 r.2]
noncomputable def impl_WaterSpeed.c : List V → Hp → T V := cdQ impl_WaterSpeed.cd (fun a => .br (impl_WaterSpeed.ok a.1 a.2.1 a.2.2) (.leaf (impl_WaterSpeed.enc a (impl_WaterSpeed a.1 a.2.1 a.2.2))) .bad)
theorem impl_WaterSpeed.run (a : Nat × Int × List Int) : runF impl_WaterSpeed.C Tryz.f18.results.toList impl_WaterSpeed.b (impl_WaterSpeed.cd.enc a).1 (impl_WaterSpeed.cd.enc a).2 = (impl_WaterSpeed.tr a).map fun r => (impl_WaterSpeed.enc a r, (impl_WaterSpeed.cd.enc a).2) := by kernel_rfl
theorem impl_WaterSpeed.cok : OKq Tryz.prog 18 impl_WaterSpeed.c := con_q' impl_WaterSpeed.cd impl_WaterSpeed.hC Tryz.func18 (by kernel_rfl) (by kernel_rfl) (by kernel_rfl) impl_WaterSpeed.lp (fun a => by kernel_rfl) impl_WaterSpeed.run (Tells.ok (tree := impl_WaterSpeed.tr))
/-! ### spec_l03Root -/
noncomputable def spec_l03Root.b : Code := bodyOf Tryz.f68
noncomputable def spec_l03Root.C : Ctx := { ty := tys, fn := [(67, .q math_Sqrt.c)], lp := [], n := 7, k := 0 }
theorem spec_l03Root.hC : CtxOK Tryz.prog spec_l03Root.C := CtxOK.of mo tys_ok (FnsOK.cons math_Sqrt.cok FnsOK.nil)
theorem spec_l03Root.lp : LpOK Tryz.prog spec_l03Root.C spec_l03Root.b := (LpOK.nil (by kernel_rfl))
noncomputable def spec_l03Root.t (x0 : Nat) : T Nat :=
  .br (fcvOpen .f32 .f64 x0)
  .bad
  (.br (fcvOpen .f64 .f32 (math_Sqrt (fcv .f32 .f64 x0)))
   .bad
   (.leaf (fcv .f64 .f32 (math_Sqrt (fcv .f32 .f64 x0)))))
noncomputable def spec_l03Root (x0 : Nat) : Nat := (spec_l03Root.t x0).val
noncomputable def spec_l03Root.ok (x0 : Nat) : Bool := (spec_l03Root.t x0).ok
def spec_l03Root.cd : Cd Nat (List V × Hp) := Cd.iso (Cd.pair (Cd.cons (Cd.fl .f32) Cd.nil) Cd.nil) (fun a => a.1.1) (fun a => ((a, ()), ())) (fun _ => rfl)
noncomputable def spec_l03Root.tr (a : Nat) : T Nat := spec_l03Root.t a
def spec_l03Root.enc : Nat → Nat → V := fun a r => .fl .f32 r
noncomputable def spec_l03Root.c : List V → Hp → T V := cdQ spec_l03Root.cd (fun a => .br (spec_l03Root.ok a) (.leaf (spec_l03Root.enc a (spec_l03Root a))) .bad)
theorem spec_l03Root.run (a : Nat) : runF spec_l03Root.C Tryz.f68.results.toList spec_l03Root.b (spec_l03Root.cd.enc a).1 (spec_l03Root.cd.enc a).2 = (spec_l03Root.tr a).map fun r => (spec_l03Root.enc a r, (spec_l03Root.cd.enc a).2) := by kernel_rfl
theorem spec_l03Root.cok : OKq Tryz.prog 68 spec_l03Root.c := con_q' spec_l03Root.cd spec_l03Root.hC Tryz.func68 (by kernel_rfl) (by kernel_rfl) (by kernel_rfl) spec_l03Root.lp (fun a => by kernel_rfl) spec_l03Root.run (Tells.ok (tree := spec_l03Root.tr))
/-! ### spec_l03Fast -/
noncomputable def spec_l03Fast.b : Code := bodyOf Tryz.f46
noncomputable def spec_l03Fast.C : Ctx := { ty := tys, fn := [(68, .q spec_l03Root.c)], lp := [], n := 6, k := 0 }
theorem spec_l03Fast.hC : CtxOK Tryz.prog spec_l03Fast.C := CtxOK.of mo tys_ok (FnsOK.cons spec_l03Root.cok FnsOK.nil)
theorem spec_l03Fast.lp : LpOK Tryz.prog spec_l03Fast.C spec_l03Fast.b := (LpOK.nil (by kernel_rfl))
noncomputable def spec_l03Fast.t (x0 : Nat) : T Nat :=
  .br (spec_l03Root.ok (fmul .f32 1100808192 x0))
  (.leaf (spec_l03Root (fmul .f32 1100808192 x0)))
  .bad
noncomputable def spec_l03Fast (x0 : Nat) : Nat := (spec_l03Fast.t x0).val
noncomputable def spec_l03Fast.ok (x0 : Nat) : Bool := (spec_l03Fast.t x0).ok
def spec_l03Fast.cd : Cd Nat (List V × Hp) := Cd.iso (Cd.pair (Cd.cons (Cd.fl .f32) Cd.nil) Cd.nil) (fun a => a.1.1) (fun a => ((a, ()), ())) (fun _ => rfl)
noncomputable def spec_l03Fast.tr (a : Nat) : T Nat := spec_l03Fast.t a
def spec_l03Fast.enc : Nat → Nat → V := fun a r => .fl .f32 r
noncomputable def spec_l03Fast.c : List V → Hp → T V := cdQ spec_l03Fast.cd (fun a => .br (spec_l03Fast.ok a) (.leaf (spec_l03Fast.enc a (spec_l03Fast a))) .bad)
theorem spec_l03Fast.run (a : Nat) : runF spec_l03Fast.C Tryz.f46.results.toList spec_l03Fast.b (spec_l03Fast.cd.enc a).1 (spec_l03Fast.cd.enc a).2 = (spec_l03Fast.tr a).map fun r => (spec_l03Fast.enc a r, (spec_l03Fast.cd.enc a).2) := by kernel_rfl
theorem spec_l03Fast.cok : OKq Tryz.prog 46 spec_l03Fast.c := con_q' spec_l03Fast.cd spec_l03Fast.hC Tryz.func46 (by kernel_rfl) (by kernel_rfl) (by kernel_rfl) spec_l03Fast.lp (fun a => by kernel_rfl) spec_l03Fast.run (Tells.ok (tree := spec_l03Fast.tr))
/-! ### spec_WaterSpeed -/
noncomputable def spec_WaterSpeed.b : Code := bodyOf Tryz.f19
noncomputable def spec_WaterSpeed.C : Ctx := { ty := tys, fn := [(45, .q spec_l03Length.c), (46, .q spec_l03Fast.c)], lp := [], n := 9, k := 4 }
theorem spec_WaterSpeed.hC : CtxOK Tryz.prog spec_WaterSpeed.C := CtxOK.of mo tys_ok (FnsOK.cons spec_l03Length.cok (FnsOK.cons spec_l03Fast.cok FnsOK.nil))
theorem spec_WaterSpeed.lp : LpOK Tryz.prog spec_WaterSpeed.C spec_WaterSpeed.b := (LpOK.nil (by kernel_rfl))
noncomputable def spec_WaterSpeed.t (x0 : Nat) (x1 : Int) (x2 : List Int) : T (Nat × Int) :=
  .br (!(spec_l03Length x0))
  (.leaf (0, (2 : Int)))
  (.br (spec_l03Fast.ok x0)
   (.leaf ((spec_l03Fast x0), (0 : Int)))
   .bad)
noncomputable def spec_WaterSpeed (x0 : Nat) (x1 : Int) (x2 : List Int) : Nat × Int := (spec_WaterSpeed.t x0 x1 x2).val
noncomputable def spec_WaterSpeed.ok (x0 : Nat) (x1 : Int) (x2 : List Int) : Bool := (spec_WaterSpeed.t x0 x1 x2).ok
def spec_WaterSpeed.cd : Cd (Nat × Int × List Int) (List V × Hp) := Cd.iso (Cd.pair (Cd.cons (Cd.fl .f32) Cd.nil) (Cd.cons (Cd.ro 0 2 (Cd.vs (Cd.cons (Cd.it .i64) Cd.nil))) (Cd.cons (Cd.ro 0 3 (Cd.vs (Cd.cons Cd.er Cd.nil))) (Cd.cons (Cd.ro 0 4 (Cd.vs (Cd.cons Cd.er Cd.nil))) (Cd.cons (Cd.ro 21 5 (Cd.is .u64)) Cd.nil))))) (fun a => (a.1.1, a.2.1.1, a.2.2.2.2.1)) (fun a => ((a.1, ()), ((a.2.1, ()), (((), ()), (((), ()), (a.2.2, ())))))) (fun _ => rfl)
noncomputable def spec_WaterSpeed.tr (a : Nat × Int × List Int) : T (Nat × Int) := spec_WaterSpeed.t a.1 a.2.1 a.2.2
def spec_WaterSpeed.enc : (Nat × Int × List Int) → (Nat × Int) → V := fun a r => .tup [.fl .f32 r.1, .it .i64 r.2]
noncomputable def spec_WaterSpeed.c : List V → Hp → T V := cdQ spec_WaterSpeed.cd (fun a => .br (spec_WaterSpeed.ok a.1 a.2.1 a.2.2) (.leaf (spec_WaterSpeed.enc a (spec_WaterSpeed a.1 a.2.1 a.2.2))) .bad)
theorem spec_WaterSpeed.run (a : Nat × Int × List Int) : runF spec_WaterSpeed.C Tryz.f19.results.toList spec_WaterSpeed.b (spec_WaterSpeed.cd.enc a).1 (spec_WaterSpeed.cd.enc a).2 = (spec_WaterSpeed.tr a).map fun r => (spec_WaterSpeed.enc a r, (spec_WaterSpeed.cd.enc a).2) := by kernel_rfl
theorem spec_WaterSpeed.cok : OKq Tryz.prog 19 spec_WaterSpeed.c := con_q' spec_WaterSpeed.cd spec_WaterSpeed.hC Tryz.func19 (by kernel_rfl) (by kernel_rfl) (by kernel_rfl) spec_WaterSpeed.lp (fun a => by kernel_rfl) spec_WaterSpeed.run (Tells.ok (tree := spec_WaterSpeed.tr))
/-! ### impl_IsPart -/
noncomputable def impl_IsPart.b : Code := bodyOf Tryz.f48
noncomputable def impl_IsPart.C : Ctx := { ty := tys, fn := [(51, .q impl_between.c)], lp := [], n := 5, k := 0 }
theorem impl_IsPart.hC : CtxOK Tryz.prog impl_IsPart.C := CtxOK.of mo tys_ok (FnsOK.cons impl_between.cok FnsOK.nil)
theorem impl_IsPart.lp : LpOK Tryz.prog impl_IsPart.C impl_IsPart.b := (LpOK.nil (by kernel_rfl))
noncomputable def impl_IsPart.t (x0 : Nat) : T Bool :=
  .leaf (impl_between x0 0 1065353216)
noncomputable def impl_IsPart (x0 : Nat) : Bool := (impl_IsPart.t x0).val
def impl_IsPart.cd : Cd Nat (List V × Hp) := Cd.iso (Cd.pair (Cd.cons (Cd.fl .f32) Cd.nil) Cd.nil) (fun a => a.1.1) (fun a => ((a, ()), ())) (fun _ => rfl)
noncomputable def impl_IsPart.tr (a : Nat) : T Bool := impl_IsPart.t a
def impl_IsPart.enc : Nat → Bool → V := fun a r => .bo r
noncomputable def impl_IsPart.c : List V → Hp → T V := cdQ impl_IsPart.cd (fun a => .leaf (impl_IsPart.enc a (impl_IsPart a)))
theorem impl_IsPart.run (a : Nat) : runF impl_IsPart.C Tryz.f48.results.toList impl_IsPart.b (impl_IsPart.cd.enc a).1 (impl_IsPart.cd.enc a).2 = (impl_IsPart.tr a).map fun r => (impl_IsPart.enc a r, (impl_IsPart.cd.enc a).2) := by kernel_rfl
theorem impl_IsPart.cok : OKq Tryz.prog 48 impl_IsPart.c := con_q' impl_IsPart.cd impl_IsPart.hC Tryz.func48 (by kernel_rfl) (by kernel_rfl) (by kernel_rfl) impl_IsPart.lp (fun a => by kernel_rfl) impl_IsPart.run (Tells.val (tree := impl_IsPart.tr) fun a => by kernel_rfl)
/-! ### impl_WaterPower -/
noncomputable def impl_WaterPower.b : Code := bodyOf Tryz.f20
noncomputable def impl_WaterPower.C : Ctx := { ty := tys, fn := [(47, .q impl_isAmount.c), (22, .q impl_IsLength.c), (48, .q impl_IsPart.c)], lp := [], n := 27, k := 4 }
theorem impl_WaterPower.hC : CtxOK Tryz.prog impl_WaterPower.C := CtxOK.of mo tys_ok (FnsOK.cons impl_isAmount.cok (FnsOK.cons impl_IsLength.cok (FnsOK.cons impl_IsPart.cok FnsOK.nil)))
theorem impl_WaterPower.lp : LpOK Tryz.prog impl_WaterPower.C impl_WaterPower.b := (LpOK.nil (by kernel_rfl))
noncomputable def impl_WaterPower.t (x0 : Nat) (x1 : Nat) (x2 : Nat) (x3 : Int) (x4 : List Int) : T (Nat × Int) :=
  .br (!(impl_isAmount x0))
  (.leaf (0, (2 : Int)))
  (.br (!(impl_IsLength x1))
   (.leaf (0, (2 : Int)))
   (.br (!(impl_IsPart x2))
    (.leaf (0, (2 : Int)))
    (.leaf ((fmul .f32 (fmul .f32 (fmul .f32 x0 x1) 1092419584) x2), (0 : Int)))))
noncomputable def impl_WaterPower (x0 : Nat) (x1 : Nat) (x2 : Nat) (x3 : Int) (x4 : List Int) : Nat × Int := (impl_WaterPower.t x0 x1 x2 x3 x4).val
def impl_WaterPower.cd : Cd (Nat × Nat × Nat × Int × List Int) (List V × Hp) := Cd.iso (Cd.pair (Cd.cons (Cd.fl .f32) (Cd.cons (Cd.fl .f32) (Cd.cons (Cd.fl .f32) Cd.nil))) (Cd.cons (Cd.ro 0 2 (Cd.vs (Cd.cons (Cd.it .i64) Cd.nil))) (Cd.cons (Cd.ro 0 3 (Cd.vs (Cd.cons Cd.er Cd.nil))) (Cd.cons (Cd.ro 0 4 (Cd.vs (Cd.cons Cd.er Cd.nil))) (Cd.cons (Cd.ro 21 5 (Cd.is .u64)) Cd.nil))))) (fun a => (a.1.1, a.1.2.1, a.1.2.2.1, a.2.1.1, a.2.2.2.2.1)) (fun a => ((a.1, (a.2.1, (a.2.2.1, ()))), ((a.2.2.2.1, ()), (((), ()), (((), ()), (a.2.2.2.2, ())))))) (fun _ => rfl)
noncomputable def impl_WaterPower.tr (a : Nat × Nat × Nat × Int × List Int) : T (Nat × Int) := impl_WaterPower.t a.1 a.2.1 a.2.2.1 a.2.2.2.1 a.2.2.2.2
def impl_WaterPower.enc : (Nat × Nat × Nat × Int × List Int) → (Nat × Int) → V := fun a r => .tup [.fl .f32 r.1, .it .i64 r.2]
noncomputable def impl_WaterPower.c : List V → Hp → T V := cdQ impl_WaterPower.cd (fun a => .leaf (impl_WaterPower.enc a (impl_WaterPower a.1 a.2.1 a.2.2.1 a.2.2.2.1 a.2.2.2.2)))
theorem impl_WaterPower.run (a : Nat × Nat × Nat × Int × List Int) : runF impl_WaterPower.C Tryz.f20.results.toList impl_WaterPower.b (impl_WaterPower.cd.enc a).1 (impl_WaterPower.cd.enc a).2 = (impl_WaterPower.tr a).map fun r => (impl_WaterPower.enc a r, (impl_WaterPower.cd.enc a).2) := by kernel_rfl
theorem impl_WaterPower.cok : OKq Tryz.prog 20 impl_WaterPower.c := con_q' impl_WaterPower.cd impl_WaterPower.hC Tryz.func20 (by kernel_rfl) (by kernel_rfl) (by kernel_rfl) impl_WaterPower.lp (fun a => by kernel_rfl) impl_WaterPower.run (Tells.val (tree := impl_WaterPower.tr) fun a => by kernel_rfl)
/-! ### spec_l01Part -/
noncomputable def spec_l01Part.b : Code := bodyOf Tryz.f50
noncomputable def spec_l01Part.C : Ctx := { ty := tys, fn := [], lp := [], n := 9, k := 0 }
theorem spec_l01Part.hC : CtxOK Tryz.prog spec_l01Part.C := CtxOK.of mo tys_ok FnsOK.nil
theorem spec_l01Part.lp : LpOK Tryz.prog spec_l01Part.C spec_l01Part.b := (LpOK.nil (by kernel_rfl))
noncomputable def spec_l01Part.t (x0 : Nat) : T Bool :=
  .br (fge .f32 x0 0)
  (.leaf (fle .f32 x0 1065353216))
  (.leaf false)
noncomputable def spec_l01Part (x0 : Nat) : Bool := (spec_l01Part.t x0).val
def spec_l01Part.cd : Cd Nat (List V × Hp) := Cd.iso (Cd.pair (Cd.cons (Cd.fl .f32) Cd.nil) Cd.nil) (fun a => a.1.1) (fun a => ((a, ()), ())) (fun _ => rfl)
noncomputable def spec_l01Part.tr (a : Nat) : T Bool := spec_l01Part.t a
def spec_l01Part.enc : Nat → Bool → V := fun a r => .bo r
noncomputable def spec_l01Part.c : List V → Hp → T V := cdQ spec_l01Part.cd (fun a => .leaf (spec_l01Part.enc a (spec_l01Part a)))
theorem spec_l01Part.run (a : Nat) : runF spec_l01Part.C Tryz.f50.results.toList spec_l01Part.b (spec_l01Part.cd.enc a).1 (spec_l01Part.cd.enc a).2 = (spec_l01Part.tr a).map fun r => (spec_l01Part.enc a r, (spec_l01Part.cd.enc a).2) := by kernel_rfl
theorem spec_l01Part.cok : OKq Tryz.prog 50 spec_l01Part.c := con_q' spec_l01Part.cd spec_l01Part.hC Tryz.func50 (by kernel_rfl) (by kernel_rfl) (by kernel_rfl) spec_l01Part.lp (fun a => by kernel_rfl) spec_l01Part.run (Tells.val (tree := spec_l01Part.tr) fun a => by kernel_rfl)
/-! ### spec_WaterPower -/
noncomputable def spec_WaterPower.b : Code := bodyOf Tryz.f21
noncomputable def spec_WaterPower.C : Ctx := { ty := tys, fn := [(49, .q spec_l03Amount.c), (45, .q spec_l03Length.c), (50, .q spec_l01Part.c)], lp := [], n := 27, k := 4 }
theorem spec_WaterPower.hC : CtxOK Tryz.prog spec_WaterPower.C := CtxOK.of mo tys_ok (FnsOK.cons spec_l03Amount.cok (FnsOK.cons spec_l03Length.cok (FnsOK.cons spec_l01Part.cok FnsOK.nil)))
theorem spec_WaterPower.lp : LpOK Tryz.prog spec_WaterPower.C spec_WaterPower.b := (LpOK.nil (by kernel_rfl))
noncomputable def spec_WaterPower.t (x0 : Nat) (x1 : Nat) (x2 : Nat) (x3 : Int) (x4 : List Int) : T (Nat × Int) :=
  .br (!(spec_l03Amount x0))
  (.leaf (0, (2 : Int)))
  (.br (!(spec_l03Length x1))
   (.leaf (0, (2 : Int)))
   (.br (!(spec_l01Part x2))
    (.leaf (0, (2 : Int)))
    (.leaf ((fmul .f32 (fmul .f32 (fmul .f32 x0 x1) 1092419584) x2), (0 : Int)))))
noncomputable def spec_WaterPower (x0 : Nat) (x1 : Nat) (x2 : Nat) (x3 : Int) (x4 : List Int) : Nat × Int := (spec_WaterPower.t x0 x1 x2 x3 x4).val
def spec_WaterPower.cd : Cd (Nat × Nat × Nat × Int × List Int) (List V × Hp) := Cd.iso (Cd.pair (Cd.cons (Cd.fl .f32) (Cd.cons (Cd.fl .f32) (Cd.cons (Cd.fl .f32) Cd.nil))) (Cd.cons (Cd.ro 0 2 (Cd.vs (Cd.cons (Cd.it .i64) Cd.nil))) (Cd.cons (Cd.ro 0 3 (Cd.vs (Cd.cons Cd.er Cd.nil))) (Cd.cons (Cd.ro 0 4 (Cd.vs (Cd.cons Cd.er Cd.nil))) (Cd.cons (Cd.ro 21 5 (Cd.is .u64)) Cd.nil))))) (fun a => (a.1.1, a.1.2.1, a.1.2.2.1, a.2.1.1, a.2.2.2.2.1)) (fun a => ((a.1, (a.2.1, (a.2.2.1, ()))), ((a.2.2.2.1, ()), (((), ()), (((), ()), (a.2.2.2.2, ())))))) (fun _ => rfl)
noncomputable def spec_WaterPower.tr (a : Nat × Nat × Nat × Int × List Int) : T (Nat × Int) := spec_WaterPower.t a.1 a.2.1 a.2.2.1 a.2.2.2.1 a.2.2.2.2
def spec_WaterPower.enc : (Nat × Nat × Nat × Int × List Int) → (Nat × Int) → V := fun a r => .tup [.fl .f32 r.1, .it .i64 r.2]
noncomputable def spec_WaterPower.c : List V → Hp → T V := cdQ spec_WaterPower.cd (fun a => .leaf (spec_WaterPower.enc a (spec_WaterPower a.1 a.2.1 a.2.2.1 a.2.2.2.1 a.2.2.2.2)))
theorem spec_WaterPower.run (a : Nat × Nat × Nat × Int × List Int) : runF spec_WaterPower.C Tryz.f21.results.toList spec_WaterPower.b (spec_WaterPower.cd.enc a).1 (spec_WaterPower.cd.enc a).2 = (spec_WaterPower.tr a).map fun r => (spec_WaterPower.enc a r, (spec_WaterPower.cd.enc a).2) := by kernel_rfl
theorem spec_WaterPower.cok : OKq Tryz.prog 21 spec_WaterPower.c := con_q' spec_WaterPower.cd spec_WaterPower.hC Tryz.func21 (by kernel_rfl) (by kernel_rfl) (by kernel_rfl) spec_WaterPower.lp (fun a => by kernel_rfl) spec_WaterPower.run (Tells.val (tree := spec_WaterPower.tr) fun a => by kernel_rfl)
/-! ### impl_IsLength_w1 -/
noncomputable def impl_IsLength_w1.b : Code := bodyOf Tryz.f22
noncomputable def impl_IsLength_w1.C : Ctx := { ty := tys, fn := [(51, .q impl_between.c)], lp := [], n := 5, k := 4 }
theorem impl_IsLength_w1.hC : CtxOK Tryz.prog impl_IsLength_w1.C := CtxOK.of mo tys_ok (FnsOK.cons impl_between.cok FnsOK.nil)
theorem impl_IsLength_w1.lp : LpOK Tryz.prog impl_IsLength_w1.C impl_IsLength_w1.b := (LpOK.nil (by kernel_rfl))
noncomputable def impl_IsLength_w1.t (x0 : Nat) (x1 : Int) (x2 : List Int) : T Bool :=
  .leaf (impl_between x0 1031798784 1149239296)
noncomputable def impl_IsLength_w1 (x0 : Nat) (x1 : Int) (x2 : List Int) : Bool := (impl_IsLength_w1.t x0 x1 x2).val
def impl_IsLength_w1.cd : Cd (Nat × Int × List Int) (List V × Hp) := Cd.iso (Cd.pair (Cd.cons (Cd.fl .f32) Cd.nil) (Cd.cons (Cd.ro 0 2 (Cd.vs (Cd.cons (Cd.it .i64) Cd.nil))) (Cd.cons (Cd.ro 0 3 (Cd.vs (Cd.cons Cd.er Cd.nil))) (Cd.cons (Cd.ro 0 4 (Cd.vs (Cd.cons Cd.er Cd.nil))) (Cd.cons (Cd.ro 21 5 (Cd.is .u64)) Cd.nil))))) (fun a => (a.1.1, a.2.1.1, a.2.2.2.2.1)) (fun a => ((a.1, ()), ((a.2.1, ()), (((), ()), (((), ()), (a.2.2, ())))))) (fun _ => rfl)
noncomputable def impl_IsLength_w1.tr (a : Nat × Int × List Int) : T Bool := impl_IsLength_w1.t a.1 a.2.1 a.2.2
def impl_IsLength_w1.enc : (Nat × Int × List Int) → Bool → V := fun a r => .bo r
noncomputable def impl_IsLength_w1.c : List V → Hp → T V := cdQ impl_IsLength_w1.cd (fun a => .leaf (impl_IsLength_w1.enc a (impl_IsLength_w1 a.1 a.2.1 a.2.2)))
theorem impl_IsLength_w1.run (a : Nat × Int × List Int) : runF impl_IsLength_w1.C Tryz.f22.results.toList impl_IsLength_w1.b (impl_IsLength_w1.cd.enc a).1 (impl_IsLength_w1.cd.enc a).2 = (impl_IsLength_w1.tr a).map fun r => (impl_IsLength_w1.enc a r, (impl_IsLength_w1.cd.enc a).2) := by kernel_rfl
theorem impl_IsLength_w1.cok : OKq Tryz.prog 22 impl_IsLength_w1.c := con_q' impl_IsLength_w1.cd impl_IsLength_w1.hC Tryz.func22 (by kernel_rfl) (by kernel_rfl) (by kernel_rfl) impl_IsLength_w1.lp (fun a => by kernel_rfl) impl_IsLength_w1.run (Tells.val (tree := impl_IsLength_w1.tr) fun a => by kernel_rfl)
/-! ### impl_flowThrough -/
noncomputable def impl_flowThrough.b : Code := bodyOf Tryz.f52
noncomputable def impl_flowThrough.C : Ctx := { ty := tys, fn := [(44, .q impl_waterSpeed.c)], lp := [], n := 15, k := 0 }
theorem impl_flowThrough.hC : CtxOK Tryz.prog impl_flowThrough.C := CtxOK.of mo tys_ok (FnsOK.cons impl_waterSpeed.cok FnsOK.nil)
theorem impl_flowThrough.lp : LpOK Tryz.prog impl_flowThrough.C impl_flowThrough.b := (LpOK.nil (by kernel_rfl))
noncomputable def impl_flowThrough.t (x0 : Nat) (x1 : Nat) (x2 : Int) : T Nat :=
  .br (impl_waterSpeed.ok x1)
  (.leaf (fmul .f32 (fdiv .f32 (fmul .f32 x0 (fofint .f32 x2)) 1098907648) (impl_waterSpeed x1)))
  .bad
noncomputable def impl_flowThrough (x0 : Nat) (x1 : Nat) (x2 : Int) : Nat := (impl_flowThrough.t x0 x1 x2).val
noncomputable def impl_flowThrough.ok (x0 : Nat) (x1 : Nat) (x2 : Int) : Bool := (impl_flowThrough.t x0 x1 x2).ok
def impl_flowThrough.cd : Cd (Nat × Nat × Int) (List V × Hp) := Cd.iso (Cd.pair (Cd.cons (Cd.fl .f32) (Cd.cons (Cd.fl .f32) (Cd.cons (Cd.it .i64) Cd.nil))) Cd.nil) (fun a => (a.1.1, a.1.2.1, a.1.2.2.1)) (fun a => ((a.1, (a.2.1, (a.2.2, ()))), ())) (fun _ => rfl)
noncomputable def impl_flowThrough.tr (a : Nat × Nat × Int) : T Nat := impl_flowThrough.t a.1 a.2.1 a.2.2
def impl_flowThrough.enc : (Nat × Nat × Int) → Nat → V := fun a r => .fl .f32 r
noncomputable def impl_flowThrough.c : List V → Hp → T V := cdQ impl_flowThrough.cd (fun a => .br (impl_flowThrough.ok a.1 a.2.1 a.2.2) (.leaf (impl_flowThrough.enc a (impl_flowThrough a.1 a.2.1 a.2.2))) .bad)
theorem impl_flowThrough.run (a : Nat × Nat × Int) : runF impl_flowThrough.C Tryz.f52.results.toList impl_flowThrough.b (impl_flowThrough.cd.enc a).1 (impl_flowThrough.cd.enc a).2 = (impl_flowThrough.tr a).map fun r => (impl_flowThrough.enc a r, (impl_flowThrough.cd.enc a).2) := by kernel_rfl
theorem impl_flowThrough.cok : OKq Tryz.prog 52 impl_flowThrough.c := con_q' impl_flowThrough.cd impl_flowThrough.hC Tryz.func52 (by kernel_rfl) (by kernel_rfl) (by kernel_rfl) impl_flowThrough.lp (fun a => by kernel_rfl) impl_flowThrough.run (Tells.ok (tree := impl_flowThrough.tr))
/-! ### impl_FlowThrough -/
noncomputable def impl_FlowThrough.b : Code := bodyOf Tryz.f23
noncomputable def impl_FlowThrough.C : Ctx := { ty := tys, fn := [(22, .q impl_IsLength.c), (43, .q impl_within.c), (52, .q impl_flowThrough.c)], lp := [], n := 25, k := 4 }
theorem impl_FlowThrough.hC : CtxOK Tryz.prog impl_FlowThrough.C := CtxOK.of mo tys_ok (FnsOK.cons impl_IsLength.cok (FnsOK.cons impl_within.cok (FnsOK.cons impl_flowThrough.cok FnsOK.nil)))
theorem impl_FlowThrough.lp : LpOK Tryz.prog impl_FlowThrough.C impl_FlowThrough.b := (LpOK.nil (by kernel_rfl))
noncomputable def impl_FlowThrough.t (x0 : Nat) (x1 : Nat) (x2 : Int) (x3 : Int) (x4 : List Int) : T (Nat × Int) :=
  .br (!(impl_IsLength x0))
  (.leaf (0, (2 : Int)))
  (.br (!(impl_IsLength x1))
   (.leaf (0, (2 : Int)))
   (.br (!(impl_within x2 (0 : Int) (16 : Int)))
    (.leaf (0, (2 : Int)))
    (.br (impl_flowThrough.ok x0 x1 x2)
     (.leaf ((impl_flowThrough x0 x1 x2), (0 : Int)))
     .bad)))
noncomputable def impl_FlowThrough (x0 : Nat) (x1 : Nat) (x2 : Int) (x3 : Int) (x4 : List Int) : Nat × Int := (impl_FlowThrough.t x0 x1 x2 x3 x4).val
noncomputable def impl_FlowThrough.ok (x0 : Nat) (x1 : Nat) (x2 : Int) (x3 : Int) (x4 : List Int) : Bool := (impl_FlowThrough.t x0 x1 x2 x3 x4).ok
def impl_FlowThrough.cd : Cd (Nat × Nat × Int × Int × List Int) (List V × Hp) := Cd.iso (Cd.pair (Cd.cons (Cd.fl .f32) (Cd.cons (Cd.fl .f32) (Cd.cons (Cd.it .i64) Cd.nil))) (Cd.cons (Cd.ro 0 2 (Cd.vs (Cd.cons (Cd.it .i64) Cd.nil))) (Cd.cons (Cd.ro 0 3 (Cd.vs (Cd.cons Cd.er Cd.nil))) (Cd.cons (Cd.ro 0 4 (Cd.vs (Cd.cons Cd.er Cd.nil))) (Cd.cons (Cd.ro 21 5 (Cd.is .u64)) Cd.nil))))) (fun a => (a.1.1, a.1.2.1, a.1.2.2.1, a.2.1.1, a.2.2.2.2.1)) (fun a => ((a.1, (a.2.1, (a.2.2.1, ()))), ((a.2.2.2.1, ()), (((), ()), (((), ()), (a.2.2.2.2, ())))))) (fun _ => rfl)
noncomputable def impl_FlowThrough.tr (a : Nat × Nat × Int × Int × List Int) : T (Nat × Int) := impl_FlowThrough.t a.1 a.2.1 a.2.2.1 a.2.2.2.1 a.2.2.2.2
def impl_FlowThrough.enc : (Nat × Nat × Int × Int × List Int) → (Nat × Int) → V := fun a r => .tup [.fl .f32 r.1, .it .i64 r.2]
noncomputable def impl_FlowThrough.c : List V → Hp → T V := cdQ impl_FlowThrough.cd (fun a => .br (impl_FlowThrough.ok a.1 a.2.1 a.2.2.1 a.2.2.2.1 a.2.2.2.2) (.leaf (impl_FlowThrough.enc a (impl_FlowThrough a.1 a.2.1 a.2.2.1 a.2.2.2.1 a.2.2.2.2))) .bad)
theorem impl_FlowThrough.run (a : Nat × Nat × Int × Int × List Int) : runF impl_FlowThrough.C Tryz.f23.results.toList impl_FlowThrough.b (impl_FlowThrough.cd.enc a).1 (impl_FlowThrough.cd.enc a).2 = (impl_FlowThrough.tr a).map fun r => (impl_FlowThrough.enc a r, (impl_FlowThrough.cd.enc a).2) := by kernel_rfl
theorem impl_FlowThrough.cok : OKq Tryz.prog 23 impl_FlowThrough.c := con_q' impl_FlowThrough.cd impl_FlowThrough.hC Tryz.func23 (by kernel_rfl) (by kernel_rfl) (by kernel_rfl) impl_FlowThrough.lp (fun a => by kernel_rfl) impl_FlowThrough.run (Tells.ok (tree := impl_FlowThrough.tr))
/-! ### spec_l03Flow -/
noncomputable def spec_l03Flow.b : Code := bodyOf Tryz.f54
noncomputable def spec_l03Flow.C : Ctx := { ty := tys, fn := [(46, .q spec_l03Fast.c)], lp := [], n := 15, k := 0 }
theorem spec_l03Flow.hC : CtxOK Tryz.prog spec_l03Flow.C := CtxOK.of mo tys_ok (FnsOK.cons spec_l03Fast.cok FnsOK.nil)
theorem spec_l03Flow.lp : LpOK Tryz.prog spec_l03Flow.C spec_l03Flow.b := (LpOK.nil (by kernel_rfl))
noncomputable def spec_l03Flow.t (x0 : Nat) (x1 : Nat) (x2 : Int) : T Nat :=
  .br (spec_l03Fast.ok x1)
  (.leaf (fmul .f32 (fdiv .f32 (fmul .f32 x0 (fofint .f32 x2)) 1098907648) (spec_l03Fast x1)))
  .bad
noncomputable def spec_l03Flow (x0 : Nat) (x1 : Nat) (x2 : Int) : Nat := (spec_l03Flow.t x0 x1 x2).val
noncomputable def spec_l03Flow.ok (x0 : Nat) (x1 : Nat) (x2 : Int) : Bool := (spec_l03Flow.t x0 x1 x2).ok
def spec_l03Flow.cd : Cd (Nat × Nat × Int) (List V × Hp) := Cd.iso (Cd.pair (Cd.cons (Cd.fl .f32) (Cd.cons (Cd.fl .f32) (Cd.cons (Cd.it .i64) Cd.nil))) Cd.nil) (fun a => (a.1.1, a.1.2.1, a.1.2.2.1)) (fun a => ((a.1, (a.2.1, (a.2.2, ()))), ())) (fun _ => rfl)
noncomputable def spec_l03Flow.tr (a : Nat × Nat × Int) : T Nat := spec_l03Flow.t a.1 a.2.1 a.2.2
def spec_l03Flow.enc : (Nat × Nat × Int) → Nat → V := fun a r => .fl .f32 r
noncomputable def spec_l03Flow.c : List V → Hp → T V := cdQ spec_l03Flow.cd (fun a => .br (spec_l03Flow.ok a.1 a.2.1 a.2.2) (.leaf (spec_l03Flow.enc a (spec_l03Flow a.1 a.2.1 a.2.2))) .bad)
theorem spec_l03Flow.run (a : Nat × Nat × Int) : runF spec_l03Flow.C Tryz.f54.results.toList spec_l03Flow.b (spec_l03Flow.cd.enc a).1 (spec_l03Flow.cd.enc a).2 = (spec_l03Flow.tr a).map fun r => (spec_l03Flow.enc a r, (spec_l03Flow.cd.enc a).2) := by kernel_rfl
theorem spec_l03Flow.cok : OKq Tryz.prog 54 spec_l03Flow.c := con_q' spec_l03Flow.cd spec_l03Flow.hC Tryz.func54 (by kernel_rfl) (by kernel_rfl) (by kernel_rfl) spec_l03Flow.lp (fun a => by kernel_rfl) spec_l03Flow.run (Tells.ok (tree := spec_l03Flow.tr))
/-! ### spec_FlowThrough -/
noncomputable def spec_FlowThrough.b : Code := bodyOf Tryz.f24
noncomputable def spec_FlowThrough.C : Ctx := { ty := tys, fn := [(45, .q spec_l03Length.c), (53, .q spec_l00In.c), (54, .q spec_l03Flow.c)], lp := [], n := 25, k := 4 }
theorem spec_FlowThrough.hC : CtxOK Tryz.prog spec_FlowThrough.C := CtxOK.of mo tys_ok (FnsOK.cons spec_l03Length.cok (FnsOK.cons spec_l00In.cok (FnsOK.cons spec_l03Flow.cok FnsOK.nil)))
theorem spec_FlowThrough.lp : LpOK Tryz.prog spec_FlowThrough.C spec_FlowThrough.b := (LpOK.nil (by kernel_rfl))
noncomputable def spec_FlowThrough.t (x0 : Nat) (x1 : Nat) (x2 : Int) (x3 : Int) (x4 : List Int) : T (Nat × Int) :=
  .br (!(spec_l03Length x0))
  (.leaf (0, (2 : Int)))
  (.br (!(spec_l03Length x1))
   (.leaf (0, (2 : Int)))
   (.br (!(spec_l00In x2 (0 : Int) (16 : Int)))
    (.leaf (0, (2 : Int)))
    (.br (spec_l03Flow.ok x0 x1 x2)
     (.leaf ((spec_l03Flow x0 x1 x2), (0 : Int)))
     .bad)))
noncomputable def spec_FlowThrough (x0 : Nat) (x1 : Nat) (x2 : Int) (x3 : Int) (x4 : List Int) : Nat × Int := (spec_FlowThrough.t x0 x1 x2 x3 x4).val
noncomputable def spec_FlowThrough.ok (x0 : Nat) (x1 : Nat) (x2 : Int) (x3 : Int) (x4 : List Int) : Bool := (spec_FlowThrough.t x0 x1 x2 x3 x4).ok
def spec_FlowThrough.cd : Cd (Nat × Nat × Int × Int × List Int) (List V × Hp) := Cd.iso (Cd.pair (Cd.cons (Cd.fl .f32) (Cd.cons (Cd.fl .f32) (Cd.cons (Cd.it .i64) Cd.nil))) (Cd.cons (Cd.ro 0 2 (Cd.vs (Cd.cons (Cd.it .i64) Cd.nil))) (Cd.cons (Cd.ro 0 3 (Cd.vs (Cd.cons Cd.er Cd.nil))) (Cd.cons (Cd.ro 0 4 (Cd.vs (Cd.cons Cd.er Cd.nil))) (Cd.cons (Cd.ro 21 5 (Cd.is .u64)) Cd.nil))))) (fun a => (a.1.1, a.1.2.1, a.1.2.2.1, a.2.1.1, a.2.2.2.2.1)) (fun a => ((a.1, (a.2.1, (a.2.2.1, ()))), ((a.2.2.2.1, ()), (((), ()), (((), ()), (a.2.2.2.2, ())))))) (fun _ => rfl)
noncomputable def spec_FlowThrough.tr (a : Nat × Nat × Int × Int × List Int) : T (Nat × Int) := spec_FlowThrough.t a.1 a.2.1 a.2.2.1 a.2.2.2.1 a.2.2.2.2
def spec_FlowThrough.enc : (Nat × Nat × Int × Int × List Int) → (Nat × Int) → V := fun a r => .tup [.fl .f32 r.1, .it .i64 r.2]
noncomputable def spec_FlowThrough.c : List V → Hp → T V := cdQ spec_FlowThrough.cd (fun a => .br (spec_FlowThrough.ok a.1 a.2.1 a.2.2.1 a.2.2.2.1 a.2.2.2.2) (.leaf (spec_FlowThrough.enc a (spec_FlowThrough a.1 a.2.1 a.2.2.1 a.2.2.2.1 a.2.2.2.2))) .bad)
theorem spec_FlowThrough.run (a : Nat × Nat × Int × Int × List Int) : runF spec_FlowThrough.C Tryz.f24.results.toList spec_FlowThrough.b (spec_FlowThrough.cd.enc a).1 (spec_FlowThrough.cd.enc a).2 = (spec_FlowThrough.tr a).map fun r => (spec_FlowThrough.enc a r, (spec_FlowThrough.cd.enc a).2) := by kernel_rfl
theorem spec_FlowThrough.cok : OKq Tryz.prog 24 spec_FlowThrough.c := con_q' spec_FlowThrough.cd spec_FlowThrough.hC Tryz.func24 (by kernel_rfl) (by kernel_rfl) (by kernel_rfl) spec_FlowThrough.lp (fun a => by kernel_rfl) spec_FlowThrough.run (Tells.ok (tree := spec_FlowThrough.tr))
/-! ### laws_FnWater -/
noncomputable def laws_FnWater.b : Code := bodyOf Tryz.f3
noncomputable def laws_FnWater.l29.s (x0 : Nat) (x1 : Nat) (x2 : Nat) (x3 : Int) (x4 : Int) (x5 : List Int) (x6 : List Int) (x7 : List Int) : T ((Nat × Int) ⊕ (Bool ⊕ Unit)) :=
  .br (decide (x3 ≤ (16 : Int)))
  (let y39 := (impl_FlowThrough x0 x1 x3 x4 x5)
   .br (impl_FlowThrough.ok x0 x1 x3 x4 x5)
   (let y40 := (spec_FlowThrough x0 x1 x3 x4 x5)
    .br (spec_FlowThrough.ok x0 x1 x3 x4 x5)
    (.br (y39.2 != y40.2)
     (.leaf (.inr (.inl false)))
     (.br (y39.2 != (0 : Int))
      (.leaf (.inr (.inl false)))
      (let y41 := (spec_SameNumber y39.1 y40.1 x4 x5)
       .br (spec_SameNumber.ok y39.1 y40.1 x4 x5)
       (.br (!y41)
        (.leaf (.inr (.inl false)))
        (.br (flt .f32 y40.1 x2)
         (.leaf (.inr (.inl false)))
         (.br (x3 == (0 : Int))
          (.br (fne .f32 y40.1 0)
           (.leaf (.inr (.inl false)))
           (.leaf (.inl (y40.1, (IntKind.wrap .i64 (x3 + (1 : Int)))))))
          (.leaf (.inl (y40.1, (IntKind.wrap .i64 (x3 + (1 : Int)))))))))
       .bad)))
    .bad)
   .bad)
  (.leaf (.inr (.inr ())))
noncomputable def laws_FnWater.l29.st (p : Nat × Nat × Int × List Int × List Int × List Int) (x : Nat × Int) : T ((Nat × Int) ⊕ (Bool ⊕ Unit)) := laws_FnWater.l29.s p.1 p.2.1 x.1 x.2 p.2.2.1 p.2.2.2.1 p.2.2.2.2.1 p.2.2.2.2.2
noncomputable def laws_FnWater.l29.r (p : Nat × Nat × Int × List Int × List Int × List Int) (x : Nat × Int) : Option (Bool ⊕ Unit) := iterT (laws_FnWater.l29.st p) manyRounds x
def laws_FnWater.l29.cd : Cd ((Nat × Nat × Int × List Int × List Int × List Int) × (Nat × Int)) (List V × Hp) := Cd.iso (Cd.pair (Cd.cons (Cd.fl .f32) (Cd.cons (Cd.fl .f32) (Cd.cons (Cd.fl .f32) (Cd.cons (Cd.it .i64) Cd.nil)))) (Cd.cons (Cd.ro 0 2 (Cd.vs (Cd.cons (Cd.it .i64) Cd.nil))) (Cd.cons (Cd.ro 0 3 (Cd.vs (Cd.cons Cd.er Cd.nil))) (Cd.cons (Cd.ro 0 4 (Cd.vs (Cd.cons Cd.er Cd.nil))) (Cd.cons (Cd.ro 21 5 (Cd.is .u64)) (Cd.cons (Cd.ro 0 0 (Cd.is .u8)) (Cd.cons (Cd.ro 0 0 (Cd.is .u8)) Cd.nil))))))) (fun a => ((a.1.1, a.1.2.1, a.2.1.1, a.2.2.2.2.1, a.2.2.2.2.2.1, a.2.2.2.2.2.2.1), (a.1.2.2.1, a.1.2.2.2.1))) (fun a => ((a.1.1, (a.1.2.1, (a.2.1, (a.2.2, ())))), ((a.1.2.2.1, ()), (((), ()), (((), ()), (a.1.2.2.2.1, (a.1.2.2.2.2.1, (a.1.2.2.2.2.2, ())))))))) (fun _ => rfl)
def laws_FnWater.l29.out (p : Nat × Nat × Int × List Int × List Int × List Int) : (Bool ⊕ Unit) → X × List V × Hp := sumO (fun r => (.ret, [.bo r], [some ⟨false, 0, 2, .vs [.it .i64 p.2.2.1]⟩, some ⟨false, 0, 3, .vs [.er]⟩, some ⟨false, 0, 4, .vs [.er]⟩, some ⟨false, 21, 5, .is .u64 p.2.2.2.1⟩, some ⟨false, 0, 0, .is .u8 p.2.2.2.2.1⟩, some ⟨false, 0, 0, .is .u8 p.2.2.2.2.2⟩])) (fun r => (.ex 0, [.unk], [some ⟨false, 0, 2, .vs [.it .i64 p.2.2.1]⟩, some ⟨false, 0, 3, .vs [.er]⟩, some ⟨false, 0, 4, .vs [.er]⟩, some ⟨false, 21, 5, .is .u64 p.2.2.2.1⟩, some ⟨false, 0, 0, .is .u8 p.2.2.2.2.1⟩, some ⟨false, 0, 0, .is .u8 p.2.2.2.2.2⟩]))
def laws_FnWater.l29.ex (p : Nat × Nat × Int × List Int × List Int × List Int) : (Bool ⊕ Unit) → T (X × List V × Hp) := sumT (leafT (fun r => (.ret, [.bo r], [some ⟨false, 0, 2, .vs [.it .i64 p.2.2.1]⟩, some ⟨false, 0, 3, .vs [.er]⟩, some ⟨false, 0, 4, .vs [.er]⟩, some ⟨false, 21, 5, .is .u64 p.2.2.2.1⟩, some ⟨false, 0, 0, .is .u8 p.2.2.2.2.1⟩, some ⟨false, 0, 0, .is .u8 p.2.2.2.2.2⟩]))) (leafT (fun r => (.ex 0, [.unk], [some ⟨false, 0, 2, .vs [.it .i64 p.2.2.1]⟩, some ⟨false, 0, 3, .vs [.er]⟩, some ⟨false, 0, 4, .vs [.er]⟩, some ⟨false, 21, 5, .is .u64 p.2.2.2.1⟩, some ⟨false, 0, 0, .is .u8 p.2.2.2.2.1⟩, some ⟨false, 0, 0, .is .u8 p.2.2.2.2.2⟩])))
noncomputable def laws_FnWater.l29.c : List V → Hp → T (X × List V × Hp) := cdL laws_FnWater.l29.cd fun x => optT (laws_FnWater.l29.r x.1 x.2) (laws_FnWater.l29.ex x.1)
noncomputable def laws_FnWater.C : Ctx := { ty := tys, fn := [(4, .q laws_f6big.c), (5, .q spec_P6Mill.c), (6, .q spec_P6Pick.c), (8, .q impl_MillText.c), (7, .q impl_ReadMill.c), (9, .q impl_FillOf.c), (10, .q spec_FillOf.c), (11, .q impl_SpilledBy.c), (12, .q spec_SpilledBy.c), (13, .q impl_TorqueFrom.c), (14, .q spec_TorqueFrom.c), (15, .q spec_SameMill.c), (16, .q impl_ValidMill_w1.c), (17, .q spec_SameNumber.c), (18, .q impl_WaterSpeed.c), (19, .q spec_WaterSpeed.c), (20, .q impl_WaterPower.c), (21, .q spec_WaterPower.c), (22, .q impl_IsLength_w1.c), (23, .q impl_FlowThrough.c), (24, .q spec_FlowThrough.c)], lp := [(29, ⟨[22, 23, 35, 36], [4], laws_FnWater.l29.c⟩)], n := 347, k := 6, g := 4 }
theorem laws_FnWater.hC : CtxOK Tryz.prog laws_FnWater.C := CtxOK.of mo tys_ok (FnsOK.cons laws_f6big.cok (FnsOK.cons spec_P6Mill.cok (FnsOK.cons spec_P6Pick.cok (FnsOK.cons impl_MillText.cok (FnsOK.cons impl_ReadMill.cok (FnsOK.cons impl_FillOf.cok (FnsOK.cons spec_FillOf.cok (FnsOK.cons impl_SpilledBy.cok (FnsOK.cons spec_SpilledBy.cok (FnsOK.cons impl_TorqueFrom.cok (FnsOK.cons spec_TorqueFrom.cok (FnsOK.cons spec_SameMill.cok (FnsOK.cons impl_ValidMill_w1.cok (FnsOK.cons spec_SameNumber.cok (FnsOK.cons impl_WaterSpeed.cok (FnsOK.cons spec_WaterSpeed.cok (FnsOK.cons impl_WaterPower.cok (FnsOK.cons spec_WaterPower.cok (FnsOK.cons impl_IsLength_w1.cok (FnsOK.cons impl_FlowThrough.cok (FnsOK.cons spec_FlowThrough.cok FnsOK.nil)))))))))))))))))))))
noncomputable def laws_FnWater.b29 : Code := (nthC (loopsOf laws_FnWater.b) 0)
theorem laws_FnWater.lp29 : LpOK Tryz.prog laws_FnWater.C laws_FnWater.b29 := (LpOK.nil (by kernel_rfl))
theorem laws_FnWater.l29.round (p : Nat × Nat × Int × List Int × List Int × List Int) (s : Nat × Int) : roundL laws_FnWater.C [22, 23, 35, 36] [4] laws_FnWater.b29 (laws_FnWater.l29.cd.enc (p, s)).1 (laws_FnWater.l29.cd.enc (p, s)).2 = (laws_FnWater.l29.st p s).map (encSum (fun s => laws_FnWater.l29.cd.enc (p, s)) (laws_FnWater.l29.out p)) := by kernel_rfl
theorem laws_FnWater.l29.lok : LoopOK Tryz.prog laws_FnWater.C ⟨[22, 23, 35, 36], [4], laws_FnWater.l29.c⟩ laws_FnWater.b29 := loop_cd laws_FnWater.l29.cd laws_FnWater.hC laws_FnWater.lp29 laws_FnWater.l29.round fun p => (Gets.sum Gets.leaf Gets.leaf)
theorem laws_FnWater.lp : LpOK Tryz.prog laws_FnWater.C laws_FnWater.b := lp_of (by kernel_rfl) (LpsOK.cons (k := 29) (by kernel_rfl) (by kernel_rfl) laws_FnWater.l29.lok LpsOK.nil)
noncomputable def laws_FnWater.t (x0 : Nat) (x1 : Nat) (x2 : Int) (x3 : List Int) (x4 : List Int) (x5 : List Int) : T Bool :=
  let y1 := (laws_f6big x0 x2 x3 x4)
  .br y1
  (.leaf true)
  (let y2 := (laws_f6big x1 x2 x3 x5)
   .br y2
   (.leaf true)
   (let y8 := (spec_P6Mill x0 x2 x3 x4)
    .br (spec_P6Mill.ok x0 x2 x3 x4)
    (let y11 := (spec_P6Pick x1 (400 : Int) x2 x3 x5)
     .br (spec_P6Pick.ok x1 (400 : Int) x2 x3 x5)
     (let y12 := (spec_P6Pick x0 (80 : Int) x2 x3 x4)
      .br (spec_P6Pick.ok x0 (80 : Int) x2 x3 x4)
      (let y13 := (impl_MillText y8.1 y8.2.1 y8.2.2 x2 x3)
       .br (impl_MillText.ok y8.1 y8.2.1 y8.2.2 x2 x3)
       (let y14 := (impl_ReadMill y13 x2 x3)
        .br (impl_ReadMill.ok y13 x2 x3)
        (let y15 := (impl_FillOf y8.1 y8.2.1 y8.2.2 (fdiv .f32 (fofint .f32 y11) 1082130432) (fdiv .f32 (fofint .f32 y12) 1090519040) x2 x3)
         let y16 := (spec_FillOf y8.1 y8.2.1 y8.2.2 (fdiv .f32 (fofint .f32 y11) 1082130432) (fdiv .f32 (fofint .f32 y12) 1090519040) x2 x3)
         let y17 := (impl_SpilledBy y8.1 y8.2.1 y8.2.2 (fdiv .f32 (fofint .f32 y11) 1082130432) (fdiv .f32 (fofint .f32 y12) 1090519040) x2 x3)
         let y18 := (spec_SpilledBy y8.1 y8.2.1 y8.2.2 (fdiv .f32 (fofint .f32 y11) 1082130432) (fdiv .f32 (fofint .f32 y12) 1090519040) x2 x3)
         let y19 := (impl_TorqueFrom y8.1 y8.2.1 y8.2.2 (fdiv .f32 (fofint .f32 y11) 1082130432) (fdiv .f32 (fofint .f32 y12) 1090519040) x2 x3)
         let y20 := (spec_TorqueFrom y8.1 y8.2.1 y8.2.2 (fdiv .f32 (fofint .f32 y11) 1082130432) (fdiv .f32 (fofint .f32 y12) 1090519040) x2 x3)
         .br (y14.2.2.2 != (0 : Int))
         (.leaf false)
         (let y21 := (spec_SameMill y14.1 y14.2.1 y14.2.2.1 y8.1 y8.2.1 y8.2.2 x2 x3)
          .br (spec_SameMill.ok y14.1 y14.2.1 y14.2.2.1 y8.1 y8.2.1 y8.2.2 x2 x3)
          (.br (!y21)
           (.leaf false)
           (let y22 := (impl_ValidMill_w1 y8.1 y8.2.1 y8.2.2 x2 x3)
            .br (!y22)
            (.leaf false)
            (.br (y15.2 != y16.2)
             (.leaf false)
             (.br (y15.2 != (0 : Int))
              (.leaf false)
              (let y23 := (spec_SameNumber y15.1 y16.1 x2 x3)
               .br (spec_SameNumber.ok y15.1 y16.1 x2 x3)
               (.br (!y23)
                (.leaf false)
                (.br (flt .f32 y16.1 0)
                 (.leaf false)
                 (.br (fgt .f32 y16.1 y8.2.1)
                  (.leaf false)
                  (.br (y17.2 != y18.2)
                   (.leaf false)
                   (.br (y17.2 != (0 : Int))
                    (.leaf false)
                    (let y24 := (spec_SameNumber y17.1 y18.1 x2 x3)
                     .br (spec_SameNumber.ok y17.1 y18.1 x2 x3)
                     (.br (!y24)
                      (.leaf false)
                      (.br (flt .f32 y18.1 0)
                       (.leaf false)
                       (.br (fgt .f32 y18.1 (fdiv .f32 (fofint .f32 y11) 1082130432))
                        (.leaf false)
                        (.br (y19.2 != y20.2)
                         (.leaf false)
                         (.br (y19.2 != (0 : Int))
                          (.leaf false)
                          (let y25 := (spec_SameNumber y19.1 y20.1 x2 x3)
                           .br (spec_SameNumber.ok y19.1 y20.1 x2 x3)
                           (.br (!y25)
                            (.leaf false)
                            (.br (flt .f32 y20.1 0)
                             (.leaf false)
                             (.br (!((feq .f32 y20.1 0) == (feq .f32 (fdiv .f32 (fofint .f32 y11) 1082130432) 0)))
                              (.leaf false)
                              (let y26 := (spec_SameNumber y18.1 (fdiv .f32 (fofint .f32 y11) 1082130432) x2 x3)
                               .join
                               (.br (feq .f32 y16.1 y8.2.1)
                                (.br (feq .f32 (fdiv .f32 (fofint .f32 y12) 1090519040) 0)
                                 (.br (spec_SameNumber.ok y18.1 (fdiv .f32 (fofint .f32 y11) 1082130432) x2 x3)
                                  (.br (!y26)
                                   (.leaf (some false))
                                   (.leaf none))
                                  .bad)
                                 (.leaf none))
                                (.leaf none))
                               (let y27 := (spec_P6Pick x1 (16 : Int) x2 x3 x5)
                                .br (spec_P6Pick.ok x1 (16 : Int) x2 x3 x5)
                                (let y28 := (spec_P6Pick x0 (64 : Int) x2 x3 x4)
                                 .br (spec_P6Pick.ok x0 (64 : Int) x2 x3 x4)
                                 (let y29 := (impl_WaterSpeed (fdiv .f32 (fofint .f32 (IntKind.wrap .i64 ((1 : Int) + y28))) 1090519040) x2 x3)
                                  .br (impl_WaterSpeed.ok (fdiv .f32 (fofint .f32 (IntKind.wrap .i64 ((1 : Int) + y28))) 1090519040) x2 x3)
                                  (let y30 := (spec_WaterSpeed (fdiv .f32 (fofint .f32 (IntKind.wrap .i64 ((1 : Int) + y28))) 1090519040) x2 x3)
                                   .br (spec_WaterSpeed.ok (fdiv .f32 (fofint .f32 (IntKind.wrap .i64 ((1 : Int) + y28))) 1090519040) x2 x3)
                                   (let y31 := (spec_P6Pick x1 (17 : Int) x2 x3 x5)
                                    .br (spec_P6Pick.ok x1 (17 : Int) x2 x3 x5)
                                    (let y32 := (impl_WaterPower (fdiv .f32 (fofint .f32 y11) 1082130432) (fdiv .f32 (fofint .f32 (IntKind.wrap .i64 ((1 : Int) + y28))) 1090519040) (fdiv .f32 (fofint .f32 y31) 1098907648) x2 x3)
                                     let y33 := (spec_WaterPower (fdiv .f32 (fofint .f32 y11) 1082130432) (fdiv .f32 (fofint .f32 (IntKind.wrap .i64 ((1 : Int) + y28))) 1090519040) (fdiv .f32 (fofint .f32 y31) 1098907648) x2 x3)
                                     let y34 := (impl_WaterPower (fdiv .f32 (fofint .f32 y11) 1082130432) (fdiv .f32 (fofint .f32 (IntKind.wrap .i64 ((1 : Int) + y28))) 1090519040) 1065353216 x2 x3)
                                     .br (y29.2 != y30.2)
                                     (.leaf false)
                                     (.br (y29.2 != (0 : Int))
                                      (.leaf false)
                                      (let y35 := (spec_SameNumber y29.1 y30.1 x2 x3)
                                       .br (spec_SameNumber.ok y29.1 y30.1 x2 x3)
                                       (.br (!y35)
                                        (.leaf false)
                                        (.br (fle .f32 y30.1 0)
                                         (.leaf false)
                                         (.br (y32.2 != y33.2)
                                          (.leaf false)
                                          (.br (y32.2 != (0 : Int))
                                           (.leaf false)
                                           (let y36 := (spec_SameNumber y32.1 y33.1 x2 x3)
                                            .br (spec_SameNumber.ok y32.1 y33.1 x2 x3)
                                            (.br (!y36)
                                             (.leaf false)
                                             (.br (y34.2 != (0 : Int))
                                              (.leaf false)
                                              (.br (flt .f32 y34.1 y33.1)
                                               (.leaf false)
                                               (let y37 := (impl_IsLength_w1 (fdiv .f32 (fofint .f32 (IntKind.wrap .i64 ((1 : Int) + y28))) 1090519040) x2 x3)
                                                .br (!y37)
                                                (.leaf false)
                                                (let y38 := (impl_IsLength_w1 (fdiv .f32 (fofint .f32 (IntKind.wrap .i64 ((1 : Int) + y27))) 1090519040) x2 x3)
                                                 .br (!y38)
                                                 (.leaf false)
                                                 (let y42 := (laws_FnWater.l29.r ((fdiv .f32 (fofint .f32 (IntKind.wrap .i64 ((1 : Int) + y27))) 1090519040), (fdiv .f32 (fofint .f32 (IntKind.wrap .i64 ((1 : Int) + y28))) 1090519040), x2, x3, x4, x5) (0, (0 : Int)))
                                                  .br (Option.isSome y42)
                                                  (.br (Sum.isLeft (Option.getD y42 default))
                                                   (.leaf (getLeftD (Option.getD y42 default)))
                                                   (.leaf true))
                                                  .bad))))))
                                            .bad)))))
                                       .bad)))
                                    .bad)
                                   .bad)
                                  .bad)
                                 .bad)
                                .bad)))))
                           .bad))))))
                     .bad))))))
               .bad)))))
          .bad))
        .bad)
       .bad)
      .bad)
     .bad)
    .bad))
noncomputable def laws_FnWater (x0 : Nat) (x1 : Nat) (x2 : Int) (x3 : List Int) (x4 : List Int) (x5 : List Int) : Bool := (laws_FnWater.t x0 x1 x2 x3 x4 x5).val
noncomputable def laws_FnWater.ok (x0 : Nat) (x1 : Nat) (x2 : Int) (x3 : List Int) (x4 : List Int) (x5 : List Int) : Bool := (laws_FnWater.t x0 x1 x2 x3 x4 x5).ok
def laws_FnWater.cd : Cd (Nat × Nat × Int × List Int × List Int × List Int) (List V × Hp) := Cd.iso (Cd.pair (Cd.cons (Cd.sl 4 (Cd.natc 0)) (Cd.cons (Cd.sl 5 (Cd.natc 0)) Cd.nil)) (Cd.cons (Cd.ro 0 2 (Cd.vs (Cd.cons (Cd.it .i64) Cd.nil))) (Cd.cons (Cd.ro 0 3 (Cd.vs (Cd.cons Cd.er Cd.nil))) (Cd.cons (Cd.ro 0 4 (Cd.vs (Cd.cons Cd.er Cd.nil))) (Cd.cons (Cd.ro 21 5 (Cd.is .u64)) (Cd.cons (Cd.ro 0 0 (Cd.is .u8)) (Cd.cons (Cd.ro 0 0 (Cd.is .u8)) Cd.nil))))))) (fun a => (a.1.1.2, a.1.2.1.2, a.2.1.1, a.2.2.2.2.1, a.2.2.2.2.2.1, a.2.2.2.2.2.2.1)) (fun a => ((((), a.1), (((), a.2.1), ())), ((a.2.2.1, ()), (((), ()), (((), ()), (a.2.2.2.1, (a.2.2.2.2.1, (a.2.2.2.2.2, ())))))))) (fun _ => rfl)
noncomputable def laws_FnWater.tr (a : Nat × Nat × Int × List Int × List Int × List Int) : T Bool := laws_FnWater.t a.1 a.2.1 a.2.2.1 a.2.2.2.1 a.2.2.2.2.1 a.2.2.2.2.2
def laws_FnWater.enc : (Nat × Nat × Int × List Int × List Int × List Int) → Bool → V := fun a r => .bo r
noncomputable def laws_FnWater.c : List V → Hp → T V := cdQ laws_FnWater.cd (fun a => .br (laws_FnWater.ok a.1 a.2.1 a.2.2.1 a.2.2.2.1 a.2.2.2.2.1 a.2.2.2.2.2) (.leaf (laws_FnWater.enc a (laws_FnWater a.1 a.2.1 a.2.2.1 a.2.2.2.1 a.2.2.2.2.1 a.2.2.2.2.2))) .bad)
theorem laws_FnWater.run (a : Nat × Nat × Int × List Int × List Int × List Int) : runF laws_FnWater.C Tryz.f3.results.toList laws_FnWater.b (laws_FnWater.cd.enc a).1 (laws_FnWater.cd.enc a).2 = (laws_FnWater.tr a).map fun r => (laws_FnWater.enc a r, (laws_FnWater.cd.enc a).2) := by kernel_rfl
theorem laws_FnWater.cok : OKq Tryz.prog 3 laws_FnWater.c := con_q' laws_FnWater.cd laws_FnWater.hC Tryz.func3 (by kernel_rfl) (by kernel_rfl) (by kernel_rfl) laws_FnWater.lp (fun a => by kernel_rfl) laws_FnWater.run (Tells.ok (tree := laws_FnWater.tr))
theorem laws_FnWater.walk (a : Nat × Nat × Int × List Int × List Int × List Int) (h : (laws_FnWater.tr a).get = some true) {ρ : Nat → Option Sx.Loc} {w : World} {vs : List Value} (hargs : V.Rs ρ (laws_FnWater.cd.enc a).1 vs) (hh : HpR ρ (laws_FnWater.cd.enc a).2 w) :
    Calls Tryz.prog 3 vs.toArray w fun e w' => e = .returned (.bool true) ∧ Below w.heap.size w w' :=
  law_cd laws_FnWater.cd laws_FnWater.hC Tryz.func3 (by kernel_rfl) (by kernel_rfl) laws_FnWater.lp (fun a => by kernel_rfl) laws_FnWater.run (fun a => by kernel_rfl) a (by kernel_rfl) h hargs hh
end Go.Proofs.YtccdbfmfdhhgfaaGreatDoor
