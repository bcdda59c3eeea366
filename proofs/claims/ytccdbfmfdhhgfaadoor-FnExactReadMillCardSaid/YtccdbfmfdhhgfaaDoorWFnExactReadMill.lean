/- The walk of FnExactReadMill: what each function that it comes to computes, as a tree of tests. -/
import Derived.Test.YtccdbfmfdhhgfaaDoorSxU
import Derived.Test.YtccdbfmfdhhgfaaDoorShelf
import Derived.Test.YtccdbfmfdhhgfaaDoorSxV
import Derived.Test.YtccdbfmfdhhgfaaDoorSxB2
import Derived.Test.YtccdbfmfdhhgfaaDoorCount
import Derived.Test.YtccdbfmfdhhgfaaDoorSxW
import Derived.Test.YtccdbfmfdhhgfaaDoorSxP
import Derived.Test.YtccdbfmfdhhgfaaDoorChecked
namespace Go.Proofs.YtccdbfmfdhhgfaaDoor
open Go Go.RowKit Sx
set_option linter.unusedVariables false
set_option maxRecDepth 100000
set_option maxHeartbeats 0
noncomputable def ti1 : TI := ⟨Tryd.t1.desc, 1, 8, [.nf]⟩
theorem ti1_ok : TyOK Tryd.prog 1 ti1 := TyOK.of (inf := Tryd.t1) Tryd.underlying1 (by kernel_rfl) (by kernel_rfl) (by kernel_rfl) (by kernel_rfl)
noncomputable def ti2 : TI := ⟨Tryd.t2.desc, 1, 8, [.it .i64 (0 : Int)]⟩
theorem ti2_ok : TyOK Tryd.prog 2 ti2 := TyOK.of (inf := Tryd.t2) Tryd.underlying2 (by kernel_rfl) (by kernel_rfl) (by kernel_rfl) (by kernel_rfl)
noncomputable def ti3 : TI := ⟨Tryd.t3.desc, 1, 8, [.it .i64 (0 : Int)]⟩
theorem ti3_ok : TyOK Tryd.prog 3 ti3 := TyOK.of (inf := Tryd.t3) Tryd.underlying3 (by kernel_rfl) (by kernel_rfl) (by kernel_rfl) (by kernel_rfl)
noncomputable def ti4 : TI := ⟨Tryd.t4.desc, 1, 1, [.kb false]⟩
theorem ti4_ok : TyOK Tryd.prog 4 ti4 := TyOK.of (inf := Tryd.t4) Tryd.underlying4 (by kernel_rfl) (by kernel_rfl) (by kernel_rfl) (by kernel_rfl)
noncomputable def ti5 : TI := ⟨Tryd.t5.desc, 1, 1, [.it .u8 (0 : Int)]⟩
theorem ti5_ok : TyOK Tryd.prog 5 ti5 := TyOK.of (inf := Tryd.t5) Tryd.underlying5 (by kernel_rfl) (by kernel_rfl) (by kernel_rfl) (by kernel_rfl)
noncomputable def ti6 : TI := ⟨Tryd.t5.desc, 1, 1, [.it .u8 (0 : Int)]⟩
theorem ti6_ok : TyOK Tryd.prog 6 ti6 := TyOK.of (inf := Tryd.t6) Tryd.underlying6 (by kernel_rfl) (by kernel_rfl) (by kernel_rfl) (by kernel_rfl)
noncomputable def ti7 : TI := ⟨Tryd.t7.desc, 4, 24, [.it .i64 (0 : Int), .it .i64 (0 : Int), .kb false, .it .u8 (0 : Int)]⟩
theorem ti7_ok : TyOK Tryd.prog 7 ti7 := TyOK.of (inf := Tryd.t7) Tryd.underlying7 (by kernel_rfl) (by kernel_rfl) (by kernel_rfl) (by kernel_rfl)
noncomputable def ti8 : TI := ⟨Tryd.t7.desc, 4, 24, [.it .i64 (0 : Int), .it .i64 (0 : Int), .kb false, .it .u8 (0 : Int)]⟩
theorem ti8_ok : TyOK Tryd.prog 8 ti8 := TyOK.of (inf := Tryd.t8) Tryd.underlying8 (by kernel_rfl) (by kernel_rfl) (by kernel_rfl) (by kernel_rfl)
noncomputable def ti9 : TI := ⟨Tryd.t9.desc, 1, 16, [.st (ByteArray.mk #[])]⟩
theorem ti9_ok : TyOK Tryd.prog 9 ti9 := TyOK.of (inf := Tryd.t9) Tryd.underlying9 (by kernel_rfl) (by kernel_rfl) (by kernel_rfl) (by kernel_rfl)
noncomputable def ti10 : TI := ⟨Tryd.t9.desc, 1, 16, [.st (ByteArray.mk #[])]⟩
theorem ti10_ok : TyOK Tryd.prog 10 ti10 := TyOK.of (inf := Tryd.t10) Tryd.underlying10 (by kernel_rfl) (by kernel_rfl) (by kernel_rfl) (by kernel_rfl)
noncomputable def ti11 : TI := ⟨Tryd.t9.desc, 1, 16, [.st (ByteArray.mk #[])]⟩
theorem ti11_ok : TyOK Tryd.prog 11 ti11 := TyOK.of (inf := Tryd.t11) Tryd.underlying11 (by kernel_rfl) (by kernel_rfl) (by kernel_rfl) (by kernel_rfl)
noncomputable def ti12 : TI := ⟨Tryd.t12.desc, 1, 8, [.it .u64 (0 : Int)]⟩
theorem ti12_ok : TyOK Tryd.prog 12 ti12 := TyOK.of (inf := Tryd.t12) Tryd.underlying12 (by kernel_rfl) (by kernel_rfl) (by kernel_rfl) (by kernel_rfl)
noncomputable def ti13 : TI := ⟨Tryd.t13.desc, 2, 24, [.st (ByteArray.mk #[]), .it .u64 (0 : Int)]⟩
theorem ti13_ok : TyOK Tryd.prog 13 ti13 := TyOK.of (inf := Tryd.t13) Tryd.underlying13 (by kernel_rfl) (by kernel_rfl) (by kernel_rfl) (by kernel_rfl)
noncomputable def ti14 : TI := ⟨Tryd.t13.desc, 2, 24, [.st (ByteArray.mk #[]), .it .u64 (0 : Int)]⟩
theorem ti14_ok : TyOK Tryd.prog 14 ti14 := TyOK.of (inf := Tryd.t14) Tryd.underlying14 (by kernel_rfl) (by kernel_rfl) (by kernel_rfl) (by kernel_rfl)
noncomputable def ti15 : TI := ⟨Tryd.t15.desc, 1, 8, [.pn]⟩
theorem ti15_ok : TyOK Tryd.prog 15 ti15 := TyOK.of (inf := Tryd.t15) Tryd.underlying15 (by kernel_rfl) (by kernel_rfl) (by kernel_rfl) (by kernel_rfl)
noncomputable def ti16 : TI := ⟨Tryd.t16.desc, 1, 8, [.pn]⟩
theorem ti16_ok : TyOK Tryd.prog 16 ti16 := TyOK.of (inf := Tryd.t16) Tryd.underlying16 (by kernel_rfl) (by kernel_rfl) (by kernel_rfl) (by kernel_rfl)
noncomputable def ti17 : TI := ⟨Tryd.t17.desc, 1, 8, [.pn]⟩
theorem ti17_ok : TyOK Tryd.prog 17 ti17 := TyOK.of (inf := Tryd.t17) Tryd.underlying17 (by kernel_rfl) (by kernel_rfl) (by kernel_rfl) (by kernel_rfl)
noncomputable def ti18 : TI := ⟨Tryd.t18.desc, 1, 8, [.pn]⟩
theorem ti18_ok : TyOK Tryd.prog 18 ti18 := TyOK.of (inf := Tryd.t18) Tryd.underlying18 (by kernel_rfl) (by kernel_rfl) (by kernel_rfl) (by kernel_rfl)
noncomputable def ti19 : TI := ⟨Tryd.t18.desc, 1, 8, [.pn]⟩
theorem ti19_ok : TyOK Tryd.prog 19 ti19 := TyOK.of (inf := Tryd.t19) Tryd.underlying19 (by kernel_rfl) (by kernel_rfl) (by kernel_rfl) (by kernel_rfl)
noncomputable def ti21 : TI := ⟨Tryd.t21.desc, 1, 4, [.it .i32 (0 : Int)]⟩
theorem ti21_ok : TyOK Tryd.prog 21 ti21 := TyOK.of (inf := Tryd.t21) Tryd.underlying21 (by kernel_rfl) (by kernel_rfl) (by kernel_rfl) (by kernel_rfl)
noncomputable def ti22 : TI := ⟨Tryd.t22.desc, 1, 2, [.it .i16 (0 : Int)]⟩
theorem ti22_ok : TyOK Tryd.prog 22 ti22 := TyOK.of (inf := Tryd.t22) Tryd.underlying22 (by kernel_rfl) (by kernel_rfl) (by kernel_rfl) (by kernel_rfl)
noncomputable def ti23 : TI := ⟨Tryd.t23.desc, 1, 4, [.fl .f32 0]⟩
theorem ti23_ok : TyOK Tryd.prog 23 ti23 := TyOK.of (inf := Tryd.t23) Tryd.underlying23 (by kernel_rfl) (by kernel_rfl) (by kernel_rfl) (by kernel_rfl)
noncomputable def ti24 : TI := ⟨Tryd.t24.desc, 3, 12, [.it .i16 (0 : Int), .fl .f32 0, .fl .f32 0]⟩
theorem ti24_ok : TyOK Tryd.prog 24 ti24 := TyOK.of (inf := Tryd.t24) Tryd.underlying24 (by kernel_rfl) (by kernel_rfl) (by kernel_rfl) (by kernel_rfl)
noncomputable def ti25 : TI := ⟨Tryd.t24.desc, 3, 12, [.it .i16 (0 : Int), .fl .f32 0, .fl .f32 0]⟩
theorem ti25_ok : TyOK Tryd.prog 25 ti25 := TyOK.of (inf := Tryd.t25) Tryd.underlying25 (by kernel_rfl) (by kernel_rfl) (by kernel_rfl) (by kernel_rfl)
noncomputable def ti26 : TI := ⟨Tryd.t26.desc, 1, 8, [.nf]⟩
theorem ti26_ok : TyOK Tryd.prog 26 ti26 := TyOK.of (inf := Tryd.t26) Tryd.underlying26 (by kernel_rfl) (by kernel_rfl) (by kernel_rfl) (by kernel_rfl)
noncomputable def ti27 : TI := ⟨Tryd.t24.desc, 3, 12, [.it .i16 (0 : Int), .fl .f32 0, .fl .f32 0]⟩
theorem ti27_ok : TyOK Tryd.prog 27 ti27 := TyOK.of (inf := Tryd.t27) Tryd.underlying27 (by kernel_rfl) (by kernel_rfl) (by kernel_rfl) (by kernel_rfl)
noncomputable def ti28 : TI := ⟨Tryd.t28.desc, 1, 8, [.nf]⟩
theorem ti28_ok : TyOK Tryd.prog 28 ti28 := TyOK.of (inf := Tryd.t28) Tryd.underlying28 (by kernel_rfl) (by kernel_rfl) (by kernel_rfl) (by kernel_rfl)
noncomputable def ti29 : TI := ⟨Tryd.t29.desc, 1, 8, [.nf]⟩
theorem ti29_ok : TyOK Tryd.prog 29 ti29 := TyOK.of (inf := Tryd.t29) Tryd.underlying29 (by kernel_rfl) (by kernel_rfl) (by kernel_rfl) (by kernel_rfl)
noncomputable def ti31 : TI := ⟨Tryd.t31.desc, 1, 8, [.nf]⟩
theorem ti31_ok : TyOK Tryd.prog 31 ti31 := TyOK.of (inf := Tryd.t31) Tryd.underlying31 (by kernel_rfl) (by kernel_rfl) (by kernel_rfl) (by kernel_rfl)
noncomputable def ti32 : TI := ⟨Tryd.t32.desc, 1, 8, [.nf]⟩
theorem ti32_ok : TyOK Tryd.prog 32 ti32 := TyOK.of (inf := Tryd.t32) Tryd.underlying32 (by kernel_rfl) (by kernel_rfl) (by kernel_rfl) (by kernel_rfl)
noncomputable def ti33 : TI := ⟨Tryd.t33.desc, 1, 8, [.nf]⟩
theorem ti33_ok : TyOK Tryd.prog 33 ti33 := TyOK.of (inf := Tryd.t33) Tryd.underlying33 (by kernel_rfl) (by kernel_rfl) (by kernel_rfl) (by kernel_rfl)
noncomputable def ti34 : TI := ⟨Tryd.t34.desc, 1, 8, [.nf]⟩
theorem ti34_ok : TyOK Tryd.prog 34 ti34 := TyOK.of (inf := Tryd.t34) Tryd.underlying34 (by kernel_rfl) (by kernel_rfl) (by kernel_rfl) (by kernel_rfl)
noncomputable def ti35 : TI := ⟨Tryd.t35.desc, 1, 8, [.nf]⟩
theorem ti35_ok : TyOK Tryd.prog 35 ti35 := TyOK.of (inf := Tryd.t35) Tryd.underlying35 (by kernel_rfl) (by kernel_rfl) (by kernel_rfl) (by kernel_rfl)
noncomputable def ti36 : TI := ⟨Tryd.t36.desc, 1, 8, [.nf]⟩
theorem ti36_ok : TyOK Tryd.prog 36 ti36 := TyOK.of (inf := Tryd.t36) Tryd.underlying36 (by kernel_rfl) (by kernel_rfl) (by kernel_rfl) (by kernel_rfl)
noncomputable def ti37 : TI := ⟨Tryd.t37.desc, 1, 24, [.sn]⟩
theorem ti37_ok : TyOK Tryd.prog 37 ti37 := TyOK.of (inf := Tryd.t37) Tryd.underlying37 (by kernel_rfl) (by kernel_rfl) (by kernel_rfl) (by kernel_rfl)
noncomputable def ti38 : TI := ⟨Tryd.t38.desc, 1, 8, [.nf]⟩
theorem ti38_ok : TyOK Tryd.prog 38 ti38 := TyOK.of (inf := Tryd.t38) Tryd.underlying38 (by kernel_rfl) (by kernel_rfl) (by kernel_rfl) (by kernel_rfl)
noncomputable def ti40 : TI := ⟨Tryd.t40.desc, 1, 8, [.nf]⟩
theorem ti40_ok : TyOK Tryd.prog 40 ti40 := TyOK.of (inf := Tryd.t40) Tryd.underlying40 (by kernel_rfl) (by kernel_rfl) (by kernel_rfl) (by kernel_rfl)
noncomputable def ti42 : TI := ⟨Tryd.t42.desc, 1, 8, [.nf]⟩
theorem ti42_ok : TyOK Tryd.prog 42 ti42 := TyOK.of (inf := Tryd.t42) Tryd.underlying42 (by kernel_rfl) (by kernel_rfl) (by kernel_rfl) (by kernel_rfl)
noncomputable def ti43 : TI := ⟨Tryd.t43.desc, 1, 8, [.nf]⟩
theorem ti43_ok : TyOK Tryd.prog 43 ti43 := TyOK.of (inf := Tryd.t43) Tryd.underlying43 (by kernel_rfl) (by kernel_rfl) (by kernel_rfl) (by kernel_rfl)
noncomputable def ti45 : TI := ⟨Tryd.t45.desc, 1, 8, [.nf]⟩
theorem ti45_ok : TyOK Tryd.prog 45 ti45 := TyOK.of (inf := Tryd.t45) Tryd.underlying45 (by kernel_rfl) (by kernel_rfl) (by kernel_rfl) (by kernel_rfl)
noncomputable def ti46 : TI := ⟨Tryd.t46.desc, 1, 24, [.sn]⟩
theorem ti46_ok : TyOK Tryd.prog 46 ti46 := TyOK.of (inf := Tryd.t46) Tryd.underlying46 (by kernel_rfl) (by kernel_rfl) (by kernel_rfl) (by kernel_rfl)
noncomputable def ti48 : TI := ⟨Tryd.t48.desc, 1, 8, [.nf]⟩
theorem ti48_ok : TyOK Tryd.prog 48 ti48 := TyOK.of (inf := Tryd.t48) Tryd.underlying48 (by kernel_rfl) (by kernel_rfl) (by kernel_rfl) (by kernel_rfl)
noncomputable def ti49 : TI := ⟨Tryd.t49.desc, 1, 8, [.nf]⟩
theorem ti49_ok : TyOK Tryd.prog 49 ti49 := TyOK.of (inf := Tryd.t49) Tryd.underlying49 (by kernel_rfl) (by kernel_rfl) (by kernel_rfl) (by kernel_rfl)
noncomputable def ti50 : TI := ⟨Tryd.t50.desc, 1, 8, [.fl .f64 0]⟩
theorem ti50_ok : TyOK Tryd.prog 50 ti50 := TyOK.of (inf := Tryd.t50) Tryd.underlying50 (by kernel_rfl) (by kernel_rfl) (by kernel_rfl) (by kernel_rfl)
noncomputable def ti51 : TI := ⟨Tryd.t51.desc, 1, 8, [.nf]⟩
theorem ti51_ok : TyOK Tryd.prog 51 ti51 := TyOK.of (inf := Tryd.t51) Tryd.underlying51 (by kernel_rfl) (by kernel_rfl) (by kernel_rfl) (by kernel_rfl)
noncomputable def ti52 : TI := ⟨Tryd.t52.desc, 1, 8, [.nf]⟩
theorem ti52_ok : TyOK Tryd.prog 52 ti52 := TyOK.of (inf := Tryd.t52) Tryd.underlying52 (by kernel_rfl) (by kernel_rfl) (by kernel_rfl) (by kernel_rfl)
noncomputable def ti53 : TI := ⟨Tryd.t53.desc, 1, 8, [.nf]⟩
theorem ti53_ok : TyOK Tryd.prog 53 ti53 := TyOK.of (inf := Tryd.t53) Tryd.underlying53 (by kernel_rfl) (by kernel_rfl) (by kernel_rfl) (by kernel_rfl)
noncomputable def ti54 : TI := ⟨Tryd.t54.desc, 1, 8, [.nf]⟩
theorem ti54_ok : TyOK Tryd.prog 54 ti54 := TyOK.of (inf := Tryd.t54) Tryd.underlying54 (by kernel_rfl) (by kernel_rfl) (by kernel_rfl) (by kernel_rfl)
noncomputable def ti55 : TI := ⟨Tryd.t55.desc, 1, 8, [.nf]⟩
theorem ti55_ok : TyOK Tryd.prog 55 ti55 := TyOK.of (inf := Tryd.t55) Tryd.underlying55 (by kernel_rfl) (by kernel_rfl) (by kernel_rfl) (by kernel_rfl)
noncomputable def ti56 : TI := ⟨Tryd.t56.desc, 1, 4, [.it .u32 (0 : Int)]⟩
theorem ti56_ok : TyOK Tryd.prog 56 ti56 := TyOK.of (inf := Tryd.t56) Tryd.underlying56 (by kernel_rfl) (by kernel_rfl) (by kernel_rfl) (by kernel_rfl)
noncomputable def ti57 : TI := ⟨Tryd.t57.desc, 1, 8, [.nf]⟩
theorem ti57_ok : TyOK Tryd.prog 57 ti57 := TyOK.of (inf := Tryd.t57) Tryd.underlying57 (by kernel_rfl) (by kernel_rfl) (by kernel_rfl) (by kernel_rfl)
noncomputable def ti58 : TI := ⟨Tryd.t58.desc, 1, 8, [.nf]⟩
theorem ti58_ok : TyOK Tryd.prog 58 ti58 := TyOK.of (inf := Tryd.t58) Tryd.underlying58 (by kernel_rfl) (by kernel_rfl) (by kernel_rfl) (by kernel_rfl)
noncomputable def ti59 : TI := ⟨Tryd.t59.desc, 1, 8, [.nf]⟩
theorem ti59_ok : TyOK Tryd.prog 59 ti59 := TyOK.of (inf := Tryd.t59) Tryd.underlying59 (by kernel_rfl) (by kernel_rfl) (by kernel_rfl) (by kernel_rfl)
noncomputable def ti60 : TI := ⟨Tryd.t60.desc, 1, 8, [.it .u64 (0 : Int)]⟩
theorem ti60_ok : TyOK Tryd.prog 60 ti60 := TyOK.of (inf := Tryd.t60) Tryd.underlying60 (by kernel_rfl) (by kernel_rfl) (by kernel_rfl) (by kernel_rfl)
noncomputable def ti64 : TI := ⟨Tryd.t64.desc, 1, 8, [.nf]⟩
theorem ti64_ok : TyOK Tryd.prog 64 ti64 := TyOK.of (inf := Tryd.t64) Tryd.underlying64 (by kernel_rfl) (by kernel_rfl) (by kernel_rfl) (by kernel_rfl)
noncomputable def ti66 : TI := ⟨Tryd.t66.desc, 1, 8, [.nf]⟩
theorem ti66_ok : TyOK Tryd.prog 66 ti66 := TyOK.of (inf := Tryd.t66) Tryd.underlying66 (by kernel_rfl) (by kernel_rfl) (by kernel_rfl) (by kernel_rfl)
noncomputable def ti67 : TI := ⟨Tryd.t67.desc, 1, 24, [.sn]⟩
theorem ti67_ok : TyOK Tryd.prog 67 ti67 := TyOK.of (inf := Tryd.t67) Tryd.underlying67 (by kernel_rfl) (by kernel_rfl) (by kernel_rfl) (by kernel_rfl)
noncomputable def ti68 : TI := ⟨Tryd.t68.desc, 1, 8, [.nf]⟩
theorem ti68_ok : TyOK Tryd.prog 68 ti68 := TyOK.of (inf := Tryd.t68) Tryd.underlying68 (by kernel_rfl) (by kernel_rfl) (by kernel_rfl) (by kernel_rfl)
noncomputable def ti69 : TI := ⟨Tryd.t69.desc, 1, 8, [.pn]⟩
theorem ti69_ok : TyOK Tryd.prog 69 ti69 := TyOK.of (inf := Tryd.t69) Tryd.underlying69 (by kernel_rfl) (by kernel_rfl) (by kernel_rfl) (by kernel_rfl)
noncomputable def ti70 : TI := ⟨Tryd.t70.desc, 2, 32, [.pn, .sn]⟩
theorem ti70_ok : TyOK Tryd.prog 70 ti70 := TyOK.of (inf := Tryd.t70) Tryd.underlying70 (by kernel_rfl) (by kernel_rfl) (by kernel_rfl) (by kernel_rfl)
noncomputable def ti71 : TI := ⟨Tryd.t70.desc, 2, 32, [.pn, .sn]⟩
theorem ti71_ok : TyOK Tryd.prog 71 ti71 := TyOK.of (inf := Tryd.t71) Tryd.underlying71 (by kernel_rfl) (by kernel_rfl) (by kernel_rfl) (by kernel_rfl)
noncomputable def ti72 : TI := ⟨Tryd.t72.desc, 1, 8, [.nf]⟩
theorem ti72_ok : TyOK Tryd.prog 72 ti72 := TyOK.of (inf := Tryd.t72) Tryd.underlying72 (by kernel_rfl) (by kernel_rfl) (by kernel_rfl) (by kernel_rfl)
noncomputable def ti74 : TI := ⟨Tryd.t74.desc, 1, 8, [.nf]⟩
theorem ti74_ok : TyOK Tryd.prog 74 ti74 := TyOK.of (inf := Tryd.t74) Tryd.underlying74 (by kernel_rfl) (by kernel_rfl) (by kernel_rfl) (by kernel_rfl)
noncomputable def ti75 : TI := ⟨Tryd.t75.desc, 1, 8, [.nf]⟩
theorem ti75_ok : TyOK Tryd.prog 75 ti75 := TyOK.of (inf := Tryd.t75) Tryd.underlying75 (by kernel_rfl) (by kernel_rfl) (by kernel_rfl) (by kernel_rfl)
noncomputable def ti76 : TI := ⟨Tryd.t76.desc, 1, 8, [.nf]⟩
theorem ti76_ok : TyOK Tryd.prog 76 ti76 := TyOK.of (inf := Tryd.t76) Tryd.underlying76 (by kernel_rfl) (by kernel_rfl) (by kernel_rfl) (by kernel_rfl)
noncomputable def ti77 : TI := ⟨Tryd.t77.desc, 1, 8, [.nf]⟩
theorem ti77_ok : TyOK Tryd.prog 77 ti77 := TyOK.of (inf := Tryd.t77) Tryd.underlying77 (by kernel_rfl) (by kernel_rfl) (by kernel_rfl) (by kernel_rfl)
noncomputable def ti78 : TI := ⟨Tryd.t78.desc, 1, 8, [.nf]⟩
theorem ti78_ok : TyOK Tryd.prog 78 ti78 := TyOK.of (inf := Tryd.t78) Tryd.underlying78 (by kernel_rfl) (by kernel_rfl) (by kernel_rfl) (by kernel_rfl)
noncomputable def ti79 : TI := ⟨Tryd.t79.desc, 1, 8, [.it .u64 (0 : Int)]⟩
theorem ti79_ok : TyOK Tryd.prog 79 ti79 := TyOK.of (inf := Tryd.t79) Tryd.underlying79 (by kernel_rfl) (by kernel_rfl) (by kernel_rfl) (by kernel_rfl)
noncomputable def ti80 : TI := ⟨Tryd.t80.desc, 1, 8, [.nf]⟩
theorem ti80_ok : TyOK Tryd.prog 80 ti80 := TyOK.of (inf := Tryd.t80) Tryd.underlying80 (by kernel_rfl) (by kernel_rfl) (by kernel_rfl) (by kernel_rfl)
noncomputable def ti81 : TI := ⟨Tryd.t81.desc, 1, 8, [.nf]⟩
theorem ti81_ok : TyOK Tryd.prog 81 ti81 := TyOK.of (inf := Tryd.t81) Tryd.underlying81 (by kernel_rfl) (by kernel_rfl) (by kernel_rfl) (by kernel_rfl)
noncomputable def ti82 : TI := ⟨Tryd.t82.desc, 24, 24, [.it .u8 (0 : Int), .it .u8 (0 : Int), .it .u8 (0 : Int), .it .u8 (0 : Int), .it .u8 (0 : Int), .it .u8 (0 : Int), .it .u8 (0 : Int), .it .u8 (0 : Int), .it .u8 (0 : Int), .it .u8 (0 : Int), .it .u8 (0 : Int), .it .u8 (0 : Int), .it .u8 (0 : Int), .it .u8 (0 : Int), .it .u8 (0 : Int), .it .u8 (0 : Int), .it .u8 (0 : Int), .it .u8 (0 : Int), .it .u8 (0 : Int), .it .u8 (0 : Int), .it .u8 (0 : Int), .it .u8 (0 : Int), .it .u8 (0 : Int), .it .u8 (0 : Int)]⟩
theorem ti82_ok : TyOK Tryd.prog 82 ti82 := TyOK.of (inf := Tryd.t82) Tryd.underlying82 (by kernel_rfl) (by kernel_rfl) (by kernel_rfl) (by kernel_rfl)
noncomputable def ti83 : TI := ⟨Tryd.t83.desc, 1, 8, [.nf]⟩
theorem ti83_ok : TyOK Tryd.prog 83 ti83 := TyOK.of (inf := Tryd.t83) Tryd.underlying83 (by kernel_rfl) (by kernel_rfl) (by kernel_rfl) (by kernel_rfl)
noncomputable def ti84 : TI := ⟨Tryd.t84.desc, 1, 8, [.nf]⟩
theorem ti84_ok : TyOK Tryd.prog 84 ti84 := TyOK.of (inf := Tryd.t84) Tryd.underlying84 (by kernel_rfl) (by kernel_rfl) (by kernel_rfl) (by kernel_rfl)
noncomputable def ti86 : TI := ⟨Tryd.t86.desc, 1, 8, [.nf]⟩
theorem ti86_ok : TyOK Tryd.prog 86 ti86 := TyOK.of (inf := Tryd.t86) Tryd.underlying86 (by kernel_rfl) (by kernel_rfl) (by kernel_rfl) (by kernel_rfl)
noncomputable def ti87 : TI := ⟨Tryd.t87.desc, 1, 8, [.pn]⟩
theorem ti87_ok : TyOK Tryd.prog 87 ti87 := TyOK.of (inf := Tryd.t87) Tryd.underlying87 (by kernel_rfl) (by kernel_rfl) (by kernel_rfl) (by kernel_rfl)
noncomputable def ti88 : TI := ⟨Tryd.t88.desc, 1, 8, [.nf]⟩
theorem ti88_ok : TyOK Tryd.prog 88 ti88 := TyOK.of (inf := Tryd.t88) Tryd.underlying88 (by kernel_rfl) (by kernel_rfl) (by kernel_rfl) (by kernel_rfl)
noncomputable def ti90 : TI := ⟨Tryd.t90.desc, 1, 8, [.nf]⟩
theorem ti90_ok : TyOK Tryd.prog 90 ti90 := TyOK.of (inf := Tryd.t90) Tryd.underlying90 (by kernel_rfl) (by kernel_rfl) (by kernel_rfl) (by kernel_rfl)
noncomputable def ti91 : TI := ⟨Tryd.t3.desc, 1, 8, [.it .i64 (0 : Int)]⟩
theorem ti91_ok : TyOK Tryd.prog 91 ti91 := TyOK.of (inf := Tryd.t91) Tryd.underlying91 (by kernel_rfl) (by kernel_rfl) (by kernel_rfl) (by kernel_rfl)
noncomputable def ti92 : TI := ⟨Tryd.t92.desc, 1, 8, [.nf]⟩
theorem ti92_ok : TyOK Tryd.prog 92 ti92 := TyOK.of (inf := Tryd.t92) Tryd.underlying92 (by kernel_rfl) (by kernel_rfl) (by kernel_rfl) (by kernel_rfl)
noncomputable def ti93 : TI := ⟨Tryd.t93.desc, 1, 8, [.pn]⟩
theorem ti93_ok : TyOK Tryd.prog 93 ti93 := TyOK.of (inf := Tryd.t93) Tryd.underlying93 (by kernel_rfl) (by kernel_rfl) (by kernel_rfl) (by kernel_rfl)
noncomputable def ti94 : TI := ⟨Tryd.t94.desc, 1, 8, [.nf]⟩
theorem ti94_ok : TyOK Tryd.prog 94 ti94 := TyOK.of (inf := Tryd.t94) Tryd.underlying94 (by kernel_rfl) (by kernel_rfl) (by kernel_rfl) (by kernel_rfl)
noncomputable def ti95 : TI := ⟨Tryd.t95.desc, 1, 8, [.nf]⟩
theorem ti95_ok : TyOK Tryd.prog 95 ti95 := TyOK.of (inf := Tryd.t95) Tryd.underlying95 (by kernel_rfl) (by kernel_rfl) (by kernel_rfl) (by kernel_rfl)
noncomputable def ti96 : TI := ⟨Tryd.t96.desc, 1, 8, [.nf]⟩
theorem ti96_ok : TyOK Tryd.prog 96 ti96 := TyOK.of (inf := Tryd.t96) Tryd.underlying96 (by kernel_rfl) (by kernel_rfl) (by kernel_rfl) (by kernel_rfl)
noncomputable def ti97 : TI := ⟨Tryd.t97.desc, 1, 8, [.nf]⟩
theorem ti97_ok : TyOK Tryd.prog 97 ti97 := TyOK.of (inf := Tryd.t97) Tryd.underlying97 (by kernel_rfl) (by kernel_rfl) (by kernel_rfl) (by kernel_rfl)
noncomputable def ti98 : TI := ⟨Tryd.t98.desc, 20, 160, [.it .u64 (0 : Int), .it .u64 (0 : Int), .it .u64 (0 : Int), .it .u64 (0 : Int), .it .u64 (0 : Int), .it .u64 (0 : Int), .it .u64 (0 : Int), .it .u64 (0 : Int), .it .u64 (0 : Int), .it .u64 (0 : Int), .it .u64 (0 : Int), .it .u64 (0 : Int), .it .u64 (0 : Int), .it .u64 (0 : Int), .it .u64 (0 : Int), .it .u64 (0 : Int), .it .u64 (0 : Int), .it .u64 (0 : Int), .it .u64 (0 : Int), .it .u64 (0 : Int)]⟩
theorem ti98_ok : TyOK Tryd.prog 98 ti98 := TyOK.of (inf := Tryd.t98) Tryd.underlying98 (by kernel_rfl) (by kernel_rfl) (by kernel_rfl) (by kernel_rfl)
noncomputable def ti99 : TI := ⟨Tryd.t99.desc, 65, 65, [.it .u8 (0 : Int), .it .u8 (0 : Int), .it .u8 (0 : Int), .it .u8 (0 : Int), .it .u8 (0 : Int), .it .u8 (0 : Int), .it .u8 (0 : Int), .it .u8 (0 : Int), .it .u8 (0 : Int), .it .u8 (0 : Int), .it .u8 (0 : Int), .it .u8 (0 : Int), .it .u8 (0 : Int), .it .u8 (0 : Int), .it .u8 (0 : Int), .it .u8 (0 : Int), .it .u8 (0 : Int), .it .u8 (0 : Int), .it .u8 (0 : Int), .it .u8 (0 : Int), .it .u8 (0 : Int), .it .u8 (0 : Int), .it .u8 (0 : Int), .it .u8 (0 : Int), .it .u8 (0 : Int), .it .u8 (0 : Int), .it .u8 (0 : Int), .it .u8 (0 : Int), .it .u8 (0 : Int), .it .u8 (0 : Int), .it .u8 (0 : Int), .it .u8 (0 : Int), .it .u8 (0 : Int), .it .u8 (0 : Int), .it .u8 (0 : Int), .it .u8 (0 : Int), .it .u8 (0 : Int), .it .u8 (0 : Int), .it .u8 (0 : Int), .it .u8 (0 : Int), .it .u8 (0 : Int), .it .u8 (0 : Int), .it .u8 (0 : Int), .it .u8 (0 : Int), .it .u8 (0 : Int), .it .u8 (0 : Int), .it .u8 (0 : Int), .it .u8 (0 : Int), .it .u8 (0 : Int), .it .u8 (0 : Int), .it .u8 (0 : Int), .it .u8 (0 : Int), .it .u8 (0 : Int), .it .u8 (0 : Int), .it .u8 (0 : Int), .it .u8 (0 : Int), .it .u8 (0 : Int), .it .u8 (0 : Int), .it .u8 (0 : Int), .it .u8 (0 : Int), .it .u8 (0 : Int), .it .u8 (0 : Int), .it .u8 (0 : Int), .it .u8 (0 : Int), .it .u8 (0 : Int)]⟩
theorem ti99_ok : TyOK Tryd.prog 99 ti99 := TyOK.of (inf := Tryd.t99) Tryd.underlying99 (by kernel_rfl) (by kernel_rfl) (by kernel_rfl) (by kernel_rfl)
noncomputable def ti100 : TI := ⟨Tryd.t100.desc, 1, 8, [.nf]⟩
theorem ti100_ok : TyOK Tryd.prog 100 ti100 := TyOK.of (inf := Tryd.t100) Tryd.underlying100 (by kernel_rfl) (by kernel_rfl) (by kernel_rfl) (by kernel_rfl)
noncomputable def ti101 : TI := ⟨Tryd.t101.desc, 1, 8, [.nf]⟩
theorem ti101_ok : TyOK Tryd.prog 101 ti101 := TyOK.of (inf := Tryd.t101) Tryd.underlying101 (by kernel_rfl) (by kernel_rfl) (by kernel_rfl) (by kernel_rfl)
noncomputable def ti102 : TI := ⟨Tryd.t102.desc, 1, 8, [.pn]⟩
theorem ti102_ok : TyOK Tryd.prog 102 ti102 := TyOK.of (inf := Tryd.t102) Tryd.underlying102 (by kernel_rfl) (by kernel_rfl) (by kernel_rfl) (by kernel_rfl)
noncomputable def ti103 : TI := ⟨Tryd.t103.desc, 1, 8, [.nf]⟩
theorem ti103_ok : TyOK Tryd.prog 103 ti103 := TyOK.of (inf := Tryd.t103) Tryd.underlying103 (by kernel_rfl) (by kernel_rfl) (by kernel_rfl) (by kernel_rfl)
noncomputable def ti104 : TI := ⟨Tryd.t104.desc, 1, 8, [.nf]⟩
theorem ti104_ok : TyOK Tryd.prog 104 ti104 := TyOK.of (inf := Tryd.t104) Tryd.underlying104 (by kernel_rfl) (by kernel_rfl) (by kernel_rfl) (by kernel_rfl)
noncomputable def ti105 : TI := ⟨Tryd.t105.desc, 1, 8, [.nf]⟩
theorem ti105_ok : TyOK Tryd.prog 105 ti105 := TyOK.of (inf := Tryd.t105) Tryd.underlying105 (by kernel_rfl) (by kernel_rfl) (by kernel_rfl) (by kernel_rfl)
noncomputable def ti108 : TI := ⟨Tryd.t108.desc, 1, 8, [.nf]⟩
theorem ti108_ok : TyOK Tryd.prog 108 ti108 := TyOK.of (inf := Tryd.t108) Tryd.underlying108 (by kernel_rfl) (by kernel_rfl) (by kernel_rfl) (by kernel_rfl)
noncomputable def ti109 : TI := ⟨Tryd.t109.desc, 1, 8, [.nf]⟩
theorem ti109_ok : TyOK Tryd.prog 109 ti109 := TyOK.of (inf := Tryd.t109) Tryd.underlying109 (by kernel_rfl) (by kernel_rfl) (by kernel_rfl) (by kernel_rfl)
noncomputable def ti110 : TI := ⟨Tryd.t110.desc, 256, 256, [.it .u8 (0 : Int), .it .u8 (0 : Int), .it .u8 (0 : Int), .it .u8 (0 : Int), .it .u8 (0 : Int), .it .u8 (0 : Int), .it .u8 (0 : Int), .it .u8 (0 : Int), .it .u8 (0 : Int), .it .u8 (0 : Int), .it .u8 (0 : Int), .it .u8 (0 : Int), .it .u8 (0 : Int), .it .u8 (0 : Int), .it .u8 (0 : Int), .it .u8 (0 : Int), .it .u8 (0 : Int), .it .u8 (0 : Int), .it .u8 (0 : Int), .it .u8 (0 : Int), .it .u8 (0 : Int), .it .u8 (0 : Int), .it .u8 (0 : Int), .it .u8 (0 : Int), .it .u8 (0 : Int), .it .u8 (0 : Int), .it .u8 (0 : Int), .it .u8 (0 : Int), .it .u8 (0 : Int), .it .u8 (0 : Int), .it .u8 (0 : Int), .it .u8 (0 : Int), .it .u8 (0 : Int), .it .u8 (0 : Int), .it .u8 (0 : Int), .it .u8 (0 : Int), .it .u8 (0 : Int), .it .u8 (0 : Int), .it .u8 (0 : Int), .it .u8 (0 : Int), .it .u8 (0 : Int), .it .u8 (0 : Int), .it .u8 (0 : Int), .it .u8 (0 : Int), .it .u8 (0 : Int), .it .u8 (0 : Int), .it .u8 (0 : Int), .it .u8 (0 : Int), .it .u8 (0 : Int), .it .u8 (0 : Int), .it .u8 (0 : Int), .it .u8 (0 : Int), .it .u8 (0 : Int), .it .u8 (0 : Int), .it .u8 (0 : Int), .it .u8 (0 : Int), .it .u8 (0 : Int), .it .u8 (0 : Int), .it .u8 (0 : Int), .it .u8 (0 : Int), .it .u8 (0 : Int), .it .u8 (0 : Int), .it .u8 (0 : Int), .it .u8 (0 : Int), .it .u8 (0 : Int), .it .u8 (0 : Int), .it .u8 (0 : Int), .it .u8 (0 : Int), .it .u8 (0 : Int), .it .u8 (0 : Int), .it .u8 (0 : Int), .it .u8 (0 : Int), .it .u8 (0 : Int), .it .u8 (0 : Int), .it .u8 (0 : Int), .it .u8 (0 : Int), .it .u8 (0 : Int), .it .u8 (0 : Int), .it .u8 (0 : Int), .it .u8 (0 : Int), .it .u8 (0 : Int), .it .u8 (0 : Int), .it .u8 (0 : Int), .it .u8 (0 : Int), .it .u8 (0 : Int), .it .u8 (0 : Int), .it .u8 (0 : Int), .it .u8 (0 : Int), .it .u8 (0 : Int), .it .u8 (0 : Int), .it .u8 (0 : Int), .it .u8 (0 : Int), .it .u8 (0 : Int), .it .u8 (0 : Int), .it .u8 (0 : Int), .it .u8 (0 : Int), .it .u8 (0 : Int), .it .u8 (0 : Int), .it .u8 (0 : Int), .it .u8 (0 : Int), .it .u8 (0 : Int), .it .u8 (0 : Int), .it .u8 (0 : Int), .it .u8 (0 : Int), .it .u8 (0 : Int), .it .u8 (0 : Int), .it .u8 (0 : Int), .it .u8 (0 : Int), .it .u8 (0 : Int), .it .u8 (0 : Int), .it .u8 (0 : Int), .it .u8 (0 : Int), .it .u8 (0 : Int), .it .u8 (0 : Int), .it .u8 (0 : Int), .it .u8 (0 : Int), .it .u8 (0 : Int), .it .u8 (0 : Int), .it .u8 (0 : Int), .it .u8 (0 : Int), .it .u8 (0 : Int), .it .u8 (0 : Int), .it .u8 (0 : Int), .it .u8 (0 : Int), .it .u8 (0 : Int), .it .u8 (0 : Int), .it .u8 (0 : Int), .it .u8 (0 : Int), .it .u8 (0 : Int), .it .u8 (0 : Int), .it .u8 (0 : Int), .it .u8 (0 : Int), .it .u8 (0 : Int), .it .u8 (0 : Int), .it .u8 (0 : Int), .it .u8 (0 : Int), .it .u8 (0 : Int), .it .u8 (0 : Int), .it .u8 (0 : Int), .it .u8 (0 : Int), .it .u8 (0 : Int), .it .u8 (0 : Int), .it .u8 (0 : Int), .it .u8 (0 : Int), .it .u8 (0 : Int), .it .u8 (0 : Int), .it .u8 (0 : Int), .it .u8 (0 : Int), .it .u8 (0 : Int), .it .u8 (0 : Int), .it .u8 (0 : Int), .it .u8 (0 : Int), .it .u8 (0 : Int), .it .u8 (0 : Int), .it .u8 (0 : Int), .it .u8 (0 : Int), .it .u8 (0 : Int), .it .u8 (0 : Int), .it .u8 (0 : Int), .it .u8 (0 : Int), .it .u8 (0 : Int), .it .u8 (0 : Int), .it .u8 (0 : Int), .it .u8 (0 : Int), .it .u8 (0 : Int), .it .u8 (0 : Int), .it .u8 (0 : Int), .it .u8 (0 : Int), .it .u8 (0 : Int), .it .u8 (0 : Int), .it .u8 (0 : Int), .it .u8 (0 : Int), .it .u8 (0 : Int), .it .u8 (0 : Int), .it .u8 (0 : Int), .it .u8 (0 : Int), .it .u8 (0 : Int), .it .u8 (0 : Int), .it .u8 (0 : Int), .it .u8 (0 : Int), .it .u8 (0 : Int), .it .u8 (0 : Int), .it .u8 (0 : Int), .it .u8 (0 : Int), .it .u8 (0 : Int), .it .u8 (0 : Int), .it .u8 (0 : Int), .it .u8 (0 : Int), .it .u8 (0 : Int), .it .u8 (0 : Int), .it .u8 (0 : Int), .it .u8 (0 : Int), .it .u8 (0 : Int), .it .u8 (0 : Int), .it .u8 (0 : Int), .it .u8 (0 : Int), .it .u8 (0 : Int), .it .u8 (0 : Int), .it .u8 (0 : Int), .it .u8 (0 : Int), .it .u8 (0 : Int), .it .u8 (0 : Int), .it .u8 (0 : Int), .it .u8 (0 : Int), .it .u8 (0 : Int), .it .u8 (0 : Int), .it .u8 (0 : Int), .it .u8 (0 : Int), .it .u8 (0 : Int), .it .u8 (0 : Int), .it .u8 (0 : Int), .it .u8 (0 : Int), .it .u8 (0 : Int), .it .u8 (0 : Int), .it .u8 (0 : Int), .it .u8 (0 : Int), .it .u8 (0 : Int), .it .u8 (0 : Int), .it .u8 (0 : Int), .it .u8 (0 : Int), .it .u8 (0 : Int), .it .u8 (0 : Int), .it .u8 (0 : Int), .it .u8 (0 : Int), .it .u8 (0 : Int), .it .u8 (0 : Int), .it .u8 (0 : Int), .it .u8 (0 : Int), .it .u8 (0 : Int), .it .u8 (0 : Int), .it .u8 (0 : Int), .it .u8 (0 : Int), .it .u8 (0 : Int), .it .u8 (0 : Int), .it .u8 (0 : Int), .it .u8 (0 : Int), .it .u8 (0 : Int), .it .u8 (0 : Int), .it .u8 (0 : Int), .it .u8 (0 : Int), .it .u8 (0 : Int), .it .u8 (0 : Int), .it .u8 (0 : Int), .it .u8 (0 : Int), .it .u8 (0 : Int), .it .u8 (0 : Int), .it .u8 (0 : Int), .it .u8 (0 : Int), .it .u8 (0 : Int), .it .u8 (0 : Int), .it .u8 (0 : Int), .it .u8 (0 : Int), .it .u8 (0 : Int), .it .u8 (0 : Int), .it .u8 (0 : Int), .it .u8 (0 : Int)]⟩
theorem ti110_ok : TyOK Tryd.prog 110 ti110 := TyOK.of (inf := Tryd.t110) Tryd.underlying110 (by kernel_rfl) (by kernel_rfl) (by kernel_rfl) (by kernel_rfl)
noncomputable def ti111 : TI := ⟨Tryd.t111.desc, 2, 2, [.it .u8 (0 : Int), .it .u8 (0 : Int)]⟩
theorem ti111_ok : TyOK Tryd.prog 111 ti111 := TyOK.of (inf := Tryd.t111) Tryd.underlying111 (by kernel_rfl) (by kernel_rfl) (by kernel_rfl) (by kernel_rfl)
noncomputable def ti112 : TI := ⟨Tryd.t111.desc, 2, 2, [.it .u8 (0 : Int), .it .u8 (0 : Int)]⟩
theorem ti112_ok : TyOK Tryd.prog 112 ti112 := TyOK.of (inf := Tryd.t112) Tryd.underlying112 (by kernel_rfl) (by kernel_rfl) (by kernel_rfl) (by kernel_rfl)
noncomputable def ti113 : TI := ⟨Tryd.t113.desc, 32, 32, [.it .u8 (0 : Int), .it .u8 (0 : Int), .it .u8 (0 : Int), .it .u8 (0 : Int), .it .u8 (0 : Int), .it .u8 (0 : Int), .it .u8 (0 : Int), .it .u8 (0 : Int), .it .u8 (0 : Int), .it .u8 (0 : Int), .it .u8 (0 : Int), .it .u8 (0 : Int), .it .u8 (0 : Int), .it .u8 (0 : Int), .it .u8 (0 : Int), .it .u8 (0 : Int), .it .u8 (0 : Int), .it .u8 (0 : Int), .it .u8 (0 : Int), .it .u8 (0 : Int), .it .u8 (0 : Int), .it .u8 (0 : Int), .it .u8 (0 : Int), .it .u8 (0 : Int), .it .u8 (0 : Int), .it .u8 (0 : Int), .it .u8 (0 : Int), .it .u8 (0 : Int), .it .u8 (0 : Int), .it .u8 (0 : Int), .it .u8 (0 : Int), .it .u8 (0 : Int)]⟩
theorem ti113_ok : TyOK Tryd.prog 113 ti113 := TyOK.of (inf := Tryd.t113) Tryd.underlying113 (by kernel_rfl) (by kernel_rfl) (by kernel_rfl) (by kernel_rfl)
noncomputable def ti115 : TI := ⟨Tryd.t115.desc, 1, 8, [.nf]⟩
theorem ti115_ok : TyOK Tryd.prog 115 ti115 := TyOK.of (inf := Tryd.t115) Tryd.underlying115 (by kernel_rfl) (by kernel_rfl) (by kernel_rfl) (by kernel_rfl)
noncomputable def ti116 : TI := ⟨Tryd.t116.desc, 1, 8, [.pn]⟩
theorem ti116_ok : TyOK Tryd.prog 116 ti116 := TyOK.of (inf := Tryd.t116) Tryd.underlying116 (by kernel_rfl) (by kernel_rfl) (by kernel_rfl) (by kernel_rfl)
noncomputable def ti117 : TI := ⟨Tryd.t117.desc, 1, 16, [.st (ByteArray.mk #[])]⟩
theorem ti117_ok : TyOK Tryd.prog 117 ti117 := TyOK.of (inf := Tryd.t117) Tryd.underlying117 (by kernel_rfl) (by kernel_rfl) (by kernel_rfl) (by kernel_rfl)
noncomputable def ti118 : TI := ⟨Tryd.t117.desc, 1, 16, [.st (ByteArray.mk #[])]⟩
theorem ti118_ok : TyOK Tryd.prog 118 ti118 := TyOK.of (inf := Tryd.t118) Tryd.underlying118 (by kernel_rfl) (by kernel_rfl) (by kernel_rfl) (by kernel_rfl)
noncomputable def ti119 : TI := ⟨Tryd.t119.desc, 32, 32, [.it .u8 (0 : Int), .it .u8 (0 : Int), .it .u8 (0 : Int), .it .u8 (0 : Int), .it .u8 (0 : Int), .it .u8 (0 : Int), .it .u8 (0 : Int), .it .u8 (0 : Int), .it .u8 (0 : Int), .it .u8 (0 : Int), .it .u8 (0 : Int), .it .u8 (0 : Int), .it .u8 (0 : Int), .it .u8 (0 : Int), .it .u8 (0 : Int), .it .u8 (0 : Int), .it .u8 (0 : Int), .it .u8 (0 : Int), .it .u8 (0 : Int), .it .u8 (0 : Int), .it .u8 (0 : Int), .it .u8 (0 : Int), .it .u8 (0 : Int), .it .u8 (0 : Int), .it .u8 (0 : Int), .it .u8 (0 : Int), .it .u8 (0 : Int), .it .u8 (0 : Int), .it .u8 (0 : Int), .it .u8 (0 : Int), .it .u8 (0 : Int), .it .u8 (0 : Int)]⟩
theorem ti119_ok : TyOK Tryd.prog 119 ti119 := TyOK.of (inf := Tryd.t119) Tryd.underlying119 (by kernel_rfl) (by kernel_rfl) (by kernel_rfl) (by kernel_rfl)
noncomputable def ti120 : TI := ⟨Tryd.t120.desc, 64, 64, [.it .u8 (0 : Int), .it .u8 (0 : Int), .it .u8 (0 : Int), .it .u8 (0 : Int), .it .u8 (0 : Int), .it .u8 (0 : Int), .it .u8 (0 : Int), .it .u8 (0 : Int), .it .u8 (0 : Int), .it .u8 (0 : Int), .it .u8 (0 : Int), .it .u8 (0 : Int), .it .u8 (0 : Int), .it .u8 (0 : Int), .it .u8 (0 : Int), .it .u8 (0 : Int), .it .u8 (0 : Int), .it .u8 (0 : Int), .it .u8 (0 : Int), .it .u8 (0 : Int), .it .u8 (0 : Int), .it .u8 (0 : Int), .it .u8 (0 : Int), .it .u8 (0 : Int), .it .u8 (0 : Int), .it .u8 (0 : Int), .it .u8 (0 : Int), .it .u8 (0 : Int), .it .u8 (0 : Int), .it .u8 (0 : Int), .it .u8 (0 : Int), .it .u8 (0 : Int), .it .u8 (0 : Int), .it .u8 (0 : Int), .it .u8 (0 : Int), .it .u8 (0 : Int), .it .u8 (0 : Int), .it .u8 (0 : Int), .it .u8 (0 : Int), .it .u8 (0 : Int), .it .u8 (0 : Int), .it .u8 (0 : Int), .it .u8 (0 : Int), .it .u8 (0 : Int), .it .u8 (0 : Int), .it .u8 (0 : Int), .it .u8 (0 : Int), .it .u8 (0 : Int), .it .u8 (0 : Int), .it .u8 (0 : Int), .it .u8 (0 : Int), .it .u8 (0 : Int), .it .u8 (0 : Int), .it .u8 (0 : Int), .it .u8 (0 : Int), .it .u8 (0 : Int), .it .u8 (0 : Int), .it .u8 (0 : Int), .it .u8 (0 : Int), .it .u8 (0 : Int), .it .u8 (0 : Int), .it .u8 (0 : Int), .it .u8 (0 : Int), .it .u8 (0 : Int)]⟩
theorem ti120_ok : TyOK Tryd.prog 120 ti120 := TyOK.of (inf := Tryd.t120) Tryd.underlying120 (by kernel_rfl) (by kernel_rfl) (by kernel_rfl) (by kernel_rfl)
noncomputable def ti121 : TI := ⟨Tryd.t121.desc, 4, 40, [.pn, .pn, .pn, .st (ByteArray.mk #[])]⟩
theorem ti121_ok : TyOK Tryd.prog 121 ti121 := TyOK.of (inf := Tryd.t121) Tryd.underlying121 (by kernel_rfl) (by kernel_rfl) (by kernel_rfl) (by kernel_rfl)
noncomputable def ti122 : TI := ⟨Tryd.t121.desc, 4, 40, [.pn, .pn, .pn, .st (ByteArray.mk #[])]⟩
theorem ti122_ok : TyOK Tryd.prog 122 ti122 := TyOK.of (inf := Tryd.t122) Tryd.underlying122 (by kernel_rfl) (by kernel_rfl) (by kernel_rfl) (by kernel_rfl)
noncomputable def ti123 : TI := ⟨Tryd.t123.desc, 0, 0, []⟩
theorem ti123_ok : TyOK Tryd.prog 123 ti123 := TyOK.of (inf := Tryd.t123) Tryd.underlying123 (by kernel_rfl) (by kernel_rfl) (by kernel_rfl) (by kernel_rfl)
noncomputable def ti124 : TI := ⟨Tryd.t124.desc, 0, 0, []⟩
theorem ti124_ok : TyOK Tryd.prog 124 ti124 := TyOK.of (inf := Tryd.t124) Tryd.underlying124 (by kernel_rfl) (by kernel_rfl) (by kernel_rfl) (by kernel_rfl)
noncomputable def ti125 : TI := ⟨Tryd.t124.desc, 0, 0, []⟩
theorem ti125_ok : TyOK Tryd.prog 125 ti125 := TyOK.of (inf := Tryd.t125) Tryd.underlying125 (by kernel_rfl) (by kernel_rfl) (by kernel_rfl) (by kernel_rfl)
noncomputable def ti126 : TI := ⟨Tryd.t126.desc, 1, 8, [.nf]⟩
theorem ti126_ok : TyOK Tryd.prog 126 ti126 := TyOK.of (inf := Tryd.t126) Tryd.underlying126 (by kernel_rfl) (by kernel_rfl) (by kernel_rfl) (by kernel_rfl)
noncomputable def ti127 : TI := ⟨Tryd.t5.desc, 1, 1, [.it .u8 (0 : Int)]⟩
theorem ti127_ok : TyOK Tryd.prog 127 ti127 := TyOK.of (inf := Tryd.t127) Tryd.underlying127 (by kernel_rfl) (by kernel_rfl) (by kernel_rfl) (by kernel_rfl)
noncomputable def ti128 : TI := ⟨Tryd.t5.desc, 1, 1, [.it .u8 (0 : Int)]⟩
theorem ti128_ok : TyOK Tryd.prog 128 ti128 := TyOK.of (inf := Tryd.t128) Tryd.underlying128 (by kernel_rfl) (by kernel_rfl) (by kernel_rfl) (by kernel_rfl)
noncomputable def ti129 : TI := ⟨Tryd.t129.desc, 1, 8, [.nf]⟩
theorem ti129_ok : TyOK Tryd.prog 129 ti129 := TyOK.of (inf := Tryd.t129) Tryd.underlying129 (by kernel_rfl) (by kernel_rfl) (by kernel_rfl) (by kernel_rfl)
noncomputable def ti130 : TI := ⟨Tryd.t21.desc, 1, 4, [.it .i32 (0 : Int)]⟩
theorem ti130_ok : TyOK Tryd.prog 130 ti130 := TyOK.of (inf := Tryd.t130) Tryd.underlying130 (by kernel_rfl) (by kernel_rfl) (by kernel_rfl) (by kernel_rfl)
noncomputable def ti131 : TI := ⟨Tryd.t21.desc, 1, 4, [.it .i32 (0 : Int)]⟩
theorem ti131_ok : TyOK Tryd.prog 131 ti131 := TyOK.of (inf := Tryd.t131) Tryd.underlying131 (by kernel_rfl) (by kernel_rfl) (by kernel_rfl) (by kernel_rfl)
noncomputable def ti132 : TI := ⟨Tryd.t132.desc, 11, 48, [.it .u64 (0 : Int), .it .u64 (0 : Int), .it .u32 (0 : Int), .it .u8 (0 : Int), .it .u8 (0 : Int), .it .u8 (0 : Int), .it .u8 (0 : Int), .nf, .pn, .it .i32 (0 : Int), .it .i32 (0 : Int)]⟩
theorem ti132_ok : TyOK Tryd.prog 132 ti132 := TyOK.of (inf := Tryd.t132) Tryd.underlying132 (by kernel_rfl) (by kernel_rfl) (by kernel_rfl) (by kernel_rfl)
noncomputable def ti133 : TI := ⟨Tryd.t132.desc, 11, 48, [.it .u64 (0 : Int), .it .u64 (0 : Int), .it .u32 (0 : Int), .it .u8 (0 : Int), .it .u8 (0 : Int), .it .u8 (0 : Int), .it .u8 (0 : Int), .nf, .pn, .it .i32 (0 : Int), .it .i32 (0 : Int)]⟩
theorem ti133_ok : TyOK Tryd.prog 133 ti133 := TyOK.of (inf := Tryd.t133) Tryd.underlying133 (by kernel_rfl) (by kernel_rfl) (by kernel_rfl) (by kernel_rfl)
noncomputable def tys : List (Nat × TI) := [(1, ti1), (2, ti2), (3, ti3), (4, ti4), (5, ti5), (6, ti6), (7, ti7), (8, ti8), (9, ti9), (10, ti10), (11, ti11), (12, ti12), (13, ti13), (14, ti14), (15, ti15), (16, ti16), (17, ti17), (18, ti18), (19, ti19), (21, ti21), (22, ti22), (23, ti23), (24, ti24), (25, ti25), (26, ti26), (27, ti27), (28, ti28), (29, ti29), (31, ti31), (32, ti32), (33, ti33), (34, ti34), (35, ti35), (36, ti36), (37, ti37), (38, ti38), (40, ti40), (42, ti42), (43, ti43), (45, ti45), (46, ti46), (48, ti48), (49, ti49), (50, ti50), (51, ti51), (52, ti52), (53, ti53), (54, ti54), (55, ti55), (56, ti56), (57, ti57), (58, ti58), (59, ti59), (60, ti60), (64, ti64), (66, ti66), (67, ti67), (68, ti68), (69, ti69), (70, ti70), (71, ti71), (72, ti72), (74, ti74), (75, ti75), (76, ti76), (77, ti77), (78, ti78), (79, ti79), (80, ti80), (81, ti81), (82, ti82), (83, ti83), (84, ti84), (86, ti86), (87, ti87), (88, ti88), (90, ti90), (91, ti91), (92, ti92), (93, ti93), (94, ti94), (95, ti95), (96, ti96), (97, ti97), (98, ti98), (99, ti99), (100, ti100), (101, ti101), (102, ti102), (103, ti103), (104, ti104), (105, ti105), (108, ti108), (109, ti109), (110, ti110), (111, ti111), (112, ti112), (113, ti113), (115, ti115), (116, ti116), (117, ti117), (118, ti118), (119, ti119), (120, ti120), (121, ti121), (122, ti122), (123, ti123), (124, ti124), (125, ti125), (126, ti126), (127, ti127), (128, ti128), (129, ti129), (130, ti130), (131, ti131), (132, ti132), (133, ti133)]
theorem mo : Tryd.prog.follows .mixedOrders = true := by kernel_rfl
theorem tys_ok : TysOK Tryd.prog tys := (TysOK.cons ti1_ok (TysOK.cons ti2_ok (TysOK.cons ti3_ok (TysOK.cons ti4_ok (TysOK.cons ti5_ok (TysOK.cons ti6_ok (TysOK.cons ti7_ok (TysOK.cons ti8_ok (TysOK.cons ti9_ok (TysOK.cons ti10_ok (TysOK.cons ti11_ok (TysOK.cons ti12_ok (TysOK.cons ti13_ok (TysOK.cons ti14_ok (TysOK.cons ti15_ok (TysOK.cons ti16_ok (TysOK.cons ti17_ok (TysOK.cons ti18_ok (TysOK.cons ti19_ok (TysOK.cons ti21_ok (TysOK.cons ti22_ok (TysOK.cons ti23_ok (TysOK.cons ti24_ok (TysOK.cons ti25_ok (TysOK.cons ti26_ok (TysOK.cons ti27_ok (TysOK.cons ti28_ok (TysOK.cons ti29_ok (TysOK.cons ti31_ok (TysOK.cons ti32_ok (TysOK.cons ti33_ok (TysOK.cons ti34_ok (TysOK.cons ti35_ok (TysOK.cons ti36_ok (TysOK.cons ti37_ok (TysOK.cons ti38_ok (TysOK.cons ti40_ok (TysOK.cons ti42_ok (TysOK.cons ti43_ok (TysOK.cons ti45_ok (TysOK.cons ti46_ok (TysOK.cons ti48_ok (TysOK.cons ti49_ok (TysOK.cons ti50_ok (TysOK.cons ti51_ok (TysOK.cons ti52_ok (TysOK.cons ti53_ok (TysOK.cons ti54_ok (TysOK.cons ti55_ok (TysOK.cons ti56_ok (TysOK.cons ti57_ok (TysOK.cons ti58_ok (TysOK.cons ti59_ok (TysOK.cons ti60_ok (TysOK.cons ti64_ok (TysOK.cons ti66_ok (TysOK.cons ti67_ok (TysOK.cons ti68_ok (TysOK.cons ti69_ok (TysOK.cons ti70_ok (TysOK.cons ti71_ok (TysOK.cons ti72_ok (TysOK.cons ti74_ok (TysOK.cons ti75_ok (TysOK.cons ti76_ok (TysOK.cons ti77_ok (TysOK.cons ti78_ok (TysOK.cons ti79_ok (TysOK.cons ti80_ok (TysOK.cons ti81_ok (TysOK.cons ti82_ok (TysOK.cons ti83_ok (TysOK.cons ti84_ok (TysOK.cons ti86_ok (TysOK.cons ti87_ok (TysOK.cons ti88_ok (TysOK.cons ti90_ok (TysOK.cons ti91_ok (TysOK.cons ti92_ok (TysOK.cons ti93_ok (TysOK.cons ti94_ok (TysOK.cons ti95_ok (TysOK.cons ti96_ok (TysOK.cons ti97_ok (TysOK.cons ti98_ok (TysOK.cons ti99_ok (TysOK.cons ti100_ok (TysOK.cons ti101_ok (TysOK.cons ti102_ok (TysOK.cons ti103_ok (TysOK.cons ti104_ok (TysOK.cons ti105_ok (TysOK.cons ti108_ok (TysOK.cons ti109_ok (TysOK.cons ti110_ok (TysOK.cons ti111_ok (TysOK.cons ti112_ok (TysOK.cons ti113_ok (TysOK.cons ti115_ok (TysOK.cons ti116_ok (TysOK.cons ti117_ok (TysOK.cons ti118_ok (TysOK.cons ti119_ok (TysOK.cons ti120_ok (TysOK.cons ti121_ok (TysOK.cons ti122_ok (TysOK.cons ti123_ok (TysOK.cons ti124_ok (TysOK.cons ti125_ok (TysOK.cons ti126_ok (TysOK.cons ti127_ok (TysOK.cons ti128_ok (TysOK.cons ti129_ok (TysOK.cons ti130_ok (TysOK.cons ti131_ok (TysOK.cons ti132_ok (TysOK.cons ti133_ok TysOK.nil)))))))))))))))))))))))))))))))))))))))))))))))))))))))))))))))))))))))))))))))))))))))))))))))))))))))))))))))))))))
/-! ### spec_l01Split -/
noncomputable def spec_l01Split.b : Code := bodyOf Tryd.f16
noncomputable def spec_l01Split.l4.s (x0 : ByteArray) (x1 : Int) (x2 : Nat) (x3 : Int) (x4 : Int) (x5 : List ByteArray) : T ((Nat × Int × Int × List ByteArray) ⊕ (Nat × Int × List ByteArray)) :=
  .br (decide (x4 < ((ByteArray.size x0 : Nat) : Int)))
  (.br (bounds x4 (ByteArray.size x0))
   (.br ((byteAt x0 x4) == x1)
    (.br (decide (0 ≤ x3) && decide (x3 ≤ x4) && decide (x4 ≤ ((ByteArray.size x0 : Nat) : Int)))
     (.br ((Nat.ble 1 (List.length [(ByteArray.extract x0 (Int.toNat x3) (Int.toNat x4))])) && (Nat.beq (List.length x5) (x2 * 1) && Nat.ble ((x2 + 1) * 16) 35184372088832 && Nat.ble (x2 + 1) 35184372088832))
      (.leaf (.inl ((x2 + 1), (IntKind.wrap .i64 (x4 + (1 : Int))), (IntKind.wrap .i64 (x4 + (1 : Int))), (x5 ++ (List.take 1 (List.drop 0 [(ByteArray.extract x0 (Int.toNat x3) (Int.toNat x4))]))))))
      .bad)
     .bad)
    (.leaf (.inl (x2, x3, (IntKind.wrap .i64 (x4 + (1 : Int))), x5))))
   .bad)
  (.leaf (.inr (x2, x3, x5)))
noncomputable def spec_l01Split.l4.st (p : ByteArray × Int) (x : Nat × Int × Int × List ByteArray) : T ((Nat × Int × Int × List ByteArray) ⊕ (Nat × Int × List ByteArray)) := spec_l01Split.l4.s p.1 p.2 x.1 x.2.1 x.2.2.1 x.2.2.2
noncomputable def spec_l01Split.l4.r (p : ByteArray × Int) (x : Nat × Int × Int × List ByteArray) : Option (Nat × Int × List ByteArray) := iterT (spec_l01Split.l4.st p) manyRounds x
def spec_l01Split.l4.cd : Cd ((ByteArray × Int) × (Nat × Int × Int × List ByteArray)) (List V × Hp) := Cd.iso (Cd.pair (Cd.cons Cd.st (Cd.cons (Cd.it .u8) (Cd.cons (Cd.own 0) (Cd.cons (Cd.it .i64) (Cd.cons (Cd.it .i64) Cd.nil))))) (Cd.cons (Cd.rw 9 1 Cd.ss) Cd.nil)) (fun a => ((a.1.1, a.1.2.1), (a.1.2.2.1, a.1.2.2.2.1, a.1.2.2.2.2.1, a.2.1))) (fun a => ((a.1.1, (a.1.2, (a.2.1, (a.2.2.1, (a.2.2.2.1, ()))))), (a.2.2.2.2, ()))) (fun _ => rfl)
def spec_l01Split.l4.out (p : ByteArray × Int) : (Nat × Int × List ByteArray) → X × List V × Hp := (fun r => (.ex 0, [.st p.1, .own 0 r.1, .it .i64 r.2.1], [some ⟨true, 9, 1, .ss r.2.2⟩]))
def spec_l01Split.l4.ex (p : ByteArray × Int) : (Nat × Int × List ByteArray) → T (X × List V × Hp) := leafT (fun r => (.ex 0, [.st p.1, .own 0 r.1, .it .i64 r.2.1], [some ⟨true, 9, 1, .ss r.2.2⟩]))
noncomputable def spec_l01Split.l4.c : List V → Hp → T (X × List V × Hp) := cdL spec_l01Split.l4.cd fun x => optT (spec_l01Split.l4.r x.1 x.2) (spec_l01Split.l4.ex x.1)
noncomputable def spec_l01Split.C : Ctx := { ty := tys, fn := [], lp := [(4, ⟨[0, 1, 5, 6, 7], [0, 5, 6], spec_l01Split.l4.c⟩)], n := 35, k := 0 }
theorem spec_l01Split.hC : CtxOK Tryd.prog spec_l01Split.C := CtxOK.of mo tys_ok FnsOK.nil
noncomputable def spec_l01Split.b4 : Code := (nthC (loopsOf spec_l01Split.b) 0)
theorem spec_l01Split.lp4 : LpOK Tryd.prog spec_l01Split.C spec_l01Split.b4 := (LpOK.nil (by kernel_rfl))
theorem spec_l01Split.l4.round (p : ByteArray × Int) (s : Nat × Int × Int × List ByteArray) : roundL spec_l01Split.C [0, 1, 5, 6, 7] [0, 5, 6] spec_l01Split.b4 (spec_l01Split.l4.cd.enc (p, s)).1 (spec_l01Split.l4.cd.enc (p, s)).2 = (spec_l01Split.l4.st p s).map (encSum (fun s => spec_l01Split.l4.cd.enc (p, s)) (spec_l01Split.l4.out p)) := by kernel_rfl
theorem spec_l01Split.l4.lok : LoopOK Tryd.prog spec_l01Split.C ⟨[0, 1, 5, 6, 7], [0, 5, 6], spec_l01Split.l4.c⟩ spec_l01Split.b4 := loop_cd spec_l01Split.l4.cd spec_l01Split.hC spec_l01Split.lp4 spec_l01Split.l4.round fun p => Gets.leaf
theorem spec_l01Split.lp : LpOK Tryd.prog spec_l01Split.C spec_l01Split.b := lp_of (by kernel_rfl) (LpsOK.cons (k := 4) (by kernel_rfl) (by kernel_rfl) spec_l01Split.l4.lok LpsOK.nil)
noncomputable def spec_l01Split.t (x0 : ByteArray) (x1 : Int) : T (Nat × List ByteArray) :=
  .br (Option.isSome (spec_l01Split.l4.r (x0, x1) (0, (0 : Int), (0 : Int), [])))
  (.br (decide (0 ≤ (Option.getD (spec_l01Split.l4.r (x0, x1) (0, (0 : Int), (0 : Int), [])) default).2.1) && decide ((Option.getD (spec_l01Split.l4.r (x0, x1) (0, (0 : Int), (0 : Int), [])) default).2.1 ≤ ((ByteArray.size x0 : Nat) : Int)) && decide (((ByteArray.size x0 : Nat) : Int) ≤ ((ByteArray.size x0 : Nat) : Int)))
   (.br ((Nat.ble 1 (List.length [(ByteArray.extract x0 (Int.toNat (Option.getD (spec_l01Split.l4.r (x0, x1) (0, (0 : Int), (0 : Int), [])) default).2.1) (Int.toNat ((ByteArray.size x0 : Nat) : Int)))])) && (Nat.beq (List.length ((Option.getD (spec_l01Split.l4.r (x0, x1) (0, (0 : Int), (0 : Int), [])) default).2.2)) ((Option.getD (spec_l01Split.l4.r (x0, x1) (0, (0 : Int), (0 : Int), [])) default).1 * 1) && Nat.ble (((Option.getD (spec_l01Split.l4.r (x0, x1) (0, (0 : Int), (0 : Int), [])) default).1 + 1) * 16) 35184372088832 && Nat.ble ((Option.getD (spec_l01Split.l4.r (x0, x1) (0, (0 : Int), (0 : Int), [])) default).1 + 1) 35184372088832))
    (.leaf (((Option.getD (spec_l01Split.l4.r (x0, x1) (0, (0 : Int), (0 : Int), [])) default).1 + 1), ((Option.getD (spec_l01Split.l4.r (x0, x1) (0, (0 : Int), (0 : Int), [])) default).2.2 ++ (List.take 1 (List.drop 0 [(ByteArray.extract x0 (Int.toNat (Option.getD (spec_l01Split.l4.r (x0, x1) (0, (0 : Int), (0 : Int), [])) default).2.1) (Int.toNat ((ByteArray.size x0 : Nat) : Int)))])))))
    .bad)
   .bad)
  .bad
noncomputable def spec_l01Split (x0 : ByteArray) (x1 : Int) : Nat × List ByteArray := (spec_l01Split.t x0 x1).val
noncomputable def spec_l01Split.ok (x0 : ByteArray) (x1 : Int) : Bool := (spec_l01Split.t x0 x1).ok
def spec_l01Split.cd : Cd (ByteArray × Int) (List V × Hp) := Cd.iso (Cd.pair (Cd.cons Cd.st (Cd.cons (Cd.it .u8) Cd.nil)) Cd.nil) (fun a => (a.1.1, a.1.2.1)) (fun a => ((a.1, (a.2, ())), ())) (fun _ => rfl)
noncomputable def spec_l01Split.tr (a : ByteArray × Int) : T (Nat × List ByteArray) := spec_l01Split.t a.1 a.2
def spec_l01Split.enc : (ByteArray × Int) → (Nat × List ByteArray) → V × Hp := fun a r => (.own 0 r.1, [some ⟨true, 9, 1, .ss r.2⟩])
noncomputable def spec_l01Split.c : List V → Hp → T (V × Hp) := cdE spec_l01Split.cd (fun a => .br (spec_l01Split.ok a.1 a.2) (.leaf (spec_l01Split.enc a (spec_l01Split a.1 a.2))) .bad)
theorem spec_l01Split.run (a : ByteArray × Int) : runF spec_l01Split.C Tryd.f16.results.toList spec_l01Split.b (spec_l01Split.cd.enc a).1 (spec_l01Split.cd.enc a).2 = (spec_l01Split.tr a).map (spec_l01Split.enc a) := by kernel_rfl
theorem spec_l01Split.cok : OKe Tryd.prog 16 spec_l01Split.c := con_e' spec_l01Split.cd spec_l01Split.hC Tryd.func16 (by kernel_rfl) (by kernel_rfl) (by kernel_rfl) spec_l01Split.lp (fun a => by kernel_rfl) spec_l01Split.run (Tells.ok (tree := spec_l01Split.tr))
/-! ### spec_l01Number -/
noncomputable def spec_l01Number.b : Code := bodyOf Tryd.f17
noncomputable def spec_l01Number.l5.s (x0 : ByteArray) (x1 : Int) (x2 : Int) : T ((Int × Int) ⊕ ((Int × Bool × Int) ⊕ Int)) :=
  .br (decide (x2 < ((ByteArray.size x0 : Nat) : Int)))
  (.br (bounds x2 (ByteArray.size x0))
   (.br (decide ((byteAt x0 x2) < (48 : Int)))
    (.leaf (.inr (.inl ((0 : Int), false, x1))))
    (.br (bounds x2 (ByteArray.size x0))
     (.br (decide ((byteAt x0 x2) > (57 : Int)))
      (.leaf (.inr (.inl ((0 : Int), false, x1))))
      (.br (bounds x2 (ByteArray.size x0))
       (.leaf (.inl ((IntKind.wrap .i64 ((IntKind.wrap .i64 (x1 * (10 : Int))) + (IntKind.wrap .i64 (IntKind.wrap .u8 ((byteAt x0 x2) - (48 : Int)))))), (IntKind.wrap .i64 (x2 + (1 : Int))))))
       .bad))
     .bad))
   .bad)
  (.leaf (.inr (.inr x1)))
noncomputable def spec_l01Number.l5.st (p : ByteArray) (x : Int × Int) : T ((Int × Int) ⊕ ((Int × Bool × Int) ⊕ Int)) := spec_l01Number.l5.s p x.1 x.2
noncomputable def spec_l01Number.l5.r (p : ByteArray) (x : Int × Int) : Option ((Int × Bool × Int) ⊕ Int) := iterT (spec_l01Number.l5.st p) manyRounds x
def spec_l01Number.l5.cd : Cd (ByteArray × (Int × Int)) (List V × Hp) := Cd.iso (Cd.pair (Cd.cons Cd.st (Cd.cons (Cd.it .i64) (Cd.cons (Cd.it .i64) Cd.nil))) Cd.nil) (fun a => (a.1.1, (a.1.2.1, a.1.2.2.1))) (fun a => ((a.1, (a.2.1, (a.2.2, ()))), ())) (fun _ => rfl)
def spec_l01Number.l5.out (p : ByteArray) : ((Int × Bool × Int) ⊕ Int) → X × List V × Hp := sumO (fun r => (.ret, [.it .i64 r.1, .bo r.2.1, .it .i64 r.2.2], [])) (fun r => (.ex 0, [.unk, .unk, .it .i64 r], []))
def spec_l01Number.l5.ex (p : ByteArray) : ((Int × Bool × Int) ⊕ Int) → T (X × List V × Hp) := sumT (leafT (fun r => (.ret, [.it .i64 r.1, .bo r.2.1, .it .i64 r.2.2], []))) (leafT (fun r => (.ex 0, [.unk, .unk, .it .i64 r], [])))
noncomputable def spec_l01Number.l5.c : List V → Hp → T (X × List V × Hp) := cdL spec_l01Number.l5.cd fun x => optT (spec_l01Number.l5.r x.1 x.2) (spec_l01Number.l5.ex x.1)
noncomputable def spec_l01Number.C : Ctx := { ty := tys, fn := [], lp := [(5, ⟨[0, 4, 5], [2, 3, 4], spec_l01Number.l5.c⟩)], n := 49, k := 0 }
theorem spec_l01Number.hC : CtxOK Tryd.prog spec_l01Number.C := CtxOK.of mo tys_ok FnsOK.nil
noncomputable def spec_l01Number.b5 : Code := (nthC (loopsOf spec_l01Number.b) 0)
theorem spec_l01Number.lp5 : LpOK Tryd.prog spec_l01Number.C spec_l01Number.b5 := (LpOK.nil (by kernel_rfl))
theorem spec_l01Number.l5.round (p : ByteArray) (s : Int × Int) : roundL spec_l01Number.C [0, 4, 5] [2, 3, 4] spec_l01Number.b5 (spec_l01Number.l5.cd.enc (p, s)).1 (spec_l01Number.l5.cd.enc (p, s)).2 = (spec_l01Number.l5.st p s).map (encSum (fun s => spec_l01Number.l5.cd.enc (p, s)) (spec_l01Number.l5.out p)) := by kernel_rfl
theorem spec_l01Number.l5.lok : LoopOK Tryd.prog spec_l01Number.C ⟨[0, 4, 5], [2, 3, 4], spec_l01Number.l5.c⟩ spec_l01Number.b5 := loop_cd spec_l01Number.l5.cd spec_l01Number.hC spec_l01Number.lp5 spec_l01Number.l5.round fun p => (Gets.sum Gets.leaf Gets.leaf)
theorem spec_l01Number.lp : LpOK Tryd.prog spec_l01Number.C spec_l01Number.b := lp_of (by kernel_rfl) (LpsOK.cons (k := 5) (by kernel_rfl) (by kernel_rfl) spec_l01Number.l5.lok LpsOK.nil)
noncomputable def spec_l01Number.t (x0 : ByteArray) : T (Int × Bool) :=
  .br (decide (((ByteArray.size x0 : Nat) : Int) < (1 : Int)))
  (.leaf ((0 : Int), false))
  (.br (decide (((ByteArray.size x0 : Nat) : Int) > (9 : Int)))
   (.leaf ((0 : Int), false))
   (.br (bounds (0 : Int) (ByteArray.size x0))
    (.br ((byteAt x0 (0 : Int)) == (48 : Int))
     (.br (decide (((ByteArray.size x0 : Nat) : Int) > (1 : Int)))
      (.leaf ((0 : Int), false))
      (.br (Option.isSome (spec_l01Number.l5.r x0 ((0 : Int), (0 : Int))))
       (.br (Sum.isLeft (Option.getD (spec_l01Number.l5.r x0 ((0 : Int), (0 : Int))) default))
        (.leaf ((getLeftD (Option.getD (spec_l01Number.l5.r x0 ((0 : Int), (0 : Int))) default)).1, (getLeftD (Option.getD (spec_l01Number.l5.r x0 ((0 : Int), (0 : Int))) default)).2.1))
        (.leaf ((getRightD (Option.getD (spec_l01Number.l5.r x0 ((0 : Int), (0 : Int))) default)), true)))
       .bad))
     (.br (Option.isSome (spec_l01Number.l5.r x0 ((0 : Int), (0 : Int))))
      (.br (Sum.isLeft (Option.getD (spec_l01Number.l5.r x0 ((0 : Int), (0 : Int))) default))
       (.leaf ((getLeftD (Option.getD (spec_l01Number.l5.r x0 ((0 : Int), (0 : Int))) default)).1, (getLeftD (Option.getD (spec_l01Number.l5.r x0 ((0 : Int), (0 : Int))) default)).2.1))
       (.leaf ((getRightD (Option.getD (spec_l01Number.l5.r x0 ((0 : Int), (0 : Int))) default)), true)))
      .bad))
    .bad))
noncomputable def spec_l01Number (x0 : ByteArray) : Int × Bool := (spec_l01Number.t x0).val
noncomputable def spec_l01Number.ok (x0 : ByteArray) : Bool := (spec_l01Number.t x0).ok
def spec_l01Number.cd : Cd ByteArray (List V × Hp) := Cd.iso (Cd.pair (Cd.cons Cd.st Cd.nil) Cd.nil) (fun a => a.1.1) (fun a => ((a, ()), ())) (fun _ => rfl)
noncomputable def spec_l01Number.tr (a : ByteArray) : T (Int × Bool) := spec_l01Number.t a
def spec_l01Number.enc : ByteArray → (Int × Bool) → V := fun a r => .tup [.it .i64 r.1, .bo r.2]
noncomputable def spec_l01Number.c : List V → Hp → T V := cdQ spec_l01Number.cd (fun a => .br (spec_l01Number.ok a) (.leaf (spec_l01Number.enc a (spec_l01Number a))) .bad)
theorem spec_l01Number.run (a : ByteArray) : runF spec_l01Number.C Tryd.f17.results.toList spec_l01Number.b (spec_l01Number.cd.enc a).1 (spec_l01Number.cd.enc a).2 = (spec_l01Number.tr a).map fun r => (spec_l01Number.enc a r, (spec_l01Number.cd.enc a).2) := by kernel_rfl
theorem spec_l01Number.cok : OKq Tryd.prog 17 spec_l01Number.c := con_q' spec_l01Number.cd spec_l01Number.hC Tryd.func17 (by kernel_rfl) (by kernel_rfl) (by kernel_rfl) spec_l01Number.lp (fun a => by kernel_rfl) spec_l01Number.run (Tells.ok (tree := spec_l01Number.tr))
/-! ### spec_l01Bits -/
noncomputable def spec_l01Bits.b : Code := bodyOf Tryd.f33
noncomputable def spec_l01Bits.C : Ctx := { ty := tys, fn := [(39, .q f32bitsC)], lp := [], n := 8, k := 0 }
theorem spec_l01Bits.hC : CtxOK Tryd.prog spec_l01Bits.C := CtxOK.of mo tys_ok (FnsOK.cons (f32bits_ok Tryd.func39 (by kernel_rfl) (by kernel_rfl) (by kernel_rfl) (by kernel_rfl)) FnsOK.nil)
theorem spec_l01Bits.lp : LpOK Tryd.prog spec_l01Bits.C spec_l01Bits.b := (LpOK.nil (by kernel_rfl))
noncomputable def spec_l01Bits.t (x0 : Nat) : T Int :=
  .br (fne .f32 x0 x0)
  (.leaf (2143289344 : Int))
  (.br (isNaN .f32 x0)
   .bad
   (.leaf ((x0 : Nat) : Int)))
noncomputable def spec_l01Bits (x0 : Nat) : Int := (spec_l01Bits.t x0).val
noncomputable def spec_l01Bits.ok (x0 : Nat) : Bool := (spec_l01Bits.t x0).ok
def spec_l01Bits.cd : Cd Nat (List V × Hp) := Cd.iso (Cd.pair (Cd.cons (Cd.fl .f32) Cd.nil) Cd.nil) (fun a => a.1.1) (fun a => ((a, ()), ())) (fun _ => rfl)
noncomputable def spec_l01Bits.tr (a : Nat) : T Int := spec_l01Bits.t a
def spec_l01Bits.enc : Nat → Int → V := fun a r => .it .u32 r
noncomputable def spec_l01Bits.c : List V → Hp → T V := cdQ spec_l01Bits.cd (fun a => .br (spec_l01Bits.ok a) (.leaf (spec_l01Bits.enc a (spec_l01Bits a))) .bad)
theorem spec_l01Bits.run (a : Nat) : runF spec_l01Bits.C Tryd.f33.results.toList spec_l01Bits.b (spec_l01Bits.cd.enc a).1 (spec_l01Bits.cd.enc a).2 = (spec_l01Bits.tr a).map fun r => (spec_l01Bits.enc a r, (spec_l01Bits.cd.enc a).2) := by kernel_rfl
theorem spec_l01Bits.cok : OKq Tryd.prog 33 spec_l01Bits.c := con_q' spec_l01Bits.cd spec_l01Bits.hC Tryd.func33 (by kernel_rfl) (by kernel_rfl) (by kernel_rfl) spec_l01Bits.lp (fun a => by kernel_rfl) spec_l01Bits.run (Tells.ok (tree := spec_l01Bits.tr))
/-! ### spec_l01Read -/
noncomputable def spec_l01Read.b : Code := bodyOf Tryd.f18
noncomputable def spec_l01Read.l5.s (x0 : ByteArray) (x1 : Int) (x2 : Int) : T ((Int × Int) ⊕ ((Nat × Bool × Int) ⊕ Int)) :=
  .br (decide (x2 < (8 : Int)))
  (.br (bounds x2 (ByteArray.size x0))
   (.br (decide ((byteAt x0 x2) ≥ (48 : Int)))
    (.br (decide ((byteAt x0 x2) ≤ (57 : Int)))
     (.leaf (.inl ((IntKind.wrap .u32 ((IntKind.wrap .u32 (x1 * (16 : Int))) + (IntKind.wrap .u32 (IntKind.wrap .u8 ((byteAt x0 x2) - (48 : Int)))))), (IntKind.wrap .i64 (x2 + (1 : Int))))))
     (.br (decide ((byteAt x0 x2) ≥ (97 : Int)))
      (.br (decide ((byteAt x0 x2) ≤ (102 : Int)))
       (.leaf (.inl ((IntKind.wrap .u32 ((IntKind.wrap .u32 ((IntKind.wrap .u32 (x1 * (16 : Int))) + (IntKind.wrap .u32 (IntKind.wrap .u8 ((byteAt x0 x2) - (97 : Int)))))) + (10 : Int))), (IntKind.wrap .i64 (x2 + (1 : Int))))))
       (.leaf (.inr (.inl (0, false, x1)))))
      (.leaf (.inr (.inl (0, false, x1))))))
    (.br (decide ((byteAt x0 x2) ≥ (97 : Int)))
     (.br (decide ((byteAt x0 x2) ≤ (102 : Int)))
      (.leaf (.inl ((IntKind.wrap .u32 ((IntKind.wrap .u32 ((IntKind.wrap .u32 (x1 * (16 : Int))) + (IntKind.wrap .u32 (IntKind.wrap .u8 ((byteAt x0 x2) - (97 : Int)))))) + (10 : Int))), (IntKind.wrap .i64 (x2 + (1 : Int))))))
      (.leaf (.inr (.inl (0, false, x1)))))
     (.leaf (.inr (.inl (0, false, x1))))))
   .bad)
  (.leaf (.inr (.inr x1)))
noncomputable def spec_l01Read.l5.st (p : ByteArray) (x : Int × Int) : T ((Int × Int) ⊕ ((Nat × Bool × Int) ⊕ Int)) := spec_l01Read.l5.s p x.1 x.2
noncomputable def spec_l01Read.l5.r (p : ByteArray) (x : Int × Int) : Option ((Nat × Bool × Int) ⊕ Int) := iterT (spec_l01Read.l5.st p) manyRounds x
def spec_l01Read.l5.cd : Cd (ByteArray × (Int × Int)) (List V × Hp) := Cd.iso (Cd.pair (Cd.cons Cd.st (Cd.cons (Cd.it .u32) (Cd.cons (Cd.it .i64) Cd.nil))) Cd.nil) (fun a => (a.1.1, (a.1.2.1, a.1.2.2.1))) (fun a => ((a.1, (a.2.1, (a.2.2, ()))), ())) (fun _ => rfl)
def spec_l01Read.l5.out (p : ByteArray) : ((Nat × Bool × Int) ⊕ Int) → X × List V × Hp := sumO (fun r => (.ret, [.fl .f32 r.1, .bo r.2.1, .it .u32 r.2.2], [])) (fun r => (.ex 0, [.unk, .unk, .it .u32 r], []))
def spec_l01Read.l5.ex (p : ByteArray) : ((Nat × Bool × Int) ⊕ Int) → T (X × List V × Hp) := sumT (leafT (fun r => (.ret, [.fl .f32 r.1, .bo r.2.1, .it .u32 r.2.2], []))) (leafT (fun r => (.ex 0, [.unk, .unk, .it .u32 r], [])))
noncomputable def spec_l01Read.l5.c : List V → Hp → T (X × List V × Hp) := cdL spec_l01Read.l5.cd fun x => optT (spec_l01Read.l5.r x.1 x.2) (spec_l01Read.l5.ex x.1)
noncomputable def spec_l01Read.C : Ctx := { ty := tys, fn := [(32, .q f32fromC), (33, .q spec_l01Bits.c)], lp := [(5, ⟨[0, 4, 5], [2, 3, 4], spec_l01Read.l5.c⟩)], n := 52, k := 0 }
theorem spec_l01Read.hC : CtxOK Tryd.prog spec_l01Read.C := CtxOK.of mo tys_ok (FnsOK.cons (f32from_ok Tryd.func32 (by kernel_rfl) (by kernel_rfl) (by kernel_rfl) (by kernel_rfl)) (FnsOK.cons spec_l01Bits.cok FnsOK.nil))
noncomputable def spec_l01Read.b5 : Code := (nthC (loopsOf spec_l01Read.b) 0)
theorem spec_l01Read.lp5 : LpOK Tryd.prog spec_l01Read.C spec_l01Read.b5 := (LpOK.nil (by kernel_rfl))
theorem spec_l01Read.l5.round (p : ByteArray) (s : Int × Int) : roundL spec_l01Read.C [0, 4, 5] [2, 3, 4] spec_l01Read.b5 (spec_l01Read.l5.cd.enc (p, s)).1 (spec_l01Read.l5.cd.enc (p, s)).2 = (spec_l01Read.l5.st p s).map (encSum (fun s => spec_l01Read.l5.cd.enc (p, s)) (spec_l01Read.l5.out p)) := by kernel_rfl
theorem spec_l01Read.l5.lok : LoopOK Tryd.prog spec_l01Read.C ⟨[0, 4, 5], [2, 3, 4], spec_l01Read.l5.c⟩ spec_l01Read.b5 := loop_cd spec_l01Read.l5.cd spec_l01Read.hC spec_l01Read.lp5 spec_l01Read.l5.round fun p => (Gets.sum Gets.leaf Gets.leaf)
theorem spec_l01Read.lp : LpOK Tryd.prog spec_l01Read.C spec_l01Read.b := lp_of (by kernel_rfl) (LpsOK.cons (k := 5) (by kernel_rfl) (by kernel_rfl) spec_l01Read.l5.lok LpsOK.nil)
noncomputable def spec_l01Read.t (x0 : ByteArray) : T (Nat × Bool) :=
  .br (((ByteArray.size x0 : Nat) : Int) != (8 : Int))
  (.leaf (0, false))
  (.br (Option.isSome (spec_l01Read.l5.r x0 ((0 : Int), (0 : Int))))
   (.br (Sum.isLeft (Option.getD (spec_l01Read.l5.r x0 ((0 : Int), (0 : Int))) default))
    (.leaf ((getLeftD (Option.getD (spec_l01Read.l5.r x0 ((0 : Int), (0 : Int))) default)).1, (getLeftD (Option.getD (spec_l01Read.l5.r x0 ((0 : Int), (0 : Int))) default)).2.1))
    (.br (spec_l01Bits.ok (nz .f32 (Int.toNat (getRightD (Option.getD (spec_l01Read.l5.r x0 ((0 : Int), (0 : Int))) default)))))
     (.leaf ((nz .f32 (Int.toNat (getRightD (Option.getD (spec_l01Read.l5.r x0 ((0 : Int), (0 : Int))) default)))), ((spec_l01Bits (nz .f32 (Int.toNat (getRightD (Option.getD (spec_l01Read.l5.r x0 ((0 : Int), (0 : Int))) default))))) == (getRightD (Option.getD (spec_l01Read.l5.r x0 ((0 : Int), (0 : Int))) default)))))
     .bad))
   .bad)
noncomputable def spec_l01Read (x0 : ByteArray) : Nat × Bool := (spec_l01Read.t x0).val
noncomputable def spec_l01Read.ok (x0 : ByteArray) : Bool := (spec_l01Read.t x0).ok
def spec_l01Read.cd : Cd ByteArray (List V × Hp) := Cd.iso (Cd.pair (Cd.cons Cd.st Cd.nil) Cd.nil) (fun a => a.1.1) (fun a => ((a, ()), ())) (fun _ => rfl)
noncomputable def spec_l01Read.tr (a : ByteArray) : T (Nat × Bool) := spec_l01Read.t a
def spec_l01Read.enc : ByteArray → (Nat × Bool) → V := fun a r => .tup [.fl .f32 r.1, .bo r.2]
noncomputable def spec_l01Read.c : List V → Hp → T V := cdQ spec_l01Read.cd (fun a => .br (spec_l01Read.ok a) (.leaf (spec_l01Read.enc a (spec_l01Read a))) .bad)
theorem spec_l01Read.run (a : ByteArray) : runF spec_l01Read.C Tryd.f18.results.toList spec_l01Read.b (spec_l01Read.cd.enc a).1 (spec_l01Read.cd.enc a).2 = (spec_l01Read.tr a).map fun r => (spec_l01Read.enc a r, (spec_l01Read.cd.enc a).2) := by kernel_rfl
theorem spec_l01Read.cok : OKq Tryd.prog 18 spec_l01Read.c := con_q' spec_l01Read.cd spec_l01Read.hC Tryd.func18 (by kernel_rfl) (by kernel_rfl) (by kernel_rfl) spec_l01Read.lp (fun a => by kernel_rfl) spec_l01Read.run (Tells.ok (tree := spec_l01Read.tr))
/-! ### spec_l00In -/
noncomputable def spec_l00In.b : Code := bodyOf Tryd.f23
noncomputable def spec_l00In.C : Ctx := { ty := tys, fn := [], lp := [], n := 15, k := 0 }
theorem spec_l00In.hC : CtxOK Tryd.prog spec_l00In.C := CtxOK.of mo tys_ok FnsOK.nil
theorem spec_l00In.lp : LpOK Tryd.prog spec_l00In.C spec_l00In.b := (LpOK.nil (by kernel_rfl))
noncomputable def spec_l00In.t (x0 : Int) (x1 : Int) (x2 : Int) : T Bool :=
  .br (decide (x0 ≥ x1))
  (.leaf (decide (x0 ≤ x2)))
  (.leaf false)
noncomputable def spec_l00In (x0 : Int) (x1 : Int) (x2 : Int) : Bool := (spec_l00In.t x0 x1 x2).val
def spec_l00In.cd : Cd (Int × Int × Int) (List V × Hp) := Cd.iso (Cd.pair (Cd.cons (Cd.it .i64) (Cd.cons (Cd.it .i64) (Cd.cons (Cd.it .i64) Cd.nil))) Cd.nil) (fun a => (a.1.1, a.1.2.1, a.1.2.2.1)) (fun a => ((a.1, (a.2.1, (a.2.2, ()))), ())) (fun _ => rfl)
noncomputable def spec_l00In.tr (a : Int × Int × Int) : T Bool := spec_l00In.t a.1 a.2.1 a.2.2
def spec_l00In.enc : (Int × Int × Int) → Bool → V := fun a r => .bo r
noncomputable def spec_l00In.c : List V → Hp → T V := cdQ spec_l00In.cd (fun a => .leaf (spec_l00In.enc a (spec_l00In a.1 a.2.1 a.2.2)))
theorem spec_l00In.run (a : Int × Int × Int) : runF spec_l00In.C Tryd.f23.results.toList spec_l00In.b (spec_l00In.cd.enc a).1 (spec_l00In.cd.enc a).2 = (spec_l00In.tr a).map fun r => (spec_l00In.enc a r, (spec_l00In.cd.enc a).2) := by kernel_rfl
theorem spec_l00In.cok : OKq Tryd.prog 23 spec_l00In.c := con_q' spec_l00In.cd spec_l00In.hC Tryd.func23 (by kernel_rfl) (by kernel_rfl) (by kernel_rfl) spec_l00In.lp (fun a => by kernel_rfl) spec_l00In.run (Tells.val (tree := spec_l00In.tr) fun a => by kernel_rfl)
/-! ### spec_l03Length -/
noncomputable def spec_l03Length.b : Code := bodyOf Tryd.f24
noncomputable def spec_l03Length.C : Ctx := { ty := tys, fn := [], lp := [], n := 9, k := 0 }
theorem spec_l03Length.hC : CtxOK Tryd.prog spec_l03Length.C := CtxOK.of mo tys_ok FnsOK.nil
theorem spec_l03Length.lp : LpOK Tryd.prog spec_l03Length.C spec_l03Length.b := (LpOK.nil (by kernel_rfl))
noncomputable def spec_l03Length.t (x0 : Nat) : T Bool :=
  .br (fge .f32 x0 1031798784)
  (.leaf (fle .f32 x0 1149239296))
  (.leaf false)
noncomputable def spec_l03Length (x0 : Nat) : Bool := (spec_l03Length.t x0).val
def spec_l03Length.cd : Cd Nat (List V × Hp) := Cd.iso (Cd.pair (Cd.cons (Cd.fl .f32) Cd.nil) Cd.nil) (fun a => a.1.1) (fun a => ((a, ()), ())) (fun _ => rfl)
noncomputable def spec_l03Length.tr (a : Nat) : T Bool := spec_l03Length.t a
def spec_l03Length.enc : Nat → Bool → V := fun a r => .bo r
noncomputable def spec_l03Length.c : List V → Hp → T V := cdQ spec_l03Length.cd (fun a => .leaf (spec_l03Length.enc a (spec_l03Length a)))
theorem spec_l03Length.run (a : Nat) : runF spec_l03Length.C Tryd.f24.results.toList spec_l03Length.b (spec_l03Length.cd.enc a).1 (spec_l03Length.cd.enc a).2 = (spec_l03Length.tr a).map fun r => (spec_l03Length.enc a r, (spec_l03Length.cd.enc a).2) := by kernel_rfl
theorem spec_l03Length.cok : OKq Tryd.prog 24 spec_l03Length.c := con_q' spec_l03Length.cd spec_l03Length.hC Tryd.func24 (by kernel_rfl) (by kernel_rfl) (by kernel_rfl) spec_l03Length.lp (fun a => by kernel_rfl) spec_l03Length.run (Tells.val (tree := spec_l03Length.tr) fun a => by kernel_rfl)
/-! ### spec_l03Mill -/
noncomputable def spec_l03Mill.b : Code := bodyOf Tryd.f11
noncomputable def spec_l03Mill.C : Ctx := { ty := tys, fn := [(23, .q spec_l00In.c), (24, .q spec_l03Length.c)], lp := [], n := 17, k := 0 }
theorem spec_l03Mill.hC : CtxOK Tryd.prog spec_l03Mill.C := CtxOK.of mo tys_ok (FnsOK.cons spec_l00In.cok (FnsOK.cons spec_l03Length.cok FnsOK.nil))
theorem spec_l03Mill.lp : LpOK Tryd.prog spec_l03Mill.C spec_l03Mill.b := (LpOK.nil (by kernel_rfl))
noncomputable def spec_l03Mill.t (x0 : Int) (x1 : Nat) (x2 : Nat) : T Bool :=
  .br (spec_l00In (IntKind.wrap .i64 x0) (4 : Int) (48 : Int))
  (.br (spec_l03Length x1)
   (.leaf (spec_l03Length x2))
   (.leaf false))
  (.leaf false)
noncomputable def spec_l03Mill (x0 : Int) (x1 : Nat) (x2 : Nat) : Bool := (spec_l03Mill.t x0 x1 x2).val
def spec_l03Mill.cd : Cd (Int × Nat × Nat) (List V × Hp) := Cd.iso (Cd.pair (Cd.cons (Cd.agg (Cd.cons (Cd.it .i16) (Cd.cons (Cd.fl .f32) (Cd.cons (Cd.fl .f32) Cd.nil)))) Cd.nil) Cd.nil) (fun a => (a.1.1.1, a.1.1.2.1, a.1.1.2.2.1)) (fun a => (((a.1, (a.2.1, (a.2.2, ()))), ()), ())) (fun _ => rfl)
noncomputable def spec_l03Mill.tr (a : Int × Nat × Nat) : T Bool := spec_l03Mill.t a.1 a.2.1 a.2.2
def spec_l03Mill.enc : (Int × Nat × Nat) → Bool → V := fun a r => .bo r
noncomputable def spec_l03Mill.c : List V → Hp → T V := cdQ spec_l03Mill.cd (fun a => .leaf (spec_l03Mill.enc a (spec_l03Mill a.1 a.2.1 a.2.2)))
theorem spec_l03Mill.run (a : Int × Nat × Nat) : runF spec_l03Mill.C Tryd.f11.results.toList spec_l03Mill.b (spec_l03Mill.cd.enc a).1 (spec_l03Mill.cd.enc a).2 = (spec_l03Mill.tr a).map fun r => (spec_l03Mill.enc a r, (spec_l03Mill.cd.enc a).2) := by kernel_rfl
theorem spec_l03Mill.cok : OKq Tryd.prog 11 spec_l03Mill.c := con_q' spec_l03Mill.cd spec_l03Mill.hC Tryd.func11 (by kernel_rfl) (by kernel_rfl) (by kernel_rfl) spec_l03Mill.lp (fun a => by kernel_rfl) spec_l03Mill.run (Tells.val (tree := spec_l03Mill.tr) fun a => by kernel_rfl)
/-! ### spec_ReadMill -/
noncomputable def spec_ReadMill.b : Code := bodyOf Tryd.f8
noncomputable def spec_ReadMill.C : Ctx := { ty := tys, fn := [(16, .e spec_l01Split.c), (17, .q spec_l01Number.c), (18, .q spec_l01Read.c), (11, .q spec_l03Mill.c)], lp := [], n := 64, k := 4 }
theorem spec_ReadMill.hC : CtxOK Tryd.prog spec_ReadMill.C := CtxOK.of mo tys_ok (FnsOK.cons spec_l01Split.cok (FnsOK.cons spec_l01Number.cok (FnsOK.cons spec_l01Read.cok (FnsOK.cons spec_l03Mill.cok FnsOK.nil))))
theorem spec_ReadMill.lp : LpOK Tryd.prog spec_ReadMill.C spec_ReadMill.b := (LpOK.nil (by kernel_rfl))
noncomputable def spec_ReadMill.t (x0 : ByteArray) (x1 : Int) (x2 : List Int) : T (Int × Nat × Nat × Int) :=
  .br (spec_l01Split.ok x0 (58 : Int))
  (.br ((((spec_l01Split x0 (58 : Int)).1 : Nat) : Int) != (3 : Int))
   (.leaf ((0 : Int), 0, 0, (5 : Int)))
   (.br (bounds (0 : Int) ((spec_l01Split x0 (58 : Int)).1))
    (.br (Nat.ble 1 (List.length ((spec_l01Split x0 (58 : Int)).2)))
     (.br (spec_l01Number.ok (List.getD ((spec_l01Split x0 (58 : Int)).2) 0 ByteArray.empty))
      (.br (bounds (1 : Int) ((spec_l01Split x0 (58 : Int)).1))
       (.br (Nat.ble 2 (List.length ((spec_l01Split x0 (58 : Int)).2)))
        (.br (spec_l01Read.ok (List.getD ((spec_l01Split x0 (58 : Int)).2) 1 ByteArray.empty))
         (.br (bounds (2 : Int) ((spec_l01Split x0 (58 : Int)).1))
          (.br (Nat.ble 3 (List.length ((spec_l01Split x0 (58 : Int)).2)))
           (.br (spec_l01Read.ok (List.getD ((spec_l01Split x0 (58 : Int)).2) 2 ByteArray.empty))
            (.br (!(spec_l01Number (List.getD ((spec_l01Split x0 (58 : Int)).2) 0 ByteArray.empty)).2)
             (.leaf ((0 : Int), 0, 0, (5 : Int)))
             (.br (!(spec_l01Read (List.getD ((spec_l01Split x0 (58 : Int)).2) 1 ByteArray.empty)).2)
              (.leaf ((0 : Int), 0, 0, (5 : Int)))
              (.br (!(spec_l01Read (List.getD ((spec_l01Split x0 (58 : Int)).2) 2 ByteArray.empty)).2)
               (.leaf ((0 : Int), 0, 0, (5 : Int)))
               (.br (decide ((spec_l01Number (List.getD ((spec_l01Split x0 (58 : Int)).2) 0 ByteArray.empty)).1 > (48 : Int)))
                (.leaf ((0 : Int), 0, 0, (5 : Int)))
                (.br (!(spec_l03Mill (IntKind.wrap .i16 (spec_l01Number (List.getD ((spec_l01Split x0 (58 : Int)).2) 0 ByteArray.empty)).1) ((spec_l01Read (List.getD ((spec_l01Split x0 (58 : Int)).2) 1 ByteArray.empty)).1) ((spec_l01Read (List.getD ((spec_l01Split x0 (58 : Int)).2) 2 ByteArray.empty)).1)))
                 (.leaf ((0 : Int), 0, 0, (5 : Int)))
                 (.leaf ((IntKind.wrap .i16 (spec_l01Number (List.getD ((spec_l01Split x0 (58 : Int)).2) 0 ByteArray.empty)).1), (spec_l01Read (List.getD ((spec_l01Split x0 (58 : Int)).2) 1 ByteArray.empty)).1, (spec_l01Read (List.getD ((spec_l01Split x0 (58 : Int)).2) 2 ByteArray.empty)).1, (0 : Int))))))))
            .bad)
           .bad)
          .bad)
         .bad)
        .bad)
       .bad)
      .bad)
     .bad)
    .bad))
  .bad
noncomputable def spec_ReadMill (x0 : ByteArray) (x1 : Int) (x2 : List Int) : Int × Nat × Nat × Int := (spec_ReadMill.t x0 x1 x2).val
noncomputable def spec_ReadMill.ok (x0 : ByteArray) (x1 : Int) (x2 : List Int) : Bool := (spec_ReadMill.t x0 x1 x2).ok
def spec_ReadMill.cd : Cd (ByteArray × Int × List Int) (List V × Hp) := Cd.iso (Cd.pair (Cd.cons Cd.st Cd.nil) (Cd.cons (Cd.ro 0 3 (Cd.vs (Cd.cons (Cd.it .i64) Cd.nil))) (Cd.cons (Cd.ro 0 4 (Cd.vs (Cd.cons Cd.er Cd.nil))) (Cd.cons (Cd.ro 0 5 (Cd.vs (Cd.cons Cd.er Cd.nil))) (Cd.cons (Cd.ro 21 2 (Cd.is .u64)) Cd.nil))))) (fun a => (a.1.1, a.2.1.1, a.2.2.2.2.1)) (fun a => ((a.1, ()), ((a.2.1, ()), (((), ()), (((), ()), (a.2.2, ())))))) (fun _ => rfl)
noncomputable def spec_ReadMill.tr (a : ByteArray × Int × List Int) : T (Int × Nat × Nat × Int) := spec_ReadMill.t a.1 a.2.1 a.2.2
def spec_ReadMill.enc : (ByteArray × Int × List Int) → (Int × Nat × Nat × Int) → V := fun a r => .tup [.agg [.it .i16 r.1, .fl .f32 r.2.1, .fl .f32 r.2.2.1], .it .i64 r.2.2.2]
noncomputable def spec_ReadMill.c : List V → Hp → T V := cdQ spec_ReadMill.cd (fun a => .br (spec_ReadMill.ok a.1 a.2.1 a.2.2) (.leaf (spec_ReadMill.enc a (spec_ReadMill a.1 a.2.1 a.2.2))) .bad)
theorem spec_ReadMill.run (a : ByteArray × Int × List Int) : runF spec_ReadMill.C Tryd.f8.results.toList spec_ReadMill.b (spec_ReadMill.cd.enc a).1 (spec_ReadMill.cd.enc a).2 = (spec_ReadMill.tr a).map fun r => (spec_ReadMill.enc a r, (spec_ReadMill.cd.enc a).2) := by kernel_rfl
theorem spec_ReadMill.cok : OKq Tryd.prog 8 spec_ReadMill.c := con_q' spec_ReadMill.cd spec_ReadMill.hC Tryd.func8 (by kernel_rfl) (by kernel_rfl) (by kernel_rfl) spec_ReadMill.lp (fun a => by kernel_rfl) spec_ReadMill.run (Tells.ok (tree := spec_ReadMill.tr))
/-! ### impl_NumberText -/
noncomputable def impl_NumberText.b : Code := bodyOf Tryd.f30
noncomputable def impl_NumberText.l5.s (x0 : Nat) (x1 : Int) (x2 : List Int) : T (Unit ⊕ Unit) :=
  .br (decide (x1 ≥ (0 : Int)))
  .bad
  (.leaf (.inr ()))
noncomputable def impl_NumberText.l5.st (p : Nat × Int × List Int) (x : Unit) : T (Unit ⊕ Unit) := impl_NumberText.l5.s p.1 p.2.1 p.2.2
noncomputable def impl_NumberText.l5.r (p : Nat × Int × List Int) (x : Unit) : Option Unit := iterT (impl_NumberText.l5.st p) manyRounds x
def impl_NumberText.l5.cd : Cd ((Nat × Int × List Int) × Unit) (List V × Hp) := Cd.iso (Cd.pair (Cd.cons Cd.qn (Cd.cons (Cd.own 0) (Cd.cons (Cd.it .i64) Cd.nil))) (Cd.cons (Cd.rw 5 1 (Cd.is .u8)) Cd.nil)) (fun a => ((a.1.2.1, a.1.2.2.1, a.2.1), ())) (fun a => (((), (a.1.1, (a.1.2.1, ()))), (a.1.2.2, ()))) (fun _ => rfl)
def impl_NumberText.l5.out (p : Nat × Int × List Int) : Unit → X × List V × Hp := (fun r => (.ex 0, [.own 0 p.1], [some ⟨true, 5, 1, .is .u8 p.2.2⟩]))
def impl_NumberText.l5.ex (p : Nat × Int × List Int) : Unit → T (X × List V × Hp) := leafT (fun r => (.ex 0, [.own 0 p.1], [some ⟨true, 5, 1, .is .u8 p.2.2⟩]))
noncomputable def impl_NumberText.l5.c : List V → Hp → T (X × List V × Hp) := cdL impl_NumberText.l5.cd fun x => optT (impl_NumberText.l5.r x.1 x.2) (impl_NumberText.l5.ex x.1)
noncomputable def impl_NumberText.l5v1.s (x0 : Int) (x1 : Nat) (x2 : Int) (x3 : List Int) : T ((Nat × Int × List Int) ⊕ (Nat × List Int)) :=
  .br (decide (x2 ≥ (0 : Int)))
  (.br (decide (x2 < 0))
   .bad
   (.br (bounds (ibits .and .u32 (Int.fdiv x0 (2 ^ min (Int.toNat x2) 32)) (15 : Int)) (ByteArray.size (ByteArray.mk #[48, 49, 50, 51, 52, 53, 54, 55, 56, 57, 97, 98, 99, 100, 101, 102])))
    (.br ((Nat.ble 1 (List.length [(byteAt (ByteArray.mk #[48, 49, 50, 51, 52, 53, 54, 55, 56, 57, 97, 98, 99, 100, 101, 102]) (ibits .and .u32 (Int.fdiv x0 (2 ^ min (Int.toNat x2) 32)) (15 : Int)))])) && (Nat.beq (List.length x3) (x1 * 1) && Nat.ble ((x1 + 1) * 1) 35184372088832 && Nat.ble (x1 + 1) 35184372088832))
     (.leaf (.inl ((x1 + 1), (IntKind.wrap .i64 (x2 - (4 : Int))), (x3 ++ (List.take 1 (List.drop 0 [(byteAt (ByteArray.mk #[48, 49, 50, 51, 52, 53, 54, 55, 56, 57, 97, 98, 99, 100, 101, 102]) (ibits .and .u32 (Int.fdiv x0 (2 ^ min (Int.toNat x2) 32)) (15 : Int)))]))))))
     .bad)
    .bad))
  (.leaf (.inr (x1, x3)))
noncomputable def impl_NumberText.l5v1.st (p : Int) (x : Nat × Int × List Int) : T ((Nat × Int × List Int) ⊕ (Nat × List Int)) := impl_NumberText.l5v1.s p x.1 x.2.1 x.2.2
noncomputable def impl_NumberText.l5v1.r (p : Int) (x : Nat × Int × List Int) : Option (Nat × List Int) := iterT (impl_NumberText.l5v1.st p) manyRounds x
def impl_NumberText.l5v1.cd : Cd (Int × (Nat × Int × List Int)) (List V × Hp) := Cd.iso (Cd.pair (Cd.cons (Cd.it .u32) (Cd.cons (Cd.own 0) (Cd.cons (Cd.it .i64) Cd.nil))) (Cd.cons (Cd.rw 5 1 (Cd.is .u8)) Cd.nil)) (fun a => (a.1.1, (a.1.2.1, a.1.2.2.1, a.2.1))) (fun a => ((a.1, (a.2.1, (a.2.2.1, ()))), (a.2.2.2, ()))) (fun _ => rfl)
def impl_NumberText.l5v1.out (p : Int) : (Nat × List Int) → X × List V × Hp := (fun r => (.ex 0, [.own 0 r.1], [some ⟨true, 5, 1, .is .u8 r.2⟩]))
def impl_NumberText.l5v1.ex (p : Int) : (Nat × List Int) → T (X × List V × Hp) := leafT (fun r => (.ex 0, [.own 0 r.1], [some ⟨true, 5, 1, .is .u8 r.2⟩]))
noncomputable def impl_NumberText.l5v1.c : List V → Hp → T (X × List V × Hp) := cdL impl_NumberText.l5v1.cd fun x => optT (impl_NumberText.l5v1.r x.1 x.2) (impl_NumberText.l5v1.ex x.1)
noncomputable def impl_NumberText.C : Ctx := { ty := tys, fn := [(39, .q f32bitsC)], lp := [(5, ⟨[3, 4, 5], [4], altL impl_NumberText.l5.c impl_NumberText.l5v1.c⟩)], n := 26, k := 0 }
theorem impl_NumberText.hC : CtxOK Tryd.prog impl_NumberText.C := CtxOK.of mo tys_ok (FnsOK.cons (f32bits_ok Tryd.func39 (by kernel_rfl) (by kernel_rfl) (by kernel_rfl) (by kernel_rfl)) FnsOK.nil)
noncomputable def impl_NumberText.b5 : Code := (nthC (loopsOf impl_NumberText.b) 0)
theorem impl_NumberText.lp5 : LpOK Tryd.prog impl_NumberText.C impl_NumberText.b5 := (LpOK.nil (by kernel_rfl))
theorem impl_NumberText.l5.round (p : Nat × Int × List Int) (s : Unit) : roundL impl_NumberText.C [3, 4, 5] [4] impl_NumberText.b5 (impl_NumberText.l5.cd.enc (p, s)).1 (impl_NumberText.l5.cd.enc (p, s)).2 = (impl_NumberText.l5.st p s).map (encSum (fun s => impl_NumberText.l5.cd.enc (p, s)) (impl_NumberText.l5.out p)) := by kernel_rfl
theorem impl_NumberText.l5.lok : LoopOK Tryd.prog impl_NumberText.C ⟨[3, 4, 5], [4], impl_NumberText.l5.c⟩ impl_NumberText.b5 := loop_cd impl_NumberText.l5.cd impl_NumberText.hC impl_NumberText.lp5 impl_NumberText.l5.round fun p => Gets.leaf
theorem impl_NumberText.l5v1.round (p : Int) (s : Nat × Int × List Int) : roundL impl_NumberText.C [3, 4, 5] [4] impl_NumberText.b5 (impl_NumberText.l5v1.cd.enc (p, s)).1 (impl_NumberText.l5v1.cd.enc (p, s)).2 = (impl_NumberText.l5v1.st p s).map (encSum (fun s => impl_NumberText.l5v1.cd.enc (p, s)) (impl_NumberText.l5v1.out p)) := by kernel_rfl
theorem impl_NumberText.l5v1.lok : LoopOK Tryd.prog impl_NumberText.C ⟨[3, 4, 5], [4], impl_NumberText.l5v1.c⟩ impl_NumberText.b5 := loop_cd impl_NumberText.l5v1.cd impl_NumberText.hC impl_NumberText.lp5 impl_NumberText.l5v1.round fun p => Gets.leaf
theorem impl_NumberText.lp : LpOK Tryd.prog impl_NumberText.C impl_NumberText.b := lp_of (by kernel_rfl) (LpsOK.cons (k := 5) (by kernel_rfl) (by kernel_rfl) (LoopOK.alt impl_NumberText.l5.lok impl_NumberText.l5v1.lok) LpsOK.nil)
noncomputable def impl_NumberText.t (x0 : Nat) : T ByteArray :=
  .br (fne .f32 x0 x0)
  (.leaf (ByteArray.mk #[55, 102, 99, 48, 48, 48, 48, 48]))
  (.br (isNaN .f32 x0)
   (.br (Option.isSome (impl_NumberText.l5.r (0, (28 : Int), []) ()))
    (.br (Nat.ble 0 (List.length ([] : List Int)))
     (.leaf (strOf (List.take 0 ([] : List Int))))
     .bad)
    .bad)
   (.br (Option.isSome (impl_NumberText.l5v1.r ((x0 : Nat) : Int) (0, (28 : Int), [])))
    (.br (Nat.ble ((Option.getD (impl_NumberText.l5v1.r ((x0 : Nat) : Int) (0, (28 : Int), [])) default).1) (List.length ((Option.getD (impl_NumberText.l5v1.r ((x0 : Nat) : Int) (0, (28 : Int), [])) default).2)))
     (.leaf (strOf (List.take ((Option.getD (impl_NumberText.l5v1.r ((x0 : Nat) : Int) (0, (28 : Int), [])) default).1) ((Option.getD (impl_NumberText.l5v1.r ((x0 : Nat) : Int) (0, (28 : Int), [])) default).2))))
     .bad)
    .bad))
noncomputable def impl_NumberText (x0 : Nat) : ByteArray := (impl_NumberText.t x0).val
noncomputable def impl_NumberText.ok (x0 : Nat) : Bool := (impl_NumberText.t x0).ok
def impl_NumberText.cd : Cd Nat (List V × Hp) := Cd.iso (Cd.pair (Cd.cons (Cd.fl .f32) Cd.nil) Cd.nil) (fun a => a.1.1) (fun a => ((a, ()), ())) (fun _ => rfl)
noncomputable def impl_NumberText.tr (a : Nat) : T ByteArray := impl_NumberText.t a
def impl_NumberText.enc : Nat → ByteArray → V := fun a r => .st r
noncomputable def impl_NumberText.c : List V → Hp → T V := cdQ impl_NumberText.cd (fun a => .br (impl_NumberText.ok a) (.leaf (impl_NumberText.enc a (impl_NumberText a))) .bad)
theorem impl_NumberText.run (a : Nat) : runF impl_NumberText.C Tryd.f30.results.toList impl_NumberText.b (impl_NumberText.cd.enc a).1 (impl_NumberText.cd.enc a).2 = (impl_NumberText.tr a).map fun r => (impl_NumberText.enc a r, (impl_NumberText.cd.enc a).2) := by kernel_rfl
theorem impl_NumberText.cok : OKq Tryd.prog 30 impl_NumberText.c := con_q' impl_NumberText.cd impl_NumberText.hC Tryd.func30 (by kernel_rfl) (by kernel_rfl) (by kernel_rfl) impl_NumberText.lp (fun a => by kernel_rfl) impl_NumberText.run (Tells.ok (tree := impl_NumberText.tr))
/-! ### impl_ReadNumber -/
noncomputable def impl_ReadNumber.b : Code := bodyOf Tryd.f36
noncomputable def impl_ReadNumber.l3.s (x0 : ByteArray) (x1 : Int) (x2 : Int) (x3 : Int) : T ((Int × Int) ⊕ Int) :=
  .br (decide (x3 < x2))
  (.br (bounds x3 (ByteArray.size x0))
   (.leaf (.inl ((ibits .or .u32 (IntKind.wrap .u32 (x1 * (2 ^ min (Int.toNat (4 : Int)) 32))) (IntKind.wrap .u32 (if (0 : Int) > (Go.Lib.indexByte (ByteArray.data (ByteArray.mk #[48, 49, 50, 51, 52, 53, 54, 55, 56, 57, 97, 98, 99, 100, 101, 102])).toList (Nat.toUInt8 (Int.toNat (byteAt x0 x3)))) then (0 : Int) else (Go.Lib.indexByte (ByteArray.data (ByteArray.mk #[48, 49, 50, 51, 52, 53, 54, 55, 56, 57, 97, 98, 99, 100, 101, 102])).toList (Nat.toUInt8 (Int.toNat (byteAt x0 x3))))))), (IntKind.wrap .i64 (x3 + (1 : Int))))))
   .bad)
  (.leaf (.inr x1))
noncomputable def impl_ReadNumber.l3.st (p : ByteArray × Int) (x : Int × Int) : T ((Int × Int) ⊕ Int) := impl_ReadNumber.l3.s p.1 x.1 p.2 x.2
noncomputable def impl_ReadNumber.l3.r (p : ByteArray × Int) (x : Int × Int) : Option Int := iterT (impl_ReadNumber.l3.st p) manyRounds x
def impl_ReadNumber.l3.cd : Cd ((ByteArray × Int) × (Int × Int)) (List V × Hp) := Cd.iso (Cd.pair (Cd.cons Cd.st (Cd.cons (Cd.it .u32) (Cd.cons (Cd.it .i64) (Cd.cons (Cd.it .i64) Cd.nil)))) Cd.nil) (fun a => ((a.1.1, a.1.2.2.1), (a.1.2.1, a.1.2.2.2.1))) (fun a => ((a.1.1, (a.2.1, (a.1.2, (a.2.2, ())))), ())) (fun _ => rfl)
def impl_ReadNumber.l3.out (p : ByteArray × Int) : Int → X × List V × Hp := (fun r => (.ex 0, [.st p.1, .it .u32 r], []))
def impl_ReadNumber.l3.ex (p : ByteArray × Int) : Int → T (X × List V × Hp) := leafT (fun r => (.ex 0, [.st p.1, .it .u32 r], []))
noncomputable def impl_ReadNumber.l3.c : List V → Hp → T (X × List V × Hp) := cdL impl_ReadNumber.l3.cd fun x => optT (impl_ReadNumber.l3.r x.1 x.2) (impl_ReadNumber.l3.ex x.1)
noncomputable def impl_ReadNumber.C : Ctx := { ty := tys, fn := [(48, .q indexByteC), (32, .q f32fromC), (30, .q impl_NumberText.c)], lp := [(3, ⟨[0, 4, 9, 10], [0, 4], impl_ReadNumber.l3.c⟩)], n := 30, k := 0 }
theorem impl_ReadNumber.hC : CtxOK Tryd.prog impl_ReadNumber.C := CtxOK.of mo tys_ok (FnsOK.cons (indexByte_ok Tryd.func48 (by kernel_rfl) (by kernel_rfl) (fun s c w => Tryd.strings_IndexByte s c w)) (FnsOK.cons (f32from_ok Tryd.func32 (by kernel_rfl) (by kernel_rfl) (by kernel_rfl) (by kernel_rfl)) (FnsOK.cons impl_NumberText.cok FnsOK.nil)))
noncomputable def impl_ReadNumber.b3 : Code := (nthC (loopsOf impl_ReadNumber.b) 0)
theorem impl_ReadNumber.lp3 : LpOK Tryd.prog impl_ReadNumber.C impl_ReadNumber.b3 := (LpOK.nil (by kernel_rfl))
theorem impl_ReadNumber.l3.round (p : ByteArray × Int) (s : Int × Int) : roundL impl_ReadNumber.C [0, 4, 9, 10] [0, 4] impl_ReadNumber.b3 (impl_ReadNumber.l3.cd.enc (p, s)).1 (impl_ReadNumber.l3.cd.enc (p, s)).2 = (impl_ReadNumber.l3.st p s).map (encSum (fun s => impl_ReadNumber.l3.cd.enc (p, s)) (impl_ReadNumber.l3.out p)) := by kernel_rfl
theorem impl_ReadNumber.l3.lok : LoopOK Tryd.prog impl_ReadNumber.C ⟨[0, 4, 9, 10], [0, 4], impl_ReadNumber.l3.c⟩ impl_ReadNumber.b3 := loop_cd impl_ReadNumber.l3.cd impl_ReadNumber.hC impl_ReadNumber.lp3 impl_ReadNumber.l3.round fun p => Gets.leaf
theorem impl_ReadNumber.lp : LpOK Tryd.prog impl_ReadNumber.C impl_ReadNumber.b := lp_of (by kernel_rfl) (LpsOK.cons (k := 3) (by kernel_rfl) (by kernel_rfl) impl_ReadNumber.l3.lok LpsOK.nil)
noncomputable def impl_ReadNumber.t (x0 : ByteArray) : T (Nat × Int) :=
  .br (Option.isSome (impl_ReadNumber.l3.r (x0, (if (8 : Int) < ((ByteArray.size x0 : Nat) : Int) then (8 : Int) else ((ByteArray.size x0 : Nat) : Int))) ((0 : Int), (0 : Int))))
  (.br (impl_NumberText.ok (nz .f32 (Int.toNat (Option.getD (impl_ReadNumber.l3.r (x0, (if (8 : Int) < ((ByteArray.size x0 : Nat) : Int) then (8 : Int) else ((ByteArray.size x0 : Nat) : Int))) ((0 : Int), (0 : Int))) default))))
   (.br (seq? (impl_NumberText (nz .f32 (Int.toNat (Option.getD (impl_ReadNumber.l3.r (x0, (if (8 : Int) < ((ByteArray.size x0 : Nat) : Int) then (8 : Int) else ((ByteArray.size x0 : Nat) : Int))) ((0 : Int), (0 : Int))) default)))) x0)
    (.leaf ((nz .f32 (Int.toNat (Option.getD (impl_ReadNumber.l3.r (x0, (if (8 : Int) < ((ByteArray.size x0 : Nat) : Int) then (8 : Int) else ((ByteArray.size x0 : Nat) : Int))) ((0 : Int), (0 : Int))) default))), (0 : Int)))
    (.leaf (0, (5 : Int))))
   .bad)
  .bad
noncomputable def impl_ReadNumber (x0 : ByteArray) : Nat × Int := (impl_ReadNumber.t x0).val
noncomputable def impl_ReadNumber.ok (x0 : ByteArray) : Bool := (impl_ReadNumber.t x0).ok
def impl_ReadNumber.cd : Cd ByteArray (List V × Hp) := Cd.iso (Cd.pair (Cd.cons Cd.st Cd.nil) Cd.nil) (fun a => a.1.1) (fun a => ((a, ()), ())) (fun _ => rfl)
noncomputable def impl_ReadNumber.tr (a : ByteArray) : T (Nat × Int) := impl_ReadNumber.t a
def impl_ReadNumber.enc : ByteArray → (Nat × Int) → V := fun a r => .tup [.fl .f32 r.1, .it .i64 r.2]
noncomputable def impl_ReadNumber.c : List V → Hp → T V := cdQ impl_ReadNumber.cd (fun a => .br (impl_ReadNumber.ok a) (.leaf (impl_ReadNumber.enc a (impl_ReadNumber a))) .bad)
theorem impl_ReadNumber.run (a : ByteArray) : runF impl_ReadNumber.C Tryd.f36.results.toList impl_ReadNumber.b (impl_ReadNumber.cd.enc a).1 (impl_ReadNumber.cd.enc a).2 = (impl_ReadNumber.tr a).map fun r => (impl_ReadNumber.enc a r, (impl_ReadNumber.cd.enc a).2) := by kernel_rfl
theorem impl_ReadNumber.cok : OKq Tryd.prog 36 impl_ReadNumber.c := con_q' impl_ReadNumber.cd impl_ReadNumber.hC Tryd.func36 (by kernel_rfl) (by kernel_rfl) (by kernel_rfl) impl_ReadNumber.lp (fun a => by kernel_rfl) impl_ReadNumber.run (Tells.ok (tree := impl_ReadNumber.tr))
/-! ### impl_numbersOf -/
noncomputable def impl_numbersOf.b : Code := bodyOf Tryd.f21
noncomputable def impl_numbersOf.l3.s (x0 : Nat) (x1 : Nat) (x2 : Int) (x3 : Int) (x4 : Int) (x5 : List Int) (x6 : List ByteArray) (x7 : List Nat) : T ((Nat × Int × List Nat) ⊕ ((Bool × Nat × List Nat) ⊕ (Nat × List Nat))) :=
  .br (decide (x3 < x2))
  (.br (bounds x3 x1)
   (.br (Nat.ble ((1 + (Int.toNat x3 * 1)) + 1) (List.length x6))
    (.br (impl_ReadNumber.ok (List.getD x6 (1 + (Int.toNat x3 * 1)) ByteArray.empty))
     (.br ((impl_ReadNumber (List.getD x6 (1 + (Int.toNat x3 * 1)) ByteArray.empty)).2 != (0 : Int))
      (.leaf (.inr (.inl (false, x0, x7))))
      (.br ((Nat.ble 1 (List.length [(impl_ReadNumber (List.getD x6 (1 + (Int.toNat x3 * 1)) ByteArray.empty)).1])) && (Nat.beq (List.length x7) (x0 * 1) && Nat.ble ((x0 + 1) * 4) 35184372088832 && Nat.ble (x0 + 1) 35184372088832))
       (.leaf (.inl ((x0 + 1), (IntKind.wrap .i64 (x3 + (1 : Int))), (x7 ++ (List.take 1 (List.drop 0 [(impl_ReadNumber (List.getD x6 (1 + (Int.toNat x3 * 1)) ByteArray.empty)).1]))))))
       .bad))
     .bad)
    .bad)
   .bad)
  (.leaf (.inr (.inr (x0, x7))))
noncomputable def impl_numbersOf.l3.st (p : Nat × Int × Int × List Int × List ByteArray) (x : Nat × Int × List Nat) : T ((Nat × Int × List Nat) ⊕ ((Bool × Nat × List Nat) ⊕ (Nat × List Nat))) := impl_numbersOf.l3.s x.1 p.1 p.2.1 x.2.1 p.2.2.1 p.2.2.2.1 p.2.2.2.2 x.2.2
noncomputable def impl_numbersOf.l3.r (p : Nat × Int × Int × List Int × List ByteArray) (x : Nat × Int × List Nat) : Option ((Bool × Nat × List Nat) ⊕ (Nat × List Nat)) := iterT (impl_numbersOf.l3.st p) manyRounds x
def impl_numbersOf.l3.cd : Cd ((Nat × Int × Int × List Int × List ByteArray) × (Nat × Int × List Nat)) (List V × Hp) := Cd.iso (Cd.pair (Cd.cons (Cd.own 5) (Cd.cons (Cd.sl 4 (Cd.natc 1)) (Cd.cons (Cd.it .i64) (Cd.cons (Cd.it .i64) Cd.nil)))) (Cd.cons (Cd.ro 0 3 (Cd.vs (Cd.cons (Cd.it .i64) Cd.nil))) (Cd.cons (Cd.ro 0 4 (Cd.vs (Cd.cons Cd.er Cd.nil))) (Cd.cons (Cd.ro 0 5 (Cd.vs (Cd.cons Cd.er Cd.nil))) (Cd.cons (Cd.ro 21 2 (Cd.is .u64)) (Cd.cons (Cd.rw 9 1 Cd.ss) (Cd.cons (Cd.rw 23 1 (Cd.fs .f32)) Cd.nil))))))) (fun a => ((a.1.2.1.2, a.1.2.2.1, a.2.1.1, a.2.2.2.2.1, a.2.2.2.2.2.1), (a.1.1, a.1.2.2.2.1, a.2.2.2.2.2.2.1))) (fun a => ((a.2.1, (((), a.1.1), (a.1.2.1, (a.2.2.1, ())))), ((a.1.2.2.1, ()), (((), ()), (((), ()), (a.1.2.2.2.1, (a.1.2.2.2.2, (a.2.2.2, ())))))))) (fun _ => rfl)
def impl_numbersOf.l3.out (p : Nat × Int × Int × List Int × List ByteArray) : ((Bool × Nat × List Nat) ⊕ (Nat × List Nat)) → X × List V × Hp := sumO (fun r => (.ret, [.sn, .bo r.1, .own 5 r.2.1], [some ⟨false, 0, 3, .vs [.it .i64 p.2.2.1]⟩, some ⟨false, 0, 4, .vs [.er]⟩, some ⟨false, 0, 5, .vs [.er]⟩, some ⟨false, 21, 2, .is .u64 p.2.2.2.1⟩, some ⟨true, 9, 1, .ss p.2.2.2.2⟩, some ⟨true, 23, 1, .fs .f32 r.2.2⟩])) (fun r => (.ex 0, [.unk, .unk, .own 5 r.1], [some ⟨false, 0, 3, .vs [.it .i64 p.2.2.1]⟩, some ⟨false, 0, 4, .vs [.er]⟩, some ⟨false, 0, 5, .vs [.er]⟩, some ⟨false, 21, 2, .is .u64 p.2.2.2.1⟩, some ⟨true, 9, 1, .ss p.2.2.2.2⟩, some ⟨true, 23, 1, .fs .f32 r.2⟩]))
def impl_numbersOf.l3.ex (p : Nat × Int × Int × List Int × List ByteArray) : ((Bool × Nat × List Nat) ⊕ (Nat × List Nat)) → T (X × List V × Hp) := sumT (leafT (fun r => (.ret, [.sn, .bo r.1, .own 5 r.2.1], [some ⟨false, 0, 3, .vs [.it .i64 p.2.2.1]⟩, some ⟨false, 0, 4, .vs [.er]⟩, some ⟨false, 0, 5, .vs [.er]⟩, some ⟨false, 21, 2, .is .u64 p.2.2.2.1⟩, some ⟨true, 9, 1, .ss p.2.2.2.2⟩, some ⟨true, 23, 1, .fs .f32 r.2.2⟩]))) (leafT (fun r => (.ex 0, [.unk, .unk, .own 5 r.1], [some ⟨false, 0, 3, .vs [.it .i64 p.2.2.1]⟩, some ⟨false, 0, 4, .vs [.er]⟩, some ⟨false, 0, 5, .vs [.er]⟩, some ⟨false, 21, 2, .is .u64 p.2.2.2.1⟩, some ⟨true, 9, 1, .ss p.2.2.2.2⟩, some ⟨true, 23, 1, .fs .f32 r.2⟩])))
noncomputable def impl_numbersOf.l3.c : List V → Hp → T (X × List V × Hp) := cdL impl_numbersOf.l3.cd fun x => optT (impl_numbersOf.l3.r x.1 x.2) (impl_numbersOf.l3.ex x.1)
noncomputable def impl_numbersOf.C : Ctx := { ty := tys, fn := [(36, .q impl_ReadNumber.c)], lp := [(3, ⟨[4, 10, 11, 12], [2, 3, 4], impl_numbersOf.l3.c⟩)], n := 29, k := 5 }
theorem impl_numbersOf.hC : CtxOK Tryd.prog impl_numbersOf.C := CtxOK.of mo tys_ok (FnsOK.cons impl_ReadNumber.cok FnsOK.nil)
noncomputable def impl_numbersOf.b3 : Code := (nthC (loopsOf impl_numbersOf.b) 0)
theorem impl_numbersOf.lp3 : LpOK Tryd.prog impl_numbersOf.C impl_numbersOf.b3 := (LpOK.nil (by kernel_rfl))
theorem impl_numbersOf.l3.round (p : Nat × Int × Int × List Int × List ByteArray) (s : Nat × Int × List Nat) : roundL impl_numbersOf.C [4, 10, 11, 12] [2, 3, 4] impl_numbersOf.b3 (impl_numbersOf.l3.cd.enc (p, s)).1 (impl_numbersOf.l3.cd.enc (p, s)).2 = (impl_numbersOf.l3.st p s).map (encSum (fun s => impl_numbersOf.l3.cd.enc (p, s)) (impl_numbersOf.l3.out p)) := by kernel_rfl
theorem impl_numbersOf.l3.lok : LoopOK Tryd.prog impl_numbersOf.C ⟨[4, 10, 11, 12], [2, 3, 4], impl_numbersOf.l3.c⟩ impl_numbersOf.b3 := loop_cd impl_numbersOf.l3.cd impl_numbersOf.hC impl_numbersOf.lp3 impl_numbersOf.l3.round fun p => (Gets.sum Gets.leaf Gets.leaf)
theorem impl_numbersOf.lp : LpOK Tryd.prog impl_numbersOf.C impl_numbersOf.b := lp_of (by kernel_rfl) (LpsOK.cons (k := 3) (by kernel_rfl) (by kernel_rfl) impl_numbersOf.l3.lok LpsOK.nil)
noncomputable def impl_numbersOf.t (x0 : Nat) (x1 : Int) (x2 : List Int) (x3 : List ByteArray) : T (Bool ⊕ (Nat × Bool × List Nat)) :=
  .br (Option.isSome (impl_numbersOf.l3.r (x0, ((x0 : Nat) : Int), x1, x2, x3) (0, (0 : Int), [])))
  (.br (Sum.isLeft (Option.getD (impl_numbersOf.l3.r (x0, ((x0 : Nat) : Int), x1, x2, x3) (0, (0 : Int), [])) default))
   (.leaf (.inl ((getLeftD (Option.getD (impl_numbersOf.l3.r (x0, ((x0 : Nat) : Int), x1, x2, x3) (0, (0 : Int), [])) default)).1)))
   (.leaf (.inr ((getRightD (Option.getD (impl_numbersOf.l3.r (x0, ((x0 : Nat) : Int), x1, x2, x3) (0, (0 : Int), [])) default)).1, true, (getRightD (Option.getD (impl_numbersOf.l3.r (x0, ((x0 : Nat) : Int), x1, x2, x3) (0, (0 : Int), [])) default)).2))))
  .bad
noncomputable def impl_numbersOf (x0 : Nat) (x1 : Int) (x2 : List Int) (x3 : List ByteArray) : Bool ⊕ (Nat × Bool × List Nat) := (impl_numbersOf.t x0 x1 x2 x3).val
noncomputable def impl_numbersOf.ok (x0 : Nat) (x1 : Int) (x2 : List Int) (x3 : List ByteArray) : Bool := (impl_numbersOf.t x0 x1 x2 x3).ok
def impl_numbersOf.cd : Cd (Nat × Int × List Int × List ByteArray) (List V × Hp) := Cd.iso (Cd.pair (Cd.cons (Cd.sl 4 (Cd.natc 1)) Cd.nil) (Cd.cons (Cd.ro 0 3 (Cd.vs (Cd.cons (Cd.it .i64) Cd.nil))) (Cd.cons (Cd.ro 0 4 (Cd.vs (Cd.cons Cd.er Cd.nil))) (Cd.cons (Cd.ro 0 5 (Cd.vs (Cd.cons Cd.er Cd.nil))) (Cd.cons (Cd.ro 21 2 (Cd.is .u64)) (Cd.cons (Cd.rw 9 1 Cd.ss) Cd.nil)))))) (fun a => (a.1.1.2, a.2.1.1, a.2.2.2.2.1, a.2.2.2.2.2.1)) (fun a => ((((), a.1), ()), ((a.2.1, ()), (((), ()), (((), ()), (a.2.2.1, (a.2.2.2, ()))))))) (fun _ => rfl)
noncomputable def impl_numbersOf.tr (a : Nat × Int × List Int × List ByteArray) : T (Bool ⊕ (Nat × Bool × List Nat)) := impl_numbersOf.t a.1 a.2.1 a.2.2.1 a.2.2.2
def impl_numbersOf.enc : (Nat × Int × List Int × List ByteArray) → (Bool ⊕ (Nat × Bool × List Nat)) → V × Hp := fun a => sumO (fun r => (.tup [.sn, .bo r], [some ⟨false, 0, 3, .vs [.it .i64 a.2.1]⟩, some ⟨false, 0, 4, .vs [.er]⟩, some ⟨false, 0, 5, .vs [.er]⟩, some ⟨false, 21, 2, .is .u64 a.2.2.1⟩, some ⟨true, 9, 1, .ss a.2.2.2⟩])) (fun r => (.tup [.own 5 r.1, .bo r.2.1], [some ⟨false, 0, 3, .vs [.it .i64 a.2.1]⟩, some ⟨false, 0, 4, .vs [.er]⟩, some ⟨false, 0, 5, .vs [.er]⟩, some ⟨false, 21, 2, .is .u64 a.2.2.1⟩, some ⟨true, 9, 1, .ss a.2.2.2⟩, some ⟨true, 23, 1, .fs .f32 r.2.2⟩]))
noncomputable def impl_numbersOf.ex : (Nat × Int × List Int × List ByteArray) → (Bool ⊕ (Nat × Bool × List Nat)) → T (V × Hp) := fun a => sumT (leafT (fun r => (.tup [.sn, .bo r], [some ⟨false, 0, 3, .vs [.it .i64 a.2.1]⟩, some ⟨false, 0, 4, .vs [.er]⟩, some ⟨false, 0, 5, .vs [.er]⟩, some ⟨false, 21, 2, .is .u64 a.2.2.1⟩, some ⟨true, 9, 1, .ss a.2.2.2⟩]))) (leafT (fun r => (.tup [.own 5 r.1, .bo r.2.1], [some ⟨false, 0, 3, .vs [.it .i64 a.2.1]⟩, some ⟨false, 0, 4, .vs [.er]⟩, some ⟨false, 0, 5, .vs [.er]⟩, some ⟨false, 21, 2, .is .u64 a.2.2.1⟩, some ⟨true, 9, 1, .ss a.2.2.2⟩, some ⟨true, 23, 1, .fs .f32 r.2.2⟩])))
noncomputable def impl_numbersOf.c : List V → Hp → T (V × Hp) := cdE impl_numbersOf.cd (fun a => .br (impl_numbersOf.ok a.1 a.2.1 a.2.2.1 a.2.2.2) (impl_numbersOf.ex a (impl_numbersOf a.1 a.2.1 a.2.2.1 a.2.2.2)) .bad)
theorem impl_numbersOf.run (a : Nat × Int × List Int × List ByteArray) : runF impl_numbersOf.C Tryd.f21.results.toList impl_numbersOf.b (impl_numbersOf.cd.enc a).1 (impl_numbersOf.cd.enc a).2 = (impl_numbersOf.tr a).map (impl_numbersOf.enc a) := by kernel_rfl
theorem impl_numbersOf.cok : OKe Tryd.prog 21 impl_numbersOf.c := con_e' impl_numbersOf.cd impl_numbersOf.hC Tryd.func21 (by kernel_rfl) (by kernel_rfl) (by kernel_rfl) impl_numbersOf.lp (fun a => by kernel_rfl) impl_numbersOf.run (Tells.okS (tree := impl_numbersOf.tr) (ex := impl_numbersOf.ex) fun a => (Gets.sum Gets.leaf Gets.leaf))
/-! ### impl_within -/
noncomputable def impl_within.b : Code := bodyOf Tryd.f27
noncomputable def impl_within.C : Ctx := { ty := tys, fn := [], lp := [], n := 15, k := 0 }
theorem impl_within.hC : CtxOK Tryd.prog impl_within.C := CtxOK.of mo tys_ok FnsOK.nil
theorem impl_within.lp : LpOK Tryd.prog impl_within.C impl_within.b := (LpOK.nil (by kernel_rfl))
noncomputable def impl_within.t (x0 : Int) (x1 : Int) (x2 : Int) : T Bool :=
  .br (decide (x1 ≤ x0))
  (.leaf (decide (x0 ≤ x2)))
  (.leaf false)
noncomputable def impl_within (x0 : Int) (x1 : Int) (x2 : Int) : Bool := (impl_within.t x0 x1 x2).val
def impl_within.cd : Cd (Int × Int × Int) (List V × Hp) := Cd.iso (Cd.pair (Cd.cons (Cd.it .i64) (Cd.cons (Cd.it .i64) (Cd.cons (Cd.it .i64) Cd.nil))) Cd.nil) (fun a => (a.1.1, a.1.2.1, a.1.2.2.1)) (fun a => ((a.1, (a.2.1, (a.2.2, ()))), ())) (fun _ => rfl)
noncomputable def impl_within.tr (a : Int × Int × Int) : T Bool := impl_within.t a.1 a.2.1 a.2.2
def impl_within.enc : (Int × Int × Int) → Bool → V := fun a r => .bo r
noncomputable def impl_within.c : List V → Hp → T V := cdQ impl_within.cd (fun a => .leaf (impl_within.enc a (impl_within a.1 a.2.1 a.2.2)))
theorem impl_within.run (a : Int × Int × Int) : runF impl_within.C Tryd.f27.results.toList impl_within.b (impl_within.cd.enc a).1 (impl_within.cd.enc a).2 = (impl_within.tr a).map fun r => (impl_within.enc a r, (impl_within.cd.enc a).2) := by kernel_rfl
theorem impl_within.cok : OKq Tryd.prog 27 impl_within.c := con_q' impl_within.cd impl_within.hC Tryd.func27 (by kernel_rfl) (by kernel_rfl) (by kernel_rfl) impl_within.lp (fun a => by kernel_rfl) impl_within.run (Tells.val (tree := impl_within.tr) fun a => by kernel_rfl)
/-! ### impl_between -/
noncomputable def impl_between.b : Code := bodyOf Tryd.f37
noncomputable def impl_between.C : Ctx := { ty := tys, fn := [], lp := [], n := 15, k := 0 }
theorem impl_between.hC : CtxOK Tryd.prog impl_between.C := CtxOK.of mo tys_ok FnsOK.nil
theorem impl_between.lp : LpOK Tryd.prog impl_between.C impl_between.b := (LpOK.nil (by kernel_rfl))
noncomputable def impl_between.t (x0 : Nat) (x1 : Nat) (x2 : Nat) : T Bool :=
  .br (fle .f32 x1 x0)
  (.leaf (fle .f32 x0 x2))
  (.leaf false)
noncomputable def impl_between (x0 : Nat) (x1 : Nat) (x2 : Nat) : Bool := (impl_between.t x0 x1 x2).val
def impl_between.cd : Cd (Nat × Nat × Nat) (List V × Hp) := Cd.iso (Cd.pair (Cd.cons (Cd.fl .f32) (Cd.cons (Cd.fl .f32) (Cd.cons (Cd.fl .f32) Cd.nil))) Cd.nil) (fun a => (a.1.1, a.1.2.1, a.1.2.2.1)) (fun a => ((a.1, (a.2.1, (a.2.2, ()))), ())) (fun _ => rfl)
noncomputable def impl_between.tr (a : Nat × Nat × Nat) : T Bool := impl_between.t a.1 a.2.1 a.2.2
def impl_between.enc : (Nat × Nat × Nat) → Bool → V := fun a r => .bo r
noncomputable def impl_between.c : List V → Hp → T V := cdQ impl_between.cd (fun a => .leaf (impl_between.enc a (impl_between a.1 a.2.1 a.2.2)))
theorem impl_between.run (a : Nat × Nat × Nat) : runF impl_between.C Tryd.f37.results.toList impl_between.b (impl_between.cd.enc a).1 (impl_between.cd.enc a).2 = (impl_between.tr a).map fun r => (impl_between.enc a r, (impl_between.cd.enc a).2) := by kernel_rfl
theorem impl_between.cok : OKq Tryd.prog 37 impl_between.c := con_q' impl_between.cd impl_between.hC Tryd.func37 (by kernel_rfl) (by kernel_rfl) (by kernel_rfl) impl_between.lp (fun a => by kernel_rfl) impl_between.run (Tells.val (tree := impl_between.tr) fun a => by kernel_rfl)
/-! ### impl_IsLength -/
noncomputable def impl_IsLength.b : Code := bodyOf Tryd.f28
noncomputable def impl_IsLength.C : Ctx := { ty := tys, fn := [(37, .q impl_between.c)], lp := [], n := 5, k := 0 }
theorem impl_IsLength.hC : CtxOK Tryd.prog impl_IsLength.C := CtxOK.of mo tys_ok (FnsOK.cons impl_between.cok FnsOK.nil)
theorem impl_IsLength.lp : LpOK Tryd.prog impl_IsLength.C impl_IsLength.b := (LpOK.nil (by kernel_rfl))
noncomputable def impl_IsLength.t (x0 : Nat) : T Bool :=
  .leaf (impl_between x0 1031798784 1149239296)
noncomputable def impl_IsLength (x0 : Nat) : Bool := (impl_IsLength.t x0).val
def impl_IsLength.cd : Cd Nat (List V × Hp) := Cd.iso (Cd.pair (Cd.cons (Cd.fl .f32) Cd.nil) Cd.nil) (fun a => a.1.1) (fun a => ((a, ()), ())) (fun _ => rfl)
noncomputable def impl_IsLength.tr (a : Nat) : T Bool := impl_IsLength.t a
def impl_IsLength.enc : Nat → Bool → V := fun a r => .bo r
noncomputable def impl_IsLength.c : List V → Hp → T V := cdQ impl_IsLength.cd (fun a => .leaf (impl_IsLength.enc a (impl_IsLength a)))
theorem impl_IsLength.run (a : Nat) : runF impl_IsLength.C Tryd.f28.results.toList impl_IsLength.b (impl_IsLength.cd.enc a).1 (impl_IsLength.cd.enc a).2 = (impl_IsLength.tr a).map fun r => (impl_IsLength.enc a r, (impl_IsLength.cd.enc a).2) := by kernel_rfl
theorem impl_IsLength.cok : OKq Tryd.prog 28 impl_IsLength.c := con_q' impl_IsLength.cd impl_IsLength.hC Tryd.func28 (by kernel_rfl) (by kernel_rfl) (by kernel_rfl) impl_IsLength.lp (fun a => by kernel_rfl) impl_IsLength.run (Tells.val (tree := impl_IsLength.tr) fun a => by kernel_rfl)
/-! ### impl_ValidMill -/
noncomputable def impl_ValidMill.b : Code := bodyOf Tryd.f13
noncomputable def impl_ValidMill.C : Ctx := { ty := tys, fn := [(27, .q impl_within.c), (28, .q impl_IsLength.c)], lp := [], n := 17, k := 0 }
theorem impl_ValidMill.hC : CtxOK Tryd.prog impl_ValidMill.C := CtxOK.of mo tys_ok (FnsOK.cons impl_within.cok (FnsOK.cons impl_IsLength.cok FnsOK.nil))
theorem impl_ValidMill.lp : LpOK Tryd.prog impl_ValidMill.C impl_ValidMill.b := (LpOK.nil (by kernel_rfl))
noncomputable def impl_ValidMill.t (x0 : Int) (x1 : Nat) (x2 : Nat) : T Bool :=
  .br (impl_within (IntKind.wrap .i64 x0) (4 : Int) (48 : Int))
  (.br (impl_IsLength x1)
   (.leaf (impl_IsLength x2))
   (.leaf false))
  (.leaf false)
noncomputable def impl_ValidMill (x0 : Int) (x1 : Nat) (x2 : Nat) : Bool := (impl_ValidMill.t x0 x1 x2).val
def impl_ValidMill.cd : Cd (Int × Nat × Nat) (List V × Hp) := Cd.iso (Cd.pair (Cd.cons (Cd.agg (Cd.cons (Cd.it .i16) (Cd.cons (Cd.fl .f32) (Cd.cons (Cd.fl .f32) Cd.nil)))) Cd.nil) Cd.nil) (fun a => (a.1.1.1, a.1.1.2.1, a.1.1.2.2.1)) (fun a => (((a.1, (a.2.1, (a.2.2, ()))), ()), ())) (fun _ => rfl)
noncomputable def impl_ValidMill.tr (a : Int × Nat × Nat) : T Bool := impl_ValidMill.t a.1 a.2.1 a.2.2
def impl_ValidMill.enc : (Int × Nat × Nat) → Bool → V := fun a r => .bo r
noncomputable def impl_ValidMill.c : List V → Hp → T V := cdQ impl_ValidMill.cd (fun a => .leaf (impl_ValidMill.enc a (impl_ValidMill a.1 a.2.1 a.2.2)))
theorem impl_ValidMill.run (a : Int × Nat × Nat) : runF impl_ValidMill.C Tryd.f13.results.toList impl_ValidMill.b (impl_ValidMill.cd.enc a).1 (impl_ValidMill.cd.enc a).2 = (impl_ValidMill.tr a).map fun r => (impl_ValidMill.enc a r, (impl_ValidMill.cd.enc a).2) := by kernel_rfl
theorem impl_ValidMill.cok : OKq Tryd.prog 13 impl_ValidMill.c := con_q' impl_ValidMill.cd impl_ValidMill.hC Tryd.func13 (by kernel_rfl) (by kernel_rfl) (by kernel_rfl) impl_ValidMill.lp (fun a => by kernel_rfl) impl_ValidMill.run (Tells.val (tree := impl_ValidMill.tr) fun a => by kernel_rfl)
/-! ### impl_decimal -/
noncomputable def impl_decimal.b : Code := bodyOf Tryd.f14
noncomputable def impl_decimal.C : Ctx := { ty := tys, fn := [(29, .q formatC)], lp := [], n := 5, k := 0 }
theorem impl_decimal.hC : CtxOK Tryd.prog impl_decimal.C := CtxOK.of mo tys_ok (FnsOK.cons (format_ok Tryd.func29 (by kernel_rfl) (by kernel_rfl) (fun i w h => Tryd.strconv_FormatInt i w h)) FnsOK.nil)
theorem impl_decimal.lp : LpOK Tryd.prog impl_decimal.C impl_decimal.b := (LpOK.nil (by kernel_rfl))
noncomputable def impl_decimal.t (x0 : Int) : T ByteArray :=
  .br (decide (0 ≤ x0) && (decide (x0 < 100) && decide ((10 : Int) = 10)))
  (.leaf (decB x0))
  .bad
noncomputable def impl_decimal (x0 : Int) : ByteArray := (impl_decimal.t x0).val
noncomputable def impl_decimal.ok (x0 : Int) : Bool := (impl_decimal.t x0).ok
def impl_decimal.cd : Cd Int (List V × Hp) := Cd.iso (Cd.pair (Cd.cons (Cd.it .i64) Cd.nil) Cd.nil) (fun a => a.1.1) (fun a => ((a, ()), ())) (fun _ => rfl)
noncomputable def impl_decimal.tr (a : Int) : T ByteArray := impl_decimal.t a
def impl_decimal.enc : Int → ByteArray → V := fun a r => .st r
noncomputable def impl_decimal.c : List V → Hp → T V := cdQ impl_decimal.cd (fun a => .br (impl_decimal.ok a) (.leaf (impl_decimal.enc a (impl_decimal a))) .bad)
theorem impl_decimal.run (a : Int) : runF impl_decimal.C Tryd.f14.results.toList impl_decimal.b (impl_decimal.cd.enc a).1 (impl_decimal.cd.enc a).2 = (impl_decimal.tr a).map fun r => (impl_decimal.enc a r, (impl_decimal.cd.enc a).2) := by kernel_rfl
theorem impl_decimal.cok : OKq Tryd.prog 14 impl_decimal.c := con_q' impl_decimal.cd impl_decimal.hC Tryd.func14 (by kernel_rfl) (by kernel_rfl) (by kernel_rfl) impl_decimal.lp (fun a => by kernel_rfl) impl_decimal.run (Tells.ok (tree := impl_decimal.tr))
/-! ### impl_texts -/
noncomputable def impl_texts.b : Code := bodyOf Tryd.f15
noncomputable def impl_texts.l3.s (x0 : ByteArray) (x1 : Nat) (x2 : Nat) (x3 : Int) (x4 : Int) (x5 : List Nat) (x6 : List ByteArray) : T ((Nat × Int × List ByteArray) ⊕ (Nat × List ByteArray)) :=
  .br (decide (x4 < x3))
  (.br (bounds x4 x2)
   (.br (Nat.ble ((Int.toNat x4 * 1) + 1) (List.length x5))
    (.br (impl_NumberText.ok (List.getD x5 (Int.toNat x4 * 1) 0))
     (.br ((Nat.ble 1 (List.length [(impl_NumberText (List.getD x5 (Int.toNat x4 * 1) 0))])) && (Nat.beq (List.length x6) (x1 * 1) && Nat.ble ((x1 + 1) * 16) 35184372088832 && Nat.ble (x1 + 1) 35184372088832))
      (.leaf (.inl ((x1 + 1), (IntKind.wrap .i64 (x4 + (1 : Int))), (x6 ++ (List.take 1 (List.drop 0 [(impl_NumberText (List.getD x5 (Int.toNat x4 * 1) 0))]))))))
      .bad)
     .bad)
    .bad)
   .bad)
  (.leaf (.inr (x1, x6)))
noncomputable def impl_texts.l3.st (p : ByteArray × Nat × Int × List Nat) (x : Nat × Int × List ByteArray) : T ((Nat × Int × List ByteArray) ⊕ (Nat × List ByteArray)) := impl_texts.l3.s p.1 x.1 p.2.1 p.2.2.1 x.2.1 p.2.2.2 x.2.2
noncomputable def impl_texts.l3.r (p : ByteArray × Nat × Int × List Nat) (x : Nat × Int × List ByteArray) : Option (Nat × List ByteArray) := iterT (impl_texts.l3.st p) manyRounds x
def impl_texts.l3.cd : Cd ((ByteArray × Nat × Int × List Nat) × (Nat × Int × List ByteArray)) (List V × Hp) := Cd.iso (Cd.pair (Cd.cons Cd.st (Cd.cons (Cd.own 1) (Cd.cons (Cd.own 0) (Cd.cons (Cd.it .i64) (Cd.cons (Cd.it .i64) Cd.nil))))) (Cd.cons (Cd.rw 23 1 (Cd.fs .f32)) (Cd.cons (Cd.rw 9 1 Cd.ss) Cd.nil))) (fun a => ((a.1.1, a.1.2.2.1, a.1.2.2.2.1, a.2.1), (a.1.2.1, a.1.2.2.2.2.1, a.2.2.1))) (fun a => ((a.1.1, (a.2.1, (a.1.2.1, (a.1.2.2.1, (a.2.2.1, ()))))), (a.1.2.2.2, (a.2.2.2, ())))) (fun _ => rfl)
def impl_texts.l3.out (p : ByteArray × Nat × Int × List Nat) : (Nat × List ByteArray) → X × List V × Hp := (fun r => (.ex 0, [.st p.1, .own 1 r.1], [some ⟨true, 23, 1, .fs .f32 p.2.2.2⟩, some ⟨true, 9, 1, .ss r.2⟩]))
def impl_texts.l3.ex (p : ByteArray × Nat × Int × List Nat) : (Nat × List ByteArray) → T (X × List V × Hp) := leafT (fun r => (.ex 0, [.st p.1, .own 1 r.1], [some ⟨true, 23, 1, .fs .f32 p.2.2.2⟩, some ⟨true, 9, 1, .ss r.2⟩]))
noncomputable def impl_texts.l3.c : List V → Hp → T (X × List V × Hp) := cdL impl_texts.l3.cd fun x => optT (impl_texts.l3.r x.1 x.2) (impl_texts.l3.ex x.1)
noncomputable def impl_texts.C : Ctx := { ty := tys, fn := [(30, .q impl_NumberText.c), (31, .q joinC)], lp := [(3, ⟨[0, 5, 9, 10, 11], [0, 5], impl_texts.l3.c⟩)], n := 24, k := 1 }
theorem impl_texts.hC : CtxOK Tryd.prog impl_texts.C := CtxOK.of mo tys_ok (FnsOK.cons impl_NumberText.cok (FnsOK.cons (join_ok Tryd.func31 (by kernel_rfl) (by kernel_rfl) (fun bk o c xs sep w h1 h2 h3 h4 h5 => Tryd.strings_Join bk o c xs sep w h1 h2 h3 h4 h5)) FnsOK.nil))
noncomputable def impl_texts.b3 : Code := (nthC (loopsOf impl_texts.b) 0)
theorem impl_texts.lp3 : LpOK Tryd.prog impl_texts.C impl_texts.b3 := (LpOK.nil (by kernel_rfl))
theorem impl_texts.l3.round (p : ByteArray × Nat × Int × List Nat) (s : Nat × Int × List ByteArray) : roundL impl_texts.C [0, 5, 9, 10, 11] [0, 5] impl_texts.b3 (impl_texts.l3.cd.enc (p, s)).1 (impl_texts.l3.cd.enc (p, s)).2 = (impl_texts.l3.st p s).map (encSum (fun s => impl_texts.l3.cd.enc (p, s)) (impl_texts.l3.out p)) := by kernel_rfl
theorem impl_texts.l3.lok : LoopOK Tryd.prog impl_texts.C ⟨[0, 5, 9, 10, 11], [0, 5], impl_texts.l3.c⟩ impl_texts.b3 := loop_cd impl_texts.l3.cd impl_texts.hC impl_texts.lp3 impl_texts.l3.round fun p => Gets.leaf
theorem impl_texts.lp : LpOK Tryd.prog impl_texts.C impl_texts.b := lp_of (by kernel_rfl) (LpsOK.cons (k := 3) (by kernel_rfl) (by kernel_rfl) impl_texts.l3.lok LpsOK.nil)
noncomputable def impl_texts.t (x0 : ByteArray) (x1 : Nat) (x2 : List Nat) : T ByteArray :=
  .br (Option.isSome (impl_texts.l3.r (x0, x1, ((x1 : Nat) : Int), x2) (0, (0 : Int), [])))
  (.br (joinOk ((Option.getD (impl_texts.l3.r (x0, x1, ((x1 : Nat) : Int), x2) (0, (0 : Int), [])) default).2) ((Option.getD (impl_texts.l3.r (x0, x1, ((x1 : Nat) : Int), x2) (0, (0 : Int), [])) default).1) x0)
   (.leaf (joinB ((Option.getD (impl_texts.l3.r (x0, x1, ((x1 : Nat) : Int), x2) (0, (0 : Int), [])) default).2) x0))
   .bad)
  .bad
noncomputable def impl_texts (x0 : ByteArray) (x1 : Nat) (x2 : List Nat) : ByteArray := (impl_texts.t x0 x1 x2).val
noncomputable def impl_texts.ok (x0 : ByteArray) (x1 : Nat) (x2 : List Nat) : Bool := (impl_texts.t x0 x1 x2).ok
def impl_texts.cd : Cd (ByteArray × Nat × List Nat) (List V × Hp) := Cd.iso (Cd.pair (Cd.cons Cd.st (Cd.cons (Cd.own 0) Cd.nil)) (Cd.cons (Cd.rw 23 1 (Cd.fs .f32)) Cd.nil)) (fun a => (a.1.1, a.1.2.1, a.2.1)) (fun a => ((a.1, (a.2.1, ())), (a.2.2, ()))) (fun _ => rfl)
noncomputable def impl_texts.tr (a : ByteArray × Nat × List Nat) : T ByteArray := impl_texts.t a.1 a.2.1 a.2.2
def impl_texts.enc : (ByteArray × Nat × List Nat) → ByteArray → V := fun a r => .st r
noncomputable def impl_texts.c : List V → Hp → T V := cdQ impl_texts.cd (fun a => .br (impl_texts.ok a.1 a.2.1 a.2.2) (.leaf (impl_texts.enc a (impl_texts a.1 a.2.1 a.2.2))) .bad)
theorem impl_texts.run (a : ByteArray × Nat × List Nat) : runF impl_texts.C Tryd.f15.results.toList impl_texts.b (impl_texts.cd.enc a).1 (impl_texts.cd.enc a).2 = (impl_texts.tr a).map fun r => (impl_texts.enc a r, (impl_texts.cd.enc a).2) := by kernel_rfl
theorem impl_texts.cok : OKq Tryd.prog 15 impl_texts.c := con_q' impl_texts.cd impl_texts.hC Tryd.func15 (by kernel_rfl) (by kernel_rfl) (by kernel_rfl) impl_texts.lp (fun a => by kernel_rfl) impl_texts.run (Tells.ok (tree := impl_texts.tr))
/-! ### impl_MillText -/
noncomputable def impl_MillText.b : Code := bodyOf Tryd.f7
noncomputable def impl_MillText.C : Ctx := { ty := tys, fn := [(13, .q impl_ValidMill.c), (14, .q impl_decimal.c), (15, .q impl_texts.c)], lp := [], n := 18, k := 4 }
theorem impl_MillText.hC : CtxOK Tryd.prog impl_MillText.C := CtxOK.of mo tys_ok (FnsOK.cons impl_ValidMill.cok (FnsOK.cons impl_decimal.cok (FnsOK.cons impl_texts.cok FnsOK.nil)))
theorem impl_MillText.lp : LpOK Tryd.prog impl_MillText.C impl_MillText.b := (LpOK.nil (by kernel_rfl))
noncomputable def impl_MillText.t (x0 : Int) (x1 : Nat) (x2 : Nat) (x3 : Int) (x4 : List Int) : T ByteArray :=
  .br (!(impl_ValidMill x0 x1 x2))
  (.leaf (ByteArray.mk #[]))
  (.br (impl_decimal.ok (IntKind.wrap .i64 x0))
   (.br (decide (((ByteArray.size (impl_decimal (IntKind.wrap .i64 x0)) + ByteArray.size (ByteArray.mk #[58]) : Nat) : Int) > IntKind.max .i64))
    .bad
    (.br (impl_texts.ok (ByteArray.mk #[58]) 2 [x1, x2])
     (.br (decide (((ByteArray.size ((impl_decimal (IntKind.wrap .i64 x0)) ++ (ByteArray.mk #[58])) + ByteArray.size (impl_texts (ByteArray.mk #[58]) 2 [x1, x2]) : Nat) : Int) > IntKind.max .i64))
      .bad
      (.leaf (((impl_decimal (IntKind.wrap .i64 x0)) ++ (ByteArray.mk #[58])) ++ (impl_texts (ByteArray.mk #[58]) 2 [x1, x2]))))
     .bad))
   .bad)
noncomputable def impl_MillText (x0 : Int) (x1 : Nat) (x2 : Nat) (x3 : Int) (x4 : List Int) : ByteArray := (impl_MillText.t x0 x1 x2 x3 x4).val
noncomputable def impl_MillText.ok (x0 : Int) (x1 : Nat) (x2 : Nat) (x3 : Int) (x4 : List Int) : Bool := (impl_MillText.t x0 x1 x2 x3 x4).ok
def impl_MillText.cd : Cd (Int × Nat × Nat × Int × List Int) (List V × Hp) := Cd.iso (Cd.pair (Cd.cons (Cd.agg (Cd.cons (Cd.it .i16) (Cd.cons (Cd.fl .f32) (Cd.cons (Cd.fl .f32) Cd.nil)))) Cd.nil) (Cd.cons (Cd.ro 0 3 (Cd.vs (Cd.cons (Cd.it .i64) Cd.nil))) (Cd.cons (Cd.ro 0 4 (Cd.vs (Cd.cons Cd.er Cd.nil))) (Cd.cons (Cd.ro 0 5 (Cd.vs (Cd.cons Cd.er Cd.nil))) (Cd.cons (Cd.ro 21 2 (Cd.is .u64)) Cd.nil))))) (fun a => (a.1.1.1, a.1.1.2.1, a.1.1.2.2.1, a.2.1.1, a.2.2.2.2.1)) (fun a => (((a.1, (a.2.1, (a.2.2.1, ()))), ()), ((a.2.2.2.1, ()), (((), ()), (((), ()), (a.2.2.2.2, ())))))) (fun _ => rfl)
noncomputable def impl_MillText.tr (a : Int × Nat × Nat × Int × List Int) : T ByteArray := impl_MillText.t a.1 a.2.1 a.2.2.1 a.2.2.2.1 a.2.2.2.2
def impl_MillText.enc : (Int × Nat × Nat × Int × List Int) → ByteArray → V := fun a r => .st r
noncomputable def impl_MillText.c : List V → Hp → T V := cdQ impl_MillText.cd (fun a => .br (impl_MillText.ok a.1 a.2.1 a.2.2.1 a.2.2.2.1 a.2.2.2.2) (.leaf (impl_MillText.enc a (impl_MillText a.1 a.2.1 a.2.2.1 a.2.2.2.1 a.2.2.2.2))) .bad)
theorem impl_MillText.run (a : Int × Nat × Nat × Int × List Int) : runF impl_MillText.C Tryd.f7.results.toList impl_MillText.b (impl_MillText.cd.enc a).1 (impl_MillText.cd.enc a).2 = (impl_MillText.tr a).map fun r => (impl_MillText.enc a r, (impl_MillText.cd.enc a).2) := by kernel_rfl
theorem impl_MillText.cok : OKq Tryd.prog 7 impl_MillText.c := con_q' impl_MillText.cd impl_MillText.hC Tryd.func7 (by kernel_rfl) (by kernel_rfl) (by kernel_rfl) impl_MillText.lp (fun a => by kernel_rfl) impl_MillText.run (Tells.ok (tree := impl_MillText.tr))
/-! ### impl_ReadMill -/
noncomputable def impl_ReadMill.b : Code := bodyOf Tryd.f9
noncomputable def impl_ReadMill.C : Ctx := { ty := tys, fn := [(19, .e (splitC 3 9)), (20, .q (countC 3 4 1)), (21, .e impl_numbersOf.c), (7, .q impl_MillText.c)], lp := [], n := 51, k := 4, g := 4 }
theorem impl_ReadMill.hC : CtxOK Tryd.prog impl_ReadMill.C := CtxOK.of mo tys_ok (FnsOK.cons (split_ok Tryd.func19 (by kernel_rfl) (by kernel_rfl) (fun s sep m w h1 h2 h3 => Tryd.strings_Split s sep m w h1 h2 h3)) (FnsOK.cons (count_ok Tryd.func20 (by kernel_rfl) (by kernel_rfl) (by kernel_rfl) (fun t e0 e1 w h a b c d k => count_calls t h e0 e1 w a b c d k)) (FnsOK.cons impl_numbersOf.cok (FnsOK.cons impl_MillText.cok FnsOK.nil))))
theorem impl_ReadMill.lp : LpOK Tryd.prog impl_ReadMill.C impl_ReadMill.b := (LpOK.nil (by kernel_rfl))
noncomputable def impl_ReadMill.t (x0 : ByteArray) (x1 : Int) (x2 : List Int) : T (Int × Nat × Nat × Int) :=
  .br (Nat.ble (ByteArray.size x0) 1048576 && Nat.ble 1 (ByteArray.size (ByteArray.mk #[58])))
  (.br (bounds (0 : Int) (List.length (splitL x0 (ByteArray.mk #[58]))))
   (.br (Nat.ble 1 (List.length (splitL x0 (ByteArray.mk #[58]))))
    (.br (Nat.ble (ByteArray.size (List.getD (splitL x0 (ByteArray.mk #[58])) 0 ByteArray.empty)) 1048576 && decide (x2 = Go.Lib.pow10Tab))
     (.br (decide (0 ≤ (1 : Int)) && decide ((1 : Int) ≤ (((List.length (splitL x0 (ByteArray.mk #[58]))) : Nat) : Int)) && decide ((((List.length (splitL x0 (ByteArray.mk #[58]))) : Nat) : Int) ≤ (((List.length (splitL x0 (ByteArray.mk #[58]))) : Nat) : Int)))
      (.br (impl_numbersOf.ok (Int.toNat (((List.length (splitL x0 (ByteArray.mk #[58]))) : Nat) : Int) - Int.toNat (1 : Int)) x1 x2 (splitL x0 (ByteArray.mk #[58])))
       (.br (Sum.isLeft (impl_numbersOf (Int.toNat (((List.length (splitL x0 (ByteArray.mk #[58]))) : Nat) : Int) - Int.toNat (1 : Int)) x1 x2 (splitL x0 (ByteArray.mk #[58]))))
        (.br (!(counts (List.getD (splitL x0 (ByteArray.mk #[58])) 0 ByteArray.empty)))
         (.leaf ((0 : Int), 0, 0, (5 : Int)))
         (.br (!(getLeftD (impl_numbersOf (Int.toNat (((List.length (splitL x0 (ByteArray.mk #[58]))) : Nat) : Int) - Int.toNat (1 : Int)) x1 x2 (splitL x0 (ByteArray.mk #[58])))))
          (.leaf ((0 : Int), 0, 0, (5 : Int)))
          (.br (((0 : Nat) : Int) != (2 : Int))
           (.leaf ((0 : Int), 0, 0, (5 : Int)))
           .bad)))
        (.br (!(counts (List.getD (splitL x0 (ByteArray.mk #[58])) 0 ByteArray.empty)))
         (.leaf ((0 : Int), 0, 0, (5 : Int)))
         (.br (!(getRightD (impl_numbersOf (Int.toNat (((List.length (splitL x0 (ByteArray.mk #[58]))) : Nat) : Int) - Int.toNat (1 : Int)) x1 x2 (splitL x0 (ByteArray.mk #[58])))).2.1)
          (.leaf ((0 : Int), 0, 0, (5 : Int)))
          (.br ((((getRightD (impl_numbersOf (Int.toNat (((List.length (splitL x0 (ByteArray.mk #[58]))) : Nat) : Int) - Int.toNat (1 : Int)) x1 x2 (splitL x0 (ByteArray.mk #[58])))).1 : Nat) : Int) != (2 : Int))
           (.leaf ((0 : Int), 0, 0, (5 : Int)))
           (.br (bounds (0 : Int) ((getRightD (impl_numbersOf (Int.toNat (((List.length (splitL x0 (ByteArray.mk #[58]))) : Nat) : Int) - Int.toNat (1 : Int)) x1 x2 (splitL x0 (ByteArray.mk #[58])))).1))
            (.br (Nat.ble 1 (List.length ((getRightD (impl_numbersOf (Int.toNat (((List.length (splitL x0 (ByteArray.mk #[58]))) : Nat) : Int) - Int.toNat (1 : Int)) x1 x2 (splitL x0 (ByteArray.mk #[58])))).2.2)))
             (.br (bounds (1 : Int) ((getRightD (impl_numbersOf (Int.toNat (((List.length (splitL x0 (ByteArray.mk #[58]))) : Nat) : Int) - Int.toNat (1 : Int)) x1 x2 (splitL x0 (ByteArray.mk #[58])))).1))
              (.br (Nat.ble 2 (List.length ((getRightD (impl_numbersOf (Int.toNat (((List.length (splitL x0 (ByteArray.mk #[58]))) : Nat) : Int) - Int.toNat (1 : Int)) x1 x2 (splitL x0 (ByteArray.mk #[58])))).2.2)))
               (.br (impl_MillText.ok ((numOf 32767 (Go.Lib.parseUintB 15 (ByteArray.data (List.getD (splitL x0 (ByteArray.mk #[58])) 0 ByteArray.empty)).toList) : Nat) : Int) (List.getD ((getRightD (impl_numbersOf (Int.toNat (((List.length (splitL x0 (ByteArray.mk #[58]))) : Nat) : Int) - Int.toNat (1 : Int)) x1 x2 (splitL x0 (ByteArray.mk #[58])))).2.2) 0 0) (List.getD ((getRightD (impl_numbersOf (Int.toNat (((List.length (splitL x0 (ByteArray.mk #[58]))) : Nat) : Int) - Int.toNat (1 : Int)) x1 x2 (splitL x0 (ByteArray.mk #[58])))).2.2) 1 0) x1 x2)
                (.br (!seq? (impl_MillText ((numOf 32767 (Go.Lib.parseUintB 15 (ByteArray.data (List.getD (splitL x0 (ByteArray.mk #[58])) 0 ByteArray.empty)).toList) : Nat) : Int) (List.getD ((getRightD (impl_numbersOf (Int.toNat (((List.length (splitL x0 (ByteArray.mk #[58]))) : Nat) : Int) - Int.toNat (1 : Int)) x1 x2 (splitL x0 (ByteArray.mk #[58])))).2.2) 0 0) (List.getD ((getRightD (impl_numbersOf (Int.toNat (((List.length (splitL x0 (ByteArray.mk #[58]))) : Nat) : Int) - Int.toNat (1 : Int)) x1 x2 (splitL x0 (ByteArray.mk #[58])))).2.2) 1 0) x1 x2) x0)
                 (.leaf ((0 : Int), 0, 0, (5 : Int)))
                 (.leaf (((numOf 32767 (Go.Lib.parseUintB 15 (ByteArray.data (List.getD (splitL x0 (ByteArray.mk #[58])) 0 ByteArray.empty)).toList) : Nat) : Int), (List.getD ((getRightD (impl_numbersOf (Int.toNat (((List.length (splitL x0 (ByteArray.mk #[58]))) : Nat) : Int) - Int.toNat (1 : Int)) x1 x2 (splitL x0 (ByteArray.mk #[58])))).2.2) 0 0), (List.getD ((getRightD (impl_numbersOf (Int.toNat (((List.length (splitL x0 (ByteArray.mk #[58]))) : Nat) : Int) - Int.toNat (1 : Int)) x1 x2 (splitL x0 (ByteArray.mk #[58])))).2.2) 1 0), (0 : Int))))
                .bad)
               .bad)
              .bad)
             .bad)
            .bad)))))
       .bad)
      .bad)
     .bad)
    .bad)
   .bad)
  .bad
noncomputable def impl_ReadMill (x0 : ByteArray) (x1 : Int) (x2 : List Int) : Int × Nat × Nat × Int := (impl_ReadMill.t x0 x1 x2).val
noncomputable def impl_ReadMill.ok (x0 : ByteArray) (x1 : Int) (x2 : List Int) : Bool := (impl_ReadMill.t x0 x1 x2).ok
def impl_ReadMill.cd : Cd (ByteArray × Int × List Int) (List V × Hp) := Cd.iso (Cd.pair (Cd.cons Cd.st Cd.nil) (Cd.cons (Cd.ro 0 3 (Cd.vs (Cd.cons (Cd.it .i64) Cd.nil))) (Cd.cons (Cd.ro 0 4 (Cd.vs (Cd.cons Cd.er Cd.nil))) (Cd.cons (Cd.ro 0 5 (Cd.vs (Cd.cons Cd.er Cd.nil))) (Cd.cons (Cd.ro 21 2 (Cd.is .u64)) Cd.nil))))) (fun a => (a.1.1, a.2.1.1, a.2.2.2.2.1)) (fun a => ((a.1, ()), ((a.2.1, ()), (((), ()), (((), ()), (a.2.2, ())))))) (fun _ => rfl)
noncomputable def impl_ReadMill.tr (a : ByteArray × Int × List Int) : T (Int × Nat × Nat × Int) := impl_ReadMill.t a.1 a.2.1 a.2.2
def impl_ReadMill.enc : (ByteArray × Int × List Int) → (Int × Nat × Nat × Int) → V := fun a r => .tup [.agg [.it .i16 r.1, .fl .f32 r.2.1, .fl .f32 r.2.2.1], .it .i64 r.2.2.2]
noncomputable def impl_ReadMill.c : List V → Hp → T V := cdQ impl_ReadMill.cd (fun a => .br (impl_ReadMill.ok a.1 a.2.1 a.2.2) (.leaf (impl_ReadMill.enc a (impl_ReadMill a.1 a.2.1 a.2.2))) .bad)
theorem impl_ReadMill.run (a : ByteArray × Int × List Int) : runF impl_ReadMill.C Tryd.f9.results.toList impl_ReadMill.b (impl_ReadMill.cd.enc a).1 (impl_ReadMill.cd.enc a).2 = (impl_ReadMill.tr a).map fun r => (impl_ReadMill.enc a r, (impl_ReadMill.cd.enc a).2) := by kernel_rfl
theorem impl_ReadMill.cok : OKq Tryd.prog 9 impl_ReadMill.c := con_q' impl_ReadMill.cd impl_ReadMill.hC Tryd.func9 (by kernel_rfl) (by kernel_rfl) (by kernel_rfl) impl_ReadMill.lp (fun a => by kernel_rfl) impl_ReadMill.run (Tells.ok (tree := impl_ReadMill.tr))
/-! ### laws_sameFloat -/
noncomputable def laws_sameFloat.b : Code := bodyOf Tryd.f22
noncomputable def laws_sameFloat.C : Ctx := { ty := tys, fn := [], lp := [], n := 37, k := 0 }
theorem laws_sameFloat.hC : CtxOK Tryd.prog laws_sameFloat.C := CtxOK.of mo tys_ok FnsOK.nil
theorem laws_sameFloat.lp : LpOK Tryd.prog laws_sameFloat.C laws_sameFloat.b := (LpOK.nil (by kernel_rfl))
noncomputable def laws_sameFloat.t (x0 : Nat) (x1 : Nat) : T Bool :=
  .br (fne .f64 x0 x0)
  (.br (fne .f64 x0 x0)
   (.leaf (fne .f64 x1 x1))
   (.leaf false))
  (.br (fne .f64 x1 x1)
   (.br (fne .f64 x0 x0)
    (.leaf (fne .f64 x1 x1))
    (.leaf false))
   (.br (feq .f64 x0 0)
    (.br (feq .f64 x1 0)
     (.leaf ((fgt .f64 (fdiv .f64 4607182418800017408 x0) 0) == (fgt .f64 (fdiv .f64 4607182418800017408 x1) 0)))
     (.leaf (feq .f64 x0 x1)))
    (.leaf (feq .f64 x0 x1))))
noncomputable def laws_sameFloat (x0 : Nat) (x1 : Nat) : Bool := (laws_sameFloat.t x0 x1).val
def laws_sameFloat.cd : Cd (Nat × Nat) (List V × Hp) := Cd.iso (Cd.pair (Cd.cons (Cd.fl .f64) (Cd.cons (Cd.fl .f64) Cd.nil)) Cd.nil) (fun a => (a.1.1, a.1.2.1)) (fun a => ((a.1, (a.2, ())), ())) (fun _ => rfl)
noncomputable def laws_sameFloat.tr (a : Nat × Nat) : T Bool := laws_sameFloat.t a.1 a.2
def laws_sameFloat.enc : (Nat × Nat) → Bool → V := fun a r => .bo r
noncomputable def laws_sameFloat.c : List V → Hp → T V := cdQ laws_sameFloat.cd (fun a => .leaf (laws_sameFloat.enc a (laws_sameFloat a.1 a.2)))
theorem laws_sameFloat.run (a : Nat × Nat) : runF laws_sameFloat.C Tryd.f22.results.toList laws_sameFloat.b (laws_sameFloat.cd.enc a).1 (laws_sameFloat.cd.enc a).2 = (laws_sameFloat.tr a).map fun r => (laws_sameFloat.enc a r, (laws_sameFloat.cd.enc a).2) := by kernel_rfl
theorem laws_sameFloat.cok : OKq Tryd.prog 22 laws_sameFloat.c := con_q' laws_sameFloat.cd laws_sameFloat.hC Tryd.func22 (by kernel_rfl) (by kernel_rfl) (by kernel_rfl) laws_sameFloat.lp (fun a => by kernel_rfl) laws_sameFloat.run (Tells.val (tree := laws_sameFloat.tr) fun a => by kernel_rfl)
/-! ### laws_eqMill -/
noncomputable def laws_eqMill.b : Code := bodyOf Tryd.f10
noncomputable def laws_eqMill.C : Ctx := { ty := tys, fn := [(22, .q laws_sameFloat.c)], lp := [], n := 26, k := 4 }
theorem laws_eqMill.hC : CtxOK Tryd.prog laws_eqMill.C := CtxOK.of mo tys_ok (FnsOK.cons laws_sameFloat.cok FnsOK.nil)
theorem laws_eqMill.lp : LpOK Tryd.prog laws_eqMill.C laws_eqMill.b := (LpOK.nil (by kernel_rfl))
noncomputable def laws_eqMill.t (x0 : Int) (x1 : Nat) (x2 : Nat) (x3 : Int) (x4 : Nat) (x5 : Nat) (x6 : Int) (x7 : List Int) : T Bool :=
  .br (x0 != x3)
  (.leaf false)
  (.br (fcvOpen .f32 .f64 x1)
   .bad
   (.br (fcvOpen .f32 .f64 x4)
    .bad
    (.br (!(laws_sameFloat (fcv .f32 .f64 x1) (fcv .f32 .f64 x4)))
     (.leaf false)
     (.br (fcvOpen .f32 .f64 x2)
      .bad
      (.br (fcvOpen .f32 .f64 x5)
       .bad
       (.br (!(laws_sameFloat (fcv .f32 .f64 x2) (fcv .f32 .f64 x5)))
        (.leaf false)
        (.leaf true)))))))
noncomputable def laws_eqMill (x0 : Int) (x1 : Nat) (x2 : Nat) (x3 : Int) (x4 : Nat) (x5 : Nat) (x6 : Int) (x7 : List Int) : Bool := (laws_eqMill.t x0 x1 x2 x3 x4 x5 x6 x7).val
noncomputable def laws_eqMill.ok (x0 : Int) (x1 : Nat) (x2 : Nat) (x3 : Int) (x4 : Nat) (x5 : Nat) (x6 : Int) (x7 : List Int) : Bool := (laws_eqMill.t x0 x1 x2 x3 x4 x5 x6 x7).ok
def laws_eqMill.cd : Cd (Int × Nat × Nat × Int × Nat × Nat × Int × List Int) (List V × Hp) := Cd.iso (Cd.pair (Cd.cons (Cd.agg (Cd.cons (Cd.it .i16) (Cd.cons (Cd.fl .f32) (Cd.cons (Cd.fl .f32) Cd.nil)))) (Cd.cons (Cd.agg (Cd.cons (Cd.it .i16) (Cd.cons (Cd.fl .f32) (Cd.cons (Cd.fl .f32) Cd.nil)))) Cd.nil)) (Cd.cons (Cd.ro 0 3 (Cd.vs (Cd.cons (Cd.it .i64) Cd.nil))) (Cd.cons (Cd.ro 0 4 (Cd.vs (Cd.cons Cd.er Cd.nil))) (Cd.cons (Cd.ro 0 5 (Cd.vs (Cd.cons Cd.er Cd.nil))) (Cd.cons (Cd.ro 21 2 (Cd.is .u64)) Cd.nil))))) (fun a => (a.1.1.1, a.1.1.2.1, a.1.1.2.2.1, a.1.2.1.1, a.1.2.1.2.1, a.1.2.1.2.2.1, a.2.1.1, a.2.2.2.2.1)) (fun a => (((a.1, (a.2.1, (a.2.2.1, ()))), ((a.2.2.2.1, (a.2.2.2.2.1, (a.2.2.2.2.2.1, ()))), ())), ((a.2.2.2.2.2.2.1, ()), (((), ()), (((), ()), (a.2.2.2.2.2.2.2, ())))))) (fun _ => rfl)
noncomputable def laws_eqMill.tr (a : Int × Nat × Nat × Int × Nat × Nat × Int × List Int) : T Bool := laws_eqMill.t a.1 a.2.1 a.2.2.1 a.2.2.2.1 a.2.2.2.2.1 a.2.2.2.2.2.1 a.2.2.2.2.2.2.1 a.2.2.2.2.2.2.2
def laws_eqMill.enc : (Int × Nat × Nat × Int × Nat × Nat × Int × List Int) → Bool → V := fun a r => .bo r
noncomputable def laws_eqMill.c : List V → Hp → T V := cdQ laws_eqMill.cd (fun a => .br (laws_eqMill.ok a.1 a.2.1 a.2.2.1 a.2.2.2.1 a.2.2.2.2.1 a.2.2.2.2.2.1 a.2.2.2.2.2.2.1 a.2.2.2.2.2.2.2) (.leaf (laws_eqMill.enc a (laws_eqMill a.1 a.2.1 a.2.2.1 a.2.2.2.1 a.2.2.2.2.1 a.2.2.2.2.2.1 a.2.2.2.2.2.2.1 a.2.2.2.2.2.2.2))) .bad)
theorem laws_eqMill.run (a : Int × Nat × Nat × Int × Nat × Nat × Int × List Int) : runF laws_eqMill.C Tryd.f10.results.toList laws_eqMill.b (laws_eqMill.cd.enc a).1 (laws_eqMill.cd.enc a).2 = (laws_eqMill.tr a).map fun r => (laws_eqMill.enc a r, (laws_eqMill.cd.enc a).2) := by kernel_rfl
theorem laws_eqMill.cok : OKq Tryd.prog 10 laws_eqMill.c := con_q' laws_eqMill.cd laws_eqMill.hC Tryd.func10 (by kernel_rfl) (by kernel_rfl) (by kernel_rfl) laws_eqMill.lp (fun a => by kernel_rfl) laws_eqMill.run (Tells.ok (tree := laws_eqMill.tr))
/-! ### laws_FnExactReadMill -/
noncomputable def laws_FnExactReadMill.b : Code := bodyOf Tryd.f4
noncomputable def laws_FnExactReadMill.C : Ctx := { ty := tys, fn := [(8, .q spec_ReadMill.c), (9, .q impl_ReadMill.c), (10, .q laws_eqMill.c)], lp := [], n := 29, k := 4, g := 4 }
theorem laws_FnExactReadMill.hC : CtxOK Tryd.prog laws_FnExactReadMill.C := CtxOK.of mo tys_ok (FnsOK.cons spec_ReadMill.cok (FnsOK.cons impl_ReadMill.cok (FnsOK.cons laws_eqMill.cok FnsOK.nil)))
theorem laws_FnExactReadMill.lp : LpOK Tryd.prog laws_FnExactReadMill.C laws_FnExactReadMill.b := (LpOK.nil (by kernel_rfl))
noncomputable def laws_FnExactReadMill.t (x0 : ByteArray) (x1 : Int) (x2 : List Int) : T Bool :=
  .br (decide (((ByteArray.size x0 : Nat) : Int) > (1048576 : Int)))
  (.leaf true)
  (.br (spec_ReadMill.ok x0 x1 x2)
   (.br (impl_ReadMill.ok x0 x1 x2)
    (.br (laws_eqMill.ok ((impl_ReadMill x0 x1 x2).1) ((impl_ReadMill x0 x1 x2).2.1) ((impl_ReadMill x0 x1 x2).2.2.1) ((spec_ReadMill x0 x1 x2).1) ((spec_ReadMill x0 x1 x2).2.1) ((spec_ReadMill x0 x1 x2).2.2.1) x1 x2)
     (.br (!(laws_eqMill ((impl_ReadMill x0 x1 x2).1) ((impl_ReadMill x0 x1 x2).2.1) ((impl_ReadMill x0 x1 x2).2.2.1) ((spec_ReadMill x0 x1 x2).1) ((spec_ReadMill x0 x1 x2).2.1) ((spec_ReadMill x0 x1 x2).2.2.1) x1 x2))
      (.leaf false)
      (.br ((impl_ReadMill x0 x1 x2).2.2.2 != (spec_ReadMill x0 x1 x2).2.2.2)
       (.leaf false)
       (.leaf true)))
     .bad)
    .bad)
   .bad)
noncomputable def laws_FnExactReadMill (x0 : ByteArray) (x1 : Int) (x2 : List Int) : Bool := (laws_FnExactReadMill.t x0 x1 x2).val
noncomputable def laws_FnExactReadMill.ok (x0 : ByteArray) (x1 : Int) (x2 : List Int) : Bool := (laws_FnExactReadMill.t x0 x1 x2).ok
def laws_FnExactReadMill.cd : Cd (ByteArray × Int × List Int) (List V × Hp) := Cd.iso (Cd.pair (Cd.cons Cd.st Cd.nil) (Cd.cons (Cd.ro 0 3 (Cd.vs (Cd.cons (Cd.it .i64) Cd.nil))) (Cd.cons (Cd.ro 0 4 (Cd.vs (Cd.cons Cd.er Cd.nil))) (Cd.cons (Cd.ro 0 5 (Cd.vs (Cd.cons Cd.er Cd.nil))) (Cd.cons (Cd.ro 21 2 (Cd.is .u64)) Cd.nil))))) (fun a => (a.1.1, a.2.1.1, a.2.2.2.2.1)) (fun a => ((a.1, ()), ((a.2.1, ()), (((), ()), (((), ()), (a.2.2, ())))))) (fun _ => rfl)
noncomputable def laws_FnExactReadMill.tr (a : ByteArray × Int × List Int) : T Bool := laws_FnExactReadMill.t a.1 a.2.1 a.2.2
def laws_FnExactReadMill.enc : (ByteArray × Int × List Int) → Bool → V := fun a r => .bo r
noncomputable def laws_FnExactReadMill.c : List V → Hp → T V := cdQ laws_FnExactReadMill.cd (fun a => .br (laws_FnExactReadMill.ok a.1 a.2.1 a.2.2) (.leaf (laws_FnExactReadMill.enc a (laws_FnExactReadMill a.1 a.2.1 a.2.2))) .bad)
theorem laws_FnExactReadMill.run (a : ByteArray × Int × List Int) : runF laws_FnExactReadMill.C Tryd.f4.results.toList laws_FnExactReadMill.b (laws_FnExactReadMill.cd.enc a).1 (laws_FnExactReadMill.cd.enc a).2 = (laws_FnExactReadMill.tr a).map fun r => (laws_FnExactReadMill.enc a r, (laws_FnExactReadMill.cd.enc a).2) := by kernel_rfl
theorem laws_FnExactReadMill.cok : OKq Tryd.prog 4 laws_FnExactReadMill.c := con_q' laws_FnExactReadMill.cd laws_FnExactReadMill.hC Tryd.func4 (by kernel_rfl) (by kernel_rfl) (by kernel_rfl) laws_FnExactReadMill.lp (fun a => by kernel_rfl) laws_FnExactReadMill.run (Tells.ok (tree := laws_FnExactReadMill.tr))
theorem laws_FnExactReadMill.walk (a : ByteArray × Int × List Int) (h : (laws_FnExactReadMill.tr a).get = some true) {ρ : Nat → Option Sx.Loc} {w : World} {vs : List Value} (hargs : V.Rs ρ (laws_FnExactReadMill.cd.enc a).1 vs) (hh : HpR ρ (laws_FnExactReadMill.cd.enc a).2 w) :
    Calls Tryd.prog 4 vs.toArray w fun e w' => e = .returned (.bool true) ∧ Below w.heap.size w w' :=
  law_cd laws_FnExactReadMill.cd laws_FnExactReadMill.hC Tryd.func4 (by kernel_rfl) (by kernel_rfl) laws_FnExactReadMill.lp (fun a => by kernel_rfl) laws_FnExactReadMill.run (fun a => by kernel_rfl) a (by kernel_rfl) h hargs hh
end Go.Proofs.YtccdbfmfdhhgfaaDoor
