/- The walk of FnExactValidBox: what each function that it comes to computes, as a tree of tests. -/
import Derived.Test.YtlnfakbmigbdbaaSxO
import Derived.Test.YtlnfakbmigbdbaaChecked
namespace Go.Proofs.Ytlnfakbmigbdbaa
open Go Go.RowKit Sx
set_option linter.unusedVariables false
set_option maxRecDepth 100000
set_option maxHeartbeats 0
noncomputable def ti1 : TI := ⟨Try.t1.desc, 1, 8, [.nf]⟩
theorem ti1_ok : TyOK Try.prog 1 ti1 := TyOK.of (inf := Try.t1) Try.underlying1 (by kernel_rfl) (by kernel_rfl) (by kernel_rfl) (by kernel_rfl)
noncomputable def ti2 : TI := ⟨Try.t2.desc, 1, 8, [.it .i64 (0 : Int)]⟩
theorem ti2_ok : TyOK Try.prog 2 ti2 := TyOK.of (inf := Try.t2) Try.underlying2 (by kernel_rfl) (by kernel_rfl) (by kernel_rfl) (by kernel_rfl)
noncomputable def ti3 : TI := ⟨Try.t3.desc, 1, 8, [.it .i64 (0 : Int)]⟩
theorem ti3_ok : TyOK Try.prog 3 ti3 := TyOK.of (inf := Try.t3) Try.underlying3 (by kernel_rfl) (by kernel_rfl) (by kernel_rfl) (by kernel_rfl)
noncomputable def ti4 : TI := ⟨Try.t4.desc, 1, 1, [.kb false]⟩
theorem ti4_ok : TyOK Try.prog 4 ti4 := TyOK.of (inf := Try.t4) Try.underlying4 (by kernel_rfl) (by kernel_rfl) (by kernel_rfl) (by kernel_rfl)
noncomputable def ti5 : TI := ⟨Try.t5.desc, 1, 1, [.it .u8 (0 : Int)]⟩
theorem ti5_ok : TyOK Try.prog 5 ti5 := TyOK.of (inf := Try.t5) Try.underlying5 (by kernel_rfl) (by kernel_rfl) (by kernel_rfl) (by kernel_rfl)
noncomputable def ti6 : TI := ⟨Try.t5.desc, 1, 1, [.it .u8 (0 : Int)]⟩
theorem ti6_ok : TyOK Try.prog 6 ti6 := TyOK.of (inf := Try.t6) Try.underlying6 (by kernel_rfl) (by kernel_rfl) (by kernel_rfl) (by kernel_rfl)
noncomputable def ti7 : TI := ⟨Try.t7.desc, 4, 24, [.it .i64 (0 : Int), .it .i64 (0 : Int), .kb false, .it .u8 (0 : Int)]⟩
theorem ti7_ok : TyOK Try.prog 7 ti7 := TyOK.of (inf := Try.t7) Try.underlying7 (by kernel_rfl) (by kernel_rfl) (by kernel_rfl) (by kernel_rfl)
noncomputable def ti8 : TI := ⟨Try.t7.desc, 4, 24, [.it .i64 (0 : Int), .it .i64 (0 : Int), .kb false, .it .u8 (0 : Int)]⟩
theorem ti8_ok : TyOK Try.prog 8 ti8 := TyOK.of (inf := Try.t8) Try.underlying8 (by kernel_rfl) (by kernel_rfl) (by kernel_rfl) (by kernel_rfl)
noncomputable def ti9 : TI := ⟨Try.t9.desc, 1, 16, [.st (ByteArray.mk #[])]⟩
theorem ti9_ok : TyOK Try.prog 9 ti9 := TyOK.of (inf := Try.t9) Try.underlying9 (by kernel_rfl) (by kernel_rfl) (by kernel_rfl) (by kernel_rfl)
noncomputable def ti10 : TI := ⟨Try.t9.desc, 1, 16, [.st (ByteArray.mk #[])]⟩
theorem ti10_ok : TyOK Try.prog 10 ti10 := TyOK.of (inf := Try.t10) Try.underlying10 (by kernel_rfl) (by kernel_rfl) (by kernel_rfl) (by kernel_rfl)
noncomputable def ti11 : TI := ⟨Try.t9.desc, 1, 16, [.st (ByteArray.mk #[])]⟩
theorem ti11_ok : TyOK Try.prog 11 ti11 := TyOK.of (inf := Try.t11) Try.underlying11 (by kernel_rfl) (by kernel_rfl) (by kernel_rfl) (by kernel_rfl)
noncomputable def ti12 : TI := ⟨Try.t12.desc, 1, 8, [.it .u64 (0 : Int)]⟩
theorem ti12_ok : TyOK Try.prog 12 ti12 := TyOK.of (inf := Try.t12) Try.underlying12 (by kernel_rfl) (by kernel_rfl) (by kernel_rfl) (by kernel_rfl)
noncomputable def ti13 : TI := ⟨Try.t13.desc, 2, 24, [.st (ByteArray.mk #[]), .it .u64 (0 : Int)]⟩
theorem ti13_ok : TyOK Try.prog 13 ti13 := TyOK.of (inf := Try.t13) Try.underlying13 (by kernel_rfl) (by kernel_rfl) (by kernel_rfl) (by kernel_rfl)
noncomputable def ti14 : TI := ⟨Try.t13.desc, 2, 24, [.st (ByteArray.mk #[]), .it .u64 (0 : Int)]⟩
theorem ti14_ok : TyOK Try.prog 14 ti14 := TyOK.of (inf := Try.t14) Try.underlying14 (by kernel_rfl) (by kernel_rfl) (by kernel_rfl) (by kernel_rfl)
noncomputable def ti15 : TI := ⟨Try.t15.desc, 1, 8, [.pn]⟩
theorem ti15_ok : TyOK Try.prog 15 ti15 := TyOK.of (inf := Try.t15) Try.underlying15 (by kernel_rfl) (by kernel_rfl) (by kernel_rfl) (by kernel_rfl)
noncomputable def ti16 : TI := ⟨Try.t16.desc, 1, 8, [.pn]⟩
theorem ti16_ok : TyOK Try.prog 16 ti16 := TyOK.of (inf := Try.t16) Try.underlying16 (by kernel_rfl) (by kernel_rfl) (by kernel_rfl) (by kernel_rfl)
noncomputable def ti17 : TI := ⟨Try.t17.desc, 1, 8, [.pn]⟩
theorem ti17_ok : TyOK Try.prog 17 ti17 := TyOK.of (inf := Try.t17) Try.underlying17 (by kernel_rfl) (by kernel_rfl) (by kernel_rfl) (by kernel_rfl)
noncomputable def ti18 : TI := ⟨Try.t18.desc, 1, 8, [.pn]⟩
theorem ti18_ok : TyOK Try.prog 18 ti18 := TyOK.of (inf := Try.t18) Try.underlying18 (by kernel_rfl) (by kernel_rfl) (by kernel_rfl) (by kernel_rfl)
noncomputable def ti19 : TI := ⟨Try.t18.desc, 1, 8, [.pn]⟩
theorem ti19_ok : TyOK Try.prog 19 ti19 := TyOK.of (inf := Try.t19) Try.underlying19 (by kernel_rfl) (by kernel_rfl) (by kernel_rfl) (by kernel_rfl)
noncomputable def ti21 : TI := ⟨Try.t21.desc, 1, 4, [.it .i32 (0 : Int)]⟩
theorem ti21_ok : TyOK Try.prog 21 ti21 := TyOK.of (inf := Try.t21) Try.underlying21 (by kernel_rfl) (by kernel_rfl) (by kernel_rfl) (by kernel_rfl)
noncomputable def ti22 : TI := ⟨Try.t22.desc, 1, 4, [.fl .f32 0]⟩
theorem ti22_ok : TyOK Try.prog 22 ti22 := TyOK.of (inf := Try.t22) Try.underlying22 (by kernel_rfl) (by kernel_rfl) (by kernel_rfl) (by kernel_rfl)
noncomputable def ti23 : TI := ⟨Try.t23.desc, 1, 8, [.nf]⟩
theorem ti23_ok : TyOK Try.prog 23 ti23 := TyOK.of (inf := Try.t23) Try.underlying23 (by kernel_rfl) (by kernel_rfl) (by kernel_rfl) (by kernel_rfl)
noncomputable def ti24 : TI := ⟨Try.t24.desc, 4, 16, [.fl .f32 0, .fl .f32 0, .fl .f32 0, .fl .f32 0]⟩
theorem ti24_ok : TyOK Try.prog 24 ti24 := TyOK.of (inf := Try.t24) Try.underlying24 (by kernel_rfl) (by kernel_rfl) (by kernel_rfl) (by kernel_rfl)
noncomputable def ti25 : TI := ⟨Try.t24.desc, 4, 16, [.fl .f32 0, .fl .f32 0, .fl .f32 0, .fl .f32 0]⟩
theorem ti25_ok : TyOK Try.prog 25 ti25 := TyOK.of (inf := Try.t25) Try.underlying25 (by kernel_rfl) (by kernel_rfl) (by kernel_rfl) (by kernel_rfl)
noncomputable def ti26 : TI := ⟨Try.t26.desc, 1, 8, [.nf]⟩
theorem ti26_ok : TyOK Try.prog 26 ti26 := TyOK.of (inf := Try.t26) Try.underlying26 (by kernel_rfl) (by kernel_rfl) (by kernel_rfl) (by kernel_rfl)
noncomputable def ti27 : TI := ⟨Try.t24.desc, 4, 16, [.fl .f32 0, .fl .f32 0, .fl .f32 0, .fl .f32 0]⟩
theorem ti27_ok : TyOK Try.prog 27 ti27 := TyOK.of (inf := Try.t27) Try.underlying27 (by kernel_rfl) (by kernel_rfl) (by kernel_rfl) (by kernel_rfl)
noncomputable def ti28 : TI := ⟨Try.t28.desc, 1, 8, [.nf]⟩
theorem ti28_ok : TyOK Try.prog 28 ti28 := TyOK.of (inf := Try.t28) Try.underlying28 (by kernel_rfl) (by kernel_rfl) (by kernel_rfl) (by kernel_rfl)
noncomputable def ti29 : TI := ⟨Try.t29.desc, 1, 8, [.nf]⟩
theorem ti29_ok : TyOK Try.prog 29 ti29 := TyOK.of (inf := Try.t29) Try.underlying29 (by kernel_rfl) (by kernel_rfl) (by kernel_rfl) (by kernel_rfl)
noncomputable def ti30 : TI := ⟨Try.t30.desc, 1, 8, [.nf]⟩
theorem ti30_ok : TyOK Try.prog 30 ti30 := TyOK.of (inf := Try.t30) Try.underlying30 (by kernel_rfl) (by kernel_rfl) (by kernel_rfl) (by kernel_rfl)
noncomputable def ti31 : TI := ⟨Try.t31.desc, 1, 8, [.nf]⟩
theorem ti31_ok : TyOK Try.prog 31 ti31 := TyOK.of (inf := Try.t31) Try.underlying31 (by kernel_rfl) (by kernel_rfl) (by kernel_rfl) (by kernel_rfl)
noncomputable def ti32 : TI := ⟨Try.t32.desc, 1, 24, [.sn]⟩
theorem ti32_ok : TyOK Try.prog 32 ti32 := TyOK.of (inf := Try.t32) Try.underlying32 (by kernel_rfl) (by kernel_rfl) (by kernel_rfl) (by kernel_rfl)
noncomputable def ti33 : TI := ⟨Try.t33.desc, 1, 8, [.nf]⟩
theorem ti33_ok : TyOK Try.prog 33 ti33 := TyOK.of (inf := Try.t33) Try.underlying33 (by kernel_rfl) (by kernel_rfl) (by kernel_rfl) (by kernel_rfl)
noncomputable def ti34 : TI := ⟨Try.t34.desc, 1, 8, [.nf]⟩
theorem ti34_ok : TyOK Try.prog 34 ti34 := TyOK.of (inf := Try.t34) Try.underlying34 (by kernel_rfl) (by kernel_rfl) (by kernel_rfl) (by kernel_rfl)
noncomputable def ti35 : TI := ⟨Try.t35.desc, 1, 8, [.nf]⟩
theorem ti35_ok : TyOK Try.prog 35 ti35 := TyOK.of (inf := Try.t35) Try.underlying35 (by kernel_rfl) (by kernel_rfl) (by kernel_rfl) (by kernel_rfl)
noncomputable def ti37 : TI := ⟨Try.t37.desc, 1, 8, [.nf]⟩
theorem ti37_ok : TyOK Try.prog 37 ti37 := TyOK.of (inf := Try.t37) Try.underlying37 (by kernel_rfl) (by kernel_rfl) (by kernel_rfl) (by kernel_rfl)
noncomputable def ti38 : TI := ⟨Try.t38.desc, 1, 8, [.nf]⟩
theorem ti38_ok : TyOK Try.prog 38 ti38 := TyOK.of (inf := Try.t38) Try.underlying38 (by kernel_rfl) (by kernel_rfl) (by kernel_rfl) (by kernel_rfl)
noncomputable def ti39 : TI := ⟨Try.t39.desc, 1, 8, [.fl .f64 0]⟩
theorem ti39_ok : TyOK Try.prog 39 ti39 := TyOK.of (inf := Try.t39) Try.underlying39 (by kernel_rfl) (by kernel_rfl) (by kernel_rfl) (by kernel_rfl)
noncomputable def ti40 : TI := ⟨Try.t40.desc, 1, 8, [.nf]⟩
theorem ti40_ok : TyOK Try.prog 40 ti40 := TyOK.of (inf := Try.t40) Try.underlying40 (by kernel_rfl) (by kernel_rfl) (by kernel_rfl) (by kernel_rfl)
noncomputable def ti41 : TI := ⟨Try.t41.desc, 1, 24, [.sn]⟩
theorem ti41_ok : TyOK Try.prog 41 ti41 := TyOK.of (inf := Try.t41) Try.underlying41 (by kernel_rfl) (by kernel_rfl) (by kernel_rfl) (by kernel_rfl)
noncomputable def ti42 : TI := ⟨Try.t42.desc, 1, 8, [.nf]⟩
theorem ti42_ok : TyOK Try.prog 42 ti42 := TyOK.of (inf := Try.t42) Try.underlying42 (by kernel_rfl) (by kernel_rfl) (by kernel_rfl) (by kernel_rfl)
noncomputable def ti43 : TI := ⟨Try.t43.desc, 1, 8, [.nf]⟩
theorem ti43_ok : TyOK Try.prog 43 ti43 := TyOK.of (inf := Try.t43) Try.underlying43 (by kernel_rfl) (by kernel_rfl) (by kernel_rfl) (by kernel_rfl)
noncomputable def ti44 : TI := ⟨Try.t44.desc, 1, 8, [.nf]⟩
theorem ti44_ok : TyOK Try.prog 44 ti44 := TyOK.of (inf := Try.t44) Try.underlying44 (by kernel_rfl) (by kernel_rfl) (by kernel_rfl) (by kernel_rfl)
noncomputable def ti45 : TI := ⟨Try.t45.desc, 1, 8, [.nf]⟩
theorem ti45_ok : TyOK Try.prog 45 ti45 := TyOK.of (inf := Try.t45) Try.underlying45 (by kernel_rfl) (by kernel_rfl) (by kernel_rfl) (by kernel_rfl)
noncomputable def ti46 : TI := ⟨Try.t46.desc, 1, 8, [.nf]⟩
theorem ti46_ok : TyOK Try.prog 46 ti46 := TyOK.of (inf := Try.t46) Try.underlying46 (by kernel_rfl) (by kernel_rfl) (by kernel_rfl) (by kernel_rfl)
noncomputable def ti47 : TI := ⟨Try.t47.desc, 1, 2, [.it .i16 (0 : Int)]⟩
theorem ti47_ok : TyOK Try.prog 47 ti47 := TyOK.of (inf := Try.t47) Try.underlying47 (by kernel_rfl) (by kernel_rfl) (by kernel_rfl) (by kernel_rfl)
noncomputable def ti48 : TI := ⟨Try.t48.desc, 1, 8, [.nf]⟩
theorem ti48_ok : TyOK Try.prog 48 ti48 := TyOK.of (inf := Try.t48) Try.underlying48 (by kernel_rfl) (by kernel_rfl) (by kernel_rfl) (by kernel_rfl)
noncomputable def ti49 : TI := ⟨Try.t49.desc, 1, 8, [.nf]⟩
theorem ti49_ok : TyOK Try.prog 49 ti49 := TyOK.of (inf := Try.t49) Try.underlying49 (by kernel_rfl) (by kernel_rfl) (by kernel_rfl) (by kernel_rfl)
noncomputable def ti50 : TI := ⟨Try.t50.desc, 1, 8, [.nf]⟩
theorem ti50_ok : TyOK Try.prog 50 ti50 := TyOK.of (inf := Try.t50) Try.underlying50 (by kernel_rfl) (by kernel_rfl) (by kernel_rfl) (by kernel_rfl)
noncomputable def ti51 : TI := ⟨Try.t51.desc, 1, 4, [.it .u32 (0 : Int)]⟩
theorem ti51_ok : TyOK Try.prog 51 ti51 := TyOK.of (inf := Try.t51) Try.underlying51 (by kernel_rfl) (by kernel_rfl) (by kernel_rfl) (by kernel_rfl)
noncomputable def ti52 : TI := ⟨Try.t52.desc, 1, 8, [.nf]⟩
theorem ti52_ok : TyOK Try.prog 52 ti52 := TyOK.of (inf := Try.t52) Try.underlying52 (by kernel_rfl) (by kernel_rfl) (by kernel_rfl) (by kernel_rfl)
noncomputable def ti53 : TI := ⟨Try.t53.desc, 1, 8, [.nf]⟩
theorem ti53_ok : TyOK Try.prog 53 ti53 := TyOK.of (inf := Try.t53) Try.underlying53 (by kernel_rfl) (by kernel_rfl) (by kernel_rfl) (by kernel_rfl)
noncomputable def ti54 : TI := ⟨Try.t54.desc, 1, 8, [.nf]⟩
theorem ti54_ok : TyOK Try.prog 54 ti54 := TyOK.of (inf := Try.t54) Try.underlying54 (by kernel_rfl) (by kernel_rfl) (by kernel_rfl) (by kernel_rfl)
noncomputable def ti55 : TI := ⟨Try.t55.desc, 4, 40, [.pn, .pn, .pn, .st (ByteArray.mk #[])]⟩
theorem ti55_ok : TyOK Try.prog 55 ti55 := TyOK.of (inf := Try.t55) Try.underlying55 (by kernel_rfl) (by kernel_rfl) (by kernel_rfl) (by kernel_rfl)
noncomputable def ti56 : TI := ⟨Try.t55.desc, 4, 40, [.pn, .pn, .pn, .st (ByteArray.mk #[])]⟩
theorem ti56_ok : TyOK Try.prog 56 ti56 := TyOK.of (inf := Try.t56) Try.underlying56 (by kernel_rfl) (by kernel_rfl) (by kernel_rfl) (by kernel_rfl)
noncomputable def ti57 : TI := ⟨Try.t57.desc, 0, 0, []⟩
theorem ti57_ok : TyOK Try.prog 57 ti57 := TyOK.of (inf := Try.t57) Try.underlying57 (by kernel_rfl) (by kernel_rfl) (by kernel_rfl) (by kernel_rfl)
noncomputable def ti58 : TI := ⟨Try.t58.desc, 0, 0, []⟩
theorem ti58_ok : TyOK Try.prog 58 ti58 := TyOK.of (inf := Try.t58) Try.underlying58 (by kernel_rfl) (by kernel_rfl) (by kernel_rfl) (by kernel_rfl)
noncomputable def ti59 : TI := ⟨Try.t58.desc, 0, 0, []⟩
theorem ti59_ok : TyOK Try.prog 59 ti59 := TyOK.of (inf := Try.t59) Try.underlying59 (by kernel_rfl) (by kernel_rfl) (by kernel_rfl) (by kernel_rfl)
noncomputable def ti60 : TI := ⟨Try.t60.desc, 1, 8, [.nf]⟩
theorem ti60_ok : TyOK Try.prog 60 ti60 := TyOK.of (inf := Try.t60) Try.underlying60 (by kernel_rfl) (by kernel_rfl) (by kernel_rfl) (by kernel_rfl)
noncomputable def ti61 : TI := ⟨Try.t5.desc, 1, 1, [.it .u8 (0 : Int)]⟩
theorem ti61_ok : TyOK Try.prog 61 ti61 := TyOK.of (inf := Try.t61) Try.underlying61 (by kernel_rfl) (by kernel_rfl) (by kernel_rfl) (by kernel_rfl)
noncomputable def ti62 : TI := ⟨Try.t5.desc, 1, 1, [.it .u8 (0 : Int)]⟩
theorem ti62_ok : TyOK Try.prog 62 ti62 := TyOK.of (inf := Try.t62) Try.underlying62 (by kernel_rfl) (by kernel_rfl) (by kernel_rfl) (by kernel_rfl)
noncomputable def ti63 : TI := ⟨Try.t63.desc, 1, 8, [.nf]⟩
theorem ti63_ok : TyOK Try.prog 63 ti63 := TyOK.of (inf := Try.t63) Try.underlying63 (by kernel_rfl) (by kernel_rfl) (by kernel_rfl) (by kernel_rfl)
noncomputable def ti64 : TI := ⟨Try.t64.desc, 1, 8, [.pn]⟩
theorem ti64_ok : TyOK Try.prog 64 ti64 := TyOK.of (inf := Try.t64) Try.underlying64 (by kernel_rfl) (by kernel_rfl) (by kernel_rfl) (by kernel_rfl)
noncomputable def ti65 : TI := ⟨Try.t21.desc, 1, 4, [.it .i32 (0 : Int)]⟩
theorem ti65_ok : TyOK Try.prog 65 ti65 := TyOK.of (inf := Try.t65) Try.underlying65 (by kernel_rfl) (by kernel_rfl) (by kernel_rfl) (by kernel_rfl)
noncomputable def ti66 : TI := ⟨Try.t21.desc, 1, 4, [.it .i32 (0 : Int)]⟩
theorem ti66_ok : TyOK Try.prog 66 ti66 := TyOK.of (inf := Try.t66) Try.underlying66 (by kernel_rfl) (by kernel_rfl) (by kernel_rfl) (by kernel_rfl)
noncomputable def ti67 : TI := ⟨Try.t67.desc, 11, 48, [.it .u64 (0 : Int), .it .u64 (0 : Int), .it .u32 (0 : Int), .it .u8 (0 : Int), .it .u8 (0 : Int), .it .u8 (0 : Int), .it .u8 (0 : Int), .nf, .pn, .it .i32 (0 : Int), .it .i32 (0 : Int)]⟩
theorem ti67_ok : TyOK Try.prog 67 ti67 := TyOK.of (inf := Try.t67) Try.underlying67 (by kernel_rfl) (by kernel_rfl) (by kernel_rfl) (by kernel_rfl)
noncomputable def ti68 : TI := ⟨Try.t67.desc, 11, 48, [.it .u64 (0 : Int), .it .u64 (0 : Int), .it .u32 (0 : Int), .it .u8 (0 : Int), .it .u8 (0 : Int), .it .u8 (0 : Int), .it .u8 (0 : Int), .nf, .pn, .it .i32 (0 : Int), .it .i32 (0 : Int)]⟩
theorem ti68_ok : TyOK Try.prog 68 ti68 := TyOK.of (inf := Try.t68) Try.underlying68 (by kernel_rfl) (by kernel_rfl) (by kernel_rfl) (by kernel_rfl)
noncomputable def ti69 : TI := ⟨Try.t69.desc, 1, 8, [.pn]⟩
theorem ti69_ok : TyOK Try.prog 69 ti69 := TyOK.of (inf := Try.t69) Try.underlying69 (by kernel_rfl) (by kernel_rfl) (by kernel_rfl) (by kernel_rfl)
noncomputable def tys : List (Nat × TI) := [(1, ti1), (2, ti2), (3, ti3), (4, ti4), (5, ti5), (6, ti6), (7, ti7), (8, ti8), (9, ti9), (10, ti10), (11, ti11), (12, ti12), (13, ti13), (14, ti14), (15, ti15), (16, ti16), (17, ti17), (18, ti18), (19, ti19), (21, ti21), (22, ti22), (23, ti23), (24, ti24), (25, ti25), (26, ti26), (27, ti27), (28, ti28), (29, ti29), (30, ti30), (31, ti31), (32, ti32), (33, ti33), (34, ti34), (35, ti35), (37, ti37), (38, ti38), (39, ti39), (40, ti40), (41, ti41), (42, ti42), (43, ti43), (44, ti44), (45, ti45), (46, ti46), (47, ti47), (48, ti48), (49, ti49), (50, ti50), (51, ti51), (52, ti52), (53, ti53), (54, ti54), (55, ti55), (56, ti56), (57, ti57), (58, ti58), (59, ti59), (60, ti60), (61, ti61), (62, ti62), (63, ti63), (64, ti64), (65, ti65), (66, ti66), (67, ti67), (68, ti68), (69, ti69)]
theorem mo : Try.prog.follows .mixedOrders = true := by kernel_rfl
theorem tys_ok : TysOK Try.prog tys := (TysOK.cons ti1_ok (TysOK.cons ti2_ok (TysOK.cons ti3_ok (TysOK.cons ti4_ok (TysOK.cons ti5_ok (TysOK.cons ti6_ok (TysOK.cons ti7_ok (TysOK.cons ti8_ok (TysOK.cons ti9_ok (TysOK.cons ti10_ok (TysOK.cons ti11_ok (TysOK.cons ti12_ok (TysOK.cons ti13_ok (TysOK.cons ti14_ok (TysOK.cons ti15_ok (TysOK.cons ti16_ok (TysOK.cons ti17_ok (TysOK.cons ti18_ok (TysOK.cons ti19_ok (TysOK.cons ti21_ok (TysOK.cons ti22_ok (TysOK.cons ti23_ok (TysOK.cons ti24_ok (TysOK.cons ti25_ok (TysOK.cons ti26_ok (TysOK.cons ti27_ok (TysOK.cons ti28_ok (TysOK.cons ti29_ok (TysOK.cons ti30_ok (TysOK.cons ti31_ok (TysOK.cons ti32_ok (TysOK.cons ti33_ok (TysOK.cons ti34_ok (TysOK.cons ti35_ok (TysOK.cons ti37_ok (TysOK.cons ti38_ok (TysOK.cons ti39_ok (TysOK.cons ti40_ok (TysOK.cons ti41_ok (TysOK.cons ti42_ok (TysOK.cons ti43_ok (TysOK.cons ti44_ok (TysOK.cons ti45_ok (TysOK.cons ti46_ok (TysOK.cons ti47_ok (TysOK.cons ti48_ok (TysOK.cons ti49_ok (TysOK.cons ti50_ok (TysOK.cons ti51_ok (TysOK.cons ti52_ok (TysOK.cons ti53_ok (TysOK.cons ti54_ok (TysOK.cons ti55_ok (TysOK.cons ti56_ok (TysOK.cons ti57_ok (TysOK.cons ti58_ok (TysOK.cons ti59_ok (TysOK.cons ti60_ok (TysOK.cons ti61_ok (TysOK.cons ti62_ok (TysOK.cons ti63_ok (TysOK.cons ti64_ok (TysOK.cons ti65_ok (TysOK.cons ti66_ok (TysOK.cons ti67_ok (TysOK.cons ti68_ok (TysOK.cons ti69_ok TysOK.nil)))))))))))))))))))))))))))))))))))))))))))))))))))))))))))))))))))
/-! ### laws_toInt16S -/
noncomputable def laws_toInt16S.b : Code := bodyOf Try.f17
noncomputable def laws_toInt16S.l3.s (x0 : Nat) (x1 : Nat) (x2 : Int) (x3 : List Int) (x4 : List Int) : T ((Int × List Int) ⊕ (List Int)) :=
  .br (decide (x2 < ((x0 : Nat) : Int)))
  (.br (bounds x2 x0)
   (.br (Nat.ble ((0 + (Int.toNat x2 * 1)) + 1) (List.length x3))
    (.br (bounds x2 x1)
     (.br (Nat.ble ((Int.toNat x2 * 1) + 1) (List.length x4))
      (.leaf (.inl ((IntKind.wrap .i64 (x2 + (1 : Int))), (List.set x4 (Int.toNat x2 * 1) (List.getD x3 (0 + (Int.toNat x2 * 1)) 0)))))
      .bad)
     .bad)
    .bad)
   .bad)
  (.leaf (.inr x4))
noncomputable def laws_toInt16S.l3.st (p : Nat × Nat × List Int) (x : Int × List Int) : T ((Int × List Int) ⊕ (List Int)) := laws_toInt16S.l3.s p.1 p.2.1 x.1 p.2.2 x.2
noncomputable def laws_toInt16S.l3.r (p : Nat × Nat × List Int) (x : Int × List Int) : Option (List Int) := iterT (laws_toInt16S.l3.st p) manyRounds x
def laws_toInt16S.l3.cd : Cd ((Nat × Nat × List Int) × (Int × List Int)) (List V × Hp) := Cd.iso (Cd.pair (Cd.cons (Cd.sl 0 (Cd.natc 0)) (Cd.cons (Cd.own 1) (Cd.cons (Cd.it .i64) Cd.nil))) (Cd.cons (Cd.ro 0 0 (Cd.is .i16)) (Cd.cons (Cd.rw 47 1 (Cd.is .i16)) Cd.nil))) (fun a => ((a.1.1.2, a.1.2.1, a.2.1), (a.1.2.2.1, a.2.2.1))) (fun a => ((((), a.1.1), (a.1.2.1, (a.2.1, ()))), (a.1.2.2, (a.2.2, ())))) (fun _ => rfl)
def laws_toInt16S.l3.out (p : Nat × Nat × List Int) : (List Int) → X × List V × Hp := (fun r => (.ex 0, [.own 1 p.2.1], [some ⟨false, 0, 0, .is .i16 p.2.2⟩, some ⟨true, 47, 1, .is .i16 r⟩]))
def laws_toInt16S.l3.ex (p : Nat × Nat × List Int) : (List Int) → T (X × List V × Hp) := leafT (fun r => (.ex 0, [.own 1 p.2.1], [some ⟨false, 0, 0, .is .i16 p.2.2⟩, some ⟨true, 47, 1, .is .i16 r⟩]))
noncomputable def laws_toInt16S.l3.c : List V → Hp → T (X × List V × Hp) := cdL laws_toInt16S.l3.cd fun x => optT (laws_toInt16S.l3.r x.1 x.2) (laws_toInt16S.l3.ex x.1)
noncomputable def laws_toInt16S.C : Ctx := { ty := tys, fn := [], lp := [(3, ⟨[0, 3, 4], [3], laws_toInt16S.l3.c⟩)], n := 22, k := 1 }
theorem laws_toInt16S.hC : CtxOK Try.prog laws_toInt16S.C := CtxOK.of mo tys_ok FnsOK.nil
noncomputable def laws_toInt16S.b3 : Code := (nthC (loopsOf laws_toInt16S.b) 0)
theorem laws_toInt16S.lp3 : LpOK Try.prog laws_toInt16S.C laws_toInt16S.b3 := (LpOK.nil (by kernel_rfl))
theorem laws_toInt16S.l3.round (p : Nat × Nat × List Int) (s : Int × List Int) : roundL laws_toInt16S.C [0, 3, 4] [3] laws_toInt16S.b3 (laws_toInt16S.l3.cd.enc (p, s)).1 (laws_toInt16S.l3.cd.enc (p, s)).2 = (laws_toInt16S.l3.st p s).map (encSum (fun s => laws_toInt16S.l3.cd.enc (p, s)) (laws_toInt16S.l3.out p)) := by kernel_rfl
theorem laws_toInt16S.l3.lok : LoopOK Try.prog laws_toInt16S.C ⟨[0, 3, 4], [3], laws_toInt16S.l3.c⟩ laws_toInt16S.b3 := loop_cd laws_toInt16S.l3.cd laws_toInt16S.hC laws_toInt16S.lp3 laws_toInt16S.l3.round fun p => Gets.leaf
theorem laws_toInt16S.lp : LpOK Try.prog laws_toInt16S.C laws_toInt16S.b := lp_of (by kernel_rfl) (LpsOK.cons (k := 3) (by kernel_rfl) (by kernel_rfl) laws_toInt16S.l3.lok LpsOK.nil)
noncomputable def laws_toInt16S.t (x0 : Nat) (x1 : List Int) : T (Nat × List Int) :=
  .br (decide (0 ≤ ((x0 : Nat) : Int)) && decide (((x0 : Nat) : Int) ≤ ((x0 : Nat) : Int)) && decide (((x0 : Nat) : Int) ≤ 35184372088832) && decide (((2 : Nat) : Int) * ((x0 : Nat) : Int) ≤ 35184372088832))
  (.br (Option.isSome (laws_toInt16S.l3.r (x0, (Int.toNat ((x0 : Nat) : Int)), x1) ((0 : Int), (List.replicate ((Int.toNat ((x0 : Nat) : Int)) * 1) 0))))
   (.leaf ((Int.toNat ((x0 : Nat) : Int)), (Option.getD (laws_toInt16S.l3.r (x0, (Int.toNat ((x0 : Nat) : Int)), x1) ((0 : Int), (List.replicate ((Int.toNat ((x0 : Nat) : Int)) * 1) 0))) default)))
   .bad)
  .bad
noncomputable def laws_toInt16S (x0 : Nat) (x1 : List Int) : Nat × List Int := (laws_toInt16S.t x0 x1).val
noncomputable def laws_toInt16S.ok (x0 : Nat) (x1 : List Int) : Bool := (laws_toInt16S.t x0 x1).ok
def laws_toInt16S.cd : Cd (Nat × List Int) (List V × Hp) := Cd.iso (Cd.pair (Cd.cons (Cd.sl 0 (Cd.natc 0)) Cd.nil) (Cd.cons (Cd.ro 0 0 (Cd.is .i16)) Cd.nil)) (fun a => (a.1.1.2, a.2.1)) (fun a => ((((), a.1), ()), (a.2, ()))) (fun _ => rfl)
noncomputable def laws_toInt16S.tr (a : Nat × List Int) : T (Nat × List Int) := laws_toInt16S.t a.1 a.2
def laws_toInt16S.enc : (Nat × List Int) → (Nat × List Int) → V × Hp := fun a r => (.own 1 r.1, [some ⟨false, 0, 0, .is .i16 a.2⟩, some ⟨true, 47, 1, .is .i16 r.2⟩])
noncomputable def laws_toInt16S.c : List V → Hp → T (V × Hp) := cdE laws_toInt16S.cd (fun a => .br (laws_toInt16S.ok a.1 a.2) (.leaf (laws_toInt16S.enc a (laws_toInt16S a.1 a.2))) .bad)
theorem laws_toInt16S.run (a : Nat × List Int) : runF laws_toInt16S.C Try.f17.results.toList laws_toInt16S.b (laws_toInt16S.cd.enc a).1 (laws_toInt16S.cd.enc a).2 = (laws_toInt16S.tr a).map (laws_toInt16S.enc a) := by kernel_rfl
theorem laws_toInt16S.cok : OKe Try.prog 17 laws_toInt16S.c := con_e' laws_toInt16S.cd laws_toInt16S.hC Try.func17 (by kernel_rfl) (by kernel_rfl) (by kernel_rfl) laws_toInt16S.lp (fun a => by kernel_rfl) laws_toInt16S.run (Tells.ok (tree := laws_toInt16S.tr))
/-! ### spec_l00In -/
noncomputable def spec_l00In.b : Code := bodyOf Try.f45
noncomputable def spec_l00In.C : Ctx := { ty := tys, fn := [], lp := [], n := 15, k := 0 }
theorem spec_l00In.hC : CtxOK Try.prog spec_l00In.C := CtxOK.of mo tys_ok FnsOK.nil
theorem spec_l00In.lp : LpOK Try.prog spec_l00In.C spec_l00In.b := (LpOK.nil (by kernel_rfl))
noncomputable def spec_l00In.t (x0 : Int) (x1 : Int) (x2 : Int) : T Bool :=
  .br (decide (x0 ≥ x1))
  (.leaf (decide (x0 ≤ x2)))
  (.leaf false)
noncomputable def spec_l00In (x0 : Int) (x1 : Int) (x2 : Int) : Bool := (spec_l00In.t x0 x1 x2).val
def spec_l00In.cd : Cd (Int × Int × Int) (List V × Hp) := Cd.iso (Cd.pair (Cd.cons (Cd.it .i64) (Cd.cons (Cd.it .i64) (Cd.cons (Cd.it .i64) Cd.nil))) Cd.nil) (fun a => (a.1.1, a.1.2.1, a.1.2.2.1)) (fun a => ((a.1, (a.2.1, (a.2.2, ()))), ())) (fun _ => rfl)
noncomputable def spec_l00In.tr (a : Int × Int × Int) : T Bool := spec_l00In.t a.1 a.2.1 a.2.2
def spec_l00In.enc : (Int × Int × Int) → Bool → V := fun a r => .bo r
noncomputable def spec_l00In.c : List V → Hp → T V := cdQ spec_l00In.cd (fun a => .leaf (spec_l00In.enc a (spec_l00In a.1 a.2.1 a.2.2)))
theorem spec_l00In.run (a : Int × Int × Int) : runF spec_l00In.C Try.f45.results.toList spec_l00In.b (spec_l00In.cd.enc a).1 (spec_l00In.cd.enc a).2 = (spec_l00In.tr a).map fun r => (spec_l00In.enc a r, (spec_l00In.cd.enc a).2) := by kernel_rfl
theorem spec_l00In.cok : OKq Try.prog 45 spec_l00In.c := con_q' spec_l00In.cd spec_l00In.hC Try.func45 (by kernel_rfl) (by kernel_rfl) (by kernel_rfl) spec_l00In.lp (fun a => by kernel_rfl) spec_l00In.run (Tells.val (tree := spec_l00In.tr) fun a => by kernel_rfl)
/-! ### spec_l01Teeth -/
noncomputable def spec_l01Teeth.b : Code := bodyOf Try.f44
noncomputable def spec_l01Teeth.C : Ctx := { ty := tys, fn := [(45, .q spec_l00In.c)], lp := [], n := 5, k := 0 }
theorem spec_l01Teeth.hC : CtxOK Try.prog spec_l01Teeth.C := CtxOK.of mo tys_ok (FnsOK.cons spec_l00In.cok FnsOK.nil)
theorem spec_l01Teeth.lp : LpOK Try.prog spec_l01Teeth.C spec_l01Teeth.b := (LpOK.nil (by kernel_rfl))
noncomputable def spec_l01Teeth.t (x0 : Int) : T Bool :=
  .leaf (spec_l00In x0 (6 : Int) (200 : Int))
noncomputable def spec_l01Teeth (x0 : Int) : Bool := (spec_l01Teeth.t x0).val
def spec_l01Teeth.cd : Cd Int (List V × Hp) := Cd.iso (Cd.pair (Cd.cons (Cd.it .i64) Cd.nil) Cd.nil) (fun a => a.1.1) (fun a => ((a, ()), ())) (fun _ => rfl)
noncomputable def spec_l01Teeth.tr (a : Int) : T Bool := spec_l01Teeth.t a
def spec_l01Teeth.enc : Int → Bool → V := fun a r => .bo r
noncomputable def spec_l01Teeth.c : List V → Hp → T V := cdQ spec_l01Teeth.cd (fun a => .leaf (spec_l01Teeth.enc a (spec_l01Teeth a)))
theorem spec_l01Teeth.run (a : Int) : runF spec_l01Teeth.C Try.f44.results.toList spec_l01Teeth.b (spec_l01Teeth.cd.enc a).1 (spec_l01Teeth.cd.enc a).2 = (spec_l01Teeth.tr a).map fun r => (spec_l01Teeth.enc a r, (spec_l01Teeth.cd.enc a).2) := by kernel_rfl
theorem spec_l01Teeth.cok : OKq Try.prog 44 spec_l01Teeth.c := con_q' spec_l01Teeth.cd spec_l01Teeth.hC Try.func44 (by kernel_rfl) (by kernel_rfl) (by kernel_rfl) spec_l01Teeth.lp (fun a => by kernel_rfl) spec_l01Teeth.run (Tells.val (tree := spec_l01Teeth.tr) fun a => by kernel_rfl)
/-! ### spec_l05Ok -/
noncomputable def spec_l05Ok.b : Code := bodyOf Try.f33
noncomputable def spec_l05Ok.l2.s (x0 : Nat) (x1 : Int) (x2 : List Int) : T (Int ⊕ (Bool ⊕ Unit)) :=
  .br (decide (x1 < ((x0 : Nat) : Int)))
  (.br (bounds x1 x0)
   (.br (Nat.ble ((Int.toNat x1 * 1) + 1) (List.length x2))
    (.br (!(spec_l01Teeth (IntKind.wrap .i64 (List.getD x2 (Int.toNat x1 * 1) 0))))
     (.leaf (.inr (.inl false)))
     (.br (decide (x1 > (0 : Int)))
      (.br (bounds x1 x0)
       (.br (Nat.ble ((Int.toNat x1 * 1) + 1) (List.length x2))
        (.br (bounds (IntKind.wrap .i64 (x1 - (1 : Int))) x0)
         (.br (Nat.ble ((Int.toNat (IntKind.wrap .i64 (x1 - (1 : Int))) * 1) + 1) (List.length x2))
          (.br (decide ((List.getD x2 (Int.toNat x1 * 1) 0) ≤ (List.getD x2 (Int.toNat (IntKind.wrap .i64 (x1 - (1 : Int))) * 1) 0)))
           (.leaf (.inr (.inl false)))
           (.leaf (.inl (IntKind.wrap .i64 (x1 + (1 : Int))))))
          .bad)
         .bad)
        .bad)
       .bad)
      (.leaf (.inl (IntKind.wrap .i64 (x1 + (1 : Int)))))))
    .bad)
   .bad)
  (.leaf (.inr (.inr ())))
noncomputable def spec_l05Ok.l2.st (p : Nat × List Int) (x : Int) : T (Int ⊕ (Bool ⊕ Unit)) := spec_l05Ok.l2.s p.1 x p.2
noncomputable def spec_l05Ok.l2.r (p : Nat × List Int) (x : Int) : Option (Bool ⊕ Unit) := iterT (spec_l05Ok.l2.st p) manyRounds x
def spec_l05Ok.l2.cd : Cd ((Nat × List Int) × Int) (List V × Hp) := Cd.iso (Cd.pair (Cd.cons (Cd.own 0) (Cd.cons (Cd.it .i64) Cd.nil)) (Cd.cons (Cd.rw 47 1 (Cd.is .i16)) Cd.nil)) (fun a => ((a.1.1, a.2.1), a.1.2.1)) (fun a => ((a.1.1, (a.2, ())), (a.1.2, ()))) (fun _ => rfl)
def spec_l05Ok.l2.out (p : Nat × List Int) : (Bool ⊕ Unit) → X × List V × Hp := sumO (fun r => (.ret, [.own 0 p.1, .bo r], [some ⟨true, 47, 1, .is .i16 p.2⟩])) (fun r => (.ex 0, [.own 0 p.1, .unk], [some ⟨true, 47, 1, .is .i16 p.2⟩]))
def spec_l05Ok.l2.ex (p : Nat × List Int) : (Bool ⊕ Unit) → T (X × List V × Hp) := sumT (leafT (fun r => (.ret, [.own 0 p.1, .bo r], [some ⟨true, 47, 1, .is .i16 p.2⟩]))) (leafT (fun r => (.ex 0, [.own 0 p.1, .unk], [some ⟨true, 47, 1, .is .i16 p.2⟩])))
noncomputable def spec_l05Ok.l2.c : List V → Hp → T (X × List V × Hp) := cdL spec_l05Ok.l2.cd fun x => optT (spec_l05Ok.l2.r x.1 x.2) (spec_l05Ok.l2.ex x.1)
noncomputable def spec_l05Ok.C : Ctx := { ty := tys, fn := [(44, .q spec_l01Teeth.c), (45, .q spec_l00In.c)], lp := [(2, ⟨[0, 3], [0, 2], spec_l05Ok.l2.c⟩)], n := 36, k := 1 }
theorem spec_l05Ok.hC : CtxOK Try.prog spec_l05Ok.C := CtxOK.of mo tys_ok (FnsOK.cons spec_l01Teeth.cok (FnsOK.cons spec_l00In.cok FnsOK.nil))
noncomputable def spec_l05Ok.b2 : Code := (nthC (loopsOf spec_l05Ok.b) 0)
theorem spec_l05Ok.lp2 : LpOK Try.prog spec_l05Ok.C spec_l05Ok.b2 := (LpOK.nil (by kernel_rfl))
theorem spec_l05Ok.l2.round (p : Nat × List Int) (s : Int) : roundL spec_l05Ok.C [0, 3] [0, 2] spec_l05Ok.b2 (spec_l05Ok.l2.cd.enc (p, s)).1 (spec_l05Ok.l2.cd.enc (p, s)).2 = (spec_l05Ok.l2.st p s).map (encSum (fun s => spec_l05Ok.l2.cd.enc (p, s)) (spec_l05Ok.l2.out p)) := by kernel_rfl
theorem spec_l05Ok.l2.lok : LoopOK Try.prog spec_l05Ok.C ⟨[0, 3], [0, 2], spec_l05Ok.l2.c⟩ spec_l05Ok.b2 := loop_cd spec_l05Ok.l2.cd spec_l05Ok.hC spec_l05Ok.lp2 spec_l05Ok.l2.round fun p => (Gets.sum Gets.leaf Gets.leaf)
theorem spec_l05Ok.lp : LpOK Try.prog spec_l05Ok.C spec_l05Ok.b := lp_of (by kernel_rfl) (LpsOK.cons (k := 2) (by kernel_rfl) (by kernel_rfl) spec_l05Ok.l2.lok LpsOK.nil)
noncomputable def spec_l05Ok.t (x0 : Nat) (x1 : List Int) : T Bool :=
  .br (Option.isSome (spec_l05Ok.l2.r (x0, x1) (0 : Int)))
  (.br (Sum.isLeft (Option.getD (spec_l05Ok.l2.r (x0, x1) (0 : Int)) default))
   (.leaf (getLeftD (Option.getD (spec_l05Ok.l2.r (x0, x1) (0 : Int)) default)))
   (.leaf (spec_l00In ((x0 : Nat) : Int) (2 : Int) (24 : Int))))
  .bad
noncomputable def spec_l05Ok (x0 : Nat) (x1 : List Int) : Bool := (spec_l05Ok.t x0 x1).val
noncomputable def spec_l05Ok.ok (x0 : Nat) (x1 : List Int) : Bool := (spec_l05Ok.t x0 x1).ok
def spec_l05Ok.cd : Cd (Nat × List Int) (List V × Hp) := Cd.iso (Cd.pair (Cd.cons (Cd.own 0) Cd.nil) (Cd.cons (Cd.rw 47 1 (Cd.is .i16)) Cd.nil)) (fun a => (a.1.1, a.2.1)) (fun a => ((a.1, ()), (a.2, ()))) (fun _ => rfl)
noncomputable def spec_l05Ok.tr (a : Nat × List Int) : T Bool := spec_l05Ok.t a.1 a.2
def spec_l05Ok.enc : (Nat × List Int) → Bool → V := fun a r => .bo r
noncomputable def spec_l05Ok.c : List V → Hp → T V := cdQ spec_l05Ok.cd (fun a => .br (spec_l05Ok.ok a.1 a.2) (.leaf (spec_l05Ok.enc a (spec_l05Ok a.1 a.2))) .bad)
theorem spec_l05Ok.run (a : Nat × List Int) : runF spec_l05Ok.C Try.f33.results.toList spec_l05Ok.b (spec_l05Ok.cd.enc a).1 (spec_l05Ok.cd.enc a).2 = (spec_l05Ok.tr a).map fun r => (spec_l05Ok.enc a r, (spec_l05Ok.cd.enc a).2) := by kernel_rfl
theorem spec_l05Ok.cok : OKq Try.prog 33 spec_l05Ok.c := con_q' spec_l05Ok.cd spec_l05Ok.hC Try.func33 (by kernel_rfl) (by kernel_rfl) (by kernel_rfl) spec_l05Ok.lp (fun a => by kernel_rfl) spec_l05Ok.run (Tells.ok (tree := spec_l05Ok.tr))
/-! ### spec_ValidBox -/
noncomputable def spec_ValidBox.b : Code := bodyOf Try.f16
noncomputable def spec_ValidBox.C : Ctx := { ty := tys, fn := [(33, .q spec_l05Ok.c)], lp := [], n := 5, k := 1 }
theorem spec_ValidBox.hC : CtxOK Try.prog spec_ValidBox.C := CtxOK.of mo tys_ok (FnsOK.cons spec_l05Ok.cok FnsOK.nil)
theorem spec_ValidBox.lp : LpOK Try.prog spec_ValidBox.C spec_ValidBox.b := (LpOK.nil (by kernel_rfl))
noncomputable def spec_ValidBox.t (x0 : Nat) (x1 : List Int) : T Bool :=
  .br (spec_l05Ok.ok x0 x1)
  (.leaf (spec_l05Ok x0 x1))
  .bad
noncomputable def spec_ValidBox (x0 : Nat) (x1 : List Int) : Bool := (spec_ValidBox.t x0 x1).val
noncomputable def spec_ValidBox.ok (x0 : Nat) (x1 : List Int) : Bool := (spec_ValidBox.t x0 x1).ok
def spec_ValidBox.cd : Cd (Nat × List Int) (List V × Hp) := Cd.iso (Cd.pair (Cd.cons (Cd.own 0) Cd.nil) (Cd.cons (Cd.rw 47 1 (Cd.is .i16)) Cd.nil)) (fun a => (a.1.1, a.2.1)) (fun a => ((a.1, ()), (a.2, ()))) (fun _ => rfl)
noncomputable def spec_ValidBox.tr (a : Nat × List Int) : T Bool := spec_ValidBox.t a.1 a.2
def spec_ValidBox.enc : (Nat × List Int) → Bool → V := fun a r => .bo r
noncomputable def spec_ValidBox.c : List V → Hp → T V := cdQ spec_ValidBox.cd (fun a => .br (spec_ValidBox.ok a.1 a.2) (.leaf (spec_ValidBox.enc a (spec_ValidBox a.1 a.2))) .bad)
theorem spec_ValidBox.run (a : Nat × List Int) : runF spec_ValidBox.C Try.f16.results.toList spec_ValidBox.b (spec_ValidBox.cd.enc a).1 (spec_ValidBox.cd.enc a).2 = (spec_ValidBox.tr a).map fun r => (spec_ValidBox.enc a r, (spec_ValidBox.cd.enc a).2) := by kernel_rfl
theorem spec_ValidBox.cok : OKq Try.prog 16 spec_ValidBox.c := con_q' spec_ValidBox.cd spec_ValidBox.hC Try.func16 (by kernel_rfl) (by kernel_rfl) (by kernel_rfl) spec_ValidBox.lp (fun a => by kernel_rfl) spec_ValidBox.run (Tells.ok (tree := spec_ValidBox.tr))
/-! ### impl_within -/
noncomputable def impl_within.b : Code := bodyOf Try.f35
noncomputable def impl_within.C : Ctx := { ty := tys, fn := [], lp := [], n := 15, k := 0 }
theorem impl_within.hC : CtxOK Try.prog impl_within.C := CtxOK.of mo tys_ok FnsOK.nil
theorem impl_within.lp : LpOK Try.prog impl_within.C impl_within.b := (LpOK.nil (by kernel_rfl))
noncomputable def impl_within.t (x0 : Int) (x1 : Int) (x2 : Int) : T Bool :=
  .br (decide (x1 ≤ x0))
  (.leaf (decide (x0 ≤ x2)))
  (.leaf false)
noncomputable def impl_within (x0 : Int) (x1 : Int) (x2 : Int) : Bool := (impl_within.t x0 x1 x2).val
def impl_within.cd : Cd (Int × Int × Int) (List V × Hp) := Cd.iso (Cd.pair (Cd.cons (Cd.it .i64) (Cd.cons (Cd.it .i64) (Cd.cons (Cd.it .i64) Cd.nil))) Cd.nil) (fun a => (a.1.1, a.1.2.1, a.1.2.2.1)) (fun a => ((a.1, (a.2.1, (a.2.2, ()))), ())) (fun _ => rfl)
noncomputable def impl_within.tr (a : Int × Int × Int) : T Bool := impl_within.t a.1 a.2.1 a.2.2
def impl_within.enc : (Int × Int × Int) → Bool → V := fun a r => .bo r
noncomputable def impl_within.c : List V → Hp → T V := cdQ impl_within.cd (fun a => .leaf (impl_within.enc a (impl_within a.1 a.2.1 a.2.2)))
theorem impl_within.run (a : Int × Int × Int) : runF impl_within.C Try.f35.results.toList impl_within.b (impl_within.cd.enc a).1 (impl_within.cd.enc a).2 = (impl_within.tr a).map fun r => (impl_within.enc a r, (impl_within.cd.enc a).2) := by kernel_rfl
theorem impl_within.cok : OKq Try.prog 35 impl_within.c := con_q' impl_within.cd impl_within.hC Try.func35 (by kernel_rfl) (by kernel_rfl) (by kernel_rfl) impl_within.lp (fun a => by kernel_rfl) impl_within.run (Tells.val (tree := impl_within.tr) fun a => by kernel_rfl)
/-! ### impl_areTeeth -/
noncomputable def impl_areTeeth.b : Code := bodyOf Try.f34
noncomputable def impl_areTeeth.C : Ctx := { ty := tys, fn := [(35, .q impl_within.c)], lp := [], n := 5, k := 0 }
theorem impl_areTeeth.hC : CtxOK Try.prog impl_areTeeth.C := CtxOK.of mo tys_ok (FnsOK.cons impl_within.cok FnsOK.nil)
theorem impl_areTeeth.lp : LpOK Try.prog impl_areTeeth.C impl_areTeeth.b := (LpOK.nil (by kernel_rfl))
noncomputable def impl_areTeeth.t (x0 : Int) : T Bool :=
  .leaf (impl_within x0 (6 : Int) (200 : Int))
noncomputable def impl_areTeeth (x0 : Int) : Bool := (impl_areTeeth.t x0).val
def impl_areTeeth.cd : Cd Int (List V × Hp) := Cd.iso (Cd.pair (Cd.cons (Cd.it .i64) Cd.nil) Cd.nil) (fun a => a.1.1) (fun a => ((a, ()), ())) (fun _ => rfl)
noncomputable def impl_areTeeth.tr (a : Int) : T Bool := impl_areTeeth.t a
def impl_areTeeth.enc : Int → Bool → V := fun a r => .bo r
noncomputable def impl_areTeeth.c : List V → Hp → T V := cdQ impl_areTeeth.cd (fun a => .leaf (impl_areTeeth.enc a (impl_areTeeth a)))
theorem impl_areTeeth.run (a : Int) : runF impl_areTeeth.C Try.f34.results.toList impl_areTeeth.b (impl_areTeeth.cd.enc a).1 (impl_areTeeth.cd.enc a).2 = (impl_areTeeth.tr a).map fun r => (impl_areTeeth.enc a r, (impl_areTeeth.cd.enc a).2) := by kernel_rfl
theorem impl_areTeeth.cok : OKq Try.prog 34 impl_areTeeth.c := con_q' impl_areTeeth.cd impl_areTeeth.hC Try.func34 (by kernel_rfl) (by kernel_rfl) (by kernel_rfl) impl_areTeeth.lp (fun a => by kernel_rfl) impl_areTeeth.run (Tells.val (tree := impl_areTeeth.tr) fun a => by kernel_rfl)
/-! ### impl_ValidBox -/
noncomputable def impl_ValidBox.b : Code := bodyOf Try.f18
noncomputable def impl_ValidBox.l2.s (x0 : Nat) (x1 : Nat) (x2 : Int) (x3 : Int) (x4 : List Int) : T (Int ⊕ (Bool ⊕ Unit)) :=
  .br (decide (x3 < x2))
  (.br (bounds x3 x1)
   (.br (Nat.ble ((Int.toNat x3 * 1) + 1) (List.length x4))
    (.br (!(impl_areTeeth (IntKind.wrap .i64 (List.getD x4 (Int.toNat x3 * 1) 0))))
     (.leaf (.inr (.inl false)))
     (.br (decide (x3 > (0 : Int)))
      (.br (bounds (IntKind.wrap .i64 (x3 - (1 : Int))) x0)
       (.br (Nat.ble ((Int.toNat (IntKind.wrap .i64 (x3 - (1 : Int))) * 1) + 1) (List.length x4))
        (.br (decide ((List.getD x4 (Int.toNat x3 * 1) 0) ≤ (List.getD x4 (Int.toNat (IntKind.wrap .i64 (x3 - (1 : Int))) * 1) 0)))
         (.leaf (.inr (.inl false)))
         (.leaf (.inl (IntKind.wrap .i64 (x3 + (1 : Int))))))
        .bad)
       .bad)
      (.leaf (.inl (IntKind.wrap .i64 (x3 + (1 : Int)))))))
    .bad)
   .bad)
  (.leaf (.inr (.inr ())))
noncomputable def impl_ValidBox.l2.st (p : Nat × Nat × Int × List Int) (x : Int) : T (Int ⊕ (Bool ⊕ Unit)) := impl_ValidBox.l2.s p.1 p.2.1 p.2.2.1 x p.2.2.2
noncomputable def impl_ValidBox.l2.r (p : Nat × Nat × Int × List Int) (x : Int) : Option (Bool ⊕ Unit) := iterT (impl_ValidBox.l2.st p) manyRounds x
def impl_ValidBox.l2.cd : Cd ((Nat × Nat × Int × List Int) × Int) (List V × Hp) := Cd.iso (Cd.pair (Cd.cons (Cd.own 0) (Cd.cons (Cd.own 0) (Cd.cons (Cd.it .i64) (Cd.cons (Cd.it .i64) Cd.nil)))) (Cd.cons (Cd.rw 47 1 (Cd.is .i16)) Cd.nil)) (fun a => ((a.1.1, a.1.2.1, a.1.2.2.1, a.2.1), a.1.2.2.2.1)) (fun a => ((a.1.1, (a.1.2.1, (a.1.2.2.1, (a.2, ())))), (a.1.2.2.2, ()))) (fun _ => rfl)
def impl_ValidBox.l2.out (p : Nat × Nat × Int × List Int) : (Bool ⊕ Unit) → X × List V × Hp := sumO (fun r => (.ret, [.own 0 p.1, .bo r], [some ⟨true, 47, 1, .is .i16 p.2.2.2⟩])) (fun r => (.ex 0, [.own 0 p.1, .unk], [some ⟨true, 47, 1, .is .i16 p.2.2.2⟩]))
def impl_ValidBox.l2.ex (p : Nat × Nat × Int × List Int) : (Bool ⊕ Unit) → T (X × List V × Hp) := sumT (leafT (fun r => (.ret, [.own 0 p.1, .bo r], [some ⟨true, 47, 1, .is .i16 p.2.2.2⟩]))) (leafT (fun r => (.ex 0, [.own 0 p.1, .unk], [some ⟨true, 47, 1, .is .i16 p.2.2.2⟩])))
noncomputable def impl_ValidBox.l2.c : List V → Hp → T (X × List V × Hp) := cdL impl_ValidBox.l2.cd fun x => optT (impl_ValidBox.l2.r x.1 x.2) (impl_ValidBox.l2.ex x.1)
noncomputable def impl_ValidBox.C : Ctx := { ty := tys, fn := [(34, .q impl_areTeeth.c), (35, .q impl_within.c)], lp := [(2, ⟨[0, 5, 6, 7], [0, 2], impl_ValidBox.l2.c⟩)], n := 33, k := 1 }
theorem impl_ValidBox.hC : CtxOK Try.prog impl_ValidBox.C := CtxOK.of mo tys_ok (FnsOK.cons impl_areTeeth.cok (FnsOK.cons impl_within.cok FnsOK.nil))
noncomputable def impl_ValidBox.b2 : Code := (nthC (loopsOf impl_ValidBox.b) 0)
theorem impl_ValidBox.lp2 : LpOK Try.prog impl_ValidBox.C impl_ValidBox.b2 := (LpOK.nil (by kernel_rfl))
theorem impl_ValidBox.l2.round (p : Nat × Nat × Int × List Int) (s : Int) : roundL impl_ValidBox.C [0, 5, 6, 7] [0, 2] impl_ValidBox.b2 (impl_ValidBox.l2.cd.enc (p, s)).1 (impl_ValidBox.l2.cd.enc (p, s)).2 = (impl_ValidBox.l2.st p s).map (encSum (fun s => impl_ValidBox.l2.cd.enc (p, s)) (impl_ValidBox.l2.out p)) := by kernel_rfl
theorem impl_ValidBox.l2.lok : LoopOK Try.prog impl_ValidBox.C ⟨[0, 5, 6, 7], [0, 2], impl_ValidBox.l2.c⟩ impl_ValidBox.b2 := loop_cd impl_ValidBox.l2.cd impl_ValidBox.hC impl_ValidBox.lp2 impl_ValidBox.l2.round fun p => (Gets.sum Gets.leaf Gets.leaf)
theorem impl_ValidBox.lp : LpOK Try.prog impl_ValidBox.C impl_ValidBox.b := lp_of (by kernel_rfl) (LpsOK.cons (k := 2) (by kernel_rfl) (by kernel_rfl) impl_ValidBox.l2.lok LpsOK.nil)
noncomputable def impl_ValidBox.t (x0 : Nat) (x1 : List Int) : T Bool :=
  .br (Option.isSome (impl_ValidBox.l2.r (x0, x0, ((x0 : Nat) : Int), x1) (0 : Int)))
  (.br (Sum.isLeft (Option.getD (impl_ValidBox.l2.r (x0, x0, ((x0 : Nat) : Int), x1) (0 : Int)) default))
   (.leaf (getLeftD (Option.getD (impl_ValidBox.l2.r (x0, x0, ((x0 : Nat) : Int), x1) (0 : Int)) default)))
   (.leaf (impl_within ((x0 : Nat) : Int) (2 : Int) (24 : Int))))
  .bad
noncomputable def impl_ValidBox (x0 : Nat) (x1 : List Int) : Bool := (impl_ValidBox.t x0 x1).val
noncomputable def impl_ValidBox.ok (x0 : Nat) (x1 : List Int) : Bool := (impl_ValidBox.t x0 x1).ok
def impl_ValidBox.cd : Cd (Nat × List Int) (List V × Hp) := Cd.iso (Cd.pair (Cd.cons (Cd.own 0) Cd.nil) (Cd.cons (Cd.rw 47 1 (Cd.is .i16)) Cd.nil)) (fun a => (a.1.1, a.2.1)) (fun a => ((a.1, ()), (a.2, ()))) (fun _ => rfl)
noncomputable def impl_ValidBox.tr (a : Nat × List Int) : T Bool := impl_ValidBox.t a.1 a.2
def impl_ValidBox.enc : (Nat × List Int) → Bool → V := fun a r => .bo r
noncomputable def impl_ValidBox.c : List V → Hp → T V := cdQ impl_ValidBox.cd (fun a => .br (impl_ValidBox.ok a.1 a.2) (.leaf (impl_ValidBox.enc a (impl_ValidBox a.1 a.2))) .bad)
theorem impl_ValidBox.run (a : Nat × List Int) : runF impl_ValidBox.C Try.f18.results.toList impl_ValidBox.b (impl_ValidBox.cd.enc a).1 (impl_ValidBox.cd.enc a).2 = (impl_ValidBox.tr a).map fun r => (impl_ValidBox.enc a r, (impl_ValidBox.cd.enc a).2) := by kernel_rfl
theorem impl_ValidBox.cok : OKq Try.prog 18 impl_ValidBox.c := con_q' impl_ValidBox.cd impl_ValidBox.hC Try.func18 (by kernel_rfl) (by kernel_rfl) (by kernel_rfl) impl_ValidBox.lp (fun a => by kernel_rfl) impl_ValidBox.run (Tells.ok (tree := impl_ValidBox.tr))
/-! ### laws_eqInt16S -/
noncomputable def laws_eqInt16S.b : Code := bodyOf Try.f19
noncomputable def laws_eqInt16S.l4.s (x0 : Nat) (x1 : Nat) (x2 : Int) (x3 : List Int) (x4 : List Int) : T (Int ⊕ (Bool ⊕ Unit)) :=
  .br (decide (x2 < ((x0 : Nat) : Int)))
  (.br (bounds x2 x0)
   (.br (Nat.ble ((Int.toNat x2 * 1) + 1) (List.length x3))
    (.br (bounds x2 x1)
     (.br (Nat.ble ((Int.toNat x2 * 1) + 1) (List.length x4))
      (.br ((List.getD x3 (Int.toNat x2 * 1) 0) != (List.getD x4 (Int.toNat x2 * 1) 0))
       (.leaf (.inr (.inl false)))
       (.leaf (.inl (IntKind.wrap .i64 (x2 + (1 : Int))))))
      .bad)
     .bad)
    .bad)
   .bad)
  (.leaf (.inr (.inr ())))
noncomputable def laws_eqInt16S.l4.st (p : Nat × Nat × List Int × List Int) (x : Int) : T (Int ⊕ (Bool ⊕ Unit)) := laws_eqInt16S.l4.s p.1 p.2.1 x p.2.2.1 p.2.2.2
noncomputable def laws_eqInt16S.l4.r (p : Nat × Nat × List Int × List Int) (x : Int) : Option (Bool ⊕ Unit) := iterT (laws_eqInt16S.l4.st p) manyRounds x
def laws_eqInt16S.l4.cd : Cd ((Nat × Nat × List Int × List Int) × Int) (List V × Hp) := Cd.iso (Cd.pair (Cd.cons (Cd.own 0) (Cd.cons (Cd.own 1) (Cd.cons (Cd.it .i64) Cd.nil))) (Cd.cons (Cd.rw 47 1 (Cd.is .i16)) (Cd.cons (Cd.rw 47 1 (Cd.is .i16)) Cd.nil))) (fun a => ((a.1.1, a.1.2.1, a.2.1, a.2.2.1), a.1.2.2.1)) (fun a => ((a.1.1, (a.1.2.1, (a.2, ()))), (a.1.2.2.1, (a.1.2.2.2, ())))) (fun _ => rfl)
def laws_eqInt16S.l4.out (p : Nat × Nat × List Int × List Int) : (Bool ⊕ Unit) → X × List V × Hp := sumO (fun r => (.ret, [.bo r], [some ⟨true, 47, 1, .is .i16 p.2.2.1⟩, some ⟨true, 47, 1, .is .i16 p.2.2.2⟩])) (fun r => (.ex 0, [.unk], [some ⟨true, 47, 1, .is .i16 p.2.2.1⟩, some ⟨true, 47, 1, .is .i16 p.2.2.2⟩]))
def laws_eqInt16S.l4.ex (p : Nat × Nat × List Int × List Int) : (Bool ⊕ Unit) → T (X × List V × Hp) := sumT (leafT (fun r => (.ret, [.bo r], [some ⟨true, 47, 1, .is .i16 p.2.2.1⟩, some ⟨true, 47, 1, .is .i16 p.2.2.2⟩]))) (leafT (fun r => (.ex 0, [.unk], [some ⟨true, 47, 1, .is .i16 p.2.2.1⟩, some ⟨true, 47, 1, .is .i16 p.2.2.2⟩])))
noncomputable def laws_eqInt16S.l4.c : List V → Hp → T (X × List V × Hp) := cdL laws_eqInt16S.l4.cd fun x => optT (laws_eqInt16S.l4.r x.1 x.2) (laws_eqInt16S.l4.ex x.1)
noncomputable def laws_eqInt16S.C : Ctx := { ty := tys, fn := [], lp := [(4, ⟨[0, 1, 5], [4], laws_eqInt16S.l4.c⟩)], n := 26, k := 2 }
theorem laws_eqInt16S.hC : CtxOK Try.prog laws_eqInt16S.C := CtxOK.of mo tys_ok FnsOK.nil
noncomputable def laws_eqInt16S.b4 : Code := (nthC (loopsOf laws_eqInt16S.b) 0)
theorem laws_eqInt16S.lp4 : LpOK Try.prog laws_eqInt16S.C laws_eqInt16S.b4 := (LpOK.nil (by kernel_rfl))
theorem laws_eqInt16S.l4.round (p : Nat × Nat × List Int × List Int) (s : Int) : roundL laws_eqInt16S.C [0, 1, 5] [4] laws_eqInt16S.b4 (laws_eqInt16S.l4.cd.enc (p, s)).1 (laws_eqInt16S.l4.cd.enc (p, s)).2 = (laws_eqInt16S.l4.st p s).map (encSum (fun s => laws_eqInt16S.l4.cd.enc (p, s)) (laws_eqInt16S.l4.out p)) := by kernel_rfl
theorem laws_eqInt16S.l4.lok : LoopOK Try.prog laws_eqInt16S.C ⟨[0, 1, 5], [4], laws_eqInt16S.l4.c⟩ laws_eqInt16S.b4 := loop_cd laws_eqInt16S.l4.cd laws_eqInt16S.hC laws_eqInt16S.lp4 laws_eqInt16S.l4.round fun p => (Gets.sum Gets.leaf Gets.leaf)
theorem laws_eqInt16S.lp : LpOK Try.prog laws_eqInt16S.C laws_eqInt16S.b := lp_of (by kernel_rfl) (LpsOK.cons (k := 4) (by kernel_rfl) (by kernel_rfl) laws_eqInt16S.l4.lok LpsOK.nil)
noncomputable def laws_eqInt16S.t (x0 : Nat) (x1 : Nat) (x2 : List Int) (x3 : List Int) : T Bool :=
  .br (((x0 : Nat) : Int) != ((x1 : Nat) : Int))
  (.leaf false)
  (.br (Option.isSome (laws_eqInt16S.l4.r (x0, x1, x2, x3) (0 : Int)))
   (.br (Sum.isLeft (Option.getD (laws_eqInt16S.l4.r (x0, x1, x2, x3) (0 : Int)) default))
    (.leaf (getLeftD (Option.getD (laws_eqInt16S.l4.r (x0, x1, x2, x3) (0 : Int)) default)))
    (.leaf true))
   .bad)
noncomputable def laws_eqInt16S (x0 : Nat) (x1 : Nat) (x2 : List Int) (x3 : List Int) : Bool := (laws_eqInt16S.t x0 x1 x2 x3).val
noncomputable def laws_eqInt16S.ok (x0 : Nat) (x1 : Nat) (x2 : List Int) (x3 : List Int) : Bool := (laws_eqInt16S.t x0 x1 x2 x3).ok
def laws_eqInt16S.cd : Cd (Nat × Nat × List Int × List Int) (List V × Hp) := Cd.iso (Cd.pair (Cd.cons (Cd.own 0) (Cd.cons (Cd.own 1) Cd.nil)) (Cd.cons (Cd.rw 47 1 (Cd.is .i16)) (Cd.cons (Cd.rw 47 1 (Cd.is .i16)) Cd.nil))) (fun a => (a.1.1, a.1.2.1, a.2.1, a.2.2.1)) (fun a => ((a.1, (a.2.1, ())), (a.2.2.1, (a.2.2.2, ())))) (fun _ => rfl)
noncomputable def laws_eqInt16S.tr (a : Nat × Nat × List Int × List Int) : T Bool := laws_eqInt16S.t a.1 a.2.1 a.2.2.1 a.2.2.2
def laws_eqInt16S.enc : (Nat × Nat × List Int × List Int) → Bool → V := fun a r => .bo r
noncomputable def laws_eqInt16S.c : List V → Hp → T V := cdQ laws_eqInt16S.cd (fun a => .br (laws_eqInt16S.ok a.1 a.2.1 a.2.2.1 a.2.2.2) (.leaf (laws_eqInt16S.enc a (laws_eqInt16S a.1 a.2.1 a.2.2.1 a.2.2.2))) .bad)
theorem laws_eqInt16S.run (a : Nat × Nat × List Int × List Int) : runF laws_eqInt16S.C Try.f19.results.toList laws_eqInt16S.b (laws_eqInt16S.cd.enc a).1 (laws_eqInt16S.cd.enc a).2 = (laws_eqInt16S.tr a).map fun r => (laws_eqInt16S.enc a r, (laws_eqInt16S.cd.enc a).2) := by kernel_rfl
theorem laws_eqInt16S.cok : OKq Try.prog 19 laws_eqInt16S.c := con_q' laws_eqInt16S.cd laws_eqInt16S.hC Try.func19 (by kernel_rfl) (by kernel_rfl) (by kernel_rfl) laws_eqInt16S.lp (fun a => by kernel_rfl) laws_eqInt16S.run (Tells.ok (tree := laws_eqInt16S.tr))
/-! ### laws_FnExactValidBox -/
noncomputable def laws_FnExactValidBox.b : Code := bodyOf Try.f6
noncomputable def laws_FnExactValidBox.C : Ctx := { ty := tys, fn := [(17, .e laws_toInt16S.c), (16, .q spec_ValidBox.c), (18, .q impl_ValidBox.c), (19, .q laws_eqInt16S.c)], lp := [], n := 24, k := 1 }
theorem laws_FnExactValidBox.hC : CtxOK Try.prog laws_FnExactValidBox.C := CtxOK.of mo tys_ok (FnsOK.cons laws_toInt16S.cok (FnsOK.cons spec_ValidBox.cok (FnsOK.cons impl_ValidBox.cok (FnsOK.cons laws_eqInt16S.cok FnsOK.nil))))
theorem laws_FnExactValidBox.lp : LpOK Try.prog laws_FnExactValidBox.C laws_FnExactValidBox.b := (LpOK.nil (by kernel_rfl))
noncomputable def laws_FnExactValidBox.t (x0 : Nat) (x1 : List Int) : T Bool :=
  .br (decide (((x0 : Nat) : Int) > (1048576 : Int)))
  (.leaf true)
  (.br (laws_toInt16S.ok x0 x1)
   (.br (spec_ValidBox.ok ((laws_toInt16S x0 x1).1) ((laws_toInt16S x0 x1).2))
    (.br (laws_toInt16S.ok x0 x1)
     (.br (impl_ValidBox.ok ((laws_toInt16S x0 x1).1) ((laws_toInt16S x0 x1).2))
      (.br (!((impl_ValidBox ((laws_toInt16S x0 x1).1) ((laws_toInt16S x0 x1).2)) == (spec_ValidBox ((laws_toInt16S x0 x1).1) ((laws_toInt16S x0 x1).2))))
       (.leaf false)
       (.br (laws_toInt16S.ok x0 x1)
        (.br (laws_eqInt16S.ok ((laws_toInt16S x0 x1).1) ((laws_toInt16S x0 x1).1) ((laws_toInt16S x0 x1).2) ((laws_toInt16S x0 x1).2))
         (.br (!(laws_eqInt16S ((laws_toInt16S x0 x1).1) ((laws_toInt16S x0 x1).1) ((laws_toInt16S x0 x1).2) ((laws_toInt16S x0 x1).2)))
          (.leaf false)
          (.leaf true))
         .bad)
        .bad))
      .bad)
     .bad)
    .bad)
   .bad)
noncomputable def laws_FnExactValidBox (x0 : Nat) (x1 : List Int) : Bool := (laws_FnExactValidBox.t x0 x1).val
noncomputable def laws_FnExactValidBox.ok (x0 : Nat) (x1 : List Int) : Bool := (laws_FnExactValidBox.t x0 x1).ok
def laws_FnExactValidBox.cd : Cd (Nat × List Int) (List V × Hp) := Cd.iso (Cd.pair (Cd.cons (Cd.sl 0 (Cd.natc 0)) Cd.nil) (Cd.cons (Cd.ro 0 0 (Cd.is .i16)) Cd.nil)) (fun a => (a.1.1.2, a.2.1)) (fun a => ((((), a.1), ()), (a.2, ()))) (fun _ => rfl)
noncomputable def laws_FnExactValidBox.tr (a : Nat × List Int) : T Bool := laws_FnExactValidBox.t a.1 a.2
def laws_FnExactValidBox.enc : (Nat × List Int) → Bool → V := fun a r => .bo r
noncomputable def laws_FnExactValidBox.c : List V → Hp → T V := cdQ laws_FnExactValidBox.cd (fun a => .br (laws_FnExactValidBox.ok a.1 a.2) (.leaf (laws_FnExactValidBox.enc a (laws_FnExactValidBox a.1 a.2))) .bad)
theorem laws_FnExactValidBox.run (a : Nat × List Int) : runF laws_FnExactValidBox.C Try.f6.results.toList laws_FnExactValidBox.b (laws_FnExactValidBox.cd.enc a).1 (laws_FnExactValidBox.cd.enc a).2 = (laws_FnExactValidBox.tr a).map fun r => (laws_FnExactValidBox.enc a r, (laws_FnExactValidBox.cd.enc a).2) := by kernel_rfl
theorem laws_FnExactValidBox.cok : OKq Try.prog 6 laws_FnExactValidBox.c := con_q' laws_FnExactValidBox.cd laws_FnExactValidBox.hC Try.func6 (by kernel_rfl) (by kernel_rfl) (by kernel_rfl) laws_FnExactValidBox.lp (fun a => by kernel_rfl) laws_FnExactValidBox.run (Tells.ok (tree := laws_FnExactValidBox.tr))
theorem laws_FnExactValidBox.walk (a : Nat × List Int) (h : (laws_FnExactValidBox.tr a).get = some true) {ρ : Nat → Option Sx.Loc} {w : World} {vs : List Value} (hargs : V.Rs ρ (laws_FnExactValidBox.cd.enc a).1 vs) (hh : HpR ρ (laws_FnExactValidBox.cd.enc a).2 w) :
    Calls Try.prog 6 vs.toArray w fun e w' => e = .returned (.bool true) ∧ Below w.heap.size w w' :=
  law_cd laws_FnExactValidBox.cd laws_FnExactValidBox.hC Try.func6 (by kernel_rfl) (by kernel_rfl) laws_FnExactValidBox.lp (fun a => by kernel_rfl) laws_FnExactValidBox.run (fun a => by kernel_rfl) a (by kernel_rfl) h hargs hh
end Go.Proofs.Ytlnfakbmigbdbaa
