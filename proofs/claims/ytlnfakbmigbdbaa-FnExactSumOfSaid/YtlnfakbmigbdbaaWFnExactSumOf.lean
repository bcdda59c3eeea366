/- The walk of FnExactSumOf: what each function that it comes to computes, as a tree of tests. -/
import Derived.Test.YtlnfakbmigbdbaaSxO
import Derived.Test.YtlnfakbmigbdbaaChecked
namespace Go.Proofs.Ytlnfakbmigbdbaa
open Go Go.RowKit Sx
set_option linter.unusedVariables false
set_option maxRecDepth 100000
set_option maxHeartbeats 0
noncomputable def ti1 : TI := ⟨Try.t1.desc, 1, 8, [.nf]⟩
theorem ti1_ok : TyOK Try.prog 1 ti1 := TyOK.of (inf := Try.t1) Try.underlying1 (by kernel_rfl) (by kernel_rfl) (by kernel_rfl) (by kernel_rfl)
noncomputable def ti2 : TI := ⟨Try.t2.desc, 1, 8, [.it .i64 (0 : Int)]⟩
theorem ti2_ok : TyOK Try.prog 2 ti2 := TyOK.of (inf := Try.t2) Try.underlying2 (by kernel_rfl) (by kernel_rfl) (by kernel_rfl) (by kernel_rfl)
noncomputable def ti3 : TI := ⟨Try.t3.desc, 1, 8, [.it .i64 (0 : Int)]⟩
theorem ti3_ok : TyOK Try.prog 3 ti3 := TyOK.of (inf := Try.t3) Try.underlying3 (by kernel_rfl) (by kernel_rfl) (by kernel_rfl) (by kernel_rfl)
noncomputable def ti4 : TI := ⟨Try.t4.desc, 1, 1, [.kb false]⟩
theorem ti4_ok : TyOK Try.prog 4 ti4 := TyOK.of (inf := Try.t4) Try.underlying4 (by kernel_rfl) (by kernel_rfl) (by kernel_rfl) (by kernel_rfl)
noncomputable def ti5 : TI := ⟨Try.t5.desc, 1, 1, [.it .u8 (0 : Int)]⟩
theorem ti5_ok : TyOK Try.prog 5 ti5 := TyOK.of (inf := Try.t5) Try.underlying5 (by kernel_rfl) (by kernel_rfl) (by kernel_rfl) (by kernel_rfl)
noncomputable def ti6 : TI := ⟨Try.t5.desc, 1, 1, [.it .u8 (0 : Int)]⟩
theorem ti6_ok : TyOK Try.prog 6 ti6 := TyOK.of (inf := Try.t6) Try.underlying6 (by kernel_rfl) (by kernel_rfl) (by kernel_rfl) (by kernel_rfl)
noncomputable def ti7 : TI := ⟨Try.t7.desc, 4, 24, [.it .i64 (0 : Int), .it .i64 (0 : Int), .kb false, .it .u8 (0 : Int)]⟩
theorem ti7_ok : TyOK Try.prog 7 ti7 := TyOK.of (inf := Try.t7) Try.underlying7 (by kernel_rfl) (by kernel_rfl) (by kernel_rfl) (by kernel_rfl)
noncomputable def ti8 : TI := ⟨Try.t7.desc, 4, 24, [.it .i64 (0 : Int), .it .i64 (0 : Int), .kb false, .it .u8 (0 : Int)]⟩
theorem ti8_ok : TyOK Try.prog 8 ti8 := TyOK.of (inf := Try.t8) Try.underlying8 (by kernel_rfl) (by kernel_rfl) (by kernel_rfl) (by kernel_rfl)
noncomputable def ti9 : TI := ⟨Try.t9.desc, 1, 16, [.st (ByteArray.mk #[])]⟩
theorem ti9_ok : TyOK Try.prog 9 ti9 := TyOK.of (inf := Try.t9) Try.underlying9 (by kernel_rfl) (by kernel_rfl) (by kernel_rfl) (by kernel_rfl)
noncomputable def ti10 : TI := ⟨Try.t9.desc, 1, 16, [.st (ByteArray.mk #[])]⟩
theorem ti10_ok : TyOK Try.prog 10 ti10 := TyOK.of (inf := Try.t10) Try.underlying10 (by kernel_rfl) (by kernel_rfl) (by kernel_rfl) (by kernel_rfl)
noncomputable def ti11 : TI := ⟨Try.t9.desc, 1, 16, [.st (ByteArray.mk #[])]⟩
theorem ti11_ok : TyOK Try.prog 11 ti11 := TyOK.of (inf := Try.t11) Try.underlying11 (by kernel_rfl) (by kernel_rfl) (by kernel_rfl) (by kernel_rfl)
noncomputable def ti12 : TI := ⟨Try.t12.desc, 1, 8, [.it .u64 (0 : Int)]⟩
theorem ti12_ok : TyOK Try.prog 12 ti12 := TyOK.of (inf := Try.t12) Try.underlying12 (by kernel_rfl) (by kernel_rfl) (by kernel_rfl) (by kernel_rfl)
noncomputable def ti13 : TI := ⟨Try.t13.desc, 2, 24, [.st (ByteArray.mk #[]), .it .u64 (0 : Int)]⟩
theorem ti13_ok : TyOK Try.prog 13 ti13 := TyOK.of (inf := Try.t13) Try.underlying13 (by kernel_rfl) (by kernel_rfl) (by kernel_rfl) (by kernel_rfl)
noncomputable def ti14 : TI := ⟨Try.t13.desc, 2, 24, [.st (ByteArray.mk #[]), .it .u64 (0 : Int)]⟩
theorem ti14_ok : TyOK Try.prog 14 ti14 := TyOK.of (inf := Try.t14) Try.underlying14 (by kernel_rfl) (by kernel_rfl) (by kernel_rfl) (by kernel_rfl)
noncomputable def ti15 : TI := ⟨Try.t15.desc, 1, 8, [.pn]⟩
theorem ti15_ok : TyOK Try.prog 15 ti15 := TyOK.of (inf := Try.t15) Try.underlying15 (by kernel_rfl) (by kernel_rfl) (by kernel_rfl) (by kernel_rfl)
noncomputable def ti16 : TI := ⟨Try.t16.desc, 1, 8, [.pn]⟩
theorem ti16_ok : TyOK Try.prog 16 ti16 := TyOK.of (inf := Try.t16) Try.underlying16 (by kernel_rfl) (by kernel_rfl) (by kernel_rfl) (by kernel_rfl)
noncomputable def ti17 : TI := ⟨Try.t17.desc, 1, 8, [.pn]⟩
theorem ti17_ok : TyOK Try.prog 17 ti17 := TyOK.of (inf := Try.t17) Try.underlying17 (by kernel_rfl) (by kernel_rfl) (by kernel_rfl) (by kernel_rfl)
noncomputable def ti18 : TI := ⟨Try.t18.desc, 1, 8, [.pn]⟩
theorem ti18_ok : TyOK Try.prog 18 ti18 := TyOK.of (inf := Try.t18) Try.underlying18 (by kernel_rfl) (by kernel_rfl) (by kernel_rfl) (by kernel_rfl)
noncomputable def ti19 : TI := ⟨Try.t18.desc, 1, 8, [.pn]⟩
theorem ti19_ok : TyOK Try.prog 19 ti19 := TyOK.of (inf := Try.t19) Try.underlying19 (by kernel_rfl) (by kernel_rfl) (by kernel_rfl) (by kernel_rfl)
noncomputable def ti21 : TI := ⟨Try.t21.desc, 1, 4, [.it .i32 (0 : Int)]⟩
theorem ti21_ok : TyOK Try.prog 21 ti21 := TyOK.of (inf := Try.t21) Try.underlying21 (by kernel_rfl) (by kernel_rfl) (by kernel_rfl) (by kernel_rfl)
noncomputable def ti22 : TI := ⟨Try.t22.desc, 1, 4, [.fl .f32 0]⟩
theorem ti22_ok : TyOK Try.prog 22 ti22 := TyOK.of (inf := Try.t22) Try.underlying22 (by kernel_rfl) (by kernel_rfl) (by kernel_rfl) (by kernel_rfl)
noncomputable def ti23 : TI := ⟨Try.t23.desc, 1, 8, [.nf]⟩
theorem ti23_ok : TyOK Try.prog 23 ti23 := TyOK.of (inf := Try.t23) Try.underlying23 (by kernel_rfl) (by kernel_rfl) (by kernel_rfl) (by kernel_rfl)
noncomputable def ti24 : TI := ⟨Try.t24.desc, 4, 16, [.fl .f32 0, .fl .f32 0, .fl .f32 0, .fl .f32 0]⟩
theorem ti24_ok : TyOK Try.prog 24 ti24 := TyOK.of (inf := Try.t24) Try.underlying24 (by kernel_rfl) (by kernel_rfl) (by kernel_rfl) (by kernel_rfl)
noncomputable def ti25 : TI := ⟨Try.t24.desc, 4, 16, [.fl .f32 0, .fl .f32 0, .fl .f32 0, .fl .f32 0]⟩
theorem ti25_ok : TyOK Try.prog 25 ti25 := TyOK.of (inf := Try.t25) Try.underlying25 (by kernel_rfl) (by kernel_rfl) (by kernel_rfl) (by kernel_rfl)
noncomputable def ti26 : TI := ⟨Try.t26.desc, 1, 8, [.nf]⟩
theorem ti26_ok : TyOK Try.prog 26 ti26 := TyOK.of (inf := Try.t26) Try.underlying26 (by kernel_rfl) (by kernel_rfl) (by kernel_rfl) (by kernel_rfl)
noncomputable def ti27 : TI := ⟨Try.t24.desc, 4, 16, [.fl .f32 0, .fl .f32 0, .fl .f32 0, .fl .f32 0]⟩
theorem ti27_ok : TyOK Try.prog 27 ti27 := TyOK.of (inf := Try.t27) Try.underlying27 (by kernel_rfl) (by kernel_rfl) (by kernel_rfl) (by kernel_rfl)
noncomputable def ti28 : TI := ⟨Try.t28.desc, 1, 8, [.nf]⟩
theorem ti28_ok : TyOK Try.prog 28 ti28 := TyOK.of (inf := Try.t28) Try.underlying28 (by kernel_rfl) (by kernel_rfl) (by kernel_rfl) (by kernel_rfl)
noncomputable def ti29 : TI := ⟨Try.t29.desc, 1, 8, [.nf]⟩
theorem ti29_ok : TyOK Try.prog 29 ti29 := TyOK.of (inf := Try.t29) Try.underlying29 (by kernel_rfl) (by kernel_rfl) (by kernel_rfl) (by kernel_rfl)
noncomputable def ti30 : TI := ⟨Try.t30.desc, 1, 8, [.nf]⟩
theorem ti30_ok : TyOK Try.prog 30 ti30 := TyOK.of (inf := Try.t30) Try.underlying30 (by kernel_rfl) (by kernel_rfl) (by kernel_rfl) (by kernel_rfl)
noncomputable def ti31 : TI := ⟨Try.t31.desc, 1, 8, [.nf]⟩
theorem ti31_ok : TyOK Try.prog 31 ti31 := TyOK.of (inf := Try.t31) Try.underlying31 (by kernel_rfl) (by kernel_rfl) (by kernel_rfl) (by kernel_rfl)
noncomputable def ti32 : TI := ⟨Try.t32.desc, 1, 24, [.sn]⟩
theorem ti32_ok : TyOK Try.prog 32 ti32 := TyOK.of (inf := Try.t32) Try.underlying32 (by kernel_rfl) (by kernel_rfl) (by kernel_rfl) (by kernel_rfl)
noncomputable def ti33 : TI := ⟨Try.t33.desc, 1, 8, [.nf]⟩
theorem ti33_ok : TyOK Try.prog 33 ti33 := TyOK.of (inf := Try.t33) Try.underlying33 (by kernel_rfl) (by kernel_rfl) (by kernel_rfl) (by kernel_rfl)
noncomputable def ti34 : TI := ⟨Try.t34.desc, 1, 8, [.nf]⟩
theorem ti34_ok : TyOK Try.prog 34 ti34 := TyOK.of (inf := Try.t34) Try.underlying34 (by kernel_rfl) (by kernel_rfl) (by kernel_rfl) (by kernel_rfl)
noncomputable def ti35 : TI := ⟨Try.t35.desc, 1, 8, [.nf]⟩
theorem ti35_ok : TyOK Try.prog 35 ti35 := TyOK.of (inf := Try.t35) Try.underlying35 (by kernel_rfl) (by kernel_rfl) (by kernel_rfl) (by kernel_rfl)
noncomputable def ti37 : TI := ⟨Try.t37.desc, 1, 8, [.nf]⟩
theorem ti37_ok : TyOK Try.prog 37 ti37 := TyOK.of (inf := Try.t37) Try.underlying37 (by kernel_rfl) (by kernel_rfl) (by kernel_rfl) (by kernel_rfl)
noncomputable def ti38 : TI := ⟨Try.t38.desc, 1, 8, [.nf]⟩
theorem ti38_ok : TyOK Try.prog 38 ti38 := TyOK.of (inf := Try.t38) Try.underlying38 (by kernel_rfl) (by kernel_rfl) (by kernel_rfl) (by kernel_rfl)
noncomputable def ti39 : TI := ⟨Try.t39.desc, 1, 8, [.fl .f64 0]⟩
theorem ti39_ok : TyOK Try.prog 39 ti39 := TyOK.of (inf := Try.t39) Try.underlying39 (by kernel_rfl) (by kernel_rfl) (by kernel_rfl) (by kernel_rfl)
noncomputable def ti40 : TI := ⟨Try.t40.desc, 1, 8, [.nf]⟩
theorem ti40_ok : TyOK Try.prog 40 ti40 := TyOK.of (inf := Try.t40) Try.underlying40 (by kernel_rfl) (by kernel_rfl) (by kernel_rfl) (by kernel_rfl)
noncomputable def ti41 : TI := ⟨Try.t41.desc, 1, 24, [.sn]⟩
theorem ti41_ok : TyOK Try.prog 41 ti41 := TyOK.of (inf := Try.t41) Try.underlying41 (by kernel_rfl) (by kernel_rfl) (by kernel_rfl) (by kernel_rfl)
noncomputable def ti42 : TI := ⟨Try.t42.desc, 1, 8, [.nf]⟩
theorem ti42_ok : TyOK Try.prog 42 ti42 := TyOK.of (inf := Try.t42) Try.underlying42 (by kernel_rfl) (by kernel_rfl) (by kernel_rfl) (by kernel_rfl)
noncomputable def ti43 : TI := ⟨Try.t43.desc, 1, 8, [.nf]⟩
theorem ti43_ok : TyOK Try.prog 43 ti43 := TyOK.of (inf := Try.t43) Try.underlying43 (by kernel_rfl) (by kernel_rfl) (by kernel_rfl) (by kernel_rfl)
noncomputable def ti44 : TI := ⟨Try.t44.desc, 1, 8, [.nf]⟩
theorem ti44_ok : TyOK Try.prog 44 ti44 := TyOK.of (inf := Try.t44) Try.underlying44 (by kernel_rfl) (by kernel_rfl) (by kernel_rfl) (by kernel_rfl)
noncomputable def ti45 : TI := ⟨Try.t45.desc, 1, 8, [.nf]⟩
theorem ti45_ok : TyOK Try.prog 45 ti45 := TyOK.of (inf := Try.t45) Try.underlying45 (by kernel_rfl) (by kernel_rfl) (by kernel_rfl) (by kernel_rfl)
noncomputable def ti46 : TI := ⟨Try.t46.desc, 1, 8, [.nf]⟩
theorem ti46_ok : TyOK Try.prog 46 ti46 := TyOK.of (inf := Try.t46) Try.underlying46 (by kernel_rfl) (by kernel_rfl) (by kernel_rfl) (by kernel_rfl)
noncomputable def ti47 : TI := ⟨Try.t47.desc, 1, 2, [.it .i16 (0 : Int)]⟩
theorem ti47_ok : TyOK Try.prog 47 ti47 := TyOK.of (inf := Try.t47) Try.underlying47 (by kernel_rfl) (by kernel_rfl) (by kernel_rfl) (by kernel_rfl)
noncomputable def ti48 : TI := ⟨Try.t48.desc, 1, 8, [.nf]⟩
theorem ti48_ok : TyOK Try.prog 48 ti48 := TyOK.of (inf := Try.t48) Try.underlying48 (by kernel_rfl) (by kernel_rfl) (by kernel_rfl) (by kernel_rfl)
noncomputable def ti49 : TI := ⟨Try.t49.desc, 1, 8, [.nf]⟩
theorem ti49_ok : TyOK Try.prog 49 ti49 := TyOK.of (inf := Try.t49) Try.underlying49 (by kernel_rfl) (by kernel_rfl) (by kernel_rfl) (by kernel_rfl)
noncomputable def ti50 : TI := ⟨Try.t50.desc, 1, 8, [.nf]⟩
theorem ti50_ok : TyOK Try.prog 50 ti50 := TyOK.of (inf := Try.t50) Try.underlying50 (by kernel_rfl) (by kernel_rfl) (by kernel_rfl) (by kernel_rfl)
noncomputable def ti51 : TI := ⟨Try.t51.desc, 1, 4, [.it .u32 (0 : Int)]⟩
theorem ti51_ok : TyOK Try.prog 51 ti51 := TyOK.of (inf := Try.t51) Try.underlying51 (by kernel_rfl) (by kernel_rfl) (by kernel_rfl) (by kernel_rfl)
noncomputable def ti52 : TI := ⟨Try.t52.desc, 1, 8, [.nf]⟩
theorem ti52_ok : TyOK Try.prog 52 ti52 := TyOK.of (inf := Try.t52) Try.underlying52 (by kernel_rfl) (by kernel_rfl) (by kernel_rfl) (by kernel_rfl)
noncomputable def ti53 : TI := ⟨Try.t53.desc, 1, 8, [.nf]⟩
theorem ti53_ok : TyOK Try.prog 53 ti53 := TyOK.of (inf := Try.t53) Try.underlying53 (by kernel_rfl) (by kernel_rfl) (by kernel_rfl) (by kernel_rfl)
noncomputable def ti54 : TI := ⟨Try.t54.desc, 1, 8, [.nf]⟩
theorem ti54_ok : TyOK Try.prog 54 ti54 := TyOK.of (inf := Try.t54) Try.underlying54 (by kernel_rfl) (by kernel_rfl) (by kernel_rfl) (by kernel_rfl)
noncomputable def ti55 : TI := ⟨Try.t55.desc, 4, 40, [.pn, .pn, .pn, .st (ByteArray.mk #[])]⟩
theorem ti55_ok : TyOK Try.prog 55 ti55 := TyOK.of (inf := Try.t55) Try.underlying55 (by kernel_rfl) (by kernel_rfl) (by kernel_rfl) (by kernel_rfl)
noncomputable def ti56 : TI := ⟨Try.t55.desc, 4, 40, [.pn, .pn, .pn, .st (ByteArray.mk #[])]⟩
theorem ti56_ok : TyOK Try.prog 56 ti56 := TyOK.of (inf := Try.t56) Try.underlying56 (by kernel_rfl) (by kernel_rfl) (by kernel_rfl) (by kernel_rfl)
noncomputable def ti57 : TI := ⟨Try.t57.desc, 0, 0, []⟩
theorem ti57_ok : TyOK Try.prog 57 ti57 := TyOK.of (inf := Try.t57) Try.underlying57 (by kernel_rfl) (by kernel_rfl) (by kernel_rfl) (by kernel_rfl)
noncomputable def ti58 : TI := ⟨Try.t58.desc, 0, 0, []⟩
theorem ti58_ok : TyOK Try.prog 58 ti58 := TyOK.of (inf := Try.t58) Try.underlying58 (by kernel_rfl) (by kernel_rfl) (by kernel_rfl) (by kernel_rfl)
noncomputable def ti59 : TI := ⟨Try.t58.desc, 0, 0, []⟩
theorem ti59_ok : TyOK Try.prog 59 ti59 := TyOK.of (inf := Try.t59) Try.underlying59 (by kernel_rfl) (by kernel_rfl) (by kernel_rfl) (by kernel_rfl)
noncomputable def ti60 : TI := ⟨Try.t60.desc, 1, 8, [.nf]⟩
theorem ti60_ok : TyOK Try.prog 60 ti60 := TyOK.of (inf := Try.t60) Try.underlying60 (by kernel_rfl) (by kernel_rfl) (by kernel_rfl) (by kernel_rfl)
noncomputable def ti61 : TI := ⟨Try.t5.desc, 1, 1, [.it .u8 (0 : Int)]⟩
theorem ti61_ok : TyOK Try.prog 61 ti61 := TyOK.of (inf := Try.t61) Try.underlying61 (by kernel_rfl) (by kernel_rfl) (by kernel_rfl) (by kernel_rfl)
noncomputable def ti62 : TI := ⟨Try.t5.desc, 1, 1, [.it .u8 (0 : Int)]⟩
theorem ti62_ok : TyOK Try.prog 62 ti62 := TyOK.of (inf := Try.t62) Try.underlying62 (by kernel_rfl) (by kernel_rfl) (by kernel_rfl) (by kernel_rfl)
noncomputable def ti63 : TI := ⟨Try.t63.desc, 1, 8, [.nf]⟩
theorem ti63_ok : TyOK Try.prog 63 ti63 := TyOK.of (inf := Try.t63) Try.underlying63 (by kernel_rfl) (by kernel_rfl) (by kernel_rfl) (by kernel_rfl)
noncomputable def ti64 : TI := ⟨Try.t64.desc, 1, 8, [.pn]⟩
theorem ti64_ok : TyOK Try.prog 64 ti64 := TyOK.of (inf := Try.t64) Try.underlying64 (by kernel_rfl) (by kernel_rfl) (by kernel_rfl) (by kernel_rfl)
noncomputable def ti65 : TI := ⟨Try.t21.desc, 1, 4, [.it .i32 (0 : Int)]⟩
theorem ti65_ok : TyOK Try.prog 65 ti65 := TyOK.of (inf := Try.t65) Try.underlying65 (by kernel_rfl) (by kernel_rfl) (by kernel_rfl) (by kernel_rfl)
noncomputable def ti66 : TI := ⟨Try.t21.desc, 1, 4, [.it .i32 (0 : Int)]⟩
theorem ti66_ok : TyOK Try.prog 66 ti66 := TyOK.of (inf := Try.t66) Try.underlying66 (by kernel_rfl) (by kernel_rfl) (by kernel_rfl) (by kernel_rfl)
noncomputable def ti67 : TI := ⟨Try.t67.desc, 11, 48, [.it .u64 (0 : Int), .it .u64 (0 : Int), .it .u32 (0 : Int), .it .u8 (0 : Int), .it .u8 (0 : Int), .it .u8 (0 : Int), .it .u8 (0 : Int), .nf, .pn, .it .i32 (0 : Int), .it .i32 (0 : Int)]⟩
theorem ti67_ok : TyOK Try.prog 67 ti67 := TyOK.of (inf := Try.t67) Try.underlying67 (by kernel_rfl) (by kernel_rfl) (by kernel_rfl) (by kernel_rfl)
noncomputable def ti68 : TI := ⟨Try.t67.desc, 11, 48, [.it .u64 (0 : Int), .it .u64 (0 : Int), .it .u32 (0 : Int), .it .u8 (0 : Int), .it .u8 (0 : Int), .it .u8 (0 : Int), .it .u8 (0 : Int), .nf, .pn, .it .i32 (0 : Int), .it .i32 (0 : Int)]⟩
theorem ti68_ok : TyOK Try.prog 68 ti68 := TyOK.of (inf := Try.t68) Try.underlying68 (by kernel_rfl) (by kernel_rfl) (by kernel_rfl) (by kernel_rfl)
noncomputable def ti69 : TI := ⟨Try.t69.desc, 1, 8, [.pn]⟩
theorem ti69_ok : TyOK Try.prog 69 ti69 := TyOK.of (inf := Try.t69) Try.underlying69 (by kernel_rfl) (by kernel_rfl) (by kernel_rfl) (by kernel_rfl)
noncomputable def tys : List (Nat × TI) := [(1, ti1), (2, ti2), (3, ti3), (4, ti4), (5, ti5), (6, ti6), (7, ti7), (8, ti8), (9, ti9), (10, ti10), (11, ti11), (12, ti12), (13, ti13), (14, ti14), (15, ti15), (16, ti16), (17, ti17), (18, ti18), (19, ti19), (21, ti21), (22, ti22), (23, ti23), (24, ti24), (25, ti25), (26, ti26), (27, ti27), (28, ti28), (29, ti29), (30, ti30), (31, ti31), (32, ti32), (33, ti33), (34, ti34), (35, ti35), (37, ti37), (38, ti38), (39, ti39), (40, ti40), (41, ti41), (42, ti42), (43, ti43), (44, ti44), (45, ti45), (46, ti46), (47, ti47), (48, ti48), (49, ti49), (50, ti50), (51, ti51), (52, ti52), (53, ti53), (54, ti54), (55, ti55), (56, ti56), (57, ti57), (58, ti58), (59, ti59), (60, ti60), (61, ti61), (62, ti62), (63, ti63), (64, ti64), (65, ti65), (66, ti66), (67, ti67), (68, ti68), (69, ti69)]
theorem mo : Try.prog.follows .mixedOrders = true := by kernel_rfl
theorem tys_ok : TysOK Try.prog tys := (TysOK.cons ti1_ok (TysOK.cons ti2_ok (TysOK.cons ti3_ok (TysOK.cons ti4_ok (TysOK.cons ti5_ok (TysOK.cons ti6_ok (TysOK.cons ti7_ok (TysOK.cons ti8_ok (TysOK.cons ti9_ok (TysOK.cons ti10_ok (TysOK.cons ti11_ok (TysOK.cons ti12_ok (TysOK.cons ti13_ok (TysOK.cons ti14_ok (TysOK.cons ti15_ok (TysOK.cons ti16_ok (TysOK.cons ti17_ok (TysOK.cons ti18_ok (TysOK.cons ti19_ok (TysOK.cons ti21_ok (TysOK.cons ti22_ok (TysOK.cons ti23_ok (TysOK.cons ti24_ok (TysOK.cons ti25_ok (TysOK.cons ti26_ok (TysOK.cons ti27_ok (TysOK.cons ti28_ok (TysOK.cons ti29_ok (TysOK.cons ti30_ok (TysOK.cons ti31_ok (TysOK.cons ti32_ok (TysOK.cons ti33_ok (TysOK.cons ti34_ok (TysOK.cons ti35_ok (TysOK.cons ti37_ok (TysOK.cons ti38_ok (TysOK.cons ti39_ok (TysOK.cons ti40_ok (TysOK.cons ti41_ok (TysOK.cons ti42_ok (TysOK.cons ti43_ok (TysOK.cons ti44_ok (TysOK.cons ti45_ok (TysOK.cons ti46_ok (TysOK.cons ti47_ok (TysOK.cons ti48_ok (TysOK.cons ti49_ok (TysOK.cons ti50_ok (TysOK.cons ti51_ok (TysOK.cons ti52_ok (TysOK.cons ti53_ok (TysOK.cons ti54_ok (TysOK.cons ti55_ok (TysOK.cons ti56_ok (TysOK.cons ti57_ok (TysOK.cons ti58_ok (TysOK.cons ti59_ok (TysOK.cons ti60_ok (TysOK.cons ti61_ok (TysOK.cons ti62_ok (TysOK.cons ti63_ok (TysOK.cons ti64_ok (TysOK.cons ti65_ok (TysOK.cons ti66_ok (TysOK.cons ti67_ok (TysOK.cons ti68_ok (TysOK.cons ti69_ok TysOK.nil)))))))))))))))))))))))))))))))))))))))))))))))))))))))))))))))))))
/-! ### laws_toFloat32S -/
noncomputable def laws_toFloat32S.b : Code := bodyOf Try.f24
noncomputable def laws_toFloat32S.l3.s (x0 : Nat) (x1 : Nat) (x2 : Int) (x3 : List Nat) (x4 : List Nat) : T ((Int × List Nat) ⊕ (List Nat)) :=
  .br (decide (x2 < ((x0 : Nat) : Int)))
  (.br (bounds x2 x0)
   (.br (Nat.ble ((0 + (Int.toNat x2 * 1)) + 1) (List.length x3))
    (.br (bounds x2 x1)
     (.br (Nat.ble ((Int.toNat x2 * 1) + 1) (List.length x4))
      (.leaf (.inl ((IntKind.wrap .i64 (x2 + (1 : Int))), (List.set x4 (Int.toNat x2 * 1) (List.getD x3 (0 + (Int.toNat x2 * 1)) 0)))))
      .bad)
     .bad)
    .bad)
   .bad)
  (.leaf (.inr x4))
noncomputable def laws_toFloat32S.l3.st (p : Nat × Nat × List Nat) (x : Int × List Nat) : T ((Int × List Nat) ⊕ (List Nat)) := laws_toFloat32S.l3.s p.1 p.2.1 x.1 p.2.2 x.2
noncomputable def laws_toFloat32S.l3.r (p : Nat × Nat × List Nat) (x : Int × List Nat) : Option (List Nat) := iterT (laws_toFloat32S.l3.st p) manyRounds x
def laws_toFloat32S.l3.cd : Cd ((Nat × Nat × List Nat) × (Int × List Nat)) (List V × Hp) := Cd.iso (Cd.pair (Cd.cons (Cd.sl 0 (Cd.natc 0)) (Cd.cons (Cd.own 1) (Cd.cons (Cd.it .i64) Cd.nil))) (Cd.cons (Cd.ro 0 0 (Cd.fs .f32)) (Cd.cons (Cd.rw 22 1 (Cd.fs .f32)) Cd.nil))) (fun a => ((a.1.1.2, a.1.2.1, a.2.1), (a.1.2.2.1, a.2.2.1))) (fun a => ((((), a.1.1), (a.1.2.1, (a.2.1, ()))), (a.1.2.2, (a.2.2, ())))) (fun _ => rfl)
def laws_toFloat32S.l3.out (p : Nat × Nat × List Nat) : (List Nat) → X × List V × Hp := (fun r => (.ex 0, [.own 1 p.2.1], [some ⟨false, 0, 0, .fs .f32 p.2.2⟩, some ⟨true, 22, 1, .fs .f32 r⟩]))
def laws_toFloat32S.l3.ex (p : Nat × Nat × List Nat) : (List Nat) → T (X × List V × Hp) := leafT (fun r => (.ex 0, [.own 1 p.2.1], [some ⟨false, 0, 0, .fs .f32 p.2.2⟩, some ⟨true, 22, 1, .fs .f32 r⟩]))
noncomputable def laws_toFloat32S.l3.c : List V → Hp → T (X × List V × Hp) := cdL laws_toFloat32S.l3.cd fun x => optT (laws_toFloat32S.l3.r x.1 x.2) (laws_toFloat32S.l3.ex x.1)
noncomputable def laws_toFloat32S.C : Ctx := { ty := tys, fn := [], lp := [(3, ⟨[0, 3, 4], [3], laws_toFloat32S.l3.c⟩)], n := 22, k := 1 }
theorem laws_toFloat32S.hC : CtxOK Try.prog laws_toFloat32S.C := CtxOK.of mo tys_ok FnsOK.nil
noncomputable def laws_toFloat32S.b3 : Code := (nthC (loopsOf laws_toFloat32S.b) 0)
theorem laws_toFloat32S.lp3 : LpOK Try.prog laws_toFloat32S.C laws_toFloat32S.b3 := (LpOK.nil (by kernel_rfl))
theorem laws_toFloat32S.l3.round (p : Nat × Nat × List Nat) (s : Int × List Nat) : roundL laws_toFloat32S.C [0, 3, 4] [3] laws_toFloat32S.b3 (laws_toFloat32S.l3.cd.enc (p, s)).1 (laws_toFloat32S.l3.cd.enc (p, s)).2 = (laws_toFloat32S.l3.st p s).map (encSum (fun s => laws_toFloat32S.l3.cd.enc (p, s)) (laws_toFloat32S.l3.out p)) := by kernel_rfl
theorem laws_toFloat32S.l3.lok : LoopOK Try.prog laws_toFloat32S.C ⟨[0, 3, 4], [3], laws_toFloat32S.l3.c⟩ laws_toFloat32S.b3 := loop_cd laws_toFloat32S.l3.cd laws_toFloat32S.hC laws_toFloat32S.lp3 laws_toFloat32S.l3.round fun p => Gets.leaf
theorem laws_toFloat32S.lp : LpOK Try.prog laws_toFloat32S.C laws_toFloat32S.b := lp_of (by kernel_rfl) (LpsOK.cons (k := 3) (by kernel_rfl) (by kernel_rfl) laws_toFloat32S.l3.lok LpsOK.nil)
noncomputable def laws_toFloat32S.t (x0 : Nat) (x1 : List Nat) : T (Nat × List Nat) :=
  .br (decide (0 ≤ ((x0 : Nat) : Int)) && decide (((x0 : Nat) : Int) ≤ ((x0 : Nat) : Int)) && decide (((x0 : Nat) : Int) ≤ 35184372088832) && decide (((4 : Nat) : Int) * ((x0 : Nat) : Int) ≤ 35184372088832))
  (.br (Option.isSome (laws_toFloat32S.l3.r (x0, (Int.toNat ((x0 : Nat) : Int)), x1) ((0 : Int), (List.replicate ((Int.toNat ((x0 : Nat) : Int)) * 1) 0))))
   (.leaf ((Int.toNat ((x0 : Nat) : Int)), (Option.getD (laws_toFloat32S.l3.r (x0, (Int.toNat ((x0 : Nat) : Int)), x1) ((0 : Int), (List.replicate ((Int.toNat ((x0 : Nat) : Int)) * 1) 0))) default)))
   .bad)
  .bad
noncomputable def laws_toFloat32S (x0 : Nat) (x1 : List Nat) : Nat × List Nat := (laws_toFloat32S.t x0 x1).val
noncomputable def laws_toFloat32S.ok (x0 : Nat) (x1 : List Nat) : Bool := (laws_toFloat32S.t x0 x1).ok
def laws_toFloat32S.cd : Cd (Nat × List Nat) (List V × Hp) := Cd.iso (Cd.pair (Cd.cons (Cd.sl 0 (Cd.natc 0)) Cd.nil) (Cd.cons (Cd.ro 0 0 (Cd.fs .f32)) Cd.nil)) (fun a => (a.1.1.2, a.2.1)) (fun a => ((((), a.1), ()), (a.2, ()))) (fun _ => rfl)
noncomputable def laws_toFloat32S.tr (a : Nat × List Nat) : T (Nat × List Nat) := laws_toFloat32S.t a.1 a.2
def laws_toFloat32S.enc : (Nat × List Nat) → (Nat × List Nat) → V × Hp := fun a r => (.own 1 r.1, [some ⟨false, 0, 0, .fs .f32 a.2⟩, some ⟨true, 22, 1, .fs .f32 r.2⟩])
noncomputable def laws_toFloat32S.c : List V → Hp → T (V × Hp) := cdE laws_toFloat32S.cd (fun a => .br (laws_toFloat32S.ok a.1 a.2) (.leaf (laws_toFloat32S.enc a (laws_toFloat32S a.1 a.2))) .bad)
theorem laws_toFloat32S.run (a : Nat × List Nat) : runF laws_toFloat32S.C Try.f24.results.toList laws_toFloat32S.b (laws_toFloat32S.cd.enc a).1 (laws_toFloat32S.cd.enc a).2 = (laws_toFloat32S.tr a).map (laws_toFloat32S.enc a) := by kernel_rfl
theorem laws_toFloat32S.cok : OKe Try.prog 24 laws_toFloat32S.c := con_e' laws_toFloat32S.cd laws_toFloat32S.hC Try.func24 (by kernel_rfl) (by kernel_rfl) (by kernel_rfl) laws_toFloat32S.lp (fun a => by kernel_rfl) laws_toFloat32S.run (Tells.ok (tree := laws_toFloat32S.tr))
/-! ### spec_SumOf -/
noncomputable def spec_SumOf.b : Code := bodyOf Try.f23
noncomputable def spec_SumOf.l5.s (x0 : Nat) (x1 : Nat) (x2 : Int) (x3 : List Nat) : T ((Nat × Int) ⊕ Nat) :=
  .br (decide (x2 < ((x0 : Nat) : Int)))
  (.br (bounds x2 x0)
   (.br (Nat.ble ((Int.toNat x2 * 1) + 1) (List.length x3))
    (.leaf (.inl ((fadd .f32 x1 (List.getD x3 (Int.toNat x2 * 1) 0)), (IntKind.wrap .i64 (x2 + (1 : Int))))))
    .bad)
   .bad)
  (.leaf (.inr x1))
noncomputable def spec_SumOf.l5.st (p : Nat × List Nat) (x : Nat × Int) : T ((Nat × Int) ⊕ Nat) := spec_SumOf.l5.s p.1 x.1 x.2 p.2
noncomputable def spec_SumOf.l5.r (p : Nat × List Nat) (x : Nat × Int) : Option Nat := iterT (spec_SumOf.l5.st p) manyRounds x
def spec_SumOf.l5.cd : Cd ((Nat × List Nat) × (Nat × Int)) (List V × Hp) := Cd.iso (Cd.pair (Cd.cons (Cd.own 0) (Cd.cons (Cd.fl .f32) (Cd.cons (Cd.it .i64) Cd.nil))) (Cd.cons (Cd.rw 22 1 (Cd.fs .f32)) Cd.nil)) (fun a => ((a.1.1, a.2.1), (a.1.2.1, a.1.2.2.1))) (fun a => ((a.1.1, (a.2.1, (a.2.2, ()))), (a.1.2, ()))) (fun _ => rfl)
def spec_SumOf.l5.out (p : Nat × List Nat) : Nat → X × List V × Hp := (fun r => (.ex 0, [.fl .f32 r], [some ⟨true, 22, 1, .fs .f32 p.2⟩]))
def spec_SumOf.l5.ex (p : Nat × List Nat) : Nat → T (X × List V × Hp) := leafT (fun r => (.ex 0, [.fl .f32 r], [some ⟨true, 22, 1, .fs .f32 p.2⟩]))
noncomputable def spec_SumOf.l5.c : List V → Hp → T (X × List V × Hp) := cdL spec_SumOf.l5.cd fun x => optT (spec_SumOf.l5.r x.1 x.2) (spec_SumOf.l5.ex x.1)
noncomputable def spec_SumOf.C : Ctx := { ty := tys, fn := [], lp := [(5, ⟨[0, 4, 5], [4], spec_SumOf.l5.c⟩)], n := 22, k := 1 }
theorem spec_SumOf.hC : CtxOK Try.prog spec_SumOf.C := CtxOK.of mo tys_ok FnsOK.nil
noncomputable def spec_SumOf.b5 : Code := (nthC (loopsOf spec_SumOf.b) 0)
theorem spec_SumOf.lp5 : LpOK Try.prog spec_SumOf.C spec_SumOf.b5 := (LpOK.nil (by kernel_rfl))
theorem spec_SumOf.l5.round (p : Nat × List Nat) (s : Nat × Int) : roundL spec_SumOf.C [0, 4, 5] [4] spec_SumOf.b5 (spec_SumOf.l5.cd.enc (p, s)).1 (spec_SumOf.l5.cd.enc (p, s)).2 = (spec_SumOf.l5.st p s).map (encSum (fun s => spec_SumOf.l5.cd.enc (p, s)) (spec_SumOf.l5.out p)) := by kernel_rfl
theorem spec_SumOf.l5.lok : LoopOK Try.prog spec_SumOf.C ⟨[0, 4, 5], [4], spec_SumOf.l5.c⟩ spec_SumOf.b5 := loop_cd spec_SumOf.l5.cd spec_SumOf.hC spec_SumOf.lp5 spec_SumOf.l5.round fun p => Gets.leaf
theorem spec_SumOf.lp : LpOK Try.prog spec_SumOf.C spec_SumOf.b := lp_of (by kernel_rfl) (LpsOK.cons (k := 5) (by kernel_rfl) (by kernel_rfl) spec_SumOf.l5.lok LpsOK.nil)
noncomputable def spec_SumOf.t (x0 : Nat) (x1 : List Nat) : T (Nat × Int) :=
  .br (decide (((x0 : Nat) : Int) > (60 : Int)))
  (.leaf (0, (3 : Int)))
  (.br (Option.isSome (spec_SumOf.l5.r (x0, x1) (0, (0 : Int))))
   (.leaf ((Option.getD (spec_SumOf.l5.r (x0, x1) (0, (0 : Int))) default), (0 : Int)))
   .bad)
noncomputable def spec_SumOf (x0 : Nat) (x1 : List Nat) : Nat × Int := (spec_SumOf.t x0 x1).val
noncomputable def spec_SumOf.ok (x0 : Nat) (x1 : List Nat) : Bool := (spec_SumOf.t x0 x1).ok
def spec_SumOf.cd : Cd (Nat × List Nat) (List V × Hp) := Cd.iso (Cd.pair (Cd.cons (Cd.own 0) Cd.nil) (Cd.cons (Cd.rw 22 1 (Cd.fs .f32)) Cd.nil)) (fun a => (a.1.1, a.2.1)) (fun a => ((a.1, ()), (a.2, ()))) (fun _ => rfl)
noncomputable def spec_SumOf.tr (a : Nat × List Nat) : T (Nat × Int) := spec_SumOf.t a.1 a.2
def spec_SumOf.enc : (Nat × List Nat) → (Nat × Int) → V := fun a r => .tup [.fl .f32 r.1, .it .i64 r.2]
noncomputable def spec_SumOf.c : List V → Hp → T V := cdQ spec_SumOf.cd (fun a => .br (spec_SumOf.ok a.1 a.2) (.leaf (spec_SumOf.enc a (spec_SumOf a.1 a.2))) .bad)
theorem spec_SumOf.run (a : Nat × List Nat) : runF spec_SumOf.C Try.f23.results.toList spec_SumOf.b (spec_SumOf.cd.enc a).1 (spec_SumOf.cd.enc a).2 = (spec_SumOf.tr a).map fun r => (spec_SumOf.enc a r, (spec_SumOf.cd.enc a).2) := by kernel_rfl
theorem spec_SumOf.cok : OKq Try.prog 23 spec_SumOf.c := con_q' spec_SumOf.cd spec_SumOf.hC Try.func23 (by kernel_rfl) (by kernel_rfl) (by kernel_rfl) spec_SumOf.lp (fun a => by kernel_rfl) spec_SumOf.run (Tells.ok (tree := spec_SumOf.tr))
/-! ### impl_SumOf -/
noncomputable def impl_SumOf.b : Code := bodyOf Try.f25
noncomputable def impl_SumOf.l5.s (x0 : Nat) (x1 : Nat) (x2 : Int) (x3 : Int) (x4 : List Nat) : T ((Nat × Int) ⊕ Nat) :=
  .br (decide (x3 < x2))
  (.br (bounds x3 x1)
   (.br (Nat.ble ((Int.toNat x3 * 1) + 1) (List.length x4))
    (.leaf (.inl ((fadd .f32 x0 (List.getD x4 (Int.toNat x3 * 1) 0)), (IntKind.wrap .i64 (x3 + (1 : Int))))))
    .bad)
   .bad)
  (.leaf (.inr x0))
noncomputable def impl_SumOf.l5.st (p : Nat × Int × List Nat) (x : Nat × Int) : T ((Nat × Int) ⊕ Nat) := impl_SumOf.l5.s x.1 p.1 p.2.1 x.2 p.2.2
noncomputable def impl_SumOf.l5.r (p : Nat × Int × List Nat) (x : Nat × Int) : Option Nat := iterT (impl_SumOf.l5.st p) manyRounds x
def impl_SumOf.l5.cd : Cd ((Nat × Int × List Nat) × (Nat × Int)) (List V × Hp) := Cd.iso (Cd.pair (Cd.cons (Cd.fl .f32) (Cd.cons (Cd.own 0) (Cd.cons (Cd.it .i64) (Cd.cons (Cd.it .i64) Cd.nil)))) (Cd.cons (Cd.rw 22 1 (Cd.fs .f32)) Cd.nil)) (fun a => ((a.1.2.1, a.1.2.2.1, a.2.1), (a.1.1, a.1.2.2.2.1))) (fun a => ((a.2.1, (a.1.1, (a.1.2.1, (a.2.2, ())))), (a.1.2.2, ()))) (fun _ => rfl)
def impl_SumOf.l5.out (p : Nat × Int × List Nat) : Nat → X × List V × Hp := (fun r => (.ex 0, [.fl .f32 r], [some ⟨true, 22, 1, .fs .f32 p.2.2⟩]))
def impl_SumOf.l5.ex (p : Nat × Int × List Nat) : Nat → T (X × List V × Hp) := leafT (fun r => (.ex 0, [.fl .f32 r], [some ⟨true, 22, 1, .fs .f32 p.2.2⟩]))
noncomputable def impl_SumOf.l5.c : List V → Hp → T (X × List V × Hp) := cdL impl_SumOf.l5.cd fun x => optT (impl_SumOf.l5.r x.1 x.2) (impl_SumOf.l5.ex x.1)
noncomputable def impl_SumOf.C : Ctx := { ty := tys, fn := [], lp := [(5, ⟨[4, 10, 11, 12], [4], impl_SumOf.l5.c⟩)], n := 21, k := 1 }
theorem impl_SumOf.hC : CtxOK Try.prog impl_SumOf.C := CtxOK.of mo tys_ok FnsOK.nil
noncomputable def impl_SumOf.b5 : Code := (nthC (loopsOf impl_SumOf.b) 0)
theorem impl_SumOf.lp5 : LpOK Try.prog impl_SumOf.C impl_SumOf.b5 := (LpOK.nil (by kernel_rfl))
theorem impl_SumOf.l5.round (p : Nat × Int × List Nat) (s : Nat × Int) : roundL impl_SumOf.C [4, 10, 11, 12] [4] impl_SumOf.b5 (impl_SumOf.l5.cd.enc (p, s)).1 (impl_SumOf.l5.cd.enc (p, s)).2 = (impl_SumOf.l5.st p s).map (encSum (fun s => impl_SumOf.l5.cd.enc (p, s)) (impl_SumOf.l5.out p)) := by kernel_rfl
theorem impl_SumOf.l5.lok : LoopOK Try.prog impl_SumOf.C ⟨[4, 10, 11, 12], [4], impl_SumOf.l5.c⟩ impl_SumOf.b5 := loop_cd impl_SumOf.l5.cd impl_SumOf.hC impl_SumOf.lp5 impl_SumOf.l5.round fun p => Gets.leaf
theorem impl_SumOf.lp : LpOK Try.prog impl_SumOf.C impl_SumOf.b := lp_of (by kernel_rfl) (LpsOK.cons (k := 5) (by kernel_rfl) (by kernel_rfl) impl_SumOf.l5.lok LpsOK.nil)
noncomputable def impl_SumOf.t (x0 : Nat) (x1 : List Nat) : T (Nat × Int) :=
  .br (decide (((x0 : Nat) : Int) > (60 : Int)))
  (.leaf (0, (3 : Int)))
  (.br (Option.isSome (impl_SumOf.l5.r (x0, ((x0 : Nat) : Int), x1) (0, (0 : Int))))
   (.leaf ((Option.getD (impl_SumOf.l5.r (x0, ((x0 : Nat) : Int), x1) (0, (0 : Int))) default), (0 : Int)))
   .bad)
noncomputable def impl_SumOf (x0 : Nat) (x1 : List Nat) : Nat × Int := (impl_SumOf.t x0 x1).val
noncomputable def impl_SumOf.ok (x0 : Nat) (x1 : List Nat) : Bool := (impl_SumOf.t x0 x1).ok
def impl_SumOf.cd : Cd (Nat × List Nat) (List V × Hp) := Cd.iso (Cd.pair (Cd.cons (Cd.own 0) Cd.nil) (Cd.cons (Cd.rw 22 1 (Cd.fs .f32)) Cd.nil)) (fun a => (a.1.1, a.2.1)) (fun a => ((a.1, ()), (a.2, ()))) (fun _ => rfl)
noncomputable def impl_SumOf.tr (a : Nat × List Nat) : T (Nat × Int) := impl_SumOf.t a.1 a.2
def impl_SumOf.enc : (Nat × List Nat) → (Nat × Int) → V := fun a r => .tup [.fl .f32 r.1, .it .i64 r.2]
noncomputable def impl_SumOf.c : List V → Hp → T V := cdQ impl_SumOf.cd (fun a => .br (impl_SumOf.ok a.1 a.2) (.leaf (impl_SumOf.enc a (impl_SumOf a.1 a.2))) .bad)
theorem impl_SumOf.run (a : Nat × List Nat) : runF impl_SumOf.C Try.f25.results.toList impl_SumOf.b (impl_SumOf.cd.enc a).1 (impl_SumOf.cd.enc a).2 = (impl_SumOf.tr a).map fun r => (impl_SumOf.enc a r, (impl_SumOf.cd.enc a).2) := by kernel_rfl
theorem impl_SumOf.cok : OKq Try.prog 25 impl_SumOf.c := con_q' impl_SumOf.cd impl_SumOf.hC Try.func25 (by kernel_rfl) (by kernel_rfl) (by kernel_rfl) impl_SumOf.lp (fun a => by kernel_rfl) impl_SumOf.run (Tells.ok (tree := impl_SumOf.tr))
/-! ### laws_sameFloat -/
noncomputable def laws_sameFloat.b : Code := bodyOf Try.f22
noncomputable def laws_sameFloat.C : Ctx := { ty := tys, fn := [], lp := [], n := 37, k := 0 }
theorem laws_sameFloat.hC : CtxOK Try.prog laws_sameFloat.C := CtxOK.of mo tys_ok FnsOK.nil
theorem laws_sameFloat.lp : LpOK Try.prog laws_sameFloat.C laws_sameFloat.b := (LpOK.nil (by kernel_rfl))
noncomputable def laws_sameFloat.t (x0 : Nat) (x1 : Nat) : T Bool :=
  .br (fne .f64 x0 x0)
  (.br (fne .f64 x0 x0)
   (.leaf (fne .f64 x1 x1))
   (.leaf false))
  (.br (fne .f64 x1 x1)
   (.br (fne .f64 x0 x0)
    (.leaf (fne .f64 x1 x1))
    (.leaf false))
   (.br (feq .f64 x0 0)
    (.br (feq .f64 x1 0)
     (.leaf ((fgt .f64 (fdiv .f64 4607182418800017408 x0) 0) == (fgt .f64 (fdiv .f64 4607182418800017408 x1) 0)))
     (.leaf (feq .f64 x0 x1)))
    (.leaf (feq .f64 x0 x1))))
noncomputable def laws_sameFloat (x0 : Nat) (x1 : Nat) : Bool := (laws_sameFloat.t x0 x1).val
def laws_sameFloat.cd : Cd (Nat × Nat) (List V × Hp) := Cd.iso (Cd.pair (Cd.cons (Cd.fl .f64) (Cd.cons (Cd.fl .f64) Cd.nil)) Cd.nil) (fun a => (a.1.1, a.1.2.1)) (fun a => ((a.1, (a.2, ())), ())) (fun _ => rfl)
noncomputable def laws_sameFloat.tr (a : Nat × Nat) : T Bool := laws_sameFloat.t a.1 a.2
def laws_sameFloat.enc : (Nat × Nat) → Bool → V := fun a r => .bo r
noncomputable def laws_sameFloat.c : List V → Hp → T V := cdQ laws_sameFloat.cd (fun a => .leaf (laws_sameFloat.enc a (laws_sameFloat a.1 a.2)))
theorem laws_sameFloat.run (a : Nat × Nat) : runF laws_sameFloat.C Try.f22.results.toList laws_sameFloat.b (laws_sameFloat.cd.enc a).1 (laws_sameFloat.cd.enc a).2 = (laws_sameFloat.tr a).map fun r => (laws_sameFloat.enc a r, (laws_sameFloat.cd.enc a).2) := by kernel_rfl
theorem laws_sameFloat.cok : OKq Try.prog 22 laws_sameFloat.c := con_q' laws_sameFloat.cd laws_sameFloat.hC Try.func22 (by kernel_rfl) (by kernel_rfl) (by kernel_rfl) laws_sameFloat.lp (fun a => by kernel_rfl) laws_sameFloat.run (Tells.val (tree := laws_sameFloat.tr) fun a => by kernel_rfl)
/-! ### laws_eqFloat32S -/
noncomputable def laws_eqFloat32S.b : Code := bodyOf Try.f26
noncomputable def laws_eqFloat32S.l4.s (x0 : Nat) (x1 : Nat) (x2 : Int) (x3 : List Nat) (x4 : List Nat) : T (Int ⊕ (Bool ⊕ Unit)) :=
  .br (decide (x2 < ((x0 : Nat) : Int)))
  (.br (bounds x2 x0)
   (.br (Nat.ble ((Int.toNat x2 * 1) + 1) (List.length x3))
    (.br (fcvOpen .f32 .f64 (List.getD x3 (Int.toNat x2 * 1) 0))
     .bad
     (.br (bounds x2 x1)
      (.br (Nat.ble ((Int.toNat x2 * 1) + 1) (List.length x4))
       (.br (fcvOpen .f32 .f64 (List.getD x4 (Int.toNat x2 * 1) 0))
        .bad
        (.br (!(laws_sameFloat (fcv .f32 .f64 (List.getD x3 (Int.toNat x2 * 1) 0)) (fcv .f32 .f64 (List.getD x4 (Int.toNat x2 * 1) 0))))
         (.leaf (.inr (.inl false)))
         (.leaf (.inl (IntKind.wrap .i64 (x2 + (1 : Int)))))))
       .bad)
      .bad))
    .bad)
   .bad)
  (.leaf (.inr (.inr ())))
noncomputable def laws_eqFloat32S.l4.st (p : Nat × Nat × List Nat × List Nat) (x : Int) : T (Int ⊕ (Bool ⊕ Unit)) := laws_eqFloat32S.l4.s p.1 p.2.1 x p.2.2.1 p.2.2.2
noncomputable def laws_eqFloat32S.l4.r (p : Nat × Nat × List Nat × List Nat) (x : Int) : Option (Bool ⊕ Unit) := iterT (laws_eqFloat32S.l4.st p) manyRounds x
def laws_eqFloat32S.l4.cd : Cd ((Nat × Nat × List Nat × List Nat) × Int) (List V × Hp) := Cd.iso (Cd.pair (Cd.cons (Cd.own 0) (Cd.cons (Cd.own 1) (Cd.cons (Cd.it .i64) Cd.nil))) (Cd.cons (Cd.rw 22 1 (Cd.fs .f32)) (Cd.cons (Cd.rw 22 1 (Cd.fs .f32)) Cd.nil))) (fun a => ((a.1.1, a.1.2.1, a.2.1, a.2.2.1), a.1.2.2.1)) (fun a => ((a.1.1, (a.1.2.1, (a.2, ()))), (a.1.2.2.1, (a.1.2.2.2, ())))) (fun _ => rfl)
def laws_eqFloat32S.l4.out (p : Nat × Nat × List Nat × List Nat) : (Bool ⊕ Unit) → X × List V × Hp := sumO (fun r => (.ret, [.bo r], [some ⟨true, 22, 1, .fs .f32 p.2.2.1⟩, some ⟨true, 22, 1, .fs .f32 p.2.2.2⟩])) (fun r => (.ex 0, [.unk], [some ⟨true, 22, 1, .fs .f32 p.2.2.1⟩, some ⟨true, 22, 1, .fs .f32 p.2.2.2⟩]))
def laws_eqFloat32S.l4.ex (p : Nat × Nat × List Nat × List Nat) : (Bool ⊕ Unit) → T (X × List V × Hp) := sumT (leafT (fun r => (.ret, [.bo r], [some ⟨true, 22, 1, .fs .f32 p.2.2.1⟩, some ⟨true, 22, 1, .fs .f32 p.2.2.2⟩]))) (leafT (fun r => (.ex 0, [.unk], [some ⟨true, 22, 1, .fs .f32 p.2.2.1⟩, some ⟨true, 22, 1, .fs .f32 p.2.2.2⟩])))
noncomputable def laws_eqFloat32S.l4.c : List V → Hp → T (X × List V × Hp) := cdL laws_eqFloat32S.l4.cd fun x => optT (laws_eqFloat32S.l4.r x.1 x.2) (laws_eqFloat32S.l4.ex x.1)
noncomputable def laws_eqFloat32S.C : Ctx := { ty := tys, fn := [(22, .q laws_sameFloat.c)], lp := [(4, ⟨[0, 1, 5], [4], laws_eqFloat32S.l4.c⟩)], n := 29, k := 2 }
theorem laws_eqFloat32S.hC : CtxOK Try.prog laws_eqFloat32S.C := CtxOK.of mo tys_ok (FnsOK.cons laws_sameFloat.cok FnsOK.nil)
noncomputable def laws_eqFloat32S.b4 : Code := (nthC (loopsOf laws_eqFloat32S.b) 0)
theorem laws_eqFloat32S.lp4 : LpOK Try.prog laws_eqFloat32S.C laws_eqFloat32S.b4 := (LpOK.nil (by kernel_rfl))
theorem laws_eqFloat32S.l4.round (p : Nat × Nat × List Nat × List Nat) (s : Int) : roundL laws_eqFloat32S.C [0, 1, 5] [4] laws_eqFloat32S.b4 (laws_eqFloat32S.l4.cd.enc (p, s)).1 (laws_eqFloat32S.l4.cd.enc (p, s)).2 = (laws_eqFloat32S.l4.st p s).map (encSum (fun s => laws_eqFloat32S.l4.cd.enc (p, s)) (laws_eqFloat32S.l4.out p)) := by kernel_rfl
theorem laws_eqFloat32S.l4.lok : LoopOK Try.prog laws_eqFloat32S.C ⟨[0, 1, 5], [4], laws_eqFloat32S.l4.c⟩ laws_eqFloat32S.b4 := loop_cd laws_eqFloat32S.l4.cd laws_eqFloat32S.hC laws_eqFloat32S.lp4 laws_eqFloat32S.l4.round fun p => (Gets.sum Gets.leaf Gets.leaf)
theorem laws_eqFloat32S.lp : LpOK Try.prog laws_eqFloat32S.C laws_eqFloat32S.b := lp_of (by kernel_rfl) (LpsOK.cons (k := 4) (by kernel_rfl) (by kernel_rfl) laws_eqFloat32S.l4.lok LpsOK.nil)
noncomputable def laws_eqFloat32S.t (x0 : Nat) (x1 : Nat) (x2 : List Nat) (x3 : List Nat) : T Bool :=
  .br (((x0 : Nat) : Int) != ((x1 : Nat) : Int))
  (.leaf false)
  (.br (Option.isSome (laws_eqFloat32S.l4.r (x0, x1, x2, x3) (0 : Int)))
   (.br (Sum.isLeft (Option.getD (laws_eqFloat32S.l4.r (x0, x1, x2, x3) (0 : Int)) default))
    (.leaf (getLeftD (Option.getD (laws_eqFloat32S.l4.r (x0, x1, x2, x3) (0 : Int)) default)))
    (.leaf true))
   .bad)
noncomputable def laws_eqFloat32S (x0 : Nat) (x1 : Nat) (x2 : List Nat) (x3 : List Nat) : Bool := (laws_eqFloat32S.t x0 x1 x2 x3).val
noncomputable def laws_eqFloat32S.ok (x0 : Nat) (x1 : Nat) (x2 : List Nat) (x3 : List Nat) : Bool := (laws_eqFloat32S.t x0 x1 x2 x3).ok
def laws_eqFloat32S.cd : Cd (Nat × Nat × List Nat × List Nat) (List V × Hp) := Cd.iso (Cd.pair (Cd.cons (Cd.own 0) (Cd.cons (Cd.own 1) Cd.nil)) (Cd.cons (Cd.rw 22 1 (Cd.fs .f32)) (Cd.cons (Cd.rw 22 1 (Cd.fs .f32)) Cd.nil))) (fun a => (a.1.1, a.1.2.1, a.2.1, a.2.2.1)) (fun a => ((a.1, (a.2.1, ())), (a.2.2.1, (a.2.2.2, ())))) (fun _ => rfl)
noncomputable def laws_eqFloat32S.tr (a : Nat × Nat × List Nat × List Nat) : T Bool := laws_eqFloat32S.t a.1 a.2.1 a.2.2.1 a.2.2.2
def laws_eqFloat32S.enc : (Nat × Nat × List Nat × List Nat) → Bool → V := fun a r => .bo r
noncomputable def laws_eqFloat32S.c : List V → Hp → T V := cdQ laws_eqFloat32S.cd (fun a => .br (laws_eqFloat32S.ok a.1 a.2.1 a.2.2.1 a.2.2.2) (.leaf (laws_eqFloat32S.enc a (laws_eqFloat32S a.1 a.2.1 a.2.2.1 a.2.2.2))) .bad)
theorem laws_eqFloat32S.run (a : Nat × Nat × List Nat × List Nat) : runF laws_eqFloat32S.C Try.f26.results.toList laws_eqFloat32S.b (laws_eqFloat32S.cd.enc a).1 (laws_eqFloat32S.cd.enc a).2 = (laws_eqFloat32S.tr a).map fun r => (laws_eqFloat32S.enc a r, (laws_eqFloat32S.cd.enc a).2) := by kernel_rfl
theorem laws_eqFloat32S.cok : OKq Try.prog 26 laws_eqFloat32S.c := con_q' laws_eqFloat32S.cd laws_eqFloat32S.hC Try.func26 (by kernel_rfl) (by kernel_rfl) (by kernel_rfl) laws_eqFloat32S.lp (fun a => by kernel_rfl) laws_eqFloat32S.run (Tells.ok (tree := laws_eqFloat32S.tr))
/-! ### laws_FnExactSumOf -/
noncomputable def laws_FnExactSumOf.b : Code := bodyOf Try.f8
noncomputable def laws_FnExactSumOf.C : Ctx := { ty := tys, fn := [(24, .e laws_toFloat32S.c), (23, .q spec_SumOf.c), (25, .q impl_SumOf.c), (22, .q laws_sameFloat.c), (26, .q laws_eqFloat32S.c)], lp := [], n := 40, k := 1 }
theorem laws_FnExactSumOf.hC : CtxOK Try.prog laws_FnExactSumOf.C := CtxOK.of mo tys_ok (FnsOK.cons laws_toFloat32S.cok (FnsOK.cons spec_SumOf.cok (FnsOK.cons impl_SumOf.cok (FnsOK.cons laws_sameFloat.cok (FnsOK.cons laws_eqFloat32S.cok FnsOK.nil)))))
theorem laws_FnExactSumOf.lp : LpOK Try.prog laws_FnExactSumOf.C laws_FnExactSumOf.b := (LpOK.nil (by kernel_rfl))
noncomputable def laws_FnExactSumOf.t (x0 : Nat) (x1 : List Nat) : T Bool :=
  .br (decide (((x0 : Nat) : Int) > (1048576 : Int)))
  (.leaf true)
  (.br (laws_toFloat32S.ok x0 x1)
   (.br (spec_SumOf.ok ((laws_toFloat32S x0 x1).1) ((laws_toFloat32S x0 x1).2))
    (.br (laws_toFloat32S.ok x0 x1)
     (.br (impl_SumOf.ok ((laws_toFloat32S x0 x1).1) ((laws_toFloat32S x0 x1).2))
      (.br (fcvOpen .f32 .f64 (impl_SumOf ((laws_toFloat32S x0 x1).1) ((laws_toFloat32S x0 x1).2)).1)
       .bad
       (.br (fcvOpen .f32 .f64 (spec_SumOf ((laws_toFloat32S x0 x1).1) ((laws_toFloat32S x0 x1).2)).1)
        .bad
        (.br (!(laws_sameFloat (fcv .f32 .f64 (impl_SumOf ((laws_toFloat32S x0 x1).1) ((laws_toFloat32S x0 x1).2)).1) (fcv .f32 .f64 (spec_SumOf ((laws_toFloat32S x0 x1).1) ((laws_toFloat32S x0 x1).2)).1)))
         (.leaf false)
         (.br ((impl_SumOf ((laws_toFloat32S x0 x1).1) ((laws_toFloat32S x0 x1).2)).2 != (spec_SumOf ((laws_toFloat32S x0 x1).1) ((laws_toFloat32S x0 x1).2)).2)
          (.leaf false)
          (.br (laws_toFloat32S.ok x0 x1)
           (.br (laws_eqFloat32S.ok ((laws_toFloat32S x0 x1).1) ((laws_toFloat32S x0 x1).1) ((laws_toFloat32S x0 x1).2) ((laws_toFloat32S x0 x1).2))
            (.br (!(laws_eqFloat32S ((laws_toFloat32S x0 x1).1) ((laws_toFloat32S x0 x1).1) ((laws_toFloat32S x0 x1).2) ((laws_toFloat32S x0 x1).2)))
             (.leaf false)
             (.leaf true))
            .bad)
           .bad)))))
      .bad)
     .bad)
    .bad)
   .bad)
noncomputable def laws_FnExactSumOf (x0 : Nat) (x1 : List Nat) : Bool := (laws_FnExactSumOf.t x0 x1).val
noncomputable def laws_FnExactSumOf.ok (x0 : Nat) (x1 : List Nat) : Bool := (laws_FnExactSumOf.t x0 x1).ok
def laws_FnExactSumOf.cd : Cd (Nat × List Nat) (List V × Hp) := Cd.iso (Cd.pair (Cd.cons (Cd.sl 0 (Cd.natc 0)) Cd.nil) (Cd.cons (Cd.ro 0 0 (Cd.fs .f32)) Cd.nil)) (fun a => (a.1.1.2, a.2.1)) (fun a => ((((), a.1), ()), (a.2, ()))) (fun _ => rfl)
noncomputable def laws_FnExactSumOf.tr (a : Nat × List Nat) : T Bool := laws_FnExactSumOf.t a.1 a.2
def laws_FnExactSumOf.enc : (Nat × List Nat) → Bool → V := fun a r => .bo r
noncomputable def laws_FnExactSumOf.c : List V → Hp → T V := cdQ laws_FnExactSumOf.cd (fun a => .br (laws_FnExactSumOf.ok a.1 a.2) (.leaf (laws_FnExactSumOf.enc a (laws_FnExactSumOf a.1 a.2))) .bad)
theorem laws_FnExactSumOf.run (a : Nat × List Nat) : runF laws_FnExactSumOf.C Try.f8.results.toList laws_FnExactSumOf.b (laws_FnExactSumOf.cd.enc a).1 (laws_FnExactSumOf.cd.enc a).2 = (laws_FnExactSumOf.tr a).map fun r => (laws_FnExactSumOf.enc a r, (laws_FnExactSumOf.cd.enc a).2) := by kernel_rfl
theorem laws_FnExactSumOf.cok : OKq Try.prog 8 laws_FnExactSumOf.c := con_q' laws_FnExactSumOf.cd laws_FnExactSumOf.hC Try.func8 (by kernel_rfl) (by kernel_rfl) (by kernel_rfl) laws_FnExactSumOf.lp (fun a => by kernel_rfl) laws_FnExactSumOf.run (Tells.ok (tree := laws_FnExactSumOf.tr))
theorem laws_FnExactSumOf.walk (a : Nat × List Nat) (h : (laws_FnExactSumOf.tr a).get = some true) {ρ : Nat → Option Sx.Loc} {w : World} {vs : List Value} (hargs : V.Rs ρ (laws_FnExactSumOf.cd.enc a).1 vs) (hh : HpR ρ (laws_FnExactSumOf.cd.enc a).2 w) :
    Calls Try.prog 8 vs.toArray w fun e w' => e = .returned (.bool true) ∧ Below w.heap.size w w' :=
  law_cd laws_FnExactSumOf.cd laws_FnExactSumOf.hC Try.func8 (by kernel_rfl) (by kernel_rfl) laws_FnExactSumOf.lp (fun a => by kernel_rfl) laws_FnExactSumOf.run (fun a => by kernel_rfl) a (by kernel_rfl) h hargs hh
end Go.Proofs.Ytlnfakbmigbdbaa
