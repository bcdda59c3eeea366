/- The walk of FnExactOffBy: what each function that it comes to computes, as a tree of tests. -/
import Derived.Test.YtlnfakbmigbdbaaSxO
import Derived.Test.YtlnfakbmigbdbaaChecked
namespace Go.Proofs.Ytlnfakbmigbdbaa
open Go Go.RowKit Sx
set_option linter.unusedVariables false
set_option maxRecDepth 100000
set_option maxHeartbeats 0
noncomputable def ti1 : TI := ⟨Try.t1.desc, 1, 8, [.nf]⟩
theorem ti1_ok : TyOK Try.prog 1 ti1 := TyOK.of (inf := Try.t1) Try.underlying1 (by kernel_rfl) (by kernel_rfl) (by kernel_rfl) (by kernel_rfl)
noncomputable def ti2 : TI := ⟨Try.t2.desc, 1, 8, [.it .i64 (0 : Int)]⟩
theorem ti2_ok : TyOK Try.prog 2 ti2 := TyOK.of (inf := Try.t2) Try.underlying2 (by kernel_rfl) (by kernel_rfl) (by kernel_rfl) (by kernel_rfl)
noncomputable def ti3 : TI := ⟨Try.t3.desc, 1, 8, [.it .i64 (0 : Int)]⟩
theorem ti3_ok : TyOK Try.prog 3 ti3 := TyOK.of (inf := Try.t3) Try.underlying3 (by kernel_rfl) (by kernel_rfl) (by kernel_rfl) (by kernel_rfl)
noncomputable def ti4 : TI := ⟨Try.t4.desc, 1, 1, [.kb false]⟩
theorem ti4_ok : TyOK Try.prog 4 ti4 := TyOK.of (inf := Try.t4) Try.underlying4 (by kernel_rfl) (by kernel_rfl) (by kernel_rfl) (by kernel_rfl)
noncomputable def ti5 : TI := ⟨Try.t5.desc, 1, 1, [.it .u8 (0 : Int)]⟩
theorem ti5_ok : TyOK Try.prog 5 ti5 := TyOK.of (inf := Try.t5) Try.underlying5 (by kernel_rfl) (by kernel_rfl) (by kernel_rfl) (by kernel_rfl)
noncomputable def ti6 : TI := ⟨Try.t5.desc, 1, 1, [.it .u8 (0 : Int)]⟩
theorem ti6_ok : TyOK Try.prog 6 ti6 := TyOK.of (inf := Try.t6) Try.underlying6 (by kernel_rfl) (by kernel_rfl) (by kernel_rfl) (by kernel_rfl)
noncomputable def ti7 : TI := ⟨Try.t7.desc, 4, 24, [.it .i64 (0 : Int), .it .i64 (0 : Int), .kb false, .it .u8 (0 : Int)]⟩
theorem ti7_ok : TyOK Try.prog 7 ti7 := TyOK.of (inf := Try.t7) Try.underlying7 (by kernel_rfl) (by kernel_rfl) (by kernel_rfl) (by kernel_rfl)
noncomputable def ti8 : TI := ⟨Try.t7.desc, 4, 24, [.it .i64 (0 : Int), .it .i64 (0 : Int), .kb false, .it .u8 (0 : Int)]⟩
theorem ti8_ok : TyOK Try.prog 8 ti8 := TyOK.of (inf := Try.t8) Try.underlying8 (by kernel_rfl) (by kernel_rfl) (by kernel_rfl) (by kernel_rfl)
noncomputable def ti9 : TI := ⟨Try.t9.desc, 1, 16, [.st (ByteArray.mk #[])]⟩
theorem ti9_ok : TyOK Try.prog 9 ti9 := TyOK.of (inf := Try.t9) Try.underlying9 (by kernel_rfl) (by kernel_rfl) (by kernel_rfl) (by kernel_rfl)
noncomputable def ti10 : TI := ⟨Try.t9.desc, 1, 16, [.st (ByteArray.mk #[])]⟩
theorem ti10_ok : TyOK Try.prog 10 ti10 := TyOK.of (inf := Try.t10) Try.underlying10 (by kernel_rfl) (by kernel_rfl) (by kernel_rfl) (by kernel_rfl)
noncomputable def ti11 : TI := ⟨Try.t9.desc, 1, 16, [.st (ByteArray.mk #[])]⟩
theorem ti11_ok : TyOK Try.prog 11 ti11 := TyOK.of (inf := Try.t11) Try.underlying11 (by kernel_rfl) (by kernel_rfl) (by kernel_rfl) (by kernel_rfl)
noncomputable def ti12 : TI := ⟨Try.t12.desc, 1, 8, [.it .u64 (0 : Int)]⟩
theorem ti12_ok : TyOK Try.prog 12 ti12 := TyOK.of (inf := Try.t12) Try.underlying12 (by kernel_rfl) (by kernel_rfl) (by kernel_rfl) (by kernel_rfl)
noncomputable def ti13 : TI := ⟨Try.t13.desc, 2, 24, [.st (ByteArray.mk #[]), .it .u64 (0 : Int)]⟩
theorem ti13_ok : TyOK Try.prog 13 ti13 := TyOK.of (inf := Try.t13) Try.underlying13 (by kernel_rfl) (by kernel_rfl) (by kernel_rfl) (by kernel_rfl)
noncomputable def ti14 : TI := ⟨Try.t13.desc, 2, 24, [.st (ByteArray.mk #[]), .it .u64 (0 : Int)]⟩
theorem ti14_ok : TyOK Try.prog 14 ti14 := TyOK.of (inf := Try.t14) Try.underlying14 (by kernel_rfl) (by kernel_rfl) (by kernel_rfl) (by kernel_rfl)
noncomputable def ti15 : TI := ⟨Try.t15.desc, 1, 8, [.pn]⟩
theorem ti15_ok : TyOK Try.prog 15 ti15 := TyOK.of (inf := Try.t15) Try.underlying15 (by kernel_rfl) (by kernel_rfl) (by kernel_rfl) (by kernel_rfl)
noncomputable def ti16 : TI := ⟨Try.t16.desc, 1, 8, [.pn]⟩
theorem ti16_ok : TyOK Try.prog 16 ti16 := TyOK.of (inf := Try.t16) Try.underlying16 (by kernel_rfl) (by kernel_rfl) (by kernel_rfl) (by kernel_rfl)
noncomputable def ti17 : TI := ⟨Try.t17.desc, 1, 8, [.pn]⟩
theorem ti17_ok : TyOK Try.prog 17 ti17 := TyOK.of (inf := Try.t17) Try.underlying17 (by kernel_rfl) (by kernel_rfl) (by kernel_rfl) (by kernel_rfl)
noncomputable def ti18 : TI := ⟨Try.t18.desc, 1, 8, [.pn]⟩
theorem ti18_ok : TyOK Try.prog 18 ti18 := TyOK.of (inf := Try.t18) Try.underlying18 (by kernel_rfl) (by kernel_rfl) (by kernel_rfl) (by kernel_rfl)
noncomputable def ti19 : TI := ⟨Try.t18.desc, 1, 8, [.pn]⟩
theorem ti19_ok : TyOK Try.prog 19 ti19 := TyOK.of (inf := Try.t19) Try.underlying19 (by kernel_rfl) (by kernel_rfl) (by kernel_rfl) (by kernel_rfl)
noncomputable def ti21 : TI := ⟨Try.t21.desc, 1, 4, [.it .i32 (0 : Int)]⟩
theorem ti21_ok : TyOK Try.prog 21 ti21 := TyOK.of (inf := Try.t21) Try.underlying21 (by kernel_rfl) (by kernel_rfl) (by kernel_rfl) (by kernel_rfl)
noncomputable def ti22 : TI := ⟨Try.t22.desc, 1, 4, [.fl .f32 0]⟩
theorem ti22_ok : TyOK Try.prog 22 ti22 := TyOK.of (inf := Try.t22) Try.underlying22 (by kernel_rfl) (by kernel_rfl) (by kernel_rfl) (by kernel_rfl)
noncomputable def ti23 : TI := ⟨Try.t23.desc, 1, 8, [.nf]⟩
theorem ti23_ok : TyOK Try.prog 23 ti23 := TyOK.of (inf := Try.t23) Try.underlying23 (by kernel_rfl) (by kernel_rfl) (by kernel_rfl) (by kernel_rfl)
noncomputable def ti24 : TI := ⟨Try.t24.desc, 4, 16, [.fl .f32 0, .fl .f32 0, .fl .f32 0, .fl .f32 0]⟩
theorem ti24_ok : TyOK Try.prog 24 ti24 := TyOK.of (inf := Try.t24) Try.underlying24 (by kernel_rfl) (by kernel_rfl) (by kernel_rfl) (by kernel_rfl)
noncomputable def ti25 : TI := ⟨Try.t24.desc, 4, 16, [.fl .f32 0, .fl .f32 0, .fl .f32 0, .fl .f32 0]⟩
theorem ti25_ok : TyOK Try.prog 25 ti25 := TyOK.of (inf := Try.t25) Try.underlying25 (by kernel_rfl) (by kernel_rfl) (by kernel_rfl) (by kernel_rfl)
noncomputable def ti26 : TI := ⟨Try.t26.desc, 1, 8, [.nf]⟩
theorem ti26_ok : TyOK Try.prog 26 ti26 := TyOK.of (inf := Try.t26) Try.underlying26 (by kernel_rfl) (by kernel_rfl) (by kernel_rfl) (by kernel_rfl)
noncomputable def ti27 : TI := ⟨Try.t24.desc, 4, 16, [.fl .f32 0, .fl .f32 0, .fl .f32 0, .fl .f32 0]⟩
theorem ti27_ok : TyOK Try.prog 27 ti27 := TyOK.of (inf := Try.t27) Try.underlying27 (by kernel_rfl) (by kernel_rfl) (by kernel_rfl) (by kernel_rfl)
noncomputable def ti28 : TI := ⟨Try.t28.desc, 1, 8, [.nf]⟩
theorem ti28_ok : TyOK Try.prog 28 ti28 := TyOK.of (inf := Try.t28) Try.underlying28 (by kernel_rfl) (by kernel_rfl) (by kernel_rfl) (by kernel_rfl)
noncomputable def ti29 : TI := ⟨Try.t29.desc, 1, 8, [.nf]⟩
theorem ti29_ok : TyOK Try.prog 29 ti29 := TyOK.of (inf := Try.t29) Try.underlying29 (by kernel_rfl) (by kernel_rfl) (by kernel_rfl) (by kernel_rfl)
noncomputable def ti30 : TI := ⟨Try.t30.desc, 1, 8, [.nf]⟩
theorem ti30_ok : TyOK Try.prog 30 ti30 := TyOK.of (inf := Try.t30) Try.underlying30 (by kernel_rfl) (by kernel_rfl) (by kernel_rfl) (by kernel_rfl)
noncomputable def ti31 : TI := ⟨Try.t31.desc, 1, 8, [.nf]⟩
theorem ti31_ok : TyOK Try.prog 31 ti31 := TyOK.of (inf := Try.t31) Try.underlying31 (by kernel_rfl) (by kernel_rfl) (by kernel_rfl) (by kernel_rfl)
noncomputable def ti32 : TI := ⟨Try.t32.desc, 1, 24, [.sn]⟩
theorem ti32_ok : TyOK Try.prog 32 ti32 := TyOK.of (inf := Try.t32) Try.underlying32 (by kernel_rfl) (by kernel_rfl) (by kernel_rfl) (by kernel_rfl)
noncomputable def ti33 : TI := ⟨Try.t33.desc, 1, 8, [.nf]⟩
theorem ti33_ok : TyOK Try.prog 33 ti33 := TyOK.of (inf := Try.t33) Try.underlying33 (by kernel_rfl) (by kernel_rfl) (by kernel_rfl) (by kernel_rfl)
noncomputable def ti34 : TI := ⟨Try.t34.desc, 1, 8, [.nf]⟩
theorem ti34_ok : TyOK Try.prog 34 ti34 := TyOK.of (inf := Try.t34) Try.underlying34 (by kernel_rfl) (by kernel_rfl) (by kernel_rfl) (by kernel_rfl)
noncomputable def ti35 : TI := ⟨Try.t35.desc, 1, 8, [.nf]⟩
theorem ti35_ok : TyOK Try.prog 35 ti35 := TyOK.of (inf := Try.t35) Try.underlying35 (by kernel_rfl) (by kernel_rfl) (by kernel_rfl) (by kernel_rfl)
noncomputable def ti37 : TI := ⟨Try.t37.desc, 1, 8, [.nf]⟩
theorem ti37_ok : TyOK Try.prog 37 ti37 := TyOK.of (inf := Try.t37) Try.underlying37 (by kernel_rfl) (by kernel_rfl) (by kernel_rfl) (by kernel_rfl)
noncomputable def ti38 : TI := ⟨Try.t38.desc, 1, 8, [.nf]⟩
theorem ti38_ok : TyOK Try.prog 38 ti38 := TyOK.of (inf := Try.t38) Try.underlying38 (by kernel_rfl) (by kernel_rfl) (by kernel_rfl) (by kernel_rfl)
noncomputable def ti39 : TI := ⟨Try.t39.desc, 1, 8, [.fl .f64 0]⟩
theorem ti39_ok : TyOK Try.prog 39 ti39 := TyOK.of (inf := Try.t39) Try.underlying39 (by kernel_rfl) (by kernel_rfl) (by kernel_rfl) (by kernel_rfl)
noncomputable def ti40 : TI := ⟨Try.t40.desc, 1, 8, [.nf]⟩
theorem ti40_ok : TyOK Try.prog 40 ti40 := TyOK.of (inf := Try.t40) Try.underlying40 (by kernel_rfl) (by kernel_rfl) (by kernel_rfl) (by kernel_rfl)
noncomputable def ti41 : TI := ⟨Try.t41.desc, 1, 24, [.sn]⟩
theorem ti41_ok : TyOK Try.prog 41 ti41 := TyOK.of (inf := Try.t41) Try.underlying41 (by kernel_rfl) (by kernel_rfl) (by kernel_rfl) (by kernel_rfl)
noncomputable def ti42 : TI := ⟨Try.t42.desc, 1, 8, [.nf]⟩
theorem ti42_ok : TyOK Try.prog 42 ti42 := TyOK.of (inf := Try.t42) Try.underlying42 (by kernel_rfl) (by kernel_rfl) (by kernel_rfl) (by kernel_rfl)
noncomputable def ti43 : TI := ⟨Try.t43.desc, 1, 8, [.nf]⟩
theorem ti43_ok : TyOK Try.prog 43 ti43 := TyOK.of (inf := Try.t43) Try.underlying43 (by kernel_rfl) (by kernel_rfl) (by kernel_rfl) (by kernel_rfl)
noncomputable def ti44 : TI := ⟨Try.t44.desc, 1, 8, [.nf]⟩
theorem ti44_ok : TyOK Try.prog 44 ti44 := TyOK.of (inf := Try.t44) Try.underlying44 (by kernel_rfl) (by kernel_rfl) (by kernel_rfl) (by kernel_rfl)
noncomputable def ti45 : TI := ⟨Try.t45.desc, 1, 8, [.nf]⟩
theorem ti45_ok : TyOK Try.prog 45 ti45 := TyOK.of (inf := Try.t45) Try.underlying45 (by kernel_rfl) (by kernel_rfl) (by kernel_rfl) (by kernel_rfl)
noncomputable def ti46 : TI := ⟨Try.t46.desc, 1, 8, [.nf]⟩
theorem ti46_ok : TyOK Try.prog 46 ti46 := TyOK.of (inf := Try.t46) Try.underlying46 (by kernel_rfl) (by kernel_rfl) (by kernel_rfl) (by kernel_rfl)
noncomputable def ti47 : TI := ⟨Try.t47.desc, 1, 2, [.it .i16 (0 : Int)]⟩
theorem ti47_ok : TyOK Try.prog 47 ti47 := TyOK.of (inf := Try.t47) Try.underlying47 (by kernel_rfl) (by kernel_rfl) (by kernel_rfl) (by kernel_rfl)
noncomputable def ti48 : TI := ⟨Try.t48.desc, 1, 8, [.nf]⟩
theorem ti48_ok : TyOK Try.prog 48 ti48 := TyOK.of (inf := Try.t48) Try.underlying48 (by kernel_rfl) (by kernel_rfl) (by kernel_rfl) (by kernel_rfl)
noncomputable def ti49 : TI := ⟨Try.t49.desc, 1, 8, [.nf]⟩
theorem ti49_ok : TyOK Try.prog 49 ti49 := TyOK.of (inf := Try.t49) Try.underlying49 (by kernel_rfl) (by kernel_rfl) (by kernel_rfl) (by kernel_rfl)
noncomputable def ti50 : TI := ⟨Try.t50.desc, 1, 8, [.nf]⟩
theorem ti50_ok : TyOK Try.prog 50 ti50 := TyOK.of (inf := Try.t50) Try.underlying50 (by kernel_rfl) (by kernel_rfl) (by kernel_rfl) (by kernel_rfl)
noncomputable def ti51 : TI := ⟨Try.t51.desc, 1, 4, [.it .u32 (0 : Int)]⟩
theorem ti51_ok : TyOK Try.prog 51 ti51 := TyOK.of (inf := Try.t51) Try.underlying51 (by kernel_rfl) (by kernel_rfl) (by kernel_rfl) (by kernel_rfl)
noncomputable def ti52 : TI := ⟨Try.t52.desc, 1, 8, [.nf]⟩
theorem ti52_ok : TyOK Try.prog 52 ti52 := TyOK.of (inf := Try.t52) Try.underlying52 (by kernel_rfl) (by kernel_rfl) (by kernel_rfl) (by kernel_rfl)
noncomputable def ti53 : TI := ⟨Try.t53.desc, 1, 8, [.nf]⟩
theorem ti53_ok : TyOK Try.prog 53 ti53 := TyOK.of (inf := Try.t53) Try.underlying53 (by kernel_rfl) (by kernel_rfl) (by kernel_rfl) (by kernel_rfl)
noncomputable def ti54 : TI := ⟨Try.t54.desc, 1, 8, [.nf]⟩
theorem ti54_ok : TyOK Try.prog 54 ti54 := TyOK.of (inf := Try.t54) Try.underlying54 (by kernel_rfl) (by kernel_rfl) (by kernel_rfl) (by kernel_rfl)
noncomputable def ti55 : TI := ⟨Try.t55.desc, 4, 40, [.pn, .pn, .pn, .st (ByteArray.mk #[])]⟩
theorem ti55_ok : TyOK Try.prog 55 ti55 := TyOK.of (inf := Try.t55) Try.underlying55 (by kernel_rfl) (by kernel_rfl) (by kernel_rfl) (by kernel_rfl)
noncomputable def ti56 : TI := ⟨Try.t55.desc, 4, 40, [.pn, .pn, .pn, .st (ByteArray.mk #[])]⟩
theorem ti56_ok : TyOK Try.prog 56 ti56 := TyOK.of (inf := Try.t56) Try.underlying56 (by kernel_rfl) (by kernel_rfl) (by kernel_rfl) (by kernel_rfl)
noncomputable def ti57 : TI := ⟨Try.t57.desc, 0, 0, []⟩
theorem ti57_ok : TyOK Try.prog 57 ti57 := TyOK.of (inf := Try.t57) Try.underlying57 (by kernel_rfl) (by kernel_rfl) (by kernel_rfl) (by kernel_rfl)
noncomputable def ti58 : TI := ⟨Try.t58.desc, 0, 0, []⟩
theorem ti58_ok : TyOK Try.prog 58 ti58 := TyOK.of (inf := Try.t58) Try.underlying58 (by kernel_rfl) (by kernel_rfl) (by kernel_rfl) (by kernel_rfl)
noncomputable def ti59 : TI := ⟨Try.t58.desc, 0, 0, []⟩
theorem ti59_ok : TyOK Try.prog 59 ti59 := TyOK.of (inf := Try.t59) Try.underlying59 (by kernel_rfl) (by kernel_rfl) (by kernel_rfl) (by kernel_rfl)
noncomputable def ti60 : TI := ⟨Try.t60.desc, 1, 8, [.nf]⟩
theorem ti60_ok : TyOK Try.prog 60 ti60 := TyOK.of (inf := Try.t60) Try.underlying60 (by kernel_rfl) (by kernel_rfl) (by kernel_rfl) (by kernel_rfl)
noncomputable def ti61 : TI := ⟨Try.t5.desc, 1, 1, [.it .u8 (0 : Int)]⟩
theorem ti61_ok : TyOK Try.prog 61 ti61 := TyOK.of (inf := Try.t61) Try.underlying61 (by kernel_rfl) (by kernel_rfl) (by kernel_rfl) (by kernel_rfl)
noncomputable def ti62 : TI := ⟨Try.t5.desc, 1, 1, [.it .u8 (0 : Int)]⟩
theorem ti62_ok : TyOK Try.prog 62 ti62 := TyOK.of (inf := Try.t62) Try.underlying62 (by kernel_rfl) (by kernel_rfl) (by kernel_rfl) (by kernel_rfl)
noncomputable def ti63 : TI := ⟨Try.t63.desc, 1, 8, [.nf]⟩
theorem ti63_ok : TyOK Try.prog 63 ti63 := TyOK.of (inf := Try.t63) Try.underlying63 (by kernel_rfl) (by kernel_rfl) (by kernel_rfl) (by kernel_rfl)
noncomputable def ti64 : TI := ⟨Try.t64.desc, 1, 8, [.pn]⟩
theorem ti64_ok : TyOK Try.prog 64 ti64 := TyOK.of (inf := Try.t64) Try.underlying64 (by kernel_rfl) (by kernel_rfl) (by kernel_rfl) (by kernel_rfl)
noncomputable def ti65 : TI := ⟨Try.t21.desc, 1, 4, [.it .i32 (0 : Int)]⟩
theorem ti65_ok : TyOK Try.prog 65 ti65 := TyOK.of (inf := Try.t65) Try.underlying65 (by kernel_rfl) (by kernel_rfl) (by kernel_rfl) (by kernel_rfl)
noncomputable def ti66 : TI := ⟨Try.t21.desc, 1, 4, [.it .i32 (0 : Int)]⟩
theorem ti66_ok : TyOK Try.prog 66 ti66 := TyOK.of (inf := Try.t66) Try.underlying66 (by kernel_rfl) (by kernel_rfl) (by kernel_rfl) (by kernel_rfl)
noncomputable def ti67 : TI := ⟨Try.t67.desc, 11, 48, [.it .u64 (0 : Int), .it .u64 (0 : Int), .it .u32 (0 : Int), .it .u8 (0 : Int), .it .u8 (0 : Int), .it .u8 (0 : Int), .it .u8 (0 : Int), .nf, .pn, .it .i32 (0 : Int), .it .i32 (0 : Int)]⟩
theorem ti67_ok : TyOK Try.prog 67 ti67 := TyOK.of (inf := Try.t67) Try.underlying67 (by kernel_rfl) (by kernel_rfl) (by kernel_rfl) (by kernel_rfl)
noncomputable def ti68 : TI := ⟨Try.t67.desc, 11, 48, [.it .u64 (0 : Int), .it .u64 (0 : Int), .it .u32 (0 : Int), .it .u8 (0 : Int), .it .u8 (0 : Int), .it .u8 (0 : Int), .it .u8 (0 : Int), .nf, .pn, .it .i32 (0 : Int), .it .i32 (0 : Int)]⟩
theorem ti68_ok : TyOK Try.prog 68 ti68 := TyOK.of (inf := Try.t68) Try.underlying68 (by kernel_rfl) (by kernel_rfl) (by kernel_rfl) (by kernel_rfl)
noncomputable def ti69 : TI := ⟨Try.t69.desc, 1, 8, [.pn]⟩
theorem ti69_ok : TyOK Try.prog 69 ti69 := TyOK.of (inf := Try.t69) Try.underlying69 (by kernel_rfl) (by kernel_rfl) (by kernel_rfl) (by kernel_rfl)
noncomputable def tys : List (Nat × TI) := [(1, ti1), (2, ti2), (3, ti3), (4, ti4), (5, ti5), (6, ti6), (7, ti7), (8, ti8), (9, ti9), (10, ti10), (11, ti11), (12, ti12), (13, ti13), (14, ti14), (15, ti15), (16, ti16), (17, ti17), (18, ti18), (19, ti19), (21, ti21), (22, ti22), (23, ti23), (24, ti24), (25, ti25), (26, ti26), (27, ti27), (28, ti28), (29, ti29), (30, ti30), (31, ti31), (32, ti32), (33, ti33), (34, ti34), (35, ti35), (37, ti37), (38, ti38), (39, ti39), (40, ti40), (41, ti41), (42, ti42), (43, ti43), (44, ti44), (45, ti45), (46, ti46), (47, ti47), (48, ti48), (49, ti49), (50, ti50), (51, ti51), (52, ti52), (53, ti53), (54, ti54), (55, ti55), (56, ti56), (57, ti57), (58, ti58), (59, ti59), (60, ti60), (61, ti61), (62, ti62), (63, ti63), (64, ti64), (65, ti65), (66, ti66), (67, ti67), (68, ti68), (69, ti69)]
theorem mo : Try.prog.follows .mixedOrders = true := by kernel_rfl
theorem tys_ok : TysOK Try.prog tys := (TysOK.cons ti1_ok (TysOK.cons ti2_ok (TysOK.cons ti3_ok (TysOK.cons ti4_ok (TysOK.cons ti5_ok (TysOK.cons ti6_ok (TysOK.cons ti7_ok (TysOK.cons ti8_ok (TysOK.cons ti9_ok (TysOK.cons ti10_ok (TysOK.cons ti11_ok (TysOK.cons ti12_ok (TysOK.cons ti13_ok (TysOK.cons ti14_ok (TysOK.cons ti15_ok (TysOK.cons ti16_ok (TysOK.cons ti17_ok (TysOK.cons ti18_ok (TysOK.cons ti19_ok (TysOK.cons ti21_ok (TysOK.cons ti22_ok (TysOK.cons ti23_ok (TysOK.cons ti24_ok (TysOK.cons ti25_ok (TysOK.cons ti26_ok (TysOK.cons ti27_ok (TysOK.cons ti28_ok (TysOK.cons ti29_ok (TysOK.cons ti30_ok (TysOK.cons ti31_ok (TysOK.cons ti32_ok (TysOK.cons ti33_ok (TysOK.cons ti34_ok (TysOK.cons ti35_ok (TysOK.cons ti37_ok (TysOK.cons ti38_ok (TysOK.cons ti39_ok (TysOK.cons ti40_ok (TysOK.cons ti41_ok (TysOK.cons ti42_ok (TysOK.cons ti43_ok (TysOK.cons ti44_ok (TysOK.cons ti45_ok (TysOK.cons ti46_ok (TysOK.cons ti47_ok (TysOK.cons ti48_ok (TysOK.cons ti49_ok (TysOK.cons ti50_ok (TysOK.cons ti51_ok (TysOK.cons ti52_ok (TysOK.cons ti53_ok (TysOK.cons ti54_ok (TysOK.cons ti55_ok (TysOK.cons ti56_ok (TysOK.cons ti57_ok (TysOK.cons ti58_ok (TysOK.cons ti59_ok (TysOK.cons ti60_ok (TysOK.cons ti61_ok (TysOK.cons ti62_ok (TysOK.cons ti63_ok (TysOK.cons ti64_ok (TysOK.cons ti65_ok (TysOK.cons ti66_ok (TysOK.cons ti67_ok (TysOK.cons ti68_ok (TysOK.cons ti69_ok TysOK.nil)))))))))))))))))))))))))))))))))))))))))))))))))))))))))))))))))))
/-! ### spec_l05Target -/
noncomputable def spec_l05Target.b : Code := bodyOf Try.f36
noncomputable def spec_l05Target.C : Ctx := { ty := tys, fn := [], lp := [], n := 9, k := 0 }
theorem spec_l05Target.hC : CtxOK Try.prog spec_l05Target.C := CtxOK.of mo tys_ok FnsOK.nil
theorem spec_l05Target.lp : LpOK Try.prog spec_l05Target.C spec_l05Target.b := (LpOK.nil (by kernel_rfl))
noncomputable def spec_l05Target.t (x0 : Nat) : T Bool :=
  .br (fge .f32 x0 981467136)
  (.leaf (fle .f32 x0 1149239296))
  (.leaf false)
noncomputable def spec_l05Target (x0 : Nat) : Bool := (spec_l05Target.t x0).val
def spec_l05Target.cd : Cd Nat (List V × Hp) := Cd.iso (Cd.pair (Cd.cons (Cd.fl .f32) Cd.nil) Cd.nil) (fun a => a.1.1) (fun a => ((a, ()), ())) (fun _ => rfl)
noncomputable def spec_l05Target.tr (a : Nat) : T Bool := spec_l05Target.t a
def spec_l05Target.enc : Nat → Bool → V := fun a r => .bo r
noncomputable def spec_l05Target.c : List V → Hp → T V := cdQ spec_l05Target.cd (fun a => .leaf (spec_l05Target.enc a (spec_l05Target a)))
theorem spec_l05Target.run (a : Nat) : runF spec_l05Target.C Try.f36.results.toList spec_l05Target.b (spec_l05Target.cd.enc a).1 (spec_l05Target.cd.enc a).2 = (spec_l05Target.tr a).map fun r => (spec_l05Target.enc a r, (spec_l05Target.cd.enc a).2) := by kernel_rfl
theorem spec_l05Target.cok : OKq Try.prog 36 spec_l05Target.c := con_q' spec_l05Target.cd spec_l05Target.hC Try.func36 (by kernel_rfl) (by kernel_rfl) (by kernel_rfl) spec_l05Target.lp (fun a => by kernel_rfl) spec_l05Target.run (Tells.val (tree := spec_l05Target.tr) fun a => by kernel_rfl)
/-! ### spec_l01Plain -/
noncomputable def spec_l01Plain.b : Code := bodyOf Try.f37
noncomputable def spec_l01Plain.C : Ctx := { ty := tys, fn := [], lp := [], n := 9, k := 0 }
theorem spec_l01Plain.hC : CtxOK Try.prog spec_l01Plain.C := CtxOK.of mo tys_ok FnsOK.nil
theorem spec_l01Plain.lp : LpOK Try.prog spec_l01Plain.C spec_l01Plain.b := (LpOK.nil (by kernel_rfl))
noncomputable def spec_l01Plain.t (x0 : Nat) : T Bool :=
  .br (fge .f32 x0 3380609024)
  (.leaf (fle .f32 x0 1233125376))
  (.leaf false)
noncomputable def spec_l01Plain (x0 : Nat) : Bool := (spec_l01Plain.t x0).val
def spec_l01Plain.cd : Cd Nat (List V × Hp) := Cd.iso (Cd.pair (Cd.cons (Cd.fl .f32) Cd.nil) Cd.nil) (fun a => a.1.1) (fun a => ((a, ()), ())) (fun _ => rfl)
noncomputable def spec_l01Plain.tr (a : Nat) : T Bool := spec_l01Plain.t a
def spec_l01Plain.enc : Nat → Bool → V := fun a r => .bo r
noncomputable def spec_l01Plain.c : List V → Hp → T V := cdQ spec_l01Plain.cd (fun a => .leaf (spec_l01Plain.enc a (spec_l01Plain a)))
theorem spec_l01Plain.run (a : Nat) : runF spec_l01Plain.C Try.f37.results.toList spec_l01Plain.b (spec_l01Plain.cd.enc a).1 (spec_l01Plain.cd.enc a).2 = (spec_l01Plain.tr a).map fun r => (spec_l01Plain.enc a r, (spec_l01Plain.cd.enc a).2) := by kernel_rfl
theorem spec_l01Plain.cok : OKq Try.prog 37 spec_l01Plain.c := con_q' spec_l01Plain.cd spec_l01Plain.hC Try.func37 (by kernel_rfl) (by kernel_rfl) (by kernel_rfl) spec_l01Plain.lp (fun a => by kernel_rfl) spec_l01Plain.run (Tells.val (tree := spec_l01Plain.tr) fun a => by kernel_rfl)
/-! ### spec_l01Size -/
noncomputable def spec_l01Size.b : Code := bodyOf Try.f46
noncomputable def spec_l01Size.C : Ctx := { ty := tys, fn := [], lp := [], n := 8, k := 0 }
theorem spec_l01Size.hC : CtxOK Try.prog spec_l01Size.C := CtxOK.of mo tys_ok FnsOK.nil
theorem spec_l01Size.lp : LpOK Try.prog spec_l01Size.C spec_l01Size.b := (LpOK.nil (by kernel_rfl))
noncomputable def spec_l01Size.t (x0 : Nat) : T Nat :=
  .br (flt .f32 x0 0)
  (.leaf (fneg .f32 x0))
  (.leaf x0)
noncomputable def spec_l01Size (x0 : Nat) : Nat := (spec_l01Size.t x0).val
def spec_l01Size.cd : Cd Nat (List V × Hp) := Cd.iso (Cd.pair (Cd.cons (Cd.fl .f32) Cd.nil) Cd.nil) (fun a => a.1.1) (fun a => ((a, ()), ())) (fun _ => rfl)
noncomputable def spec_l01Size.tr (a : Nat) : T Nat := spec_l01Size.t a
def spec_l01Size.enc : Nat → Nat → V := fun a r => .fl .f32 r
noncomputable def spec_l01Size.c : List V → Hp → T V := cdQ spec_l01Size.cd (fun a => .leaf (spec_l01Size.enc a (spec_l01Size a)))
theorem spec_l01Size.run (a : Nat) : runF spec_l01Size.C Try.f46.results.toList spec_l01Size.b (spec_l01Size.cd.enc a).1 (spec_l01Size.cd.enc a).2 = (spec_l01Size.tr a).map fun r => (spec_l01Size.enc a r, (spec_l01Size.cd.enc a).2) := by kernel_rfl
theorem spec_l01Size.cok : OKq Try.prog 46 spec_l01Size.c := con_q' spec_l01Size.cd spec_l01Size.hC Try.func46 (by kernel_rfl) (by kernel_rfl) (by kernel_rfl) spec_l01Size.lp (fun a => by kernel_rfl) spec_l01Size.run (Tells.val (tree := spec_l01Size.tr) fun a => by kernel_rfl)
/-! ### spec_l05Off -/
noncomputable def spec_l05Off.b : Code := bodyOf Try.f38
noncomputable def spec_l05Off.C : Ctx := { ty := tys, fn := [(46, .q spec_l01Size.c)], lp := [], n := 11, k := 0 }
theorem spec_l05Off.hC : CtxOK Try.prog spec_l05Off.C := CtxOK.of mo tys_ok (FnsOK.cons spec_l01Size.cok FnsOK.nil)
theorem spec_l05Off.lp : LpOK Try.prog spec_l05Off.C spec_l05Off.b := (LpOK.nil (by kernel_rfl))
noncomputable def spec_l05Off.t (x0 : Nat) (x1 : Nat) : T Nat :=
  .leaf (fdiv .f32 (spec_l01Size (fsub .f32 x0 x1)) x1)
noncomputable def spec_l05Off (x0 : Nat) (x1 : Nat) : Nat := (spec_l05Off.t x0 x1).val
def spec_l05Off.cd : Cd (Nat × Nat) (List V × Hp) := Cd.iso (Cd.pair (Cd.cons (Cd.fl .f32) (Cd.cons (Cd.fl .f32) Cd.nil)) Cd.nil) (fun a => (a.1.1, a.1.2.1)) (fun a => ((a.1, (a.2, ())), ())) (fun _ => rfl)
noncomputable def spec_l05Off.tr (a : Nat × Nat) : T Nat := spec_l05Off.t a.1 a.2
def spec_l05Off.enc : (Nat × Nat) → Nat → V := fun a r => .fl .f32 r
noncomputable def spec_l05Off.c : List V → Hp → T V := cdQ spec_l05Off.cd (fun a => .leaf (spec_l05Off.enc a (spec_l05Off a.1 a.2)))
theorem spec_l05Off.run (a : Nat × Nat) : runF spec_l05Off.C Try.f38.results.toList spec_l05Off.b (spec_l05Off.cd.enc a).1 (spec_l05Off.cd.enc a).2 = (spec_l05Off.tr a).map fun r => (spec_l05Off.enc a r, (spec_l05Off.cd.enc a).2) := by kernel_rfl
theorem spec_l05Off.cok : OKq Try.prog 38 spec_l05Off.c := con_q' spec_l05Off.cd spec_l05Off.hC Try.func38 (by kernel_rfl) (by kernel_rfl) (by kernel_rfl) spec_l05Off.lp (fun a => by kernel_rfl) spec_l05Off.run (Tells.val (tree := spec_l05Off.tr) fun a => by kernel_rfl)
/-! ### spec_OffBy -/
noncomputable def spec_OffBy.b : Code := bodyOf Try.f20
noncomputable def spec_OffBy.C : Ctx := { ty := tys, fn := [(36, .q spec_l05Target.c), (37, .q spec_l01Plain.c), (38, .q spec_l05Off.c)], lp := [], n := 17, k := 0 }
theorem spec_OffBy.hC : CtxOK Try.prog spec_OffBy.C := CtxOK.of mo tys_ok (FnsOK.cons spec_l05Target.cok (FnsOK.cons spec_l01Plain.cok (FnsOK.cons spec_l05Off.cok FnsOK.nil)))
theorem spec_OffBy.lp : LpOK Try.prog spec_OffBy.C spec_OffBy.b := (LpOK.nil (by kernel_rfl))
noncomputable def spec_OffBy.t (x0 : Nat) (x1 : Nat) : T (Nat × Int) :=
  .br (!(spec_l05Target x1))
  (.leaf (0, (2 : Int)))
  (.br (!(spec_l01Plain x0))
   (.leaf (0, (2 : Int)))
   (.leaf ((spec_l05Off x0 x1), (0 : Int))))
noncomputable def spec_OffBy (x0 : Nat) (x1 : Nat) : Nat × Int := (spec_OffBy.t x0 x1).val
def spec_OffBy.cd : Cd (Nat × Nat) (List V × Hp) := Cd.iso (Cd.pair (Cd.cons (Cd.fl .f32) (Cd.cons (Cd.fl .f32) Cd.nil)) Cd.nil) (fun a => (a.1.1, a.1.2.1)) (fun a => ((a.1, (a.2, ())), ())) (fun _ => rfl)
noncomputable def spec_OffBy.tr (a : Nat × Nat) : T (Nat × Int) := spec_OffBy.t a.1 a.2
def spec_OffBy.enc : (Nat × Nat) → (Nat × Int) → V := fun a r => .tup [.fl .f32 r.1, .it .i64 r.2]
noncomputable def spec_OffBy.c : List V → Hp → T V := cdQ spec_OffBy.cd (fun a => .leaf (spec_OffBy.enc a (spec_OffBy a.1 a.2)))
theorem spec_OffBy.run (a : Nat × Nat) : runF spec_OffBy.C Try.f20.results.toList spec_OffBy.b (spec_OffBy.cd.enc a).1 (spec_OffBy.cd.enc a).2 = (spec_OffBy.tr a).map fun r => (spec_OffBy.enc a r, (spec_OffBy.cd.enc a).2) := by kernel_rfl
theorem spec_OffBy.cok : OKq Try.prog 20 spec_OffBy.c := con_q' spec_OffBy.cd spec_OffBy.hC Try.func20 (by kernel_rfl) (by kernel_rfl) (by kernel_rfl) spec_OffBy.lp (fun a => by kernel_rfl) spec_OffBy.run (Tells.val (tree := spec_OffBy.tr) fun a => by kernel_rfl)
/-! ### impl_between -/
noncomputable def impl_between.b : Code := bodyOf Try.f28
noncomputable def impl_between.C : Ctx := { ty := tys, fn := [], lp := [], n := 15, k := 0 }
theorem impl_between.hC : CtxOK Try.prog impl_between.C := CtxOK.of mo tys_ok FnsOK.nil
theorem impl_between.lp : LpOK Try.prog impl_between.C impl_between.b := (LpOK.nil (by kernel_rfl))
noncomputable def impl_between.t (x0 : Nat) (x1 : Nat) (x2 : Nat) : T Bool :=
  .br (fle .f32 x1 x0)
  (.leaf (fle .f32 x0 x2))
  (.leaf false)
noncomputable def impl_between (x0 : Nat) (x1 : Nat) (x2 : Nat) : Bool := (impl_between.t x0 x1 x2).val
def impl_between.cd : Cd (Nat × Nat × Nat) (List V × Hp) := Cd.iso (Cd.pair (Cd.cons (Cd.fl .f32) (Cd.cons (Cd.fl .f32) (Cd.cons (Cd.fl .f32) Cd.nil))) Cd.nil) (fun a => (a.1.1, a.1.2.1, a.1.2.2.1)) (fun a => ((a.1, (a.2.1, (a.2.2, ()))), ())) (fun _ => rfl)
noncomputable def impl_between.tr (a : Nat × Nat × Nat) : T Bool := impl_between.t a.1 a.2.1 a.2.2
def impl_between.enc : (Nat × Nat × Nat) → Bool → V := fun a r => .bo r
noncomputable def impl_between.c : List V → Hp → T V := cdQ impl_between.cd (fun a => .leaf (impl_between.enc a (impl_between a.1 a.2.1 a.2.2)))
theorem impl_between.run (a : Nat × Nat × Nat) : runF impl_between.C Try.f28.results.toList impl_between.b (impl_between.cd.enc a).1 (impl_between.cd.enc a).2 = (impl_between.tr a).map fun r => (impl_between.enc a r, (impl_between.cd.enc a).2) := by kernel_rfl
theorem impl_between.cok : OKq Try.prog 28 impl_between.c := con_q' impl_between.cd impl_between.hC Try.func28 (by kernel_rfl) (by kernel_rfl) (by kernel_rfl) impl_between.lp (fun a => by kernel_rfl) impl_between.run (Tells.val (tree := impl_between.tr) fun a => by kernel_rfl)
/-! ### impl_IsPlain -/
noncomputable def impl_IsPlain.b : Code := bodyOf Try.f39
noncomputable def impl_IsPlain.C : Ctx := { ty := tys, fn := [(28, .q impl_between.c)], lp := [], n := 5, k := 0 }
theorem impl_IsPlain.hC : CtxOK Try.prog impl_IsPlain.C := CtxOK.of mo tys_ok (FnsOK.cons impl_between.cok FnsOK.nil)
theorem impl_IsPlain.lp : LpOK Try.prog impl_IsPlain.C impl_IsPlain.b := (LpOK.nil (by kernel_rfl))
noncomputable def impl_IsPlain.t (x0 : Nat) : T Bool :=
  .leaf (impl_between x0 3380609024 1233125376)
noncomputable def impl_IsPlain (x0 : Nat) : Bool := (impl_IsPlain.t x0).val
def impl_IsPlain.cd : Cd Nat (List V × Hp) := Cd.iso (Cd.pair (Cd.cons (Cd.fl .f32) Cd.nil) Cd.nil) (fun a => a.1.1) (fun a => ((a, ()), ())) (fun _ => rfl)
noncomputable def impl_IsPlain.tr (a : Nat) : T Bool := impl_IsPlain.t a
def impl_IsPlain.enc : Nat → Bool → V := fun a r => .bo r
noncomputable def impl_IsPlain.c : List V → Hp → T V := cdQ impl_IsPlain.cd (fun a => .leaf (impl_IsPlain.enc a (impl_IsPlain a)))
theorem impl_IsPlain.run (a : Nat) : runF impl_IsPlain.C Try.f39.results.toList impl_IsPlain.b (impl_IsPlain.cd.enc a).1 (impl_IsPlain.cd.enc a).2 = (impl_IsPlain.tr a).map fun r => (impl_IsPlain.enc a r, (impl_IsPlain.cd.enc a).2) := by kernel_rfl
theorem impl_IsPlain.cok : OKq Try.prog 39 impl_IsPlain.c := con_q' impl_IsPlain.cd impl_IsPlain.hC Try.func39 (by kernel_rfl) (by kernel_rfl) (by kernel_rfl) impl_IsPlain.lp (fun a => by kernel_rfl) impl_IsPlain.run (Tells.val (tree := impl_IsPlain.tr) fun a => by kernel_rfl)
/-! ### impl_isTarget -/
noncomputable def impl_isTarget.b : Code := bodyOf Try.f40
noncomputable def impl_isTarget.C : Ctx := { ty := tys, fn := [(28, .q impl_between.c)], lp := [], n := 5, k := 0 }
theorem impl_isTarget.hC : CtxOK Try.prog impl_isTarget.C := CtxOK.of mo tys_ok (FnsOK.cons impl_between.cok FnsOK.nil)
theorem impl_isTarget.lp : LpOK Try.prog impl_isTarget.C impl_isTarget.b := (LpOK.nil (by kernel_rfl))
noncomputable def impl_isTarget.t (x0 : Nat) : T Bool :=
  .leaf (impl_between x0 981467136 1149239296)
noncomputable def impl_isTarget (x0 : Nat) : Bool := (impl_isTarget.t x0).val
def impl_isTarget.cd : Cd Nat (List V × Hp) := Cd.iso (Cd.pair (Cd.cons (Cd.fl .f32) Cd.nil) Cd.nil) (fun a => a.1.1) (fun a => ((a, ()), ())) (fun _ => rfl)
noncomputable def impl_isTarget.tr (a : Nat) : T Bool := impl_isTarget.t a
def impl_isTarget.enc : Nat → Bool → V := fun a r => .bo r
noncomputable def impl_isTarget.c : List V → Hp → T V := cdQ impl_isTarget.cd (fun a => .leaf (impl_isTarget.enc a (impl_isTarget a)))
theorem impl_isTarget.run (a : Nat) : runF impl_isTarget.C Try.f40.results.toList impl_isTarget.b (impl_isTarget.cd.enc a).1 (impl_isTarget.cd.enc a).2 = (impl_isTarget.tr a).map fun r => (impl_isTarget.enc a r, (impl_isTarget.cd.enc a).2) := by kernel_rfl
theorem impl_isTarget.cok : OKq Try.prog 40 impl_isTarget.c := con_q' impl_isTarget.cd impl_isTarget.hC Try.func40 (by kernel_rfl) (by kernel_rfl) (by kernel_rfl) impl_isTarget.lp (fun a => by kernel_rfl) impl_isTarget.run (Tells.val (tree := impl_isTarget.tr) fun a => by kernel_rfl)
/-! ### impl_size -/
noncomputable def impl_size.b : Code := bodyOf Try.f47
noncomputable def impl_size.C : Ctx := { ty := tys, fn := [], lp := [], n := 8, k := 0 }
theorem impl_size.hC : CtxOK Try.prog impl_size.C := CtxOK.of mo tys_ok FnsOK.nil
theorem impl_size.lp : LpOK Try.prog impl_size.C impl_size.b := (LpOK.nil (by kernel_rfl))
noncomputable def impl_size.t (x0 : Nat) : T Nat :=
  .br (flt .f32 x0 0)
  (.leaf (fsub .f32 0 x0))
  (.leaf x0)
noncomputable def impl_size (x0 : Nat) : Nat := (impl_size.t x0).val
def impl_size.cd : Cd Nat (List V × Hp) := Cd.iso (Cd.pair (Cd.cons (Cd.fl .f32) Cd.nil) Cd.nil) (fun a => a.1.1) (fun a => ((a, ()), ())) (fun _ => rfl)
noncomputable def impl_size.tr (a : Nat) : T Nat := impl_size.t a
def impl_size.enc : Nat → Nat → V := fun a r => .fl .f32 r
noncomputable def impl_size.c : List V → Hp → T V := cdQ impl_size.cd (fun a => .leaf (impl_size.enc a (impl_size a)))
theorem impl_size.run (a : Nat) : runF impl_size.C Try.f47.results.toList impl_size.b (impl_size.cd.enc a).1 (impl_size.cd.enc a).2 = (impl_size.tr a).map fun r => (impl_size.enc a r, (impl_size.cd.enc a).2) := by kernel_rfl
theorem impl_size.cok : OKq Try.prog 47 impl_size.c := con_q' impl_size.cd impl_size.hC Try.func47 (by kernel_rfl) (by kernel_rfl) (by kernel_rfl) impl_size.lp (fun a => by kernel_rfl) impl_size.run (Tells.val (tree := impl_size.tr) fun a => by kernel_rfl)
/-! ### impl_offBy -/
noncomputable def impl_offBy.b : Code := bodyOf Try.f41
noncomputable def impl_offBy.C : Ctx := { ty := tys, fn := [(47, .q impl_size.c)], lp := [], n := 11, k := 0 }
theorem impl_offBy.hC : CtxOK Try.prog impl_offBy.C := CtxOK.of mo tys_ok (FnsOK.cons impl_size.cok FnsOK.nil)
theorem impl_offBy.lp : LpOK Try.prog impl_offBy.C impl_offBy.b := (LpOK.nil (by kernel_rfl))
noncomputable def impl_offBy.t (x0 : Nat) (x1 : Nat) : T Nat :=
  .leaf (fdiv .f32 (impl_size (fsub .f32 x0 x1)) x1)
noncomputable def impl_offBy (x0 : Nat) (x1 : Nat) : Nat := (impl_offBy.t x0 x1).val
def impl_offBy.cd : Cd (Nat × Nat) (List V × Hp) := Cd.iso (Cd.pair (Cd.cons (Cd.fl .f32) (Cd.cons (Cd.fl .f32) Cd.nil)) Cd.nil) (fun a => (a.1.1, a.1.2.1)) (fun a => ((a.1, (a.2, ())), ())) (fun _ => rfl)
noncomputable def impl_offBy.tr (a : Nat × Nat) : T Nat := impl_offBy.t a.1 a.2
def impl_offBy.enc : (Nat × Nat) → Nat → V := fun a r => .fl .f32 r
noncomputable def impl_offBy.c : List V → Hp → T V := cdQ impl_offBy.cd (fun a => .leaf (impl_offBy.enc a (impl_offBy a.1 a.2)))
theorem impl_offBy.run (a : Nat × Nat) : runF impl_offBy.C Try.f41.results.toList impl_offBy.b (impl_offBy.cd.enc a).1 (impl_offBy.cd.enc a).2 = (impl_offBy.tr a).map fun r => (impl_offBy.enc a r, (impl_offBy.cd.enc a).2) := by kernel_rfl
theorem impl_offBy.cok : OKq Try.prog 41 impl_offBy.c := con_q' impl_offBy.cd impl_offBy.hC Try.func41 (by kernel_rfl) (by kernel_rfl) (by kernel_rfl) impl_offBy.lp (fun a => by kernel_rfl) impl_offBy.run (Tells.val (tree := impl_offBy.tr) fun a => by kernel_rfl)
/-! ### impl_OffBy -/
noncomputable def impl_OffBy.b : Code := bodyOf Try.f21
noncomputable def impl_OffBy.C : Ctx := { ty := tys, fn := [(39, .q impl_IsPlain.c), (40, .q impl_isTarget.c), (41, .q impl_offBy.c)], lp := [], n := 17, k := 0 }
theorem impl_OffBy.hC : CtxOK Try.prog impl_OffBy.C := CtxOK.of mo tys_ok (FnsOK.cons impl_IsPlain.cok (FnsOK.cons impl_isTarget.cok (FnsOK.cons impl_offBy.cok FnsOK.nil)))
theorem impl_OffBy.lp : LpOK Try.prog impl_OffBy.C impl_OffBy.b := (LpOK.nil (by kernel_rfl))
noncomputable def impl_OffBy.t (x0 : Nat) (x1 : Nat) : T (Nat × Int) :=
  .br (!(impl_IsPlain x0))
  (.leaf (0, (2 : Int)))
  (.br (!(impl_isTarget x1))
   (.leaf (0, (2 : Int)))
   (.leaf ((impl_offBy x0 x1), (0 : Int))))
noncomputable def impl_OffBy (x0 : Nat) (x1 : Nat) : Nat × Int := (impl_OffBy.t x0 x1).val
def impl_OffBy.cd : Cd (Nat × Nat) (List V × Hp) := Cd.iso (Cd.pair (Cd.cons (Cd.fl .f32) (Cd.cons (Cd.fl .f32) Cd.nil)) Cd.nil) (fun a => (a.1.1, a.1.2.1)) (fun a => ((a.1, (a.2, ())), ())) (fun _ => rfl)
noncomputable def impl_OffBy.tr (a : Nat × Nat) : T (Nat × Int) := impl_OffBy.t a.1 a.2
def impl_OffBy.enc : (Nat × Nat) → (Nat × Int) → V := fun a r => .tup [.fl .f32 r.1, .it .i64 r.2]
noncomputable def impl_OffBy.c : List V → Hp → T V := cdQ impl_OffBy.cd (fun a => .leaf (impl_OffBy.enc a (impl_OffBy a.1 a.2)))
theorem impl_OffBy.run (a : Nat × Nat) : runF impl_OffBy.C Try.f21.results.toList impl_OffBy.b (impl_OffBy.cd.enc a).1 (impl_OffBy.cd.enc a).2 = (impl_OffBy.tr a).map fun r => (impl_OffBy.enc a r, (impl_OffBy.cd.enc a).2) := by kernel_rfl
theorem impl_OffBy.cok : OKq Try.prog 21 impl_OffBy.c := con_q' impl_OffBy.cd impl_OffBy.hC Try.func21 (by kernel_rfl) (by kernel_rfl) (by kernel_rfl) impl_OffBy.lp (fun a => by kernel_rfl) impl_OffBy.run (Tells.val (tree := impl_OffBy.tr) fun a => by kernel_rfl)
/-! ### laws_sameFloat -/
noncomputable def laws_sameFloat.b : Code := bodyOf Try.f22
noncomputable def laws_sameFloat.C : Ctx := { ty := tys, fn := [], lp := [], n := 37, k := 0 }
theorem laws_sameFloat.hC : CtxOK Try.prog laws_sameFloat.C := CtxOK.of mo tys_ok FnsOK.nil
theorem laws_sameFloat.lp : LpOK Try.prog laws_sameFloat.C laws_sameFloat.b := (LpOK.nil (by kernel_rfl))
noncomputable def laws_sameFloat.t (x0 : Nat) (x1 : Nat) : T Bool :=
  .br (fne .f64 x0 x0)
  (.br (fne .f64 x0 x0)
   (.leaf (fne .f64 x1 x1))
   (.leaf false))
  (.br (fne .f64 x1 x1)
   (.br (fne .f64 x0 x0)
    (.leaf (fne .f64 x1 x1))
    (.leaf false))
   (.br (feq .f64 x0 0)
    (.br (feq .f64 x1 0)
     (.leaf ((fgt .f64 (fdiv .f64 4607182418800017408 x0) 0) == (fgt .f64 (fdiv .f64 4607182418800017408 x1) 0)))
     (.leaf (feq .f64 x0 x1)))
    (.leaf (feq .f64 x0 x1))))
noncomputable def laws_sameFloat (x0 : Nat) (x1 : Nat) : Bool := (laws_sameFloat.t x0 x1).val
def laws_sameFloat.cd : Cd (Nat × Nat) (List V × Hp) := Cd.iso (Cd.pair (Cd.cons (Cd.fl .f64) (Cd.cons (Cd.fl .f64) Cd.nil)) Cd.nil) (fun a => (a.1.1, a.1.2.1)) (fun a => ((a.1, (a.2, ())), ())) (fun _ => rfl)
noncomputable def laws_sameFloat.tr (a : Nat × Nat) : T Bool := laws_sameFloat.t a.1 a.2
def laws_sameFloat.enc : (Nat × Nat) → Bool → V := fun a r => .bo r
noncomputable def laws_sameFloat.c : List V → Hp → T V := cdQ laws_sameFloat.cd (fun a => .leaf (laws_sameFloat.enc a (laws_sameFloat a.1 a.2)))
theorem laws_sameFloat.run (a : Nat × Nat) : runF laws_sameFloat.C Try.f22.results.toList laws_sameFloat.b (laws_sameFloat.cd.enc a).1 (laws_sameFloat.cd.enc a).2 = (laws_sameFloat.tr a).map fun r => (laws_sameFloat.enc a r, (laws_sameFloat.cd.enc a).2) := by kernel_rfl
theorem laws_sameFloat.cok : OKq Try.prog 22 laws_sameFloat.c := con_q' laws_sameFloat.cd laws_sameFloat.hC Try.func22 (by kernel_rfl) (by kernel_rfl) (by kernel_rfl) laws_sameFloat.lp (fun a => by kernel_rfl) laws_sameFloat.run (Tells.val (tree := laws_sameFloat.tr) fun a => by kernel_rfl)
/-! ### laws_FnExactOffBy -/
noncomputable def laws_FnExactOffBy.b : Code := bodyOf Try.f7
noncomputable def laws_FnExactOffBy.C : Ctx := { ty := tys, fn := [(20, .q spec_OffBy.c), (21, .q impl_OffBy.c), (22, .q laws_sameFloat.c)], lp := [], n := 32, k := 0 }
theorem laws_FnExactOffBy.hC : CtxOK Try.prog laws_FnExactOffBy.C := CtxOK.of mo tys_ok (FnsOK.cons spec_OffBy.cok (FnsOK.cons impl_OffBy.cok (FnsOK.cons laws_sameFloat.cok FnsOK.nil)))
theorem laws_FnExactOffBy.lp : LpOK Try.prog laws_FnExactOffBy.C laws_FnExactOffBy.b := (LpOK.nil (by kernel_rfl))
noncomputable def laws_FnExactOffBy.t (x0 : Nat) (x1 : Nat) : T Bool :=
  .br (fcvOpen .f32 .f64 (impl_OffBy x0 x1).1)
  .bad
  (.br (fcvOpen .f32 .f64 (spec_OffBy x0 x1).1)
   .bad
   (.br (!(laws_sameFloat (fcv .f32 .f64 (impl_OffBy x0 x1).1) (fcv .f32 .f64 (spec_OffBy x0 x1).1)))
    (.leaf false)
    (.br ((impl_OffBy x0 x1).2 != (spec_OffBy x0 x1).2)
     (.leaf false)
     (.leaf true))))
noncomputable def laws_FnExactOffBy (x0 : Nat) (x1 : Nat) : Bool := (laws_FnExactOffBy.t x0 x1).val
noncomputable def laws_FnExactOffBy.ok (x0 : Nat) (x1 : Nat) : Bool := (laws_FnExactOffBy.t x0 x1).ok
def laws_FnExactOffBy.cd : Cd (Nat × Nat) (List V × Hp) := Cd.iso (Cd.pair (Cd.cons (Cd.fl .f32) (Cd.cons (Cd.fl .f32) Cd.nil)) Cd.nil) (fun a => (a.1.1, a.1.2.1)) (fun a => ((a.1, (a.2, ())), ())) (fun _ => rfl)
noncomputable def laws_FnExactOffBy.tr (a : Nat × Nat) : T Bool := laws_FnExactOffBy.t a.1 a.2
def laws_FnExactOffBy.enc : (Nat × Nat) → Bool → V := fun a r => .bo r
noncomputable def laws_FnExactOffBy.c : List V → Hp → T V := cdQ laws_FnExactOffBy.cd (fun a => .br (laws_FnExactOffBy.ok a.1 a.2) (.leaf (laws_FnExactOffBy.enc a (laws_FnExactOffBy a.1 a.2))) .bad)
theorem laws_FnExactOffBy.run (a : Nat × Nat) : runF laws_FnExactOffBy.C Try.f7.results.toList laws_FnExactOffBy.b (laws_FnExactOffBy.cd.enc a).1 (laws_FnExactOffBy.cd.enc a).2 = (laws_FnExactOffBy.tr a).map fun r => (laws_FnExactOffBy.enc a r, (laws_FnExactOffBy.cd.enc a).2) := by kernel_rfl
theorem laws_FnExactOffBy.cok : OKq Try.prog 7 laws_FnExactOffBy.c := con_q' laws_FnExactOffBy.cd laws_FnExactOffBy.hC Try.func7 (by kernel_rfl) (by kernel_rfl) (by kernel_rfl) laws_FnExactOffBy.lp (fun a => by kernel_rfl) laws_FnExactOffBy.run (Tells.ok (tree := laws_FnExactOffBy.tr))
theorem laws_FnExactOffBy.walk (a : Nat × Nat) (h : (laws_FnExactOffBy.tr a).get = some true) {ρ : Nat → Option Sx.Loc} {w : World} {vs : List Value} (hargs : V.Rs ρ (laws_FnExactOffBy.cd.enc a).1 vs) (hh : HpR ρ (laws_FnExactOffBy.cd.enc a).2 w) :
    Calls Try.prog 7 vs.toArray w fun e w' => e = .returned (.bool true) ∧ Below w.heap.size w w' :=
  law_cd laws_FnExactOffBy.cd laws_FnExactOffBy.hC Try.func7 (by kernel_rfl) (by kernel_rfl) laws_FnExactOffBy.lp (fun a => by kernel_rfl) laws_FnExactOffBy.run (fun a => by kernel_rfl) a (by kernel_rfl) h hargs hh
end Go.Proofs.Ytlnfakbmigbdbaa
