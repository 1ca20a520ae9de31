import Derived.Test.YtnpgbcgdggapoaaGreatRun
/-
Closed runs of the evaluator, done by the kernel. No condition.
-/
namespace Go.Drip
theorem do3_run : comes vr_do3 (run GS 45 [vE, vs2, .agg [.num .u8 1, .num .i64 0, .num .i64 0]] H00) = true := by decide +kernel
theorem do4_run : comes vr_do4 (run GS 45 [vE, vs3, .agg [.num .u8 1, .num .i64 0, .num .i64 0]] H00) = true := by decide +kernel
theorem act0_run : comes vr_act0 (run GS 17 [vE, vct, .agg [.num .u8 0, .num .i64 0, .num .i64 0]] H00) = true := by decide +kernel
theorem pa1_run : comes vr_pa1 (run GS 93 [vE, vT1] H00) = true := by decide +kernel
theorem begin0_run : comes vr_begin0 (run GS 13 [vE, vc0] H00) = true := by decide +kernel
theorem end0_run : comes vr_end0 (run GS 14 [vE, vct] H00) = true := by decide +kernel
theorem look0_run : comes vr_look0 (run GS 16 [vE, vct, .num .i64 1] H00) = true := by decide +kernel
theorem pa0_run : comes vr_pa0 (run GS 93 [vE, vT0] H00) = true := by decide +kernel
theorem outm_run : comes vr_outm (run GS 19 [vE, .agg [.nils, .imm 7 1 (rowF [[.nils, .num .i64 0, .num .i64 0, .imm 7 4 (rowF [[.num .u8 0, .num .i64 0, .num .i64 0, .num .u8 0, .num .i64 0, .imm 1 0 (rowF []), .nils], [.num .u8 0, .num .i64 0, .num .i64 0, .num .u8 0, .num .i64 0, .imm 1 0 (rowF []), .nils], [.num .u8 0, .num .i64 0, .num .i64 0, .num .u8 0, .num .i64 0, .imm 1 0 (rowF []), .nils], [.num .u8 0, .num .i64 0, .num .i64 0, .num .u8 0, .num .i64 0, .imm 1 0 (rowF []), .nils]]), .nils, .num .i64 (-1), .bool false]]), .nils, .nils, .nils, .num .i64 0, .nils, .num .i64 (-1)]] H00) = true := by decide +kernel
theorem right0_run : comes vr_right0 (run GS 21 [vE, .agg [.nils, .nils, .nils, .nils, .nils, .num .i64 0, .nils, .nils]] H00) = true := by decide +kernel
theorem s1_0_run : comes vs1_0 (run GC 249 [vE, .num .i64 1, .num .i64 0] H00) = true := by decide +kernel
theorem s2_1_run : comes vs2_1 (run GC 249 [vE, .num .i64 2, .num .i64 1] H00) = true := by decide +kernel
end Go.Drip
