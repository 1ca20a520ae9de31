import Derived.Test.YtnpgbcgdggapoaaGreatRun
/-
Closed runs of the evaluator, done by the kernel. No condition.
-/
namespace Go.Drip
theorem sweepend_run : comes vr_sweepend (run GS 10 [vE, .agg [.imm 7 1 (rowF [[.nils, .num .i64 0, .num .i64 0, .num .u8 5, .num .i64 0, .imm 1 1 (rowF [[.num .i64 7]]), .nils]]), .imm 7 3 (rowF [[.nils, .num .i64 0, .num .i64 8, .nils, .nils, .num .i64 (-1), .bool true], [.imm 2 1 (rowF [[.num .i64 2, .num .i64 0]]), .num .i64 1, .num .i64 3, .nils, .nils, .num .i64 0, .bool true], [.imm 2 1 (rowF [[.num .i64 3, .num .i64 7]]), .num .i64 2, .num .i64 2, .nils, .nils, .num .i64 0, .bool true]]), .imm 4 1 (rowF [[.num .i64 0, .num .i64 1, .num .i64 (-1), .bool true]]), .imm 8 1 (rowF [[.num .i64 0, .num .i64 2, .imm 7 1 (rowF [[.num .u8 2, .num .i64 0, .num .i64 0, .num .u8 0, .num .i64 0, .imm 1 0 (rowF []), .nils]]), .nils, .num .i64 3, .num .i64 0, .imm 1 1 (rowF [[.num .i64 7]]), .bool true]]), .imm 1 1 (rowF [[.num .i64 1]]), .num .i64 8, .nils, .num .i64 0]] H00) = true := by decide +kernel
theorem pc5_run : comes vOK (run GS 59 [vE, vD5] H00) = true := by decide +kernel
theorem pa7_run : comes vr_pa7 (run GS 93 [vE, vT7] H00) = true := by decide +kernel
theorem pa6_run : comes vr_pa6 (run GS 93 [vE, vT6] H00) = true := by decide +kernel
theorem live0_run : comes vr_live0 (run GS 7 [vE, vc0] H00) = true := by decide +kernel
theorem copy4_run : comes vc4 (run GS 8 [vs4] H00) = true := by decide +kernel
end Go.Drip
