import Derived.Test.YtadmkkbgdbcjiaaGreatRun
/-
Closed runs of the evaluator, done by the kernel. No condition.
-/
namespace Go.Drip
theorem cp2_run : comes vr_cp2 (run G1 30 [vE, .nils, .num .i64 2, .imm 1 11 (rowF [[.num .i64 0], [.num .i64 1], [.num .i64 0], [.num .i64 2], [.num .i64 1], [.num .i64 1], [.num .i64 3], [.num .i64 0], [.num .i64 5], [.num .i64 1], [.num .i64 2]])] H00) = true := by decide +kernel
theorem cp1_run : comes vr_cp1 (run G1 30 [vE, .nils, .num .i64 1, .nils] H00) = true := by decide +kernel
theorem cd1_run : comes vr_cd1 (run G1 22 [vE, vC0, .agg [.num .u8 1, .num .i64 0, .num .i64 0, .num .i64 0]] H00) = true := by decide +kernel
theorem copyE_run : comes vE (run GS 8 [vE] H00) = true := by decide +kernel
end Go.Drip
