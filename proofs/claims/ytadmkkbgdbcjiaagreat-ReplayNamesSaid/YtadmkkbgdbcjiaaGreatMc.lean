import Derived.Test.YtadmkkbgdbcjiaaGreatRun
/-
Closed runs of the evaluator, done by the kernel. No condition.
-/
namespace Go.Drip
theorem rd9_run : comes vr_rd9 (run GS 128 [vE, vR9, .agg [.num .u8 1, .num .i64 0, .num .i64 0]] H00) = true := by decide +kernel
theorem yd6_run : comes vr_yd6 (run GS 128 [vE, vY6, .agg [.num .u8 1, .num .i64 1, .num .i64 0]] H00) = true := by decide +kernel
theorem yd5_run : comes vr_yd5 (run GS 128 [vE, vR5, .agg [.num .u8 2, .num .i64 0, .num .i64 7]] H00) = true := by decide +kernel
theorem rd10_run : comes vr_rd10 (run GS 128 [vE, vR10, .agg [.num .u8 1, .num .i64 0, .num .i64 0]] H00) = true := by decide +kernel
theorem s1_1_run : comes vs1_1 (run GC 220 [vE, .num .i64 1, .num .i64 1] H00) = true := by decide +kernel
theorem s1_3_run : comes vs1_3 (run GC 220 [vE, .num .i64 1, .num .i64 3] H00) = true := by decide +kernel
theorem s2_1_run : comes vs2_1 (run GC 220 [vE, .num .i64 2, .num .i64 1] H00) = true := by decide +kernel
end Go.Drip
