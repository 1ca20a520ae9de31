import Derived.Test.YtadmkkbgdbcjiaaGreatRun
/-
Closed runs of the evaluator, done by the kernel. No condition.
-/
namespace Go.Drip
theorem do3_run : comes vr_do3 (run GS 128 [vE, vR2, .agg [.num .u8 1, .num .i64 0, .num .i64 0]] H00) = true := by decide +kernel
theorem do4_run : comes vr_do4 (run GS 128 [vE, vR3, .agg [.num .u8 1, .num .i64 0, .num .i64 0]] H00) = true := by decide +kernel
theorem do5_run : comes vr_do5 (run GS 128 [vE, vR4, .agg [.num .u8 1, .num .i64 1, .num .i64 0]] H00) = true := by decide +kernel
theorem s0_0_run : comes vs0_0 (run GC 220 [vE, .num .i64 0, .num .i64 0] H00) = true := by decide +kernel
theorem s0_1_run : comes vs0_1 (run GC 220 [vE, .num .i64 0, .num .i64 1] H00) = true := by decide +kernel
theorem s0_2_run : comes vs0_2 (run GC 220 [vE, .num .i64 0, .num .i64 2] H00) = true := by decide +kernel
theorem s0_3_run : comes vs0_3 (run GC 220 [vE, .num .i64 0, .num .i64 3] H00) = true := by decide +kernel
end Go.Drip
