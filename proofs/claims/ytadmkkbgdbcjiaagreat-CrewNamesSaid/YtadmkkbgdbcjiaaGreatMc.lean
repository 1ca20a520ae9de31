import Derived.Test.YtadmkkbgdbcjiaaGreatRun
/-
Closed runs of the evaluator, done by the kernel. No condition.
-/
namespace Go.Drip
theorem cw0_run : comes vr_cw0 (run G1 26 [vE, vD5, .num .i64 0] H00) = true := by decide +kernel
theorem cw1_run : comes vr_cw1 (run G1 26 [vE, vD5, .num .i64 1] H00) = true := by decide +kernel
theorem cd4_run : comes vr_cd4 (run G1 22 [vE, vC3, .agg [.num .u8 3, .num .i64 0, .num .i64 0, .num .i64 0]] H00) = true := by decide +kernel
theorem cd3_run : comes vr_cd3 (run G1 22 [vE, vC2, .agg [.num .u8 3, .num .i64 0, .num .i64 0, .num .i64 0]] H00) = true := by decide +kernel
theorem s0_0_run : comes vs0_0 (run GC 220 [vE, .num .i64 0, .num .i64 0] H00) = true := by decide +kernel
theorem s0_1_run : comes vs0_1 (run GC 220 [vE, .num .i64 0, .num .i64 1] H00) = true := by decide +kernel
theorem s0_2_run : comes vs0_2 (run GC 220 [vE, .num .i64 0, .num .i64 2] H00) = true := by decide +kernel
end Go.Drip
