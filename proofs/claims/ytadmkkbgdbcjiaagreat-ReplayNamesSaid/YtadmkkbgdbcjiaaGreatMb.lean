import Derived.Test.YtadmkkbgdbcjiaaGreatRun
/-
Closed runs of the evaluator, done by the kernel. No condition.
-/
namespace Go.Drip
theorem ra5_run : comes vr_ra5 (run GS 127 [vE, vR5] H00) = true := by decide +kernel
theorem rd8_run : comes vr_rd8 (run GS 128 [vE, vR8, .agg [.num .u8 1, .num .i64 0, .num .i64 0]] H00) = true := by decide +kernel
theorem ra4_run : comes vr_ra4 (run GS 127 [vE, vR4] H00) = true := by decide +kernel
theorem rd5_run : comes vr_rd5 (run GS 128 [vE, vR5, .agg [.num .u8 1, .num .i64 1, .num .i64 0]] H00) = true := by decide +kernel
theorem s2_2_run : comes vs2_2 (run GC 220 [vE, .num .i64 2, .num .i64 2] H00) = true := by decide +kernel
end Go.Drip
