import Derived.Test.YtadmkkbgdbcjiaaGreatRun
/-
Closed runs of the evaluator, done by the kernel. No condition.
-/
namespace Go.Drip
theorem rd6_run : comes vr_rd6 (run GS 128 [vE, vR6, .agg [.num .u8 2, .num .i64 0, .num .i64 7]] H00) = true := by decide +kernel
theorem ra7_run : comes vr_ra7 (run GS 127 [vE, vR7] H00) = true := by decide +kernel
theorem ra6_run : comes vr_ra6 (run GS 127 [vE, vR6] H00) = true := by decide +kernel
theorem ra9_run : comes vr_ra9 (run GS 127 [vE, vR9] H00) = true := by decide +kernel
theorem do1_run : comes vr_do1 (run GS 128 [vE, vR0, .agg [.num .u8 1, .num .i64 0, .num .i64 0]] H00) = true := by decide +kernel
end Go.Drip
