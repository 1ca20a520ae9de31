import Derived.Test.YtadmkkbgdbcjiaaGreatRun
/-
Closed runs of the evaluator, done by the kernel. No condition.
-/
namespace Go.Drip
theorem ra11_run : comes vr_ra11 (run GS 127 [vE, vR11] H00) = true := by decide +kernel
theorem ya6_run : comes vr_ya6 (run GS 127 [vE, vY6] H00) = true := by decide +kernel
theorem ra3_run : comes vr_ra3 (run GS 127 [vE, vR3] H00) = true := by decide +kernel
theorem ra10_run : comes vr_ra10 (run GS 127 [vE, vR10] H00) = true := by decide +kernel
theorem ra2_run : comes vr_ra2 (run GS 127 [vE, vR2] H00) = true := by decide +kernel
theorem do2_run : comes vr_do2 (run GS 128 [vE, vR1, .agg [.num .u8 1, .num .i64 0, .num .i64 0]] H00) = true := by decide +kernel
end Go.Drip
