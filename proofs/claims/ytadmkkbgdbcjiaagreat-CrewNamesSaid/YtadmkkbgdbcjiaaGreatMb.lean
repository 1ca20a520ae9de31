import Derived.Test.YtadmkkbgdbcjiaaGreatRun
/-
Closed runs of the evaluator, done by the kernel. No condition.
-/
namespace Go.Drip
theorem chk_run : comes vOK (run noG 198 [vE] H00) = true := by decide +kernel
theorem cl5_run : comes vr_cl5 (run G1 23 [vE, vD5] H00) = true := by decide +kernel
theorem cd5_run : comes vr_cd5 (run G1 22 [vE, vC4, .agg [.num .u8 3, .num .i64 0, .num .i64 0, .num .i64 0]] H00) = true := by decide +kernel
theorem cs5_run : comes vr_cs5 (run G1 25 [vE, vD5] H00) = true := by decide +kernel
theorem cw2_run : comes vr_cw2 (run G1 26 [vE, vD5, .num .i64 2] H00) = true := by decide +kernel
end Go.Drip
