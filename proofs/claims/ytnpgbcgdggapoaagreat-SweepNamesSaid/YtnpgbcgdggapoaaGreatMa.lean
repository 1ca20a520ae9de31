import Derived.Test.YtnpgbcgdggapoaaGreatRun
/-
Closed runs of the evaluator, done by the kernel. No condition.
-/
namespace Go.Drip
theorem run0_run : comes vr_run0 (run GS 9 [vE, vc0, .nils] H00) = true := by decide +kernel
theorem pd10_run : comes vr_pd10 (run GS 45 [vE, vT10, .agg [.num .u8 1, .num .i64 0, .num .i64 0]] H00) = true := by decide +kernel
theorem chk_run : comes vOK (run noG 95 [vE] H00) = true := by decide +kernel
theorem pd2_run : comes vr_pd2 (run GS 45 [vE, vT2, .agg [.num .u8 1, .num .i64 0, .num .i64 0]] H00) = true := by decide +kernel
end Go.Drip
