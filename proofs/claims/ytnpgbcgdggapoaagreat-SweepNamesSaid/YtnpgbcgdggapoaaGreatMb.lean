import Derived.Test.YtnpgbcgdggapoaaGreatRun
/-
Closed runs of the evaluator, done by the kernel. No condition.
-/
namespace Go.Drip
theorem pd7_run : comes vr_pd7 (run GS 45 [vE, vT7, .agg [.num .u8 1, .num .i64 2, .num .i64 0]] H00) = true := by decide +kernel
theorem pd8_run : comes vr_pd8 (run GS 45 [vE, vT8, .agg [.num .u8 1, .num .i64 0, .num .i64 0]] H00) = true := by decide +kernel
theorem why4_run : comes vr_why4 (run GS 12 [vE, vc4, .num .i64 0] H00) = true := by decide +kernel
theorem pa4_run : comes vr_pa4 (run GS 93 [vE, vT4] H00) = true := by decide +kernel
end Go.Drip
