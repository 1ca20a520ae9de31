import Derived.Test.YtnpgbcgdggapoaaGreatRun
/-
Closed runs of the evaluator, done by the kernel. No condition.
-/
namespace Go.Drip
theorem pd3_run : comes vr_pd3 (run GS 45 [vE, vT3, .agg [.num .u8 1, .num .i64 0, .num .i64 0]] H00) = true := by decide +kernel
theorem pd9_run : comes vr_pd9 (run GS 45 [vE, vT9, .agg [.num .u8 1, .num .i64 0, .num .i64 0]] H00) = true := by decide +kernel
theorem liveend_run : comes vr_liveend (run GS 7 [vE, vcend] H00) = true := by decide +kernel
theorem pa3_run : comes vr_pa3 (run GS 93 [vE, vT3] H00) = true := by decide +kernel
theorem pa11_run : comes vr_pa11 (run GS 93 [vE, vT11] H00) = true := by decide +kernel
theorem ex_run : comes vE (run noG 4 [] H00) = true := by decide +kernel
theorem s2_0_run : comes vs2_0 (run GC 249 [vE, .num .i64 2, .num .i64 0] H00) = true := by decide +kernel
end Go.Drip
