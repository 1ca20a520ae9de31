import Derived.Test.YtnpgbcgdggapoaaGreatRun
/-
Closed runs of the evaluator, done by the kernel. No condition.
-/
namespace Go.Drip
theorem pa10_run : comes vr_pa10 (run GS 93 [vE, vT10] H00) = true := by decide +kernel
theorem pd6_run : comes vr_pd6 (run GS 45 [vE, vT6, .agg [.num .u8 2, .num .i64 0, .num .i64 7]] H00) = true := by decide +kernel
theorem pa9_run : comes vr_pa9 (run GS 93 [vE, vT9] H00) = true := by decide +kernel
theorem whyend_run : comes vr_whyend (run GS 12 [vE, vcend, .num .i64 0] H00) = true := by decide +kernel
theorem s0_4_run : comes vs0_4 (run GC 249 [vE, .num .i64 0, .num .i64 4] H00) = true := by decide +kernel
end Go.Drip
