import Derived.Test.YtnpgbcgdggapoaaGreatRun
/-
Closed runs of the evaluator, done by the kernel. No condition.
-/
namespace Go.Drip
theorem pc1_run : comes vOK (run GS 59 [vE, vD1] H00) = true := by decide +kernel
theorem pa2_run : comes vr_pa2 (run GS 93 [vE, vT2] H00) = true := by decide +kernel
theorem pd1_run : comes vr_pd1 (run GS 45 [vE, vT1, .agg [.num .u8 1, .num .i64 0, .num .i64 0]] H00) = true := by decide +kernel
theorem s0_0_run : comes vs0_0 (run GC 249 [vE, .num .i64 0, .num .i64 0] H00) = true := by decide +kernel
theorem s0_1_run : comes vs0_1 (run GC 249 [vE, .num .i64 0, .num .i64 1] H00) = true := by decide +kernel
theorem s0_2_run : comes vs0_2 (run GC 249 [vE, .num .i64 0, .num .i64 2] H00) = true := by decide +kernel
theorem s0_3_run : comes vs0_3 (run GC 249 [vE, .num .i64 0, .num .i64 3] H00) = true := by decide +kernel
theorem copy0_run : comes vc0 (run GS 8 [vs0] H00) = true := by decide +kernel
theorem s1_2_run : comes vs1_2 (run GC 249 [vE, .num .i64 1, .num .i64 2] H00) = true := by decide +kernel
theorem copyE_run : comes vE (run GS 6 [vE] H00) = true := by decide +kernel
end Go.Drip
