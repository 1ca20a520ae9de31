import Derived.Test.YtnpgbcgdggapoaaGreatRun
/-
Closed runs of the evaluator, done by the kernel. No condition.
-/
namespace Go.Drip
theorem pd5_run : comes vr_pd5 (run GS 45 [vE, vT5, .agg [.num .u8 1, .num .i64 1, .num .i64 0]] H00) = true := by decide +kernel
theorem pa5_run : comes vr_pa5 (run GS 93 [vE, vT5] H00) = true := by decide +kernel
theorem pa8_run : comes vr_pa8 (run GS 93 [vE, vT8] H00) = true := by decide +kernel
theorem pd4_run : comes vr_pd4 (run GS 45 [vE, vT4, .agg [.num .u8 1, .num .i64 1, .num .i64 0]] H00) = true := by decide +kernel
theorem s1_1_run : comes vs1_1 (run GC 249 [vE, .num .i64 1, .num .i64 1] H00) = true := by decide +kernel
theorem s2_2_run : comes vs2_2 (run GC 249 [vE, .num .i64 2, .num .i64 2] H00) = true := by decide +kernel
end Go.Drip
