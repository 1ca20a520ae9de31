import Derived.Test.YtnpgbcgdggapoaaGreatRun
/-
Closed runs of the evaluator, done by the kernel. No condition.
-/
namespace Go.Drip
theorem s0_5_run : comes vs0_5 (run GC 249 [vE, .num .i64 0, .num .i64 5] H00) = true := by decide +kernel
theorem s0_6_run : comes vs0_6 (run GC 249 [vE, .num .i64 0, .num .i64 6] H00) = true := by decide +kernel
theorem s0_7_run : comes vs0_7 (run GC 249 [vE, .num .i64 0, .num .i64 7] H00) = true := by decide +kernel
theorem s0_8_run : comes vs0_8 (run GC 249 [vE, .num .i64 0, .num .i64 8] H00) = true := by decide +kernel
theorem new_run : comes vr_new (run GS 5 [vE, .nils] H00) = true := by decide +kernel
theorem do1_run : comes vr_do1 (run GS 45 [vE, vs0, .agg [.num .u8 1, .num .i64 0, .num .i64 0]] H00) = true := by decide +kernel
theorem do2_run : comes vr_do2 (run GS 45 [vE, vs1, .agg [.num .u8 1, .num .i64 0, .num .i64 0]] H00) = true := by decide +kernel
theorem why0_run : comes vr_why0 (run GS 12 [vE, vc0, .num .i64 0] H00) = true := by decide +kernel
theorem s1_3_run : comes vs1_3 (run GC 249 [vE, .num .i64 1, .num .i64 3] H00) = true := by decide +kernel
theorem copyend_run : comes vcend (run GS 8 [vend] H00) = true := by decide +kernel
theorem ct_run : comes vct (run GS 15 [vt] H00) = true := by decide +kernel
end Go.Drip
