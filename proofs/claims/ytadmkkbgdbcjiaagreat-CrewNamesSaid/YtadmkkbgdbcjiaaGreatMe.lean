import Derived.Test.YtadmkkbgdbcjiaaGreatRun
/-
Closed runs of the evaluator, done by the kernel. No condition.
-/
namespace Go.Drip
theorem s1_1_run : comes vs1_1 (run GC 220 [vE, .num .i64 1, .num .i64 1] H00) = true := by decide +kernel
theorem s1_2_run : comes vs1_2 (run GC 220 [vE, .num .i64 1, .num .i64 2] H00) = true := by decide +kernel
theorem s1_3_run : comes vs1_3 (run GC 220 [vE, .num .i64 1, .num .i64 3] H00) = true := by decide +kernel
theorem s2_0_run : comes vs2_0 (run GC 220 [vE, .num .i64 2, .num .i64 0] H00) = true := by decide +kernel
theorem s2_1_run : comes vs2_1 (run GC 220 [vE, .num .i64 2, .num .i64 1] H00) = true := by decide +kernel
theorem s2_2_run : comes vs2_2 (run GC 220 [vE, .num .i64 2, .num .i64 2] H00) = true := by decide +kernel
theorem cpy5_run : comes vr_cpy5 (run G1 24 [vC5] H00) = true := by decide +kernel
theorem cpy0_run : comes vr_cpy0 (run G1 24 [vC0] H00) = true := by decide +kernel
theorem cn2_run : comes vr_cn2 (run G1 21 [vE, .nils, .num .i64 2] H00) = true := by decide +kernel
end Go.Drip
