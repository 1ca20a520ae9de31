import Derived.Test.YtkegkahgnhcfmaaGreatRun
/-
Closed runs of the evaluator, done by the kernel. No condition.
-/
namespace Go.Drip
theorem ex_run : comes vE (run noG 4 [] H00) = true := by decide +kernel
theorem chk_run : comes (.num .i64 0) (run noG 76 [vE] H00) = true := by decide +kernel
theorem s1_0_run : comes vS1_0 (run GC 159 [vE, .num .i64 1, .num .i64 0] H00) = true := by decide +kernel
theorem s1_1_run : comes vS1_1 (run GC 159 [vE, .num .i64 1, .num .i64 1] H00) = true := by decide +kernel
theorem s1_2_run : comes vS1_2 (run GC 159 [vE, .num .i64 1, .num .i64 2] H00) = true := by decide +kernel
theorem s1_3_run : comes vS1_3 (run GC 159 [vE, .num .i64 1, .num .i64 3] H00) = true := by decide +kernel
theorem s2_0_run : comes vS2_0 (run GC 159 [vE, .num .i64 2, .num .i64 0] H00) = true := by decide +kernel
theorem s2_1_run : comes vS2_1 (run GC 159 [vE, .num .i64 2, .num .i64 1] H00) = true := by decide +kernel
theorem s2_2_run : comes vS2_2 (run GC 159 [vE, .num .i64 2, .num .i64 2] H00) = true := by decide +kernel
end Go.Drip
