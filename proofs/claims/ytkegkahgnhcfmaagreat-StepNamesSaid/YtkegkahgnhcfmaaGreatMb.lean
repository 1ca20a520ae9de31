import Derived.Test.YtkegkahgnhcfmaaGreatRun
/-
Closed runs of the evaluator, done by the kernel. No condition.
-/
namespace Go.Drip
theorem s0_0_run : comes vS0_0 (run GC 159 [vE, .num .i64 0, .num .i64 0] H00) = true := by decide +kernel
theorem s0_1_run : comes vS0_1 (run GC 159 [vE, .num .i64 0, .num .i64 1] H00) = true := by decide +kernel
theorem s0_2_run : comes vS0_2 (run GC 159 [vE, .num .i64 0, .num .i64 2] H00) = true := by decide +kernel
theorem s0_3_run : comes vS0_3 (run GC 159 [vE, .num .i64 0, .num .i64 3] H00) = true := by decide +kernel
theorem s0_4_run : comes vS0_4 (run GC 159 [vE, .num .i64 0, .num .i64 4] H00) = true := by decide +kernel
end Go.Drip
