import Derived.Test.YtkegkahgnhcfmaaGreatRun
/-
Closed runs of the evaluator, done by the kernel. No condition.
-/
namespace Go.Drip
theorem s0_5_run : comes vS0_5 (run GC 159 [vE, .num .i64 0, .num .i64 5] H00) = true := by decide +kernel
theorem s0_6_run : comes vS0_6 (run GC 159 [vE, .num .i64 0, .num .i64 6] H00) = true := by decide +kernel
theorem s0_7_run : comes vS0_7 (run GC 159 [vE, .num .i64 0, .num .i64 7] H00) = true := by decide +kernel
theorem s0_8_run : comes vS0_8 (run GC 159 [vE, .num .i64 0, .num .i64 8] H00) = true := by decide +kernel
end Go.Drip
