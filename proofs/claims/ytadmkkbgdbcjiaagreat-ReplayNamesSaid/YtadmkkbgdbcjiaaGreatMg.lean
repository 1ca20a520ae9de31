import Derived.Test.YtadmkkbgdbcjiaaGreatRun
/-
Closed runs of the evaluator, done by the kernel. No condition.
-/
namespace Go.Drip
theorem s0_4_run : comes vs0_4 (run GC 220 [vE, .num .i64 0, .num .i64 4] H00) = true := by decide +kernel
theorem s0_5_run : comes vs0_5 (run GC 220 [vE, .num .i64 0, .num .i64 5] H00) = true := by decide +kernel
theorem s0_6_run : comes vs0_6 (run GC 220 [vE, .num .i64 0, .num .i64 6] H00) = true := by decide +kernel
theorem s0_7_run : comes vs0_7 (run GC 220 [vE, .num .i64 0, .num .i64 7] H00) = true := by decide +kernel
theorem s0_8_run : comes vs0_8 (run GC 220 [vE, .num .i64 0, .num .i64 8] H00) = true := by decide +kernel
theorem ra1_run : comes vr_ra1 (run GS 127 [vE, vR1] H00) = true := by decide +kernel
theorem ra0_run : comes vr_ra0 (run GS 127 [vE, vR0] H00) = true := by decide +kernel
theorem copyE_run : comes vE (run GS 8 [vE] H00) = true := by decide +kernel
theorem ex_run : comes vE (run noG 5 [] H00) = true := by decide +kernel
theorem s1_0_run : comes vs1_0 (run GC 220 [vE, .num .i64 1, .num .i64 0] H00) = true := by decide +kernel
theorem s1_2_run : comes vs1_2 (run GC 220 [vE, .num .i64 1, .num .i64 2] H00) = true := by decide +kernel
theorem s2_0_run : comes vs2_0 (run GC 220 [vE, .num .i64 2, .num .i64 0] H00) = true := by decide +kernel
end Go.Drip
