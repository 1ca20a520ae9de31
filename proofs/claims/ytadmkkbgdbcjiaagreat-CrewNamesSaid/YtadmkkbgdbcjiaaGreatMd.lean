import Derived.Test.YtadmkkbgdbcjiaaGreatRun
/-
Closed runs of the evaluator, done by the kernel. No condition.
-/
namespace Go.Drip
theorem s0_3_run : comes vs0_3 (run GC 220 [vE, .num .i64 0, .num .i64 3] H00) = true := by decide +kernel
theorem s0_4_run : comes vs0_4 (run GC 220 [vE, .num .i64 0, .num .i64 4] H00) = true := by decide +kernel
theorem s0_5_run : comes vs0_5 (run GC 220 [vE, .num .i64 0, .num .i64 5] H00) = true := by decide +kernel
theorem s0_6_run : comes vs0_6 (run GC 220 [vE, .num .i64 0, .num .i64 6] H00) = true := by decide +kernel
theorem s0_7_run : comes vs0_7 (run GC 220 [vE, .num .i64 0, .num .i64 7] H00) = true := by decide +kernel
theorem s0_8_run : comes vs0_8 (run GC 220 [vE, .num .i64 0, .num .i64 8] H00) = true := by decide +kernel
theorem cd2_run : comes vr_cd2 (run G1 22 [vE, vC1, .agg [.num .u8 3, .num .i64 0, .num .i64 0, .num .i64 0]] H00) = true := by decide +kernel
theorem cl0_run : comes vr_cl0 (run G1 23 [vE, vD0] H00) = true := by decide +kernel
theorem new_run : comes vr_new (run GS 51 [vE, .nils] H00) = true := by decide +kernel
theorem ex_run : comes vE (run noG 5 [] H00) = true := by decide +kernel
theorem s1_0_run : comes vs1_0 (run GC 220 [vE, .num .i64 1, .num .i64 0] H00) = true := by decide +kernel
end Go.Drip
