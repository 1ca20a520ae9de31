import Derived.Test.YtkegkahgnhcfmaaGreatRun
/-
Closed runs of the evaluator, done by the kernel. No condition.
-/
namespace Go.Drip
theorem new_run : comes vr_new (run GS 5 [vE, .nils] H00) = true := by decide +kernel
theorem do1_run : comes vr_do1 (run GS 10 [vE, vs0, .agg [.num .u8 1, .num .i64 0, .num .i64 0]] H00) = true := by decide +kernel
theorem do2_run : comes vr_do2 (run GS 10 [vE, vs1, .agg [.num .u8 1, .num .i64 0, .num .i64 0]] H00) = true := by decide +kernel
theorem do3_run : comes vr_do3 (run GS 10 [vE, vs2, .agg [.num .u8 1, .num .i64 0, .num .i64 0]] H00) = true := by decide +kernel
theorem do4_run : comes vr_do4 (run GS 10 [vE, vs3, .agg [.num .u8 1, .num .i64 0, .num .i64 0]] H00) = true := by decide +kernel
theorem do5_run : comes vr_do5 (run GS 10 [vE, vs4, .agg [.num .u8 1, .num .i64 1, .num .i64 0]] H00) = true := by decide +kernel
end Go.Drip
