import Derived.Test.YtadmkkbgdbcjiaaGreatRun
/-
Closed runs of the evaluator, done by the kernel. No condition.
-/
namespace Go.Drip
theorem rd7_run : comes vr_rd7 (run GS 128 [vE, vR7, .agg [.num .u8 1, .num .i64 2, .num .i64 0]] H00) = true := by decide +kernel
theorem chk_run : comes vOK (run noG 198 [vE] H00) = true := by decide +kernel
theorem ra8_run : comes vr_ra8 (run GS 127 [vE, vR8] H00) = true := by decide +kernel
theorem new_run : comes vr_new (run GS 51 [vE, .nils] H00) = true := by decide +kernel
end Go.Drip
