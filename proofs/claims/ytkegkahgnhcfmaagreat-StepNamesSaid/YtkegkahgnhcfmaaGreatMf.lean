import Derived.Test.YtkegkahgnhcfmaaGreatRun
/-
Closed runs of the evaluator, done by the kernel. No condition.
-/
namespace Go.Drip
theorem none5_run : comes vr_none5 (run GS 10 [vE, vc5, .agg [.num .u8 1, .num .i64 0, .num .i64 0]] H00) = true := by decide +kernel
theorem holdsb5_run : comes vr_holdsb5 (run GS 12 [vE, vc5, .num .i64 1] H00) = true := by decide +kernel
theorem acts0_run : comes vr_acts0 (run GS 7 [vE, vc0] H00) = true := by decide +kernel
theorem copyE_run : comes vE (runC GS 6 [vE] H00) = true := by decide +kernel
theorem copy0_run : comes vc0 (run GS 8 [vs0] H00) = true := by decide +kernel
theorem copy5_run : comes vc5 (run GS 8 [vs5] H00) = true := by decide +kernel
end Go.Drip
