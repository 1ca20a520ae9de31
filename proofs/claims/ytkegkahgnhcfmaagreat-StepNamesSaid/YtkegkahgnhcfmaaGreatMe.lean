import Derived.Test.YtkegkahgnhcfmaaGreatRun
/-
Closed runs of the evaluator, done by the kernel. No condition.
-/
namespace Go.Drip
theorem acts5_run : comes vr_acts5 (run GS 7 [vE, vc5] H00) = true := by decide +kernel
theorem blocked5_run : comes vr_blocked5 (run GS 11 [vE, vc5] H00) = true := by decide +kernel
theorem holds5_run : comes vr_holds5 (run GS 12 [vE, vc5, .num .i64 0] H00) = true := by decide +kernel
theorem quiet5_run : comes vr_quiet5 (run GS 13 [vE, vc5] H00) = true := by decide +kernel
end Go.Drip
