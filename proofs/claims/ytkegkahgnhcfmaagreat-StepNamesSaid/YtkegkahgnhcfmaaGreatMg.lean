import Derived.Test.YtkegkahgnhcfmaaGreatRun
/-
Closed runs of the evaluator, done by the kernel. No condition.
-/
namespace Go.Drip
theorem awake_run : comes (.bool true) (run GS 18 [] H00) = true := by decide +kernel
end Go.Drip
