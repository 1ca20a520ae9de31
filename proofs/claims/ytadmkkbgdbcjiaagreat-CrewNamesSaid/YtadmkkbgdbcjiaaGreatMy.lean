import Derived.Test.YtadmkkbgdbcjiaaGreatRun
/-
Closed runs of the evaluator, done by the kernel. No condition.
-/
namespace Go.Drip
theorem awake_run : comes vTrue (run G2 32 [] H00) = true := by decide +kernel
end Go.Drip
