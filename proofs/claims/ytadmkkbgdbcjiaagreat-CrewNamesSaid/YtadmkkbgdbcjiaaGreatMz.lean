import Derived.Test.YtadmkkbgdbcjiaaGreatRun
/-
Closed runs of the evaluator, done by the kernel. No condition.
-/
namespace Go.Drip
theorem main_run : comes (.bool true) (run GM 4 [] H00) = true := by decide +kernel
end Go.Drip
