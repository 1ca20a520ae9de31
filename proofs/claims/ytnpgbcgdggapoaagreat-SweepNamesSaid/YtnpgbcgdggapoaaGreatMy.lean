import Derived.Test.YtnpgbcgdggapoaaGreatRun
/-
Closed runs of the evaluator, done by the kernel. No condition.
-/
namespace Go.Drip
theorem awake_run : comes vTrue (run G1 22 [] H00) = true := by decide +kernel
end Go.Drip
