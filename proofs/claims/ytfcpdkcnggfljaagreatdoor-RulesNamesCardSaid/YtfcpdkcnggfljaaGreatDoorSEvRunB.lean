/- The law 'gnomonlaw22.RulesNames' run by the evaluator, by the kernel: true. -/
import Derived.Test.YtfcpdkcnggfljaaGreatDoorSEvRunA
namespace Go.Proofs.YtfcpdkcnggfljaaGreatDoor
open Go Go.Ev Go.Proofs

theorem runs_true : runsTrue = true := by kernel_rfl
end Go.Proofs.YtfcpdkcnggfljaaGreatDoor
