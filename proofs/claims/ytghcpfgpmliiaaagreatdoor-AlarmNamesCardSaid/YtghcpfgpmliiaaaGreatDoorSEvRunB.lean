/- The law 'AlarmNames' run by the evaluator, by the kernel: true. -/
import Derived.Test.YtghcpfgpmliiaaaGreatDoorSEvRunA
namespace Go.Proofs.YtghcpfgpmliiaaaGreatDoor
open Go Go.Ev Go.Proofs

theorem runs_true : runsTrue = true := by kernel_rfl
end Go.Proofs.YtghcpfgpmliiaaaGreatDoor
