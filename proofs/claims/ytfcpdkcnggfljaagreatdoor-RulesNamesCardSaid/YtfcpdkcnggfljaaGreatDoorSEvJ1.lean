/- A closed fact of the program, by the kernel. -/
import Derived.Test.YtfcpdkcnggfljaaGreatDoorRows
import Derived.Stop.Joined
namespace Go.Proofs.YtfcpdkcnggfljaaGreatDoor
open Go Go.Proofs
theorem fact_inPlace : Tryz.prog.inPlace 3 = Rows.rulesNamesRow.inPlace := by kernel_rfl
end Go.Proofs.YtfcpdkcnggfljaaGreatDoor
