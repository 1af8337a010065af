/- A closed fact of the program, by the kernel. -/
import Derived.Test.YtfcpdkcnggfljaaGreatDoorRows
import Derived.Stop.Joined
namespace Go.Proofs.YtfcpdkcnggfljaaGreatDoor
open Go Go.Proofs
theorem fact_unfollowed : Tryz.prog.unfollowed 3 = Rows.rulesNamesRow.unfollowed := by kernel_rfl
end Go.Proofs.YtfcpdkcnggfljaaGreatDoor
