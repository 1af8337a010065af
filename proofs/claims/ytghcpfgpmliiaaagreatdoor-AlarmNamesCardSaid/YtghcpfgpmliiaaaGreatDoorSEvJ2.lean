/- A closed fact of the program, by the kernel. -/
import Derived.Test.YtghcpfgpmliiaaaGreatDoorRows
import Derived.Stop.Joined
namespace Go.Proofs.YtghcpfgpmliiaaaGreatDoor
open Go Go.Proofs
theorem fact_unfollowed : Tryz.prog.unfollowed 3 = Rows.alarmNamesRow.unfollowed := by kernel_rfl
end Go.Proofs.YtghcpfgpmliiaaaGreatDoor
