/- A closed fact of the program, by the kernel. -/
import Derived.Test.YtghcpfgpmliiaaaGreatDoorRows
import Derived.Stop.Joined
namespace Go.Proofs.YtghcpfgpmliiaaaGreatDoor
open Go Go.Proofs
theorem fact_recurses : Tryz.prog.recurses 3 = Rows.alarmNamesRow.recurses := by kernel_rfl
end Go.Proofs.YtghcpfgpmliiaaaGreatDoor
