/- A closed fact of the program, by the kernel. -/
import Derived.Test.YtghcpfgpmliiaaaGreatDoorRows
import Derived.Stop.Joined
namespace Go.Proofs.YtghcpfgpmliiaaaGreatDoor
open Go Go.Proofs
theorem fact_inPlace : Tryz.prog.inPlace 3 = Rows.alarmNamesRow.inPlace := by kernel_rfl
end Go.Proofs.YtghcpfgpmliiaaaGreatDoor
