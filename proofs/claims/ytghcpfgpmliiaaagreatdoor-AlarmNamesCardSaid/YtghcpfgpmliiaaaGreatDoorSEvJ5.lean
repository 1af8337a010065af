/- The row's closed cells are what the program forces. -/
import Derived.Test.YtghcpfgpmliiaaaGreatDoorSEvJ1
import Derived.Test.YtghcpfgpmliiaaaGreatDoorSEvJ2
import Derived.Test.YtghcpfgpmliiaaaGreatDoorSEvJ3
import Derived.Test.YtghcpfgpmliiaaaGreatDoorSEvJ4
namespace Go.Proofs.YtghcpfgpmliiaaaGreatDoor
open Go Go.Proofs
theorem at_funcL' : Tryz.prog.funcs[3]? = some Tryz.f3 := by kernel_rfl
theorem joined : joinedFacts Tryz.prog 3 Tryz.f3 Rows.alarmNamesSpec Rows.alarmNamesRow = true := by
  unfold joinedFacts
  rw [fact_inPlace, fact_unfollowed, fact_recurses, fact_named]
  kernel_rfl
end Go.Proofs.YtghcpfgpmliiaaaGreatDoor
