/- The row's closed cells are what the program forces. -/
import Derived.Test.YtfcpdkcnggfljaaGreatDoorSEvJ1
import Derived.Test.YtfcpdkcnggfljaaGreatDoorSEvJ2
import Derived.Test.YtfcpdkcnggfljaaGreatDoorSEvJ3
import Derived.Test.YtfcpdkcnggfljaaGreatDoorSEvJ4
namespace Go.Proofs.YtfcpdkcnggfljaaGreatDoor
open Go Go.Proofs
theorem at_func3' : Tryz.prog.funcs[3]? = some Tryz.f3 := by kernel_rfl
theorem joined : joinedFacts Tryz.prog 3 Tryz.f3 Rows.rulesNamesSpec Rows.rulesNamesRow = true := by
  unfold joinedFacts
  rw [fact_inPlace, fact_unfollowed, fact_recurses, fact_named]
  kernel_rfl
end Go.Proofs.YtfcpdkcnggfljaaGreatDoor
