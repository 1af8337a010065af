/- 'gnomonlaw22.RulesNames' has no argument. Proved here: it returns true and leaves what it finds as it was, in every world in which the fifteen listed package-level variables hold what the program's text lays into them (the row), and this condition tied to the program's text (the card). Conditions: those of the row alone. -/
import Derived.Test.YtfcpdkcnggfljaaGreatDoorSEvHb
import Derived.Test.YtfcpdkcnggfljaaGreatDoorTie
import Derived.Test.YtfcpdkcnggfljaaGreatDoorCards
import Derived.ProofKit
import Derived.OpenShut
import Derived.LaidMore
import Derived.Lay
import Derived.SevenTiedAt
import Derived.Stop.Joined
namespace Go.Proofs.YtfcpdkcnggfljaaGreatDoor
open Go.ChangeShapes Go.WideShapes Go.ChangeAt Go.RowKit

theorem rulesNames_card_said : Rows.RulesNamesCardSaid :=
  Claim7.holds_tied_plain_at .later [] [.data, .data, .widerDeep, .widerDeep, .data, .data, .data, .data, .data, .data, .sentinel, .sentinel, .pinned, .pinned, .pinned] true (true, "28a10c8e731d91493c8a41ba4494c7371c3ac68240e830b25d909c3325797a0b") true rulesNames_said (fun _ h => by cases h) (by kernel_rfl) (fun _ h => by cases h) rulesNames_row_tie rfl ⟨rfl, rfl⟩ (by kernel_rfl) rfl
    (fun f fn hf hfn => by
      obtain rfl : f = 3 := Option.some.inj ((show Tryz.prog.funcNamed "gnomon/gnomonlaw22.RulesNames" = some 3 by kernel_rfl).symm.trans hf) |>.symm
      obtain rfl : fn = Tryz.f3 := (Option.some.inj (at_func3.symm.trans hfn)).symm
      exact ⟨by kernel_rfl, fun j t ht => by
        rw [at_params3] at ht
        simp at ht⟩)
    (by kernel_rfl)
#print axioms rulesNames_said
#print axioms rulesNames_card_said
end Go.Proofs.YtfcpdkcnggfljaaGreatDoor
