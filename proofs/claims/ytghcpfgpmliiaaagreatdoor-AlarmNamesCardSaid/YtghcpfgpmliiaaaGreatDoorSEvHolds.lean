/- 'gnomonlaw23.AlarmNames' has no argument. Proved here: it returns true and leaves what it finds as it was, in every world in which the fifteen listed package-level variables hold what the program's text lays into them (the row), and this condition tied to the program's text (the card). Conditions: those of the row alone. -/
import Derived.Test.YtghcpfgpmliiaaaGreatDoorSEvHb
import Derived.Test.YtghcpfgpmliiaaaGreatDoorTie
import Derived.Test.YtghcpfgpmliiaaaGreatDoorCards
import Derived.ProofKit
import Derived.OpenShut
import Derived.LaidMore
import Derived.Lay
import Derived.SevenTiedAt
import Derived.Stop.Joined
namespace Go.Proofs.YtghcpfgpmliiaaaGreatDoor
open Go.ChangeShapes Go.WideShapes Go.ChangeAt Go.RowKit

theorem alarmNames_card_said : Rows.AlarmNamesCardSaid :=
  Claim7.holds_tied_plain_at .later [] [.data, .data, .widerDeep, .widerDeep, .data, .data, .data, .data, .data, .data, .sentinel, .sentinel, .pinned, .pinned, .pinned] true (true, "52a1890488b17eaefb5a7dd5ca239fa43f7d3c7dd14eaf669c60bbdeaf538f0b") true alarmNames_said (fun _ h => by cases h) (by kernel_rfl) (fun _ h => by cases h) alarmNames_row_tie rfl ⟨rfl, rfl⟩ (by kernel_rfl) rfl
    (fun f fn hf hfn => by
      obtain rfl : f = 3 := Option.some.inj ((show Tryz.prog.funcNamed "gnomon/gnomonlaw23.AlarmNames" = some 3 by kernel_rfl).symm.trans hf) |>.symm
      obtain rfl : fn = Tryz.f3 := (Option.some.inj (at_func3.symm.trans hfn)).symm
      exact ⟨by kernel_rfl, fun j t ht => by
        rw [at_params3] at ht
        simp at ht⟩)
    (by kernel_rfl)
#print axioms alarmNames_said
#print axioms alarmNames_card_said
end Go.Proofs.YtghcpfgpmliiaaaGreatDoor
