/-
  DERIVED. GIVEN WITH THE SEED: THE CARDS: each row of YtghcpfgpmliiaaaGreatDoorRows.lean that lists a variable, with what it lists TIED to the program's text (the seventh form; the later family's looks); each row that meets fmt, with fmt's text TOLD by the authors' own Lean function (tested against real Go, not proved from fmt's source: count such statements apart). THE CARD IS WHAT COUNTS. Prove the row's statement (the work); the ties are given (YtghcpfgpmliiaaaGreatDoorTie.lean); close each card by the builder's one call (the guide's Derived/Test/ToyasCard.lean, 'card_holds'). Laid BY PROGRAM, IN A SANDBOX (cutbox-door.mjs). By AI agents, Wed Nov 11 2026. No macro, syntax, notation, axiom, sorry.
-/
import Derived.Test.YtghcpfgpmliiaaaGreatDoorRows
import GoSem.ClaimSeven
namespace Go.Proofs.YtghcpfgpmliiaaaGreatDoor
namespace Rows

/-- THE TIED CARD OF 'gnomonlaw23.AlarmNames'. -/
def alarmNamesCard : Claim7 := { stood := { row := alarmNamesRow, standIns := [], harness := (true, "52a1890488b17eaefb5a7dd5ca239fa43f7d3c7dd14eaf669c60bbdeaf538f0b"), looks := true }, kinds := [], alts := [], laidByText := true, laidKinds := [.data, .data, .widerDeep, .widerDeep, .data, .data, .data, .data, .data, .data, .sentinel, .sentinel, .pinned, .pinned, .pinned], laidTests := true, laidLooks := .later }
def AlarmNamesCardSaid : Prop := Claim7.holds Tryz.pinned (.plain (OpenSpec.ofChange alarmNamesSpec)) alarmNamesCard

/-- THE TIED CARD OF 'gnomonlaw23.AlarmRings'. -/
def alarmRingsCard : Claim7 := { stood := { row := alarmRingsRow, standIns := [], harness := (true, "52a1890488b17eaefb5a7dd5ca239fa43f7d3c7dd14eaf669c60bbdeaf538f0b"), looks := true }, kinds := [], alts := [], laidByText := true, laidKinds := [.data, .data, .widerDeep, .widerDeep, .data, .data, .data, .data, .data, .data, .sentinel, .sentinel, .pinned, .pinned, .pinned], laidTests := true, laidLooks := .later }
def AlarmRingsCardSaid : Prop := Claim7.holds Tryz.pinned (.plain (OpenSpec.ofChange alarmRingsSpec)) alarmRingsCard

/-- THE SECOND FORM's CARD OF 'gnomonlaw23.AlarmNames'. -/
def alarmNamesUptoCard : Claim7 := { stood := { row := alarmNamesUptoRow, standIns := [], harness := (true, "52a1890488b17eaefb5a7dd5ca239fa43f7d3c7dd14eaf669c60bbdeaf538f0b"), looks := true }, kinds := [], alts := [], laidByText := true, laidKinds := [.data, .data, .widerDeep, .widerDeep, .data, .data, .data, .data, .data, .data, .sentinel, .sentinel, .pinned, .pinned, .pinned], laidTests := true, laidLooks := .later }
def AlarmNamesUptoCardSaid : Prop := Claim7.holds Tryz.pinned (.plain (OpenSpec.upto alarmNamesSpec)) alarmNamesUptoCard

/-- THE SECOND FORM's CARD OF 'gnomonlaw23.AlarmRings'. -/
def alarmRingsUptoCard : Claim7 := { stood := { row := alarmRingsUptoRow, standIns := [], harness := (true, "52a1890488b17eaefb5a7dd5ca239fa43f7d3c7dd14eaf669c60bbdeaf538f0b"), looks := true }, kinds := [], alts := [], laidByText := true, laidKinds := [.data, .data, .widerDeep, .widerDeep, .data, .data, .data, .data, .data, .data, .sentinel, .sentinel, .pinned, .pinned, .pinned], laidTests := true, laidLooks := .later }
def AlarmRingsUptoCardSaid : Prop := Claim7.holds Tryz.pinned (.plain (OpenSpec.upto alarmRingsSpec)) alarmRingsUptoCard
end Rows
end Go.Proofs.YtghcpfgpmliiaaaGreatDoor
