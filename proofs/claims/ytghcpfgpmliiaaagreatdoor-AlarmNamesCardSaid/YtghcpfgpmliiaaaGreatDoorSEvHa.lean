/- The law, lifted to the row: the witness and the contract. -/
import Derived.Test.YtghcpfgpmliiaaaGreatDoorSEvRunD
import Derived.ProofKit
import Derived.OpenShut
import Derived.LaidMore
import Derived.Lay
import Derived.SevenTiedAt
import Derived.Stop.Joined
namespace Go.Proofs.YtghcpfgpmliiaaaGreatDoor
open Go.ChangeShapes Go.WideShapes Go.ChangeAt Go.RowKit

theorem own_none : ownKnob Tryz.prog.godebug = none := by kernel_rfl
theorem at_func3 : Tryz.prog.funcs[3]? = some Tryz.f3 := by kernel_rfl
theorem at_params3 : Tryz.f3.params = #[] := by kernel_rfl
theorem at_results3 : Tryz.f3.resultTypes = #[4] := by kernel_rfl
theorem at_type4 : Tryz.prog.underlying 4 = some .bool := by kernel_rfl
theorem plain_list : (Rows.alarmNamesRow.laid.all fun x => x.2.handleName?.isNone) = true := by kernel_rfl

set_option maxRecDepth 100000 in
theorem lifted (os : Os) (started : os.Started) (H : Type) (enc : TypeId × Value → H) :
    ReturnsInHanded {} Tryz.checked os 3 .any (fun w args => (Rows.alarmNamesSpec.pre enc Tryz.prog Tryz.f3 [] false w args ∧ laidMetH Tryz.prog Rows.alarmNamesRow.laid w) ∧ sizedMet enc Tryz.prog Tryz.f3 (OpenSpec.ofChange Rows.alarmNamesSpec) false w args)
      (Rows.alarmNamesSpec.post enc Tryz.prog Tryz.f3 false true false false) := by
  refine returnsInHanded_of_change_and (C := Tryz.checked) (X := fun w _ => laidMetH Tryz.prog Rows.alarmNamesRow.laid w) (fun _ _ _ hh h => h.of_heap hh) own_none started (by kernel_rfl) at_func3
    (ChangeSpec.witness_shaped (enc := enc) (C := Tryz.checked) (os := os) (X := fun w _ => laidMetH Tryz.prog Rows.alarmNamesRow.laid w) false (World.laidAll Tryz.prog os Rows.alarmNamesRow.laid) #[] 8 (World.laidAll_os _ _ _)
      (World.shaped_of_ZipB (by kernel_rfl) (by kernel_rfl)) (by kernel_rfl) (by kernel_rfl) (by kernel_rfl)
      (by rw [MakeChecks.laidMetH_plain _ _ _ plain_list]; exact laidMet_laidAll _ (by kernel_rfl) (by kernel_rfl))) ?_
  intro W base args ds gs before hval0 hW hc _ hL _
  have hW' := hW
  obtain ⟨p, q, hA0, hV, rfl, _, _⟩ := hW
  have hA : DataW.TrodAll enc Tryz.prog W 0 (fun _ => true) true Tryz.f3.params.toList args.toList ds p := hA0
  rw [at_params3] at hA
  obtain ⟨rfl, rfl⟩ := trodVars_none hV
  have hargs : args = #[] ∧ ds = [] ∧ p = [] := by
    obtain ⟨l⟩ := args
    cases l with
    | nil => cases ds with
      | nil => exact ⟨rfl, rfl, hA⟩
      | cons d r => exact absurd hA (by intro h; cases h)
    | cons v r => exact absurd hA (by intro h; cases h)
  obtain ⟨rfl, rfl, rfl⟩ := hargs
  have hL' : laidMet Tryz.prog Rows.alarmNamesRow.laid W := by
    rw [← MakeChecks.laidMetH_plain _ _ _ plain_list]; exact hL
  refine (law_calls hL').mono fun e W' ⟨he, hb⟩ => ?_
  subst he
  refine ⟨_, rfl, [], [], _, [], [], [], hW', ?_, ?_, ?_, hb.frame _, fun h => by cases h⟩
  · rw [at_results3]
    exact trodAll_mk1 (shut_bool at_type4 true)
  · show DataW.TrodAll enc Tryz.prog W' 0 _ true Tryz.f3.params.toList _ _ []
    rw [at_params3]
    exact rfl
  · exact rfl

end Go.Proofs.YtghcpfgpmliiaaaGreatDoor
