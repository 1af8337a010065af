/- The law 'gnomonlaw22.RulesNames', called. -/
import Derived.Test.YtfcpdkcnggfljaaGreatDoorSEvRunB
import Derived.Test.YtfcpdkcnggfljaaGreatDoorSEvRunC
namespace Go.Proofs.YtfcpdkcnggfljaaGreatDoor
open Go Go.Ev Go.Proofs

theorem same_list : SameL Tryz.prog Rows.rulesNamesRow.laid lvars :=
  .cons (by kernel_rfl) (by kernel_rfl) <| .cons (by kernel_rfl) (by kernel_rfl) <| .cons (by kernel_rfl) (by kernel_rfl) <| .cons (by kernel_rfl) (by kernel_rfl) <| .cons (by kernel_rfl) (by kernel_rfl) <|
  .cons (by kernel_rfl) (by kernel_rfl) <| .cons (by kernel_rfl) (by kernel_rfl) <| .cons (by kernel_rfl) (by kernel_rfl) <| .cons (by kernel_rfl) (by kernel_rfl) <| .cons (by kernel_rfl) (by kernel_rfl) <|
  .cons (by kernel_rfl) (by kernel_rfl) <| .cons (by kernel_rfl) (by kernel_rfl) <| .cons (by kernel_rfl) (by kernel_rfl) <| .cons (by kernel_rfl) (by kernel_rfl) <| .cons (by kernel_rfl) (by kernel_rfl) .nil

/-- THE LAW's CALL, whatever the world holds beside the listed variables. -/
theorem law_calls {W : World} (h : laidMet Tryz.prog Rows.rulesNamesRow.laid W) :
    Calls Tryz.prog 3 #[] W (fun e W' => e = .returned (.bool true) ∧ RowKit.Below W.heap.size W W') := by
  have hrun := runs_true
  unfold runsTrue at hrun
  split at hrun
  · rename_i M hM
    split at hrun
    · rename_i b M' hc
      subst hrun
      obtain ⟨X, hg, hm⟩ := start_sound h same_list (by kernel_rfl) (by kernel_rfl) hM
      refine (callK_ok mixed ext_ok 100000 3 [] M _ M' hc X W.heap.size W W [] hg hm .nil).mono fun e W' ⟨v', X', he, _, hm', hv⟩ => ?_
      cases hv
      exact ⟨he, hm'.below⟩
    · cases hrun
  · cases hrun
#print axioms law_calls
end Go.Proofs.YtfcpdkcnggfljaaGreatDoor
