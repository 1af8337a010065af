/- The law 'AlarmNames', called. -/
import Derived.Test.YtghcpfgpmliiaaaGreatDoorSEvRunB
import Derived.Test.YtghcpfgpmliiaaaGreatDoorSEvRunC
namespace Go.Proofs.YtghcpfgpmliiaaaGreatDoor
open Go Go.Ev Go.Proofs

theorem same_list : SameL Tryz.prog Rows.alarmNamesRow.laid lvars :=
  .cons (by kernel_rfl) (by kernel_rfl) <| .cons (by kernel_rfl) (by kernel_rfl) <| .cons (by kernel_rfl) (by kernel_rfl) <| .cons (by kernel_rfl) (by kernel_rfl) <| .cons (by kernel_rfl) (by kernel_rfl) <| .cons (by kernel_rfl) (by kernel_rfl) <| .cons (by kernel_rfl) (by kernel_rfl) <| .cons (by kernel_rfl) (by kernel_rfl) <| .cons (by kernel_rfl) (by kernel_rfl) <| .cons (by kernel_rfl) (by kernel_rfl) <| .cons (by kernel_rfl) (by kernel_rfl) <| .cons (by kernel_rfl) (by kernel_rfl) <| .cons (by kernel_rfl) (by kernel_rfl) <| .cons (by kernel_rfl) (by kernel_rfl) <| .cons (by kernel_rfl) (by kernel_rfl) <| .nil

/-- THE LAW's CALL, whatever the world holds beside the listed variables. -/
theorem law_calls {W : World} (h : laidMet Tryz.prog Rows.alarmNamesRow.laid W) :
    Calls Tryz.prog 3 #[] W (fun e W' => e = .returned (.bool true) ∧ RowKit.Below W.heap.size W W') := by
  have hrun := runs_true
  unfold runsTrue at hrun
  split at hrun
  · rename_i M hM
    split at hrun
    · rename_i b M' hc
      subst hrun
      obtain ⟨X, hg, hm⟩ := start_sound h same_list (by kernel_rfl) (by kernel_rfl) hM
      refine (callX_ok mixed ext_ok 1000000 hc (.plain hg rfl rfl) hm .nil).mono fun e W' ⟨X', he, _, hm'⟩ => ?_
      cases he with | ret hv =>
      cases hv
      exact ⟨rfl, hm'.below.toBelow⟩
    · cases hrun
  · cases hrun
end Go.Proofs.YtghcpfgpmliiaaaGreatDoor
