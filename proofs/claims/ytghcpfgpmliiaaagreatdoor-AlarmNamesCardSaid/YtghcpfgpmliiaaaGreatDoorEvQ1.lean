/- The evaluator: what an operation looks at. -/
import Derived.Test.YtghcpfgpmliiaaaGreatDoorEvP
namespace Go.Ev

theorem mapO_congr {α β : Type} {g g' : α → Option β} : ∀ {l : List α}, (∀ x ∈ l, g x = g' x) → mapO g l = mapO g' l
  | [], _ => rfl
  | x :: r, h => by simp only [mapO, h x (by simp), mapO_congr (l := r) fun y hy => h y (by simp [hy])]

theorem partsE_congr {g g' : Operand → Option MV} : ∀ {l : List (Nat × Operand)}, (∀ x ∈ l, g x.2 = g' x.2) → partsE g l = partsE g' l
  | [], _ => rfl
  | (i, x) :: r, h => by simp only [partsE, h (i, x) (by simp), partsE_congr (l := r) fun y hy => h y (by simp [hy])]

theorem omapM_congr {g g' : Operand → Option MV} {x : Option Operand} (h : ∀ y, x = some y → g y = g' y) : omapM g x = omapM g' x := by
  cases x with
  | none => rfl
  | some y => simp only [omapM, h y rfl]

set_option maxHeartbeats 1000000 in
theorem opM_congr {P : Program} {V : Env} {e e' : Operand → Option MV} {M : Mem} {o : Oper} (h : ∀ x ∈ o.op.operands, e x = e' x) : opM P V e M o = opM P V e' M o := by
  obtain ⟨dst, op, type, pos, after, guard⟩ := o
  cases op <;> simp only [Op.operands] at h <;> simp only [opM]
  case build t ps => rw [partsE_congr fun x hx => h x.2 (by simp; exact ⟨x.1, by simpa using hx⟩)]
  case buildSlice t n ps => rw [partsE_congr fun x hx => h x.2 (by simp; exact ⟨x.1, by simpa using hx⟩)]
  case makeFunc fn first captured =>
    rw [mapO_congr (l := first.toList) fun x hx => h x (by simp; exact .inl (by simpa using hx)), mapO_congr (l := captured.toList) fun x hx => h x (by simp; exact .inr (by simpa using hx))]
  case makeMap t r => rw [omapM_congr fun y hy => h y (by simp [hy])]
  case slice t x lo hi mx =>
    rw [h x (by simp), omapM_congr (x := lo) fun y hy => h y (by simp [hy]), omapM_congr (x := hi) fun y hy => h y (by simp [hy]), omapM_congr (x := mx) fun y hy => h y (by simp [hy])]
  case call c =>
    rw [mapO_congr (l := c.args.toList) fun x hx => h x (by simp [Call.operands]; exact .inr (by simpa using hx))]
    cases hc : c.callee with
    | value f => simp only [h f (by simp [Call.operands, hc])]
    | invoke r m => simp only [h r (by simp [Call.operands, hc])]
    | builtin b => rfl
  case defer c =>
    rw [mapO_congr (l := c.args.toList) fun x hx => h x (by simp [Call.operands]; exact .inr (by simpa using hx))]
    cases hc : c.callee with
    | value f => simp only [h f (by simp [Call.operands, hc])]
    | invoke r m => rfl
    | builtin b => rfl
  all_goals (first | rfl | (simp_all; done) | skip)

end Go.Ev
