/- The evaluator: whole functions again, with arms that hold no variable of the outside. -/
import Derived.Test.YtfcpdkcnggfljaaGreatDoorEvR
namespace Go.Ev

abbrev RunF := Func → Nat → Tr MV → List Item → Mem → Option (MV × Mem)
abbrev StepF := Program → Env → RunF → Func → Nat → Tr MV → Mem → Option (MV × Mem)

def condK : Option MV → Code → Code → List Item → StepF
  | some (.b t) => fun x y k _ _ R fn nt tm M => R fn nt tm (.code (bif t then x else y) :: k) M
  | _ => fun _ _ _ _ _ _ _ _ _ _ => none
def jumpK : Option (List Item) → StepF
  | some k => fun _ _ R fn nt tm M => R fn nt tm k M
  | none => fun _ _ _ _ _ _ _ => none
def afterK : Option (Tr MV × Mem) → List Item → StepF
  | some q => fun k _ _ R fn nt _ _ => q.2.seq fun M' => R fn nt q.1 k M'
  | none => fun _ _ _ _ _ _ _ _ => none
def codeK : Code → List Item → StepF
  | .ret => fun _ P _ _ fn _ tm M => retM P M fn tm
  | .skip => fun k _ _ R fn nt tm M => R fn nt tm k M
  | .label _ => fun k _ _ R fn nt tm M => R fn nt tm k M
  | .seq a b => fun k _ _ R fn nt tm M => R fn nt tm (.code a :: .code b :: k) M
  | .cond q x y => fun k P V R fn nt tm M => condK (ev V.ng tm q) x y k P V R fn nt tm M
  | .block id b => fun k _ _ R fn nt tm M => R fn nt tm (.code b :: .inBlock id :: k) M
  | .loop b => fun k _ _ R fn nt tm M => R fn nt tm (.code b :: .inLoop b :: k) M
  | .exit id => fun k P V R fn nt tm M => jumpK (exitTo id k) P V R fn nt tm M
  | .goto l => fun k P V R fn nt tm M => jumpK (gotoIn l k) P V R fn nt tm M
  | .region _ ops draw => fun k P V R fn nt tm M => afterK (bif draw then drawM P V (enterWith P R) ops nt tm M else execL P V (enterWith P R) ops nt ops.toList tm M) k P V R fn nt tm M
  | .scope b => fun k _ _ R fn nt tm M => R fn nt tm (.code b :: .inScope b :: k) M
  | _ => fun _ _ _ _ _ _ _ _ => none
def itemK : Item → List Item → StepF
  | .code b => fun k P V R fn nt tm M => codeK b k P V R fn nt tm M
  | .inBlock _ => fun k _ _ R fn nt tm M => R fn nt tm k M
  | .inScope _ => fun k _ _ R fn nt tm M => R fn nt tm k M
  | .inLoop b => fun k _ _ R fn nt tm M => R fn nt tm (.code b :: .inLoop b :: k) M
  | _ => fun _ _ _ _ _ _ _ _ => none
def todoK : List Item → StepF
  | [] => fun P _ _ fn _ tm M => retM P M fn tm
  | i :: k => fun P V R fn nt tm M => itemK i k P V R fn nt tm M

def runK (P : Program) (V : Env) : Nat → Func → Nat → Tr MV → List Item → Mem → Option (MV × Mem)
  | 0 => fun _ _ _ _ _ => none
  | n + 1 => fun fn nt tm todo M => todoK todo P V (runK P V n) fn nt tm M

theorem runK_eq (P : Program) (V : Env) : ∀ n, runK P V n = run P V n := by
  intro n
  induction n with
  | zero => funext fn nt tm todo M; rfl
  | succ n ih =>
    funext fn nt tm todo M
    simp only [runK, ih]
    cases todo with
    | nil => rfl
    | cons i k =>
      cases i <;> first | rfl | skip
      rename_i b
      cases b <;> first | rfl | skip
      case cond q x y =>
        simp only [todoK, itemK, codeK, run]
        cases ev V.ng tm q with
        | none => rfl
        | some v => cases v <;> rfl
      case exit id => simp only [todoK, itemK, codeK, run]; cases exitTo id k <;> rfl
      case goto l => simp only [todoK, itemK, codeK, run]; cases gotoIn l k <;> rfl
      case region id ops draw =>
        simp only [todoK, itemK, codeK, run]
        generalize (bif draw then drawM P V (enterWith P (run P V n)) ops nt tm M else execL P V (enterWith P (run P V n)) ops nt ops.toList tm M) = q
        cases q <;> rfl

/-- A call. -/
def callK (P : Program) (V : Env) (n : Nat) : CallF := enterWith P (runK P V n)
theorem callK_ok {P : Program} {V : Env} (hmix : P.follows .mixedOrders = true) (hV : ∀ f x, V.ext f = some x → ExtOk P f x) (n : Nat) : CallOk P V (callK P V n) := by
  unfold callK
  rw [runK_eq]
  exact enterWith_ok (run_ok hmix hV n)
end Go.Ev
