/- The evaluator: what the listed package-level variables hold at the start. -/
import Derived.Test.YtghcpfgpmliiaaaGreatDoorEvX4
import GoSem.PinnedTables
namespace Go.Ev

def litM : Lit → Option MV
  | .bool b => some (.b b)
  | .int k n => some (.i k n)
  | .float k b => some (.f k b)
  | .string l => some (.s (l.map UInt8.toNat))
  | _ => none

def flatLit : Option TypeDesc → Bool
  | some .bool | some (.int _) | some (.float _) | some .string => true
  | _ => false

def isIface : Option TypeDesc → Bool
  | some (.interface _) => true
  | _ => false

def nilOf : Option TypeDesc → Option MV
  | some (.pointer _) => some .np
  | some (.slice _) => some .nsl
  | _ => none

def contigB (P : Program) : List Field → Nat → Nat → Bool
  | [], o, z => Nat.beq o z
  | f :: r, o, z => Nat.beq f.offset o && contigB P r (Nat.add o (P.cellsOf f.type)) z

abbrev LayF := TypeId → DataW Unit → Mem → Option (List MV × Mem)

def fieldsW (lay : LayF) : List TypeId → List (DataW Unit) → Mem → Option (List MV × Mem)
  | [], [], M => some ([], M)
  | t :: ts, d :: r, M => match lay t d M with
    | some (a, M1) => match fieldsW lay ts r M1 with
      | some (b, M2) => some (a ++ b, M2)
      | none => none
    | none => none
  | _, _, _ => none

/-- One datum at a type: its cells, and the blocks that it leads to. -/
def layOne (P : Program) (lay : LayF) (t : TypeId) (d : DataW Unit) (M : Mem) : Option (List MV × Mem) :=
  match d with
  | .lit l => bif flatLit (P.underlying t) then (match litM l with
    | some v => some ([v], M)
    | none => none) else none
  | .nil => match nilOf (P.underlying t) with
    | some v => some ([v], M)
    | none => none
  | .slice es [] => match P.underlying t with
    | some (.slice et) => seqN et fun et => bif Nat.blt 0 (P.cellsOf et) && Nat.blt 0 es.length then (match fieldsW lay (List.replicate es.length et) es M with
      | some (cs, M') => match M'.new (.cells cs anyT .none false) with
        | some (b, M2) => some ([.sl b 0 es.length es.length (P.cellsOf et) true], M2)
        | none => none
      | none => none) else none
    | _ => none
  | .agg ds => match P.underlying t with
    | some (.struct fs) => bif contigB P fs.toList 0 (P.cellsOf t) then fieldsW lay (fs.toList.map (·.type)) ds M else none
    | some (.array k et) => seqN et fun et => bif Nat.beq (P.cellsOf t) (Nat.mul k (P.cellsOf et)) then fieldsW lay (List.replicate ds.length et) ds M else none
    | _ => none
  | .iface _ _ => bif isIface (P.underlying t) then some ([.hid], M) else none
  | _ => none

noncomputable def layV (P : Program) (n : Nat) : LayF := Nat.rec (fun _ _ _ => none) (fun _ ih => layOne P ih) n

noncomputable def layVars (P : Program) : List (Nat × TypeId × DataW Unit) → Mem → Option Mem
  | [], M => some M
  | (g, t, d) :: r, M => match layV P 20 t d M with
    | some (cs, M1) => bif Nat.blt 0 cs.length && Nat.blt g top then layVars P r { M1 with h := Tr.set 23 M1.h g (some (.cells cs anyT .none false)) } else none
    | none => none

/-- The memory that a call begins with: nothing of it may be written. -/
noncomputable def startM (P : Program) (ng : Nat) (l : List (Nat × TypeId × DataW Unit)) : Option Mem :=
  match layVars P l ⟨.e, ng, 0⟩ with
  | some M => some { M with ro := M.next }
  | none => none
end Go.Ev
