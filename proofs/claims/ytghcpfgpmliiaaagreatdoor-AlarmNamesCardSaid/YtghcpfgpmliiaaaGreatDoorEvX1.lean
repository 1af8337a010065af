/- The evaluator: whole functions, with deferred calls, panics, and ranges over functions. -/
import Derived.Test.YtghcpfgpmliiaaaGreatDoorEvR
namespace Go.Ev

/-- What a frame on its way out is at. -/
inductive MMode : Type where
  | ret
  | pan (c : List (MV × Bool))

/-- What a frame is: a call's, a round's (the block of its loop), a deferred call's. -/
inductive Cxt : Type where
  | call
  | round (blk : Nat)
  | dfr

def settleM : MMode → MMode
  | .pan ((_, true) :: _) => .ret
  | m => m
def raisedM : MMode → List (MV × Bool) → MMode
  | .pan old => fun c => .pan (c ++ old)
  | .ret => fun c => .pan c
def afterM : Out → MMode → MMode
  | .ret _ => fun u => settleM u
  | .pan c => fun u => raisedM u c

abbrev CallX := Tg → List MV → Mem → Option (Out × Mem)
def retF (g : CallX) : CallF := fun t args M => match g t args M with
  | some (.ret v, M') => some (v, M')
  | _ => none

abbrev RunXF := Cxt → Nat → Func → Nat → Tr MV → List Item → List MD → MMode → Mem → Option (Out × MMode × Mem)

/-! ### A block of the evaluator's own written anew -/
def Mem.setBlk (M : Mem) (blk : Nat) (mb : MB) : Option Mem :=
  bif Nat.ble M.ro blk && Nat.blt blk top then some { M with h := Tr.set 23 M.h blk (some mb) } else none

def beginRoundM (M : Mem) (blk : Nat) : Option Mem :=
  match M.h.get blk with
  | some (.loop .ready pending f nt tm params assign body dfs) => M.setBlk blk (.loop .busy pending f nt tm params assign body dfs)
  | _ => none
def endRoundM (M : Mem) (blk : Nat) (jump : Option Code) : Option Mem :=
  match M.h.get blk with
  | some (.loop _ _ f nt tm params assign body dfs) => M.setBlk blk (.loop (bif jump.isNone then .ready else .done) jump f nt tm params assign body dfs)
  | _ => none
def notBusy : LoopState → Bool
  | .busy => false
  | _ => true
def endLoopM (M : Mem) (blk : Nat) : Option (Option Code × Mem) :=
  match M.h.get blk with
  | some (.loop st pending f nt tm params assign body dfs) => bif notBusy st then (match M.setBlk blk (.loop .exhausted pending f nt tm params assign body dfs) with
    | some M' => some (pending, M')
    | none => none) else none
  | _ => none
def deferRoundM (M : Mem) (blk : Nat) (d : MD) : Option Mem :=
  match M.h.get blk with
  | some (.loop _ _ _ _ _ _ _ _ dfs) => match M.h.get dfs with
    | some (.dfr (some ds)) => M.setBlk dfs (.dfr (some (d :: ds)))
    | _ => none
  | _ => none
def takeM (M : Mem) (blk : Nat) : Option (List MD × Mem) :=
  match M.h.get blk with
  | some (.dfr (some ds)) => match M.setBlk blk (.dfr none) with
    | some M' => some (ds, M')
    | none => none
  | _ => none
/-- A loop is entered: its block, and what the frame defers. -/
def enterLoopM (M : Mem) (cx : Cxt) (fid nt : Nat) (tm : Tr MV) (params : List Tmp) (assign body : Code) : Option (Nat × List MD × Mem) :=
  match cx with
  | .round l => match M.h.get l with
    | some (.loop _ _ _ _ _ _ _ _ dfs) => match M.new (.loop .ready none fid nt tm params assign body dfs) with
      | some (L, M2) => some (L, [], M2)
      | none => none
    | _ => none
  | _ => match M.new (.dfr (some [])) with
    | some (D, M1) => match M1.new (.loop .ready none fid nt tm params assign body D) with
      | some (L, M2) => some (L, [⟨.collected D, []⟩], M2)
      | none => none
    | none => none

/-! ### One operation, and a region in the order of its text -/
inductive XR : Type where
  | val (v : MV) (M : Mem) (ds : List MD) (u : MMode)
  | pan (c : List (MV × Bool)) (M : Mem) (ds : List MD) (u : MMode)

abbrev XF := Cxt → CallX → List MD → MMode → Option XR

def outX : Option (Out × Mem) → List MD → MMode → Option XR
  | some (.ret v, M) => fun ds u => some (.val v M ds u)
  | some (.pan c, M) => fun ds u => some (.pan c M ds u)
  | none => fun _ _ => none

def valX (v : MV) (ds : List MD) (u : MMode) : Option Mem → Option XR
  | some M => some (.val v M ds u)
  | none => none

def recovX : Cxt → MMode → Mem → List MD → Option XR
  | .call => fun u M ds => some (.val .nif M ds u)
  | .dfr => fun u M ds => match u with
    | .pan ((v, false) :: older) => some (.val v M ds (.pan ((v, true) :: older)))
    | u => some (.val .nif M ds u)
  | .round _ => fun _ _ _ => none

def dfrX : Cxt → MD → Mem → List MD → MMode → Option XR
  | .round blk => fun d M ds u => valX undefM ds u (deferRoundM M blk d)
  | _ => fun d M ds u => some (.val undefM M (d :: ds) u)

def resX : Res → Mem → XF
  | .val v => fun M _ _ ds u => some (.val v M ds u)
  | .skip => fun M _ _ ds u => some (.val undefM M ds u)
  | .enter t args => fun M _ callx ds u => outX (callx t args M) ds u
  | .pan v => fun M _ _ ds u => some (.pan [(v, false)] M ds u)
  | .dfr d => fun M cx _ ds u => dfrX cx d M ds u
  | .recov => fun M cx _ ds u => recovX cx u M ds

def orX : Option (Res × Mem) → XF
  | some (r, M) => resX r M
  | none => fun _ _ _ _ => none

/-- One operation, wanted or not. -/
def opX : Option Bool → Program → Env → Tr MV → Mem → Op → XF
  | some true => fun P V tm M op => orX (opH op P V (ev V.ng tm) M)
  | some false => fun _ _ _ M _ _ _ ds u => some (.val undefM M ds u)
  | none => fun _ _ _ _ _ _ _ _ _ => none

inductive RO : Type where
  | go (tm : Tr MV) (M : Mem) (ds : List MD) (u : MMode)
  | pan (c : List (MV × Bool)) (tm : Tr MV) (M : Mem) (ds : List MD) (u : MMode)

abbrev RestX := Tr MV → Mem → List MD → MMode → Option RO

def putX : Option (Tr MV) → Mem → List MD → MMode → RestX → Option RO
  | some tm => fun M ds u k => k tm M ds u
  | none => fun _ _ _ _ => none

def thenX : Option XR → Nat → Tr MV → Option Tmp → RestX → Option RO
  | some (.val v M ds u) => fun nt tm d k => putX (tmPut nt tm d v) M ds u k
  | some (.pan c M ds u) => fun _ tm _ _ => some (.pan c tm M ds u)
  | none => fun _ _ _ _ => none

def execX (P : Program) (V : Env) (cx : Cxt) (callx : CallX) (ops : Array Oper) (nt : Nat) : List Oper → RestX
  | [] => fun tm M ds u => some (.go tm M ds u)
  | o :: r => fun tm M ds u => thenX (opX (wantM ops (tmGet tm) o) P V tm M o.op cx callx ds u) nt tm o.dst (execX P V cx callx ops nt r)

/-! ### The way out -/
def dfrCall (P : Program) (R : RunXF) (f : FuncId) (args : List MV) (u : MMode) (M : Mem) : Option (MMode × Mem) :=
  match fnOf P f with
  | some (g, c) => match putAll (args.length + (g.ntmps - args.length)) 0 args .e with
    | some tm => match R .dfr f g (args.length + (g.ntmps - args.length)) tm [.code c] [] u M with
      | some (o, u', M') => some (afterM o u', M')
      | none => none
    | none => none
  | none => none

def unwindX (P : Program) (V : Env) (R : RunXF) (fn : Func) (tm : Tr MV) : Nat → List MD → MMode → Mem → Option (Out × Mem)
  | 0, _, _, _ => none
  | n + 1, ds, m, M => match ds with
    | [] => match m with
      | .ret => match resM P M fn tm with
        | some v => some (.ret v, M)
        | none => none
      | .pan c => some (.pan c, M)
    | ⟨.collected blk, _⟩ :: r => match takeM M blk with
      | some (l, M') => unwindX P V R fn tm n (l ++ r) m M'
      | none => none
    | ⟨.fn f cap, args⟩ :: r => match targetM P V M (.fn f cap) args with
      | some (.val _, M') => unwindX P V R fn tm n r m M'
      | some (.enter (.fn g) args', M') => match dfrCall P R g args' m M' with
        | some (m', M2) => unwindX P V R fn tm n r m' M2
        | none => none
      | _ => none

def leftX : Option (Out × Mem) → MMode → Option (Out × MMode × Mem)
  | some (o, M) => fun u => some (o, u, M)
  | none => fun _ => none

/-! ### Frames -/
abbrev FrX := Program → Env → Nat → RunXF → Cxt → Nat → Func → Nat → Tr MV → List MD → MMode → Mem → Option (Out × MMode × Mem)

def roundOut : Option Mem → Bool → MMode → Option (Out × MMode × Mem)
  | some M => fun b u => some (.ret (.b b), u, M)
  | none => fun _ _ => none

/-- A frame comes to its end: by a 'return', or at the end of its text. -/
def leaveX (jump : Option Code) : FrX := fun P V n R cx _ fn _ tm ds u M => match cx with
  | .round blk => roundOut (endRoundM M blk jump) jump.isNone u
  | _ => leftX (unwindX P V R fn tm n ds .ret M) u
/-- A frame is left by a jump: a round's alone. -/
def jumpX (jump : Code) : FrX := fun _ _ _ _ cx _ _ _ _ _ u M => match cx with
  | .round blk => roundOut (endRoundM M blk (some jump)) false u
  | _ => none

def toX : Option (List Item) → Code → FrX
  | some k => fun _ P V n R cx fid fn nt tm ds u M => R cx fid fn nt tm k ds u M
  | none => fun c => jumpX c

def condX : Option MV → Code → Code → List Item → FrX
  | some (.b t) => fun x y k _ _ _ R cx fid fn nt tm ds u M => R cx fid fn nt tm (.code (bif t then x else y) :: k) ds u M
  | _ => fun _ _ _ _ _ _ _ _ _ _ _ _ _ _ _ => none

def Mem.seqX (M : Mem) (k : Mem → Option (Out × MMode × Mem)) : Option (Out × MMode × Mem) :=
  match M with
  | ⟨h, nx, ro⟩ => match h with
    | .e => seqN nx fun nx => k ⟨.e, nx, ro⟩
    | .n l v r => seqN nx fun nx => k ⟨.n l v r, nx, ro⟩
theorem Mem.seqX_eq (M : Mem) (k : Mem → Option (Out × MMode × Mem)) : M.seqX k = k M := by
  obtain ⟨h, nx, ro⟩ := M
  cases h <;> simp [Mem.seqX, seqN_eq]

def regX : Option RO → List Item → FrX
  | some (.go tm M ds u) => fun k _ _ _ R cx fid fn nt _ _ _ _ => M.seqX fun M => R cx fid fn nt tm k ds u M
  | some (.pan c tm M ds u) => fun _ P V n R _ _ fn _ _ _ _ _ => leftX (unwindX P V R fn tm n ds (.pan c) M) u
  | none => fun _ _ _ _ _ _ _ _ _ _ _ _ _ => none

def drawX : Option (Tr MV × Mem) → List MD → MMode → Option RO
  | some q => fun ds u => some (.go q.1 q.2 ds u)
  | none => fun _ _ => none

def loopOutX : Option (Option Code × Mem) → List MD → List Item → FrX
  | some (jump, M) => fun ds k _ _ _ R cx fid fn nt tm _ u _ => R cx fid fn nt tm ((jump.map Item.code).toList ++ k) ds u M
  | none => fun _ _ _ _ _ _ _ _ _ _ _ _ _ _ => none

def loopCallX : Option (Out × Mem) → Nat → List MD → List Item → FrX
  | some (.ret _, M) => fun L ds k => loopOutX (endLoopM M L) ds k
  | some (.pan c, M) => fun _ ds _ P V n R _ _ fn _ tm _ u _ => leftX (unwindX P V R fn tm n ds (.pan c) M) u
  | none => fun _ _ _ _ _ _ _ _ _ _ _ _ _ _ _ => none

def loopTgX : Option (Res × Mem) → CallX → Nat → List MD → List Item → FrX
  | some (.enter (.fn f) args, M) => fun callx L ds k => loopCallX (callx (.fn f) args M) L ds k
  | _ => fun _ _ _ _ _ _ _ _ _ _ _ _ _ _ _ _ => none

def loopFnX : Option MV → Option (Nat × List MD × Mem) → CallX → List Item → FrX
  | some (.fn g first cap) => fun q callx k P V n R cx fid fn nt tm ds u M => match q with
    | some (L, mark, M2) => loopTgX (targetM P V M2 (.fn g cap) (first ++ [.yl L])) callx L (mark ++ ds) k P V n R cx fid fn nt tm ds u M
    | none => none
  | _ => fun _ _ _ _ _ _ _ _ _ _ _ _ _ _ _ => none

/-- A call out of a region. -/
def enterX (P : Program) (V : Env) (R : RunXF) : CallX := fun t args M => match t with
  | .fn f => match V.chook f args M with
    | some q => some q
    | none => match fnOf P f with
      | some (g, c) => match putAll (args.length + (g.ntmps - args.length)) 0 args .e with
        | some tm => match R .call f g (args.length + (g.ntmps - args.length)) tm [.code c] [] .ret M with
          | some (o, _, M') => some (o, M')
          | none => none
        | none => none
      | none => none
  | .yl blk => match M.h.get blk with
    | some (.loop _ _ f nt tm params assign body _) => match P.funcs[f]? with
      | some g => match putRound nt params args tm with
        | some tm' => match R (.round blk) f g nt tm' [.code assign, .beginRound, .code body] [] .ret M with
          | some (o, _, M') => some (o, M')
          | none => none
        | none => none
      | none => none
    | _ => none
where
  putRound (nt : Nat) : List Tmp → List MV → Tr MV → Option (Tr MV)
    | t :: ts, v :: vs, tm => match tmPut nt tm (some t) v with
      | some tm' => putRound nt ts vs tm'
      | none => none
    | _, _, tm => some tm

def codeX : Code → List Item → FrX
  | .ret => fun _ => leaveX (some .ret)
  | .skip => fun k _ _ _ R cx fid fn nt tm ds u M => R cx fid fn nt tm k ds u M
  | .label _ => fun k _ _ _ R cx fid fn nt tm ds u M => R cx fid fn nt tm k ds u M
  | .seq a b => fun k _ _ _ R cx fid fn nt tm ds u M => R cx fid fn nt tm (.code a :: .code b :: k) ds u M
  | .cond q x y => fun k P V n R cx fid fn nt tm ds u M => condX (ev V.ng tm q) x y k P V n R cx fid fn nt tm ds u M
  | .block id b => fun k _ _ _ R cx fid fn nt tm ds u M => R cx fid fn nt tm (.code b :: .inBlock id :: k) ds u M
  | .loop b => fun k _ _ _ R cx fid fn nt tm ds u M => R cx fid fn nt tm (.code b :: .inLoop b :: k) ds u M
  | .exit id => fun k P V n R cx fid fn nt tm ds u M => toX (exitTo id k) (.exit id) P V n R cx fid fn nt tm ds u M
  | .goto l => fun k P V n R cx fid fn nt tm ds u M => toX (gotoIn l k) (.goto l) P V n R cx fid fn nt tm ds u M
  | .region _ ops draw => fun k P V n R cx fid fn nt tm ds u M =>
      regX (bif draw then drawX (drawL P V (retF (enterX P V R)) ops nt tm M) ds u else execX P V cx (enterX P V R) ops nt ops.toList tm M ds u) k P V n R cx fid fn nt tm ds u M
  | .scope b => fun k _ _ _ R cx fid fn nt tm ds u M => R cx fid fn nt tm (.code b :: .inScope b :: k) ds u M
  | .rangeFunc f params assign body => fun k P V n R cx fid fn nt tm ds u M =>
      loopFnX (ev V.ng tm f) (enterLoopM M cx fid nt tm params.toList assign body) (enterX P V R) k P V n R cx fid fn nt tm ds u M
  | _ => fun _ _ _ _ _ _ _ _ _ _ _ _ _ => none
def beginX : Option Mem → List Item → FrX
  | some M => fun k _ _ _ R cx fid fn nt tm ds u _ => R cx fid fn nt tm k ds u M
  | none => fun _ _ _ _ _ _ _ _ _ _ _ _ _ => none
def itemX : Item → List Item → FrX
  | .code b => fun k => codeX b k
  | .inBlock _ => fun k _ _ _ R cx fid fn nt tm ds u M => R cx fid fn nt tm k ds u M
  | .inScope _ => fun k _ _ _ R cx fid fn nt tm ds u M => R cx fid fn nt tm k ds u M
  | .inLoop b => fun k _ _ _ R cx fid fn nt tm ds u M => R cx fid fn nt tm (.code b :: .inLoop b :: k) ds u M
  | .beginRound => fun k P V n R cx fid fn nt tm ds u M => match cx with
    | .round blk => beginX (beginRoundM M blk) k P V n R cx fid fn nt tm ds u M
    | _ => none
  | _ => fun _ _ _ _ _ _ _ _ _ _ _ _ _ => none
def todoX : List Item → FrX
  | [] => leaveX none
  | i :: k => itemX i k

def runX (P : Program) (V : Env) : Nat → RunXF
  | 0 => fun _ _ _ _ _ _ _ _ _ => none
  | n + 1 => fun cx fid fn nt tm todo ds u M => todoX todo P V n (runX P V n) cx fid fn nt tm ds u M

/-- A call. -/
def callX (P : Program) (V : Env) (n : Nat) (f : FuncId) (args : List MV) (M : Mem) : Option (Out × Mem) := match fnOf P f with
  | some (g, c) => match putAll (args.length + (g.ntmps - args.length)) 0 args .e with
    | some tm => match runX P V n .call f g (args.length + (g.ntmps - args.length)) tm [.code c] [] .ret M with
      | some (o, _, M') => some (o, M')
      | none => none
    | none => none
  | none => none
end Go.Ev
