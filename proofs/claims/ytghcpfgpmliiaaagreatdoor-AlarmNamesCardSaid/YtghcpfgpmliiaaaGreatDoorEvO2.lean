/- The evaluator: one operation again, with arms that hold no variable of the outside: the kernel copies nothing when it unfolds them. -/
import Derived.Test.YtghcpfgpmliiaaaGreatDoorEvO
namespace Go.Ev

def intK : BinOp → IntKind → Int → Int → Option MV
  | .add => fun k a b => some (.i k (wrapF k (a + b)))
  | .sub => fun k a b => some (.i k (wrapF k (a - b)))
  | .mul => fun k a b => some (.i k (wrapF k (a * b)))
  | .eql => fun _ a b => some (.b (eqI a b))
  | .neq => fun _ a b => some (.b (!(eqI a b)))
  | .lss => fun _ a b => some (.b (ltI a b))
  | .leq => fun _ a b => some (.b (!(ltI b a)))
  | .gtr => fun _ a b => some (.b (ltI b a))
  | .geq => fun _ a b => some (.b (!(ltI a b)))
  | op => fun k a b => intM op k a b
theorem intK_eq (op : BinOp) (k : IntKind) (a b : Int) : intK op k a b = intM op k a b := by cases op <;> rfl

abbrev BinF := Program → BinOp → TypeId → Bool → Bool → Option MV

def binI : MV → IntKind → Int → BinF
  | .i k' b => fun k a P op t xc yc => bif isShift op then shiftM op k a b else bif eqK k k' then intK op k a b else none
  | y => fun k a P op t xc yc => binM P op t xc yc (.i k a) y
def binS : MV → List Nat → BinF
  | .s b => fun a P op t xc yc => strM op a b
  | y => fun a P op t xc yc => binM P op t xc yc (.s a) y
def binF : MV → FloatKind → Nat → BinF
  | .f k' b => fun k a P op t xc yc => bif eqFK k k' then fltM op k a b else none
  | y => fun k a P op t xc yc => binM P op t xc yc (.f k a) y
def binK : MV → MV → BinF
  | .i k a => fun y P op t xc yc => binI y k a P op t xc yc
  | .s a => fun y P op t xc yc => binS y a P op t xc yc
  | .f k a => fun y P op t xc yc => binF y k a P op t xc yc
  | x => fun y P op t xc yc => binM P op t xc yc x y
theorem binK_eq (P : Program) (op : BinOp) (t : TypeId) (xc yc : Bool) (x y : MV) : binK x y P op t xc yc = binM P op t xc yc x y := by
  cases x <;> first | rfl | (cases y <;> simp only [binK, binI, binS, binF, intK_eq] <;> rfl)

abbrev OpF := Program → Env → (Operand → Option MV) → Mem → Option (Res × Mem)

def pickOn : Option MV → Option MV → Option MV → Option MV
  | some (.b t) => fun a b => bif t then a else b
  | _ => fun _ _ => none
def with1 : Option MV → (MV → Option (Res × Mem)) → Option (Res × Mem)
  | some v => fun k => k v
  | none => fun _ => none
def with2 : Option MV → Option MV → (MV → MV → Option (Res × Mem)) → Option (Res × Mem)
  | some v => fun b k => with1 b fun w => k v w
  | none => fun _ _ => none
def nilK : Option Res → Mem → Option (Res × Mem)
  | some r => fun M => some (r, M)
  | none => fun _ => none

def opCold (op : Op) : OpF := fun P V e M => opM P V e M ⟨none, op, 0, "", #[], none⟩

def callFn : Option MV → List MV → OpF
  | some (.fn fn first cap) => fun args P V e M => targetM P V M (.fn fn cap) (first ++ args)
  | some (.yl blk) => fun args P V e M => yieldM M blk args
  | _ => fun _ _ _ _ _ => none
def callCe : Callee → Call → List MV → OpF
  | .builtin b => fun cl args P V e M => builtinM P M b cl.argTypes args
  | .invoke x name => fun _ args P V e M => with1 (e x) fun v => targetM P V M (.fn (.method name) []) (v :: args)
  | .value f => fun _ args P V e M => callFn (e f) args P V e M
def callAr : Option (List MV) → Call → OpF
  | some args => fun cl P V e M => callCe cl.callee cl args P V e M
  | none => fun _ _ _ _ _ => none

def opK : Op → OpF
  | .move x => fun P V e M => v1 M (e x)
  | .assign x => fun P V e M => v1 M (e x)
  | .pick q a b => fun P V e M => v1 M (pickOn (e q) (e a) (e b))
  | .fieldAddr s x f => fun P V e M => with1 (e x) fun v => v1 M (fieldAddrM P s f v)
  | .load t x => fun P V e M => with1 (e x) fun v => v1 M (loadM P M t v)
  | .store t x y => fun P V e M => with2 (e x) (e y) fun a v => u2 (storeM P M t a v)
  | .nilCheck x => fun P V e M => with1 (e x) fun v => nilK (nilM v) M
  | .binOp op t x y _ => fun P V e M => with2 (e x) (e y) fun a b => v1 M (binK a b P op t (isConst x) (isConst y))
  | .unOp op _ x => fun P V e M => with1 (e x) fun v => v1 M (unM op v)
  | .extract x i => fun P V e M => with1 (e x) fun v => v1 M (extractM i v)
  | .index t x i => fun P V e M => with2 (e x) (e i) fun a b => v1 M (indexM P t a b)
  | .indexAddr t x i => fun P V e M => with2 (e x) (e i) fun a b => v1 M (indexAddrM P t a b)
  | .call cl => fun P V e M => callAr (mapO e cl.args.toList) cl P V e M
  | .alloc t => fun P V e M => opCold (.alloc t) P V e M
  | .box t x => fun P V e M => with1 (e x) fun v => v2 (M.newVar t v)
  | op => fun P V e M => opCold op P V e M

theorem opK_eq (P : Program) (V : Env) (e : Operand → Option MV) (M : Mem) (o : Oper) : opK o.op P V e M = opM P V e M o := by
  obtain ⟨dst, op, type, pos, after, guard⟩ := o
  cases op <;> first | rfl | skip
  case pick q a b =>
    simp only [opK, opM]
    cases hq : e q with
    | none => rfl
    | some v => cases v <;> first | rfl | (rename_i x; cases x <;> rfl)
  case fieldAddr s x f => simp only [opK, opM]; cases e x <;> rfl
  case load t x => simp only [opK, opM]; cases e x <;> rfl
  case store t x y => simp only [opK, opM]; cases e x <;> first | rfl | (cases e y <;> rfl)
  case nilCheck x =>
    simp only [opK, opM]
    cases e x with
    | none => rfl
    | some v => simp only [with1]; cases nilM v <;> rfl
  case binOp op t x y yt =>
    simp only [opK, opM]
    cases e x with
    | none => rfl
    | some a => cases e y with
      | none => rfl
      | some b => simp only [with2, with1, binK_eq]
  case unOp op t x => simp only [opK, opM]; cases e x <;> rfl
  case extract x i => simp only [opK, opM]; cases e x <;> rfl
  case index t x i => simp only [opK, opM]; cases e x <;> first | rfl | (cases e i <;> rfl)
  case indexAddr t x i => simp only [opK, opM]; cases e x <;> first | rfl | (cases e i <;> rfl)
  case box t x => simp only [opK, opM]; cases e x <;> rfl
  case call cl =>
    simp only [opK, opM]
    cases mapO e cl.args.toList with
    | none => rfl
    | some args =>
      simp only [callAr]
      cases hc : cl.callee with
      | builtin b => rfl
      | invoke x name => simp only [callCe]; cases e x <;> rfl
      | value f =>
        simp only [callCe]
        cases e f with
        | none => rfl
        | some v => cases v <;> rfl

/-! ### Operations of which more is known -/
def isDefer : Op → Bool
  | .defer _ => true
  | .alloc _ => true
  | _ => false
def hookV : Option (List MV) → (Op → List MV → Option MV) → Op → Mem → Option (Res × Mem)
  | some vs => fun h op M => v1 M (h op vs)
  | none => fun _ _ _ => none
def hookK : Option (Res × Mem) → (Op → List MV → Option MV) → Op → (Operand → Option MV) → Mem → Option (Res × Mem)
  | some q => fun _ _ _ _ => some q
  | none => fun h op e M => bif isDefer op then none else hookV (mapO e op.operands.toList) h op M
def opH (op : Op) : OpF := fun P V e M => hookK (opK op P V e M) V.hook op e M

/-- What is said of an operation holds. -/
def HookOk (P : Program) (V : Env) (base : Fr) (W0 : World) (X : Cx) : Prop :=
  ∀ Y, X.Le Y → ∀ (ρ : Operand → Value) (o : Oper) (vs : List MV) (r : MV), V.hook o.op vs = some r → VRs Y vs (o.op.operands.toList.map ρ) → ∀ K M W, MemR Y ⟨base.own, K⟩ W0 M W → ToN P Y ⟨base.own, K⟩ W0 (execOp ρ o) W (.val r) M

theorem hook_inv {q : Option (Res × Mem)} {h : Op → List MV → Option MV} {op : Op} {e : Operand → Option MV} {M M' : Mem} {r : Res} (hc : hookK q h op e M = some (r, M')) :
    q = some (r, M') ∨ q = none ∧ isDefer op = false ∧ M' = M ∧ ∃ vs v, mapO e op.operands.toList = some vs ∧ h op vs = some v ∧ r = .val v := by
  cases q with
  | some q => simp only [hookK] at hc; exact .inl hc
  | none =>
    simp only [hookK] at hc
    cases hd : isDefer op <;> rw [hd] at hc <;> simp only [cond_true, cond_false, reduceCtorEq] at hc
    cases hm : mapO e op.operands.toList with
    | none => rw [hm] at hc; cases hc
    | some vs =>
      rw [hm] at hc
      simp only [hookV] at hc
      obtain ⟨v, hv, rfl, rfl⟩ := v1_inv hc
      exact .inr ⟨rfl, rfl, rfl, vs, v, rfl, hv, rfl⟩

theorem opH_inv {P : Program} {V : Env} {e : Operand → Option MV} {M M' : Mem} {o : Oper} {r : Res} (hc : opH o.op P V e M = some (r, M')) :
    opM P V e M o = some (r, M') ∨ opM P V e M o = none ∧ isDefer o.op = false ∧ M' = M ∧ ∃ vs v, mapO e o.op.operands.toList = some vs ∧ V.hook o.op vs = some v ∧ r = .val v := by
  unfold opH at hc
  rw [opK_eq] at hc
  exact hook_inv hc

theorem opH_sound {P : Program} {X : Cx} {base : Fr} {W0 W : World} {M : Mem} {V : Env} (hV : ∀ f x, V.ext f = some x → ExtOk P f x) (hS : HookOk P V base W0 X) {e : Operand → Option MV} {a : Act} {o : Oper} {r : Res} {M' : Mem} (he : EvOk X e a.eval) (h : MemR X base W0 M W) (hc : opH o.op P V e M = some (r, M')) :
    ToN P X base W0 (execOp a.eval o) W r M' := by
  rcases opH_inv hc with hc | ⟨_, _, rfl, vs, v, hvs, hv, rfl⟩
  · exact opM_sound hV he h hc
  · exact hS X (Cx.Le.refl X) _ _ _ _ hv (mapE_sound he hvs) base.keep _ _ h
end Go.Ev
