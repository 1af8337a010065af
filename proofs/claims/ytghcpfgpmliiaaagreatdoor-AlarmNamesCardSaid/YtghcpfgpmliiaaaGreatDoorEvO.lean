/- The evaluator: one operation. -/
import Derived.Test.YtghcpfgpmliiaaaGreatDoorEvN
import Derived.Laws.Externs
namespace Go.Ev

/-- What is entered: a function, or the body of a range over a function (the block of its loop). -/
inductive Tg : Type where
  | fn (f : FuncId)
  | yl (blk : Nat)

inductive Res : Type where
  | val (v : MV)
  | skip
  | enter (t : Tg) (args : List MV)
  | dfr (d : MD)
  | pan (v : MV)
  | recov

/-- The temporaries of a round. -/
def roundT (lp : Loop) (l : Array Value) : Array Value := (lp.params.zip l).foldl (fun tmps (t, a) => tmps.setIfInBounds t a) lp.tmps

inductive RR (X : Cx) (W : World) : Res → Next → Prop
  | val {v : MV} {v' : Value} (h : VR X v v') : RR X W (.val v) (.value v')
  | skip : RR X W .skip .skip
  | enter {f : FuncId} {l : List MV} {l' : List Value} (h : VRs X l l') : RR X W (.enter (.fn f) l) (.enter f ⟨l'⟩)
  | round {blk n z : Nat} {l : List MV} {l' : List Value} {lp : Loop} (h : X.ρ blk = some (n, 0, z)) (hl : VRs X l l') (hw : W.heap[n]? = some (.loop lp)) (hs : l.length = lp.params.size) :
      RR X W (.enter (.yl blk) l) (.round n lp.fn (roundT lp ⟨l'⟩) lp.assign lp.body)
  | dfr {d : MD} {d' : Deferred} (h : DR X d d') : RR X W (.dfr d) (.defer d')
  | recov : RR X W .recov .recover

/-- What the operation comes to. -/
def ToN (P : Program) (X : Cx) (base : Fr) (W0 : World) (s : Sem Next) (W : World) (r : Res) (M' : Mem) : Prop :=
  ∃ X' W', X.Le X' ∧ MemR X' base W0 M' W' ∧ match r with
    | .pan v => ∃ v', s.run P W = .halt (.panic v') W' ∧ VR X' v v'
    | r => ∃ nx, s.run P W = .ok nx W' ∧ RR X' W' r nx

inductive Ext : Type where
  | plain (e : Array Value → Sem Value)
  | same
  | aload (t : Extern.Atomic.T)
  | astore
  | aswap (t : Extern.Atomic.T)
  | acas (t : Extern.Atomic.T)
  | aadd (k : IntKind)

/-- How a call ends: a value, or a row of panics (each: whether it has been recovered). -/
inductive Out : Type where
  | ret (v : MV)
  | pan (c : List (MV × Bool))

/-- What the evaluator is given: how many variables of the package level there are; functions without a Go body; operations and calls of which more is known than the evaluator finds out by itself. -/
structure Env where
  ng : Nat
  ext : Nat → Option Ext
  hook : Op → List MV → Option MV := fun _ _ => none
  chook : Nat → List MV → Mem → Option (Out × Mem) := fun _ _ _ => none

def Ext.fn : Ext → (Array Value → Sem Value)
  | .plain e => e
  | .same => Extern.AbiNoEscape.same
  | .aload t => Extern.Atomic.loadT t
  | .astore => Extern.Atomic.storeT
  | .aswap t => Extern.Atomic.swapT t
  | .acas t => Extern.Atomic.casT t
  | .aadd k => Extern.Atomic.update (Op.intArith .add) k true

def ExtOk (P : Program) (f : FuncId) (x : Ext) : Prop := ∀ (args : Array Value) (W : World), (callFunc f args).run P W = ((x.fn args).run P W).andThen fun v w' => .ok (.value v) w'

/-- Values without addresses, as the model has them. -/
def toV : MV → Option Value
  | .b x => some (.bool x)
  | .i k n => some (.int k n)
  | .f k n => some (.float k n)
  | .c k n m => some (.complex k n m)
  | .s l => some (.string (bs l))
  | .np => some (.pointer none)
  | .nif => some .nilIface
  | _ => none

section
variable {P : Program} {X : Cx} {base : Fr} {W0 W : World} {M : Mem}

theorem toV_sound {v : MV} {v' w : Value} (h : VR X v w) (hc : toV v = some v') : w = v' := by
  cases h <;> simp only [toV, reduceCtorEq, Option.some.injEq] at hc <;> first | exact hc | cases hc

theorem toVs_sound : ∀ {l : List MV} {l' ws : List Value}, VRs X l ws → mapO toV l = some l' → ws = l'
  | [], l', _, h, hc => by cases h; simp only [mapO, Option.some.injEq] at hc; exact hc
  | v :: l, l', _, h, hc => by
    cases h with
    | cons h t =>
      simp only [mapO] at hc
      split at hc
      · rename_i y ys hy hys
        simp only [Option.some.injEq] at hc; subst hc
        rw [toV_sound h hy, toVs_sound t hys]
      · cases hc

def extM (x : Ext) (args : List MV) : Option MV :=
  match x with
  | .plain e => match mapO toV args with
    | some vs => match e ⟨vs⟩ with
      | .pure v => ofV 4 v
      | _ => none
    | none => none
  | .same => match args with
    | [v] => some v
    | _ => none
  | _ => none

theorem ext_to {f : FuncId} {x : Ext} {args : List MV} {args' : List Value} {r : MV} (h : MemR X base W0 M W) (hx : ExtOk P f x) (ha : VRs X args args') (hc : extM x args = some r) : ToN P X base W0 (callFunc f ⟨args'⟩) W (.val r) M := by
  unfold extM at hc
  split at hc
  · rename_i e
    split at hc
    · rename_i vs hvs
      have := toVs_sound ha hvs
      subst this
      split at hc
      · rename_i v hv
        refine ⟨X, W, Cx.Le.refl X, h, .value v, ?_, .val (ofV_sound _ _ _ hc)⟩
        rw [hx]
        simp only [Ext.fn, hv]
        rfl
      · cases hc
    · cases hc
  · split at hc
    · rename_i v
      simp only [Option.some.injEq] at hc; subst hc
      cases ha with | cons hv t =>
      cases t
      rename_i v'
      refine ⟨X, W, Cx.Le.refl X, h, .value v', ?_, .val hv⟩
      rw [hx]
      have : (Ext.same.fn ⟨[v']⟩) = pure v' := rfl
      rw [this]
      rfl
    · cases hc
  · cases hc

/-! ### Functions without a Go body that look at memory, or write to it: sync/atomic -/
def atK : Extern.Atomic.T → MV → Bool
  | .int k, .i k' _ => eqK k k'
  | _, _ => false

def extMM (M : Mem) (x : Ext) (args : List MV) : Option (MV × Mem) :=
  match x with
  | .aload t => match args with
    | [.p blk off] => match M.cell blk off with
      | some v => bif atK t v then some (v, M) else none
      | none => none
    | _ => none
  | .astore => match args with
    | [.p blk off, .i k n] => match M.setCell blk off (.i k n) with
      | some M' => some (undefM, M')
      | none => none
    | _ => none
  | .aswap t => match args with
    | [.p blk off, .i k n] => match M.cell blk off with
      | some v => bif atK t v then (match M.setCell blk off (.i k n) with
        | some M' => some (v, M')
        | none => none) else none
      | none => none
    | _ => none
  | .acas t => match args with
    | [.p blk off, .i k o, .i k2 n] => match M.cell blk off with
      | some (.i k' x) => bif atK t (.i k' x) && eqK k k' && eqK k2 k' then (match M.setCell blk off (.i k2 n) with
        | some M' => bif eqI x o then some (.b true, M') else some (.b false, M)
        | none => none) else none
      | _ => none
    | _ => none
  | .aadd k => match args with
    | [.p blk off, .i k2 y] => match M.cell blk off with
      | some (.i k' x) => bif eqK k k' && eqK k2 k then (match M.setCell blk off (.i k (wrapF k (x + y))) with
        | some M' => some (.i k (wrapF k (x + y)), M')
        | none => none) else none
      | _ => none
    | _ => none
  | _ => none

theorem shape_of_cell {a : Addr} {v : Value} (h : W.cell? a = some v) : (W.shape? a.block).isSome = true := by
  unfold World.cell? at h
  unfold World.shape?
  split at h
  · rename_i c e f hb; simp [hb]
  · cases h

theorem getObj_loop {n : Nat} {lp : Loop} (h : W.heap[n]? = some (.loop lp)) : (getObj n).run P W = .ok (.loop lp) W := by
  simp only [getObj, Sem.run, h]

theorem atK_sound {t : Extern.Atomic.T} {v : MV} {v' : Value} (hv : VR X v v') (h : atK t v = true) : ∃ k n, t = .int k ∧ v = .i k n ∧ v' = .int k n := by
  cases t with
  | ptr => simp [atK] at h
  | int k =>
    cases v <;> simp only [atK, Bool.false_eq_true] at h
    rename_i k' n
    have := eqK_eq h; subst this
    cases hv
    exact ⟨k, n, rfl, rfl, rfl⟩

theorem extMM_to {f : FuncId} {x : Ext} {args : List MV} {args' : List Value} {r : MV} {M' : Mem} (h : MemR X base W0 M W) (hx : ExtOk P f x) (ha : VRs X args args') (hc : extMM M x args = some (r, M')) : ToN P X base W0 (callFunc f ⟨args'⟩) W (.val r) M' := by
  have key : ∀ {W' : World} {v' : Value}, MemR X base W0 M' W' → ((x.fn ⟨args'⟩).run P W = .ok v' W') → VR X r v' → ToN P X base W0 (callFunc f ⟨args'⟩) W (.val r) M' := by
    intro W' v' hm hr hv
    exact ⟨X, W', Cx.Le.refl X, hm, .value v', by rw [hx, hr]; rfl, .val hv⟩
  unfold extMM at hc
  split at hc
  · -- load
    rename_i t
    split at hc
    · rename_i blk off
      cases ha with | cons hp tl =>
      cases tl; cases hp; rename_i n d z hρ
      split at hc
      · rename_i v hv
        cases hq : atK t v <;> rw [hq] at hc <;> simp only [cond_true, cond_false, reduceCtorEq, Option.some.injEq, Prod.mk.injEq] at hc
        obtain ⟨rfl, rfl⟩ := hc
        obtain ⟨v', hcell, hvr⟩ := h.cell hρ hv
        obtain ⟨k, m, rfl, rfl, rfl⟩ := atK_sound hvr hq
        refine key h (v' := .int k m) ?_ hvr
        change (Sem.run P (do Extern.Atomic.read (.int k) (← asAddr (.pointer (some ⟨n, d + off, none⟩)))) W) = _
        simp [Extern.Atomic.read, asAddr, hcell, Result.andThen]
      · cases hc
    · cases hc
  · -- store
    split at hc
    · rename_i blk off k m
      cases ha with | cons hp tl =>
      cases tl with | cons hq tl =>
      cases tl; cases hp; cases hq; rename_i n d z hρ
      split at hc
      · rename_i M1 hset
        simp only [Option.some.injEq, Prod.mk.injEq] at hc
        obtain ⟨rfl, rfl⟩ := hc
        obtain ⟨⟨u, hu⟩, hz, hm⟩ := h.setCell hρ (.i k m) hset
        refine key hm (v' := undef) ?_ (.tup .nil)
        change (Sem.run P (do
          store (← asAddr (.pointer (some ⟨n, d + off, none⟩))) (.int k m) .atomic
          pure Extern.Atomic.none_) W) = _
        simp [asAddr, hu, hz, run_store P W ⟨n, d + off, none⟩ (.int k m) .atomic rfl, Result.andThen, Extern.Atomic.none_, undef]
      · cases hc
    · cases hc
  · -- swap
    rename_i t
    split at hc
    · rename_i blk off k m
      cases ha with | cons hp tl =>
      cases tl with | cons hq tl =>
      cases tl; cases hp; cases hq; rename_i n d z hρ
      split at hc
      · rename_i v hv
        cases hq : atK t v <;> rw [hq] at hc <;> simp only [cond_true, cond_false, reduceCtorEq] at hc
        split at hc
        · rename_i M1 hset
          simp only [Option.some.injEq, Prod.mk.injEq] at hc
          obtain ⟨rfl, rfl⟩ := hc
          obtain ⟨v', hcell, hvr⟩ := h.cell hρ hv
          obtain ⟨⟨u, hu⟩, hz, hm⟩ := h.setCell hρ (.i k m) hset
          obtain ⟨k', m', rfl, rfl, rfl⟩ := atK_sound hvr hq
          refine key hm (v' := .int k' m') ?_ hvr
          change (Sem.run P (do
            let a ← asAddr (.pointer (some ⟨n, d + off, none⟩))
            let old ← Extern.Atomic.read (.int k') a
            store a (.int k m) .atomic
            pure old) W) = _
          simp [Extern.Atomic.read, asAddr, hcell, hz, run_store P W ⟨n, d + off, none⟩ (.int k m) .atomic rfl, Result.andThen]
        · cases hc
      · cases hc
    · cases hc
  · -- compare and swap
    rename_i t
    split at hc
    · rename_i blk off k o k2 m
      cases ha with | cons hp tl =>
      cases tl with | cons hq tl =>
      cases tl with | cons hr tl =>
      cases tl; cases hp; cases hq; cases hr; rename_i n d z hρ
      split at hc
      · rename_i k' x hv
        cases hq : (atK t (.i k' x) && eqK k k' && eqK k2 k') <;> rw [hq] at hc <;> simp only [cond_true, cond_false, reduceCtorEq] at hc
        simp only [Bool.and_eq_true] at hq
        obtain ⟨⟨hq, hk⟩, hk2⟩ := hq
        have := eqK_eq hk; subst this
        have := eqK_eq hk2; subst this
        split at hc
        · rename_i M1 hset
          obtain ⟨v', hcell, hvr⟩ := h.cell hρ hv
          obtain ⟨⟨u, hu⟩, hz, hm⟩ := h.setCell hρ (.i k2 m) hset
          obtain ⟨k', m', rfl, e1, rfl⟩ := atK_sound hvr hq
          simp only [MV.i.injEq] at e1
          obtain ⟨rfl, rfl⟩ := e1
          have run : (Sem.run P (do
              let a' ← asAddr (.pointer (some ⟨n, d + off, none⟩))
              if ← Extern.Atomic.touchesFrozen a' then unsupported (.unsafePointer "a write to bytes that a string shares")
              let eq ← match Extern.Atomic.T.int k2, ← Extern.Atomic.read (.int k2) a', Value.int k2 o with
                | _, .int _ x, .int _ y => pure (x == y)
                | .ptr, .pointer x, .pointer y => samePointer x y
                | .int _, .pointer (some _), .int _ 0 | .int _, .int _ 0, .pointer (some _) => pure false
                | .int _, .pointer (some _), _ | .int _, _, .pointer (some _) => unsupported .addressObserved
                | _, _, _ => stuck "atomic.CompareAndSwap: old is no T"
              if eq then store a' (.int k2 m) .atomic
              pure (Value.bool eq)) W) = if x = o then .ok (.bool true) (W.setCell ⟨n, d + off, none⟩ (.int k2 m)) else .ok (.bool false) W := by
            by_cases e : x = o
            · simp [Extern.Atomic.touchesFrozen, Extern.Atomic.read, asAddr, viewAt, shape_of_cell hcell, hcell, hz, e, run_store P W ⟨n, d + off, none⟩ (.int k2 m) .atomic rfl, Result.andThen]
            · simp [Extern.Atomic.touchesFrozen, Extern.Atomic.read, asAddr, viewAt, shape_of_cell hcell, hcell, hz, e, Result.andThen]
          cases he : eqI x o with
          | true =>
            rw [he] at hc; simp only [cond_true, Option.some.injEq, Prod.mk.injEq] at hc
            obtain ⟨rfl, rfl⟩ := hc
            rw [eqI_eq] at he
            have he := eq_of_beq he
            rw [if_pos he] at run
            exact key hm (v' := .bool true) run (.b true)
          | false =>
            rw [he] at hc; simp only [cond_false, Option.some.injEq, Prod.mk.injEq] at hc
            obtain ⟨rfl, rfl⟩ := hc
            rw [eqI_eq] at he
            have he : ¬ x = o := by simpa using he
            rw [if_neg he] at run
            exact key h (v' := .bool false) run (.b false)
        · cases hc
      · cases hc
    · cases hc
  · -- add
    rename_i k
    split at hc
    · rename_i blk off k2 y
      cases ha with | cons hp tl =>
      cases tl with | cons hq tl =>
      cases tl; cases hp; cases hq; rename_i n d z hρ
      split at hc
      · rename_i k' x hv
        cases hq : (eqK k k' && eqK k2 k) <;> rw [hq] at hc <;> simp only [cond_true, cond_false, reduceCtorEq] at hc
        simp only [Bool.and_eq_true] at hq
        have := eqK_eq hq.1; subst this
        have := eqK_eq hq.2; subst this
        split at hc
        · rename_i M1 hset
          simp only [Option.some.injEq, Prod.mk.injEq] at hc
          obtain ⟨rfl, rfl⟩ := hc
          obtain ⟨v', hcell, hvr⟩ := h.cell hρ hv
          cases hvr
          obtain ⟨⟨u, hu⟩, hz, hm⟩ := h.setCell hρ (.i k2 (wrapF k2 (x + y))) hset
          refine key hm (v' := .int k2 (wrapF k2 (x + y))) ?_ (.i _ _)
          change (Sem.run P (do
            let a' ← asAddr (.pointer (some ⟨n, d + off, none⟩))
            let old ← Extern.Atomic.read (.int k2) a'
            let new ← Op.intArith .add k2 (← asInt old) (← asInt (.int k2 y))
            store a' new .atomic
            pure (if true = true then new else old)) W) = _
          simp [Extern.Atomic.read, asAddr, asInt, asIntOf, hcell, hz, wrapF_eq, Op.intArith, run_store P W ⟨n, d + off, none⟩ (.int k2 (k2.wrap (x + y))) .atomic rfl, Result.andThen]
        · cases hc
      · cases hc
    · cases hc
  · cases hc

/-! ### Calls -/
def fnOf (P : Program) (f : FuncId) : Option (Func × Code) :=
  match P.funcs[f]? with
  | some fn => match fn.body with
    | some c => bif fn.name == "runtime.NumGoroutine" then none else some (fn, c)
    | none => none
  | none => none

theorem enter_run {f : FuncId} {q : Func × Code} (h : fnOf P f = some q) (args : Array Value) (W : World) : (callFunc f args).run P W = .ok (.enter f args) W ∧ P.funcs[f]? = some q.1 ∧ q.1.body = some q.2 := by
  unfold fnOf at h
  split at h
  · rename_i fn hfn
    split at h
    · rename_i c hb
      cases hq : (fn.name == "runtime.NumGoroutine") <;> rw [hq] at h <;> simp only [cond_true, cond_false, reduceCtorEq, Option.some.injEq] at h
      subst h
      have hne : fn.name ≠ "runtime.NumGoroutine" := by simpa using hq
      exact ⟨by simp [callFunc, hfn, hne, hb], hfn, hb⟩
    · cases h
  · cases h

def callM (P : Program) (V : Env) (M : Mem) (f : FuncId) (args : List MV) : Option (Res × Mem) :=
  match V.ext f with
  | some x => match extM x args with
    | some v => some (.val v, M)
    | none => match extMM M x args with
      | some (v, M') => some (.val v, M')
      | none => none
  | none => match fnOf P f with
    | some _ => some (.enter (.fn f) args, M)
    | none => none

theorem call_to {V : Env} (hV : ∀ f x, V.ext f = some x → ExtOk P f x) {f : FuncId} {args : List MV} {args' : List Value} {r : Res} {M' : Mem} (h : MemR X base W0 M W) (ha : VRs X args args') (hc : callM P V M f args = some (r, M')) :
    ToN P X base W0 (callFunc f ⟨args'⟩) W r M' := by
  unfold callM at hc
  split at hc
  · rename_i x hx
    split at hc
    · rename_i v hv
      simp only [Option.some.injEq, Prod.mk.injEq] at hc
      obtain ⟨rfl, rfl⟩ := hc
      exact ext_to h (hV _ _ hx) ha hv
    · split at hc
      · rename_i v M1 hv
        simp only [Option.some.injEq, Prod.mk.injEq] at hc
        obtain ⟨rfl, rfl⟩ := hc
        exact extMM_to h (hV _ _ hx) ha hv
      · cases hc
  · split at hc
    · rename_i q hq
      simp only [Option.some.injEq, Prod.mk.injEq] at hc
      obtain ⟨rfl, rfl⟩ := hc
      exact ⟨X, W, Cx.Le.refl X, h, _, (enter_run hq _ W).1, .enter ha⟩
    · cases hc

/-- The method behind an interface value: no promotion. -/
def methodM (P : Program) (M : Mem) (t : TypeId) (v : MV) (name : String) : Option (FuncId × MV) :=
  match P.info? t with
  | some i => match i.methods.find? (·.name == name) with
    | some m => bif m.path.isEmpty then (match m.func, P.underlying t with
      | some (f, true), some (.pointer _) => some (f, v)
      | some (f, false), some (.pointer e) => match v, loadM P M e v with
        | .p _ _, some u => some (f, u)
        | _, _ => none
      | some (f, false), some _ => some (f, v)
      | _, _ => none) else none
    | none => none
  | none => none

theorem method_run {t : TypeId} {v : MV} {v' : Value} {name : String} {f : FuncId} {u : MV} (h : MemR X base W0 M W) (hv : VR X v v') (hc : methodM P M t v name = some (f, u)) (k : Nat) : ∃ u', (method (k + 1) t v' name).run P W = .ok (f, u') W ∧ VR X u u' := by
  unfold methodM at hc
  split at hc
  · rename_i i hi
    split at hc
    · rename_i m hm
      cases hp : m.path.isEmpty <;> rw [hp] at hc <;> simp only [cond_true, cond_false, reduceCtorEq] at hc
      have hp0 : m.path = #[] := by simpa using hp
      have hpl : m.path.toList = [] := by rw [hp0]
      split at hc
      · rename_i f0 e hf hu
        simp only [Option.some.injEq, Prod.mk.injEq] at hc
        obtain ⟨rfl, rfl⟩ := hc
        refine ⟨v', ?_, hv⟩
        simp [method, typeInfo, hi, hm, hpl, follow, hf, receiverAt, run_underlying hu, Place.get]
      · rename_i f0 e hf hu
        split at hc
        · rename_i a b u0 hl
          simp only [Option.some.injEq, Prod.mk.injEq] at hc
          obtain ⟨rfl, rfl⟩ := hc
          obtain ⟨ad, u', rfl, hrun, hr⟩ := loadVar_run h hv hl
          refine ⟨u', ?_, hr⟩
          have hw : ∀ nm : String, (Builtin.ssaWrapNilChk_ #[t] t #[.pointer (some ad), strVal "", strVal nm]) = pure (.pointer (some ad)) := fun nm => rfl
          simp [method, typeInfo, hi, hm, follow, hf, receiverAt, run_underlying hu, Place.get, hp0, hw, asAddr, hrun]
        · cases hc
      · rename_i f0 d hnp hf hu
        simp only [Option.some.injEq, Prod.mk.injEq] at hc
        obtain ⟨rfl, rfl⟩ := hc
        refine ⟨v', ?_, hv⟩
        cases d <;> first | (exact (hnp _ rfl).elim) | (simp [method, typeInfo, hi, hm, hpl, follow, hf, receiverAt, run_underlying hu, Place.get])
      · cases hc
    · cases hc
  · cases hc

/-- A call: what is called, with which arguments. -/
def targetM (P : Program) (V : Env) (M : Mem) (t : MTg) (args : List MV) : Option (Res × Mem) :=
  match t with
  | .fn (.func f) cap => callM P V M f (args ++ cap)
  | .fn (.method name) _ => match args with
    | .ifc t v :: rest => match methodM P M t v name with
      | some (f, u) => callM P V M f (u :: rest)
      | none => none
    | _ => none
  | _ => none

theorem target_to {V : Env} (hV : ∀ f x, V.ext f = some x → ExtOk P f x) {t : MTg} {t' : Target} {args : List MV} {args' : List Value} {r : Res} {M' : Mem} (h : MemR X base W0 M W) (ht : TR X t t') (ha : VRs X args args') (hc : targetM P V M t args = some (r, M')) :
    ToN P X base W0 (invoke t' ⟨args'⟩) W r M' := by
  unfold targetM at hc
  split at hc
  · rename_i f cap
    cases ht with | fn hcap =>
    have := call_to hV h (ha.append hcap) hc
    simpa [invoke] using this
  · rename_i name cap
    cases ht with | fn hcap =>
    split at hc
    · rename_i t v rest
      cases ha with | cons hv hr =>
      rename_i l'
      cases hv with | ifc hv =>
      rename_i v'
      split at hc
      · rename_i f u hm
        obtain ⟨u', hrun, hu⟩ := method_run h hv hm (P.types.size + Made.depth - 1)
        obtain ⟨X', W', hle, hmm, hres⟩ := call_to hV h (.cons hu hr) hc
        have hd : P.types.size + Made.depth - 1 + 1 = P.types.size + Made.depth := by
          have : 0 < Made.depth := by decide
          omega
        rw [hd] at hrun
        refine ⟨X', W', hle, hmm, ?_⟩
        have e : ∀ cp : Array Value, (invoke (.fn (.method name) cp) ⟨.iface t v' :: l'⟩).run P W = (callFunc f ⟨u' :: l'⟩).run P W := by
          intro cp
          simp [invoke, callMethod, hrun]
        cases r <;> simp only at hres ⊢ <;> simpa only [e] using hres
      · cases hc
    · cases hc
  · cases hc

/-- A loop's body called. -/
def yieldM (M : Mem) (blk : Nat) (args : List MV) : Option (Res × Mem) :=
  match M.h.get blk with
  | some (.loop _ _ _ _ _ params _ _ _) => bif Nat.beq args.length params.length then some (.enter (.yl blk) args, M) else none
  | _ => none

theorem yield_to {blk n d z : Nat} {args : List MV} {args' : List Value} {r : Res} {M' : Mem} {cap : Array Value} (h : MemR X base W0 M W) (hb : X.ρ blk = some (n, d, z)) (ha : VRs X args args') (hc : yieldM M blk args = some (r, M')) :
    ToN P X base W0 (invoke (.fn (.yield n) cap) ⟨args'⟩) W r M' := by
  unfold yieldM at hc
  split at hc
  · rename_i st pending fn nt tm params assign body dfs hget
    cases hq : Nat.beq args.length params.length <;> rw [hq] at hc <;> simp only [cond_true, cond_false, reduceCtorEq, Option.some.injEq, Prod.mk.injEq] at hc
    obtain ⟨rfl, rfl⟩ := hc
    have hq : args.length = params.length := by simpa using hq
    obtain ⟨n', d', z', o, hρ', hW, hd, t, db, dd, dz, htm, hρd, hdd, ho⟩ := h.live _ _ hget
    rw [hb] at hρ'
    simp only [Option.some.injEq, Prod.mk.injEq] at hρ'
    obtain ⟨rfl, rfl, rfl⟩ := hρ'
    subst hd; subst ho
    refine ⟨X, W, Cx.Le.refl X, h, _, ?_, .round hb ha hW (by simpa using hq)⟩
    have hl : (⟨args'⟩ : Array Value).size = params.length := by simp [ha.length, hq]
    simp [invoke, Instr.yield, Instr.getLoop, getObj_loop hW, ha.length, hq, roundT, Result.andThen]
  · cases hc

/-! ### The builtins -/
def cplxM (b : Builtin) (args : List MV) : Option MV :=
  match b, args with
  | .real, [.c k re _] => some (.f k re)
  | .imag, [.c k _ im] => some (.f k im)
  | .complex, [.f k re, .f k' im] => bif eqFK k k' then some (.c k re im) else none
  | _, _ => none

def v1 (M : Mem) : Option MV → Option (Res × Mem)
  | some v => some (.val v, M)
  | none => none
def v2 : Option (MV × Mem) → Option (Res × Mem)
  | some (v, M) => some (.val v, M)
  | none => none
def u2 : Option Mem → Option (Res × Mem)
  | some M => some (.skip, M)
  | none => none

def builtinM (P : Program) (M : Mem) (b : Builtin) (at_ : Array TypeId) (args : List MV) : Option (Res × Mem) :=
  match b, args with
  | .len, [x] => v1 M (lenM P M at_ x)
  | .cap, [x] => v1 M (capM P at_ x)
  | .append, [s, x] => v2 (appendM P M at_ s x)
  | .copy, [s, x] => v2 (copyM P M at_ s x)
  | .max, l => v1 M (maxM true l)
  | .min, l => v1 M (maxM false l)
  | .recover, _ => some (.recov, M)
  | .unsafeSliceData, [x] => v1 M (sliceDataM x)
  | .unsafeString, [p, n] => v2 (unsafeStringM P M at_ p n)
  | b, l => v1 M (cplxM b l)

theorem val_to {s : Sem Value} {v : MV} {M' : Mem} (h : ToV P X base W0 s W v M') : ToN P X base W0 (do pure (.value (← s))) W (.val v) M' := by
  obtain ⟨X', W', v', hle, hr, hm, hv⟩ := h
  exact ⟨X', W', hle, hm, .value v', by simp [hr], .val hv⟩
theorem skip_to {s : Sem Unit} {M' : Mem} (h : ToU P X base W0 s W M') : ToN P X base W0 (do s; pure .skip) W .skip M' := by
  obtain ⟨X', W', hle, hr, hm⟩ := h
  exact ⟨X', W', hle, hm, .skip, by simp [hr], .skip⟩

theorem v1_inv {M M' : Mem} {o : Option MV} {r : Res} (h : v1 M o = some (r, M')) : ∃ v, o = some v ∧ r = .val v ∧ M' = M := by
  cases o <;> simp [v1] at h
  exact ⟨_, rfl, h.1.symm, h.2.symm⟩
theorem v2_inv {M' : Mem} {o : Option (MV × Mem)} {r : Res} (h : v2 o = some (r, M')) : ∃ v, o = some (v, M') ∧ r = .val v := by
  cases o with
  | none => simp [v2] at h
  | some q => obtain ⟨v, M⟩ := q; simp [v2] at h; obtain ⟨rfl, rfl⟩ := h; exact ⟨_, rfl, rfl⟩
theorem u2_inv {M' : Mem} {o : Option Mem} {r : Res} (h : u2 o = some (r, M')) : o = some M' ∧ r = .skip := by
  cases o with
  | none => simp [u2] at h
  | some q => simp [u2] at h; obtain ⟨rfl, rfl⟩ := h; exact ⟨rfl, rfl⟩

theorem builtin_to {b : Builtin} {at_ : Array TypeId} {ty : TypeId} {cs : Array Bool} {args : List MV} {args' : List Value} {r : Res} {M' : Mem} (h : MemR X base W0 M W) (ha : VRs X args args') (hc : builtinM P M b at_ args = some (r, M')) :
    ToN P X base W0 (builtin b at_ ty cs ⟨args'⟩) W r M' := by
  unfold builtinM at hc
  split at hc
  · cases ha with | cons hx t =>
    cases t
    obtain ⟨v, hv, rfl, rfl⟩ := v1_inv hc
    exact val_to (len_to h hx hv)
  · cases ha with | cons hx t =>
    cases t
    obtain ⟨v, hv, rfl, rfl⟩ := v1_inv hc
    exact val_to (cap_to h hx hv)
  · cases ha with | cons hx t =>
    cases t with | cons hy t =>
    cases t
    obtain ⟨v, hv, rfl⟩ := v2_inv hc
    exact val_to (append_to h hx hy hv)
  · cases ha with | cons hx t =>
    cases t with | cons hy t =>
    cases t
    obtain ⟨v, hv, rfl⟩ := v2_inv hc
    exact val_to (copy_to h hx hy hv)
  · obtain ⟨v, hv, rfl, rfl⟩ := v1_inv hc
    exact val_to (max_to h ha hv)
  · obtain ⟨v, hv, rfl, rfl⟩ := v1_inv hc
    exact val_to (min_to h ha hv)
  · simp only [Option.some.injEq, Prod.mk.injEq] at hc
    obtain ⟨rfl, rfl⟩ := hc
    exact ⟨X, W, Cx.Le.refl X, h, .recover, by simp [builtin], .recov⟩
  · cases ha with | cons hx t =>
    cases t
    obtain ⟨v, hv, rfl, rfl⟩ := v1_inv hc
    exact val_to (sliceData_to h hx hv)
  · cases ha with | cons hx t =>
    cases t with | cons hy t =>
    cases t
    obtain ⟨v, hv, rfl⟩ := v2_inv hc
    exact val_to (unsafeString_to h hx hy hv)
  · obtain ⟨v, hv, rfl, rfl⟩ := v1_inv hc
    unfold cplxM at hv
    split at hv
    · simp only [Option.some.injEq] at hv; subst hv
      cases ha with | cons hx t =>
      cases t; cases hx
      exact val_to (.pure h (s := Builtin.real_ at_ ty _) rfl (.f _ _))
    · simp only [Option.some.injEq] at hv; subst hv
      cases ha with | cons hx t =>
      cases t; cases hx
      exact val_to (.pure h (s := Builtin.imag_ at_ ty _) rfl (.f _ _))
    · cases hq : eqFK _ _ <;> rw [hq] at hv <;> simp only [cond_true, cond_false, reduceCtorEq, Option.some.injEq] at hv
      subst hv
      have := eqFK_eq hq; subst this
      cases ha with | cons hx t =>
      cases t with | cons hy t =>
      cases t; cases hx; cases hy
      refine val_to (.pure h (s := Builtin.complex_ at_ ty _) (v' := .complex _ _ _) ?_ (.c _ _ _))
      have : ∀ (k : FloatKind) (re im : _), Builtin.complex_ at_ ty #[.float k re, .float k im] = (if k = k then pure (.complex k re im) else stuck "complex: parts of different kinds") := fun _ _ _ => rfl
      refine Eq.trans (congrArg (fun s => Sem.run P s W) ((this _ _ _).trans (if_pos rfl))) rfl
    · cases hv

/-! ### One operation -/
def omapM (e : Operand → Option MV) : Option Operand → Option (Option MV)
  | none => some none
  | some x => match e x with
    | some v => some (some v)
    | none => none

/-- What the operands come to. -/
def EvOk (X : Cx) (e : Operand → Option MV) (ρ : Operand → Value) : Prop := ∀ x v, e x = some v → VR X v (ρ x)

theorem EvOk.of_ev {ng n : Nat} {tm : Tr MV} {a : Act} (hg : GR ng X) (ht : TmR X n tm a.tmps) : EvOk X (ev ng tm) a.eval := fun _ _ h => ev_sound hg ht h

theorem omap_sound {e : Operand → Option MV} {ρ : Operand → Value} (he : EvOk X e ρ) {x : Option Operand} {v : Option MV} (h : omapM e x = some v) : VO X v (x.map ρ) := by
  cases x with
  | none => simp only [omapM, Option.some.injEq] at h; subst h; exact .none
  | some x =>
    simp only [omapM] at h
    split at h
    · rename_i w hw
      simp only [Option.some.injEq] at h; subst h
      exact .some (he _ _ hw)
    · cases h

theorem mapE_sound {e : Operand → Option MV} {ρ : Operand → Value} (he : EvOk X e ρ) : ∀ {l : List Operand} {vs : List MV}, mapO e l = some vs → VRs X vs (l.map ρ)
  | [], vs, h => by simp only [mapO, Option.some.injEq] at h; subst h; exact .nil
  | x :: r, vs, h => by
    simp only [mapO] at h
    split at h
    · rename_i y ys hy hys
      simp only [Option.some.injEq] at h; subst h
      exact .cons (he _ _ hy) (mapE_sound he hys)
    · cases h

def partsE (e : Operand → Option MV) : List (Nat × Operand) → Option (List (Nat × MV))
  | [] => some []
  | (i, x) :: r => match e x, partsE e r with
    | some v, some l => some ((i, v) :: l)
    | _, _ => none

theorem partsE_sound {e : Operand → Option MV} {ρ : Operand → Value} (he : EvOk X e ρ) : ∀ {l : List (Nat × Operand)} {ps : List (Nat × MV)}, partsE e l = some ps → PRs X ps (l.map fun (i, x) => (i, ρ x))
  | [], ps, h => by simp only [partsE, Option.some.injEq] at h; subst h; exact .nil
  | (i, x) :: r, ps, h => by
    simp only [partsE] at h
    split at h
    · rename_i v l hv hl
      simp only [Option.some.injEq] at h; subst h
      exact .cons (he _ _ hv) (partsE_sound he hl)
    · cases h

def nilM : MV → Option Res
  | .p a b => some (.val (.p a b))
  | .ifc t v => some (.val (.ifc t v))
  | .fn (.func f) a b => some (.val (.fn (.func f) a b))
  | .m b => some (.val (.m b))
  | _ => none

def isAssign : Op → Option Operand
  | .move x | .assign x => some x
  | _ => none

def opM (P : Program) (V : Env) (e : Operand → Option MV) (M : Mem) (o : Oper) : Option (Res × Mem) :=
  match o.op with
  | .move x => v1 M (e x)
  | .assign x => v1 M (e x)
  | .pick c a b => match e c with
    | some (.b true) => v1 M (e a)
    | some (.b false) => v1 M (e b)
    | _ => none
  | .alloc t => match zeroOf P t with
    | some z => v2 (M.newVar t z)
    | none => none
  | .box t x => match e x with
    | some v => v2 (M.newVar t v)
    | none => none
  | .build t ps => match partsE e ps.toList with
    | some l => v1 M (buildM P t l)
    | none => none
  | .buildSlice t n ps => match partsE e ps.toList with
    | some l => v2 (buildSliceM P M t n l)
    | none => none
  | .load t x => match e x with
    | some v => v1 M (loadM P M t v)
    | none => none
  | .store t x y => match e x, e y with
    | some a, some v => u2 (storeM P M t a v)
    | _, _ => none
  | .nilCheck x => match e x with
    | some v => match nilM v with
      | some r => some (r, M)
      | none => none
    | none => none
  | .binOp op t x y _ => match e x, e y with
    | some a, some b => v1 M (binM P op t (isConst x) (isConst y) a b)
    | _, _ => none
  | .unOp op _ x => match e x with
    | some v => v1 M (unM op v)
    | none => none
  | .convert s d x => match e x with
    | some v => match convM P M s d v with
      | some q => v2 (some q)
      | none => v1 M (unsafeM P M s d v)
    | none => none
  | .makeInterface t x => match e x with
    | some v => v1 M (makeIfaceM P t v)
    | none => none
  | .makeFunc fn first captured => match mapO e first.toList, mapO e captured.toList with
    | some a, some b => some (.val (.fn fn a b), M)
    | _, _ => none
  | .makeMap t r => match omapM e r with
    | some v => v2 (makeMapM P M t v)
    | none => none
  | .makeSlice t l c => match e l, e c with
    | some a, some b => v2 (makeSliceM P M t a b)
    | _, _ => none
  | .slice t x lo hi mx => match e x, omapM e lo, omapM e hi, omapM e mx with
    | some v, some l, some h, some m => v1 M (sliceM P t v l h m)
    | _, _, _, _ => none
  | .fieldAddr s x f => match e x with
    | some v => v1 M (fieldAddrM P s f v)
    | none => none
  | .field t x f => match e x with
    | some v => v1 M (fieldM P t f v)
    | none => none
  | .indexAddr t x i => match e x, e i with
    | some a, some b => v1 M (indexAddrM P t a b)
    | _, _ => none
  | .index t x i => match e x, e i with
    | some a, some b => v1 M (indexM P t a b)
    | _, _ => none
  | .lookup t x i ok => match e x, e i with
    | some a, some b => v1 M (lookupM P M t a b ok)
    | _, _ => none
  | .mapUpdate t m k x => match e m, e k, e x with
    | some a, some b, some c => u2 (mapUpdateM P M t a b c)
    | _, _, _ => none
  | .insert t m k x => match e m, e k, e x with
    | some a, some b, some c => u2 (mapUpdateM P M t a b c)
    | _, _, _ => none
  | .range t x => match e x with
    | some v => v2 (rangeM P M t v)
    | none => none
  | .next it s => match e it with
    | some v => v2 (nextM M v s)
    | none => none
  | .typeAssert x _ t ok => match e x with
    | some v => v1 M (assertM P t ok v)
    | none => none
  | .extract x i => match e x with
    | some v => v1 M (extractM i v)
    | none => none
  | .panic x => match e x with
    | some (.ifc t v) => some (.pan (.ifc t v), M)
    | _ => none
  | .call c => match mapO e c.args.toList with
    | some args => match c.callee with
      | .builtin b => builtinM P M b c.argTypes args
      | .invoke x name => match e x with
        | some v => targetM P V M (.fn (.method name) []) (v :: args)
        | none => none
      | .value f => match e f with
        | some (.fn fn first cap) => targetM P V M (.fn fn cap) (first ++ args)
        | some (.yl blk) => yieldM M blk args
        | _ => none
    | none => none
  | .defer c => match mapO e c.args.toList with
    | some args => match c.callee with
      | .value f => match e f with
        | some (.fn fn first cap) => some (.dfr ⟨.fn fn cap, first ++ args⟩, M)
        | _ => none
      | _ => none
    | none => none
  | _ => none

set_option maxHeartbeats 1000000 in
theorem opM_sound {V : Env} (hV : ∀ f x, V.ext f = some x → ExtOk P f x) {e : Operand → Option MV} {a : Act} {o : Oper} {r : Res} {M' : Mem} (he : EvOk X e a.eval) (h : MemR X base W0 M W) (hc : opM P V e M o = some (r, M')) :
    ToN P X base W0 (execOp a.eval o) W r M' := by
  have E : ∀ {x : Operand} {v : MV}, e x = some v → VR X v (a.eval x) := fun hx => he _ _ hx
  have ES : ∀ {l : Array Operand} {vs : List MV}, mapO e l.toList = some vs → ∃ l', VRs X vs l' ∧ l.map a.eval = ⟨l'⟩ := fun {l vs} hx => ⟨_, mapE_sound he hx, by apply Array.ext'; simp⟩
  have calm : ∀ {s : Sem Value} {v : MV}, Calm P X s W v → ToV P X base W0 s W v M := fun ⟨v', hr, hv⟩ => .pure h hr hv
  unfold opM at hc
  split at hc
  · rename_i x ho
    obtain ⟨v, hv, rfl, rfl⟩ := v1_inv hc
    exact ⟨X, W, Cx.Le.refl X, h, _, by simp only [execOp, ho]; rfl, .val (E hv)⟩
  · rename_i x ho
    obtain ⟨v, hv, rfl, rfl⟩ := v1_inv hc
    exact ⟨X, W, Cx.Le.refl X, h, _, by simp only [execOp, ho]; rfl, .val (E hv)⟩
  · rename_i c x y ho
    split at hc
    · rename_i hcv
      obtain ⟨v, hv, rfl, rfl⟩ := v1_inv hc
      have hcc := E hcv
      obtain ⟨b, hb⟩ : ∃ b, b = a.eval c := ⟨_, rfl⟩
      rw [← hb] at hcc; cases hcc
      exact ⟨X, W, Cx.Le.refl X, h, .value (a.eval x), by simp [execOp, ho, ← hb, asBool], .val (E hv)⟩
    · rename_i hcv
      obtain ⟨v, hv, rfl, rfl⟩ := v1_inv hc
      have hcc := E hcv
      obtain ⟨b, hb⟩ : ∃ b, b = a.eval c := ⟨_, rfl⟩
      rw [← hb] at hcc; cases hcc
      exact ⟨X, W, Cx.Le.refl X, h, .value (a.eval y), by simp [execOp, ho, ← hb, asBool], .val (E hv)⟩
    · cases hc
  · rename_i t ho
    split at hc
    · rename_i z hz
      obtain ⟨v, hv, rfl⟩ := v2_inv hc
      obtain ⟨zv, zl, hzr, hzv, _, _⟩ := zero_run hz
      obtain ⟨X', W', v', hle, hr, hm, hvr⟩ := newVar_to (P := P) h (hzv X) hv
      refine ⟨X', W', hle, hm, .value v', ?_, .val hvr⟩
      simp only [Sem.run_bind] at hr
      simp only [execOp, ho, Instr.alloc, Sem.run_bind, hzr W, Result.andThen_ok]
      rw [hr]; rfl
    · cases hc
  · rename_i t x ho
    split at hc
    · rename_i u hu
      obtain ⟨v, hv, rfl⟩ := v2_inv hc
      have := val_to (newVar_to (P := P) h (E hu) hv)
      simpa only [execOp, ho, Instr.box] using this
    · cases hc
  · rename_i t ps ho
    split at hc
    · rename_i l hl
      obtain ⟨v, hv, rfl, rfl⟩ := v1_inv hc
      have hp := partsE_sound he hl
      have := val_to (build_to h hp hv)
      have eq1 : (ps.map fun (i, x) => (i, a.eval x)) = ⟨ps.toList.map fun (i, x) => (i, a.eval x)⟩ := by apply Array.ext'; simp
      simp only [execOp, ho]
      rw [eq1]
      exact this
    · cases hc
  · rename_i t k ps ho
    split at hc
    · rename_i l hl
      obtain ⟨v, hv, rfl⟩ := v2_inv hc
      have hp := partsE_sound he hl
      have := val_to (buildSlice_to h hp hv)
      have eq1 : (ps.map fun (i, x) => (i, a.eval x)) = ⟨ps.toList.map fun (i, x) => (i, a.eval x)⟩ := by apply Array.ext'; simp
      simp only [execOp, ho]
      rw [eq1]
      exact this
    · cases hc
  · rename_i t x ho
    split at hc
    · rename_i u hu
      obtain ⟨v, hv, rfl, rfl⟩ := v1_inv hc
      simpa only [execOp, ho] using val_to (load_to h (E hu) hv)
    · cases hc
  · rename_i t x y ho
    split at hc
    · rename_i u w hu hw
      obtain ⟨hv, rfl⟩ := u2_inv hc
      simpa only [execOp, ho] using skip_to (store_to h (E hu) (E hw) hv)
    · cases hc
  · rename_i x ho
    split at hc
    · rename_i u hu
      split at hc
      · rename_i r0 hr0
        simp only [Option.some.injEq, Prod.mk.injEq] at hc
        obtain ⟨rfl, rfl⟩ := hc
        have hx := E hu
        obtain ⟨b, hb⟩ : ∃ b, b = a.eval x := ⟨_, rfl⟩
        rw [← hb] at hx
        unfold nilM at hr0
        split at hr0 <;> simp only [Option.some.injEq, reduceCtorEq] at hr0 <;> subst hr0 <;> refine ⟨X, W, Cx.Le.refl X, h, .value b, ?_, .val hx⟩ <;> cases hx <;> simp [execOp, ho, ← hb]
      · cases hc
    · cases hc
  · rename_i op t x y yt ho
    split at hc
    · rename_i u w hu hw
      obtain ⟨v, hv, rfl, rfl⟩ := v1_inv hc
      simpa only [execOp, ho] using val_to (calm (binM_calm (E hu) (E hw) hv))
    · cases hc
  · rename_i op t x ho
    split at hc
    · rename_i u hu
      obtain ⟨v, hv, rfl, rfl⟩ := v1_inv hc
      simpa only [execOp, ho] using val_to (calm (unM_calm (E hu) hv))
    · cases hc
  · rename_i s d x ho
    split at hc
    · rename_i u hu
      split at hc
      · rename_i q hq
        obtain ⟨v, hv, rfl⟩ := v2_inv hc
        simp only [Option.some.injEq] at hv; subst hv
        simpa only [execOp, ho] using val_to (conv_to h (E hu) hq)
      · obtain ⟨v, hv, rfl, rfl⟩ := v1_inv hc
        simpa only [execOp, ho] using val_to (unsafe_to h (E hu) hv)
    · cases hc
  · rename_i t x ho
    split at hc
    · rename_i u hu
      obtain ⟨v, hv, rfl, rfl⟩ := v1_inv hc
      simpa only [execOp, ho] using val_to (makeIface_to h (E hu) hv)
    · cases hc
  · rename_i fn first captured ho
    split at hc
    · rename_i l1 l2 h1 h2
      simp only [Option.some.injEq, Prod.mk.injEq] at hc
      obtain ⟨rfl, rfl⟩ := hc
      obtain ⟨l1', hv1, e1⟩ := ES h1
      obtain ⟨l2', hv2, e2⟩ := ES h2
      exact ⟨X, W, Cx.Le.refl X, h, .value (.func fn ⟨l1'⟩ ⟨l2'⟩), by simp [execOp, ho, Instr.makeFunc, e1, e2], .val (.fn hv1 hv2)⟩
    · cases hc
  · rename_i t ro ho
    split at hc
    · rename_i u hu
      obtain ⟨v, hv, rfl⟩ := v2_inv hc
      simpa only [execOp, ho] using val_to (makeMap_to h (omap_sound he hu) hv)
    · cases hc
  · rename_i t x y ho
    split at hc
    · rename_i u w hu hw
      obtain ⟨v, hv, rfl⟩ := v2_inv hc
      simpa only [execOp, ho] using val_to (makeSlice_to h (E hu) (E hw) hv)
    · cases hc
  · rename_i t x lo hi mx ho
    split at hc
    · rename_i u l hh m hu hl hhh hm
      obtain ⟨v, hv, rfl, rfl⟩ := v1_inv hc
      simpa only [execOp, ho] using val_to (slice_to h (E hu) (omap_sound he hl) (omap_sound he hhh) (omap_sound he hm) hv)
    · cases hc
  · rename_i s x f ho
    split at hc
    · rename_i u hu
      obtain ⟨v, hv, rfl, rfl⟩ := v1_inv hc
      simpa only [execOp, ho] using val_to (fieldAddr_to h (E hu) hv)
    · cases hc
  · rename_i s x f ho
    split at hc
    · rename_i u hu
      obtain ⟨v, hv, rfl, rfl⟩ := v1_inv hc
      simpa only [execOp, ho] using val_to (field_to h (E hu) hv)
    · cases hc
  · rename_i t x y ho
    split at hc
    · rename_i u w hu hw
      obtain ⟨v, hv, rfl, rfl⟩ := v1_inv hc
      simpa only [execOp, ho] using val_to (indexAddr_to h (E hu) (E hw) hv)
    · cases hc
  · rename_i t x y ho
    split at hc
    · rename_i u w hu hw
      obtain ⟨v, hv, rfl, rfl⟩ := v1_inv hc
      simpa only [execOp, ho] using val_to (index_to h (E hu) (E hw) hv)
    · cases hc
  · rename_i t x y ok ho
    split at hc
    · rename_i u w hu hw
      obtain ⟨v, hv, rfl, rfl⟩ := v1_inv hc
      simpa only [execOp, ho] using val_to (lookup_to h (E hu) (E hw) hv)
    · cases hc
  · rename_i t m k x ho
    split at hc
    · rename_i u w z hu hw hz
      obtain ⟨hv, rfl⟩ := u2_inv hc
      simpa only [execOp, ho] using skip_to (mapUpdate_to h (E hu) (E hw) (E hz) hv)
    · cases hc
  · rename_i t m k x ho
    split at hc
    · rename_i u w z hu hw hz
      obtain ⟨hv, rfl⟩ := u2_inv hc
      simpa only [execOp, ho] using skip_to (mapUpdate_to h (E hu) (E hw) (E hz) hv)
    · cases hc
  · rename_i t x ho
    split at hc
    · rename_i u hu
      obtain ⟨v, hv, rfl⟩ := v2_inv hc
      simpa only [execOp, ho] using val_to (range_to h (E hu) hv)
    · cases hc
  · rename_i it s ho
    split at hc
    · rename_i u hu
      obtain ⟨v, hv, rfl⟩ := v2_inv hc
      simpa only [execOp, ho] using val_to (next_to h (E hu) hv)
    · cases hc
  · rename_i x xt t ok ho
    split at hc
    · rename_i u hu
      obtain ⟨v, hv, rfl, rfl⟩ := v1_inv hc
      simpa only [execOp, ho] using val_to (assert_to h (E hu) hv)
    · cases hc
  · rename_i x i ho
    split at hc
    · rename_i u hu
      obtain ⟨v, hv, rfl, rfl⟩ := v1_inv hc
      simpa only [execOp, ho] using val_to (extract_to h (E hu) hv)
    · cases hc
  · rename_i x ho
    split at hc
    · rename_i t v hu
      simp only [Option.some.injEq, Prod.mk.injEq] at hc
      obtain ⟨rfl, rfl⟩ := hc
      have hx := E hu
      obtain ⟨b, hb⟩ : ∃ b, b = a.eval x := ⟨_, rfl⟩
      rw [← hb] at hx
      refine ⟨X, W, Cx.Le.refl X, h, b, ?_, hx⟩
      cases hx
      simp [execOp, ho, ← hb, Instr.panic]
    · cases hc
  · rename_i c ho
    split at hc
    · rename_i args hargs
      obtain ⟨args', hva, ea⟩ := ES hargs
      split at hc
      · rename_i b hcal
        have := builtin_to (ty := o.type) (cs := c.args.map fun | .const _ => true | _ => false) h hva hc
        have eq1 : (execOp a.eval o) = builtin b c.argTypes o.type (c.args.map fun | .const _ => true | _ => false) ⟨args'⟩ := by
          simp only [execOp, ho, resolve, hcal, ea]; rfl
        rw [eq1]; exact this
      · rename_i x name hcal
        split at hc
        · rename_i u hu
          have := target_to hV h (.fn .nil) (.cons (E hu) hva) hc
          have eq1 : (execOp a.eval o) = invoke (.fn (.method name) ⟨[]⟩) ⟨a.eval x :: args'⟩ := by
            simp only [execOp, ho, resolve, hcal, ea]
            have : (#[a.eval x] ++ ⟨args'⟩ : Array Value) = ⟨a.eval x :: args'⟩ := by apply Array.ext'; simp
            rw [this]; rfl
          rw [eq1]; exact this
        · cases hc
      · rename_i f hcal
        split at hc
        · rename_i fn first cap hu
          have hx := E hu
          obtain ⟨b, hb⟩ : ∃ b, b = a.eval f := ⟨_, rfl⟩
          rw [← hb] at hx
          cases hx with | fn h1 h2 =>
          rename_i l1 l2
          have := target_to hV h (.fn h2) (h1.append hva) hc
          have eq1 : (execOp a.eval o) = invoke (.fn fn ⟨l2⟩) ⟨l1 ++ args'⟩ := by
            simp only [execOp, ho, resolve, hcal, ea, ← hb, Deferred.ofValue]
            have : (⟨l1⟩ ++ ⟨args'⟩ : Array Value) = ⟨l1 ++ args'⟩ := by apply Array.ext'; simp
            rw [this]; rfl
          rw [eq1]; exact this
        · rename_i blk hu
          have hx := E hu
          obtain ⟨b, hb⟩ : ∃ b, b = a.eval f := ⟨_, rfl⟩
          rw [← hb] at hx
          cases hx with | yl hρ =>
          rename_i n d z
          have := yield_to (P := P) (cap := ⟨[]⟩) h hρ hva hc
          have eq1 : (execOp a.eval o) = invoke (.fn (.yield n) ⟨[]⟩) ⟨args'⟩ := by
            simp only [execOp, ho, resolve, hcal, ea, ← hb, Deferred.ofValue]
            have : (⟨[]⟩ ++ ⟨args'⟩ : Array Value) = ⟨args'⟩ := by apply Array.ext'; simp
            rw [this]; rfl
          rw [eq1]; exact this
        · cases hc
    · cases hc
  · rename_i c ho
    split at hc
    · rename_i args hargs
      obtain ⟨args', hva, ea⟩ := ES hargs
      split at hc
      · rename_i f hcal
        split at hc
        · rename_i fn first cap hu
          simp only [Option.some.injEq, Prod.mk.injEq] at hc
          obtain ⟨rfl, rfl⟩ := hc
          have hx := E hu
          obtain ⟨b, hb⟩ : ∃ b, b = a.eval f := ⟨_, rfl⟩
          rw [← hb] at hx
          cases hx with | fn h1 h2 =>
          rename_i l1 l2
          refine ⟨X, W, Cx.Le.refl X, h, .defer { target := .fn fn ⟨l2⟩, args := ⟨l1 ++ args'⟩ }, ?_, .dfr (.mk (.fn h2) (h1.append hva))⟩
          simp only [execOp, ho, resolve, hcal, ea, ← hb, Deferred.ofValue]
          have : (⟨l1⟩ ++ ⟨args'⟩ : Array Value) = ⟨l1 ++ args'⟩ := by apply Array.ext'; simp
          rw [this]; rfl
        · cases hc
      · cases hc
    · cases hc
  · cases hc
end
end Go.Ev
