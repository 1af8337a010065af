/- The evaluator: operations of a region, each in its turn. -/
import Derived.Test.YtghcpfgpmliiaaaGreatDoorEvO2
import Derived.CallsIn
namespace Go.Ev

abbrev CallF := Tg → List MV → Mem → Option (MV × Mem)

def opVal (P : Program) (V : Env) (callf : CallF) (e : Operand → Option MV) (M : Mem) (o : Oper) : Option (MV × Mem) :=
  match opH o.op P V e M with
  | some (.val v, M') => some (v, M')
  | some (.skip, M') => some (undefM, M')
  | some (.enter t args, M') => callf t args M'
  | _ => none

def wantM (ops : Array Oper) (F : Nat → MV) (o : Oper) : Option Bool :=
  match o.guard with
  | none => some true
  | some (j, want) => match ops[j]? with
    | some oj => match oj.dst with
      | some d => match F d with
        | .b x => some (bif want then x else !x)
        | .tup [] => some false
        | _ => none
      | none => some false
    | none => some false

def tmPut (n : Nat) (tm : Tr MV) (d : Option Tmp) (v : MV) : Option (Tr MV) :=
  match d with
  | none => some tm
  | some d => bif Nat.blt d n && Nat.blt d 65535 then seqV v fun v => some (Tr.set 16 tm d (some v)) else none

section
variable {P : Program} {X : Cx} {base : Fr} {W0 W : World} {M : Mem}

theorem tmPut_get {n : Nat} {tm tm' : Tr MV} {d : Option Tmp} {v : MV} (h : tmPut n tm d v = some tm') (i : Nat) : tmGet tm' i = if d = some i then v else tmGet tm i := by
  unfold tmPut at h
  split at h
  · simp only [Option.some.injEq] at h; subst h; simp
  · rename_i d
    cases hq : (Nat.blt d n && Nat.blt d 65535) <;> rw [hq] at h <;> simp only [cond_true, cond_false, reduceCtorEq, seqV_eq, Option.some.injEq] at h
    subst h
    simp only [Bool.and_eq_true, Nat.blt_eq] at hq
    unfold tmGet
    rw [Tr.get_set _ _ _ _ _ (by have := hq.2; omega)]
    by_cases e : i = d
    · subst e; simp
    · rw [if_neg e, if_neg (by simpa using fun e' : d = i => e e'.symm)]

theorem TmR.iff {n : Nat} {tm : Tr MV} {t : Array Value} : TmR X n tm t ↔ t.size = n ∧ ∀ i, VR X (tmGet tm i) (t.getD i undef) := by
  have : ∀ i, tmGet tm i = (tm.get i).getD (.tup []) := by
    intro i; unfold tmGet undefM; cases tm.get i <;> rfl
  unfold TmR
  simp only [this]

theorem TmR.put {n : Nat} {tm tm' : Tr MV} {a : Act} {d : Option Tmp} {v : MV} {v' : Value} (h : TmR X n tm a.tmps) (hv : VR X v v') (hp : tmPut n tm d v = some tm') : TmR X n tm' (a.put d v').tmps := by
  rw [TmR.iff] at h ⊢
  cases d with
  | none => simp only [tmPut, Option.some.injEq] at hp; subst hp; exact h
  | some d =>
    refine ⟨by simp [Act.put, h.1], fun i => ?_⟩
    rw [tmPut_get hp]
    have hdn : d < n := by
      unfold tmPut at hp
      cases hq : (Nat.blt d n && Nat.blt d 65535) <;> simp only [hq, cond_true, cond_false, reduceCtorEq] at hp
      simp only [Bool.and_eq_true, Nat.blt_eq] at hq; exact hq.1
    have e1 : (a.put (some d) v').tmps = a.tmps.setIfInBounds d v' := rfl
    rw [e1]
    by_cases e : d = i
    · subst e
      simp [Array.getD_eq_getD_getElem?, h.1, hdn, hv]
    · rw [if_neg (by simpa using e)]
      have := h.2 i
      simpa [Array.getD_eq_getD_getElem?, Array.getElem?_setIfInBounds_ne e] using this

/-- Temporaries as a function. -/
def TF (X : Cx) (n : Nat) (F : Nat → MV) (t : Array Value) : Prop := t.size = n ∧ ∀ i, VR X (F i) (t.getD i undef)

theorem want_sound {n : Nat} {F : Nat → MV} {a : Act} (h : TF X n F a.tmps) {ops : Array Oper} {o : Oper} {r : Bool} (hw : wantM ops F o = some r) : Region.wanted o (yielded ops a.tmps) = r := by
  unfold wantM at hw
  unfold Region.wanted
  split at hw
  · rename_i hg; simp only [Option.some.injEq] at hw; subst hw; simp [hg]
  · rename_i j want hg
    simp only [hg]
    split at hw
    · rename_i oj hj
      split at hw
      · rename_i d hd
        have hv := h.2 d
        have hy : yielded ops a.tmps j = match a.tmps[d]? with | some (.bool b) => some b | _ => none := by
          unfold yielded
          simp only [hj, hd, Option.bind_some]
          cases a.tmps[d]? with
          | none => rfl
          | some u => cases u <;> rfl
        have hget : a.tmps.getD d undef = (a.tmps[d]?).getD undef := by simp [Array.getD_eq_getD_getElem?]
        rw [hget] at hv
        split at hw
        · rename_i x hx
          simp only [Option.some.injEq] at hw
          rw [hx] at hv
          cases hq : a.tmps[d]? with
          | none => rw [hq] at hv; simp only [Option.getD_none, undef] at hv; cases hv
          | some u =>
            rw [hq] at hv hy
            simp only [Option.getD_some] at hv
            cases hv
            rw [hy, ← hw]
            cases want <;> cases x <;> rfl
        · rename_i hx
          simp only [Option.some.injEq] at hw
          rw [hx] at hv
          cases hq : a.tmps[d]? with
          | none => rw [hq] at hy; rw [hy, ← hw]; rfl
          | some u =>
            rw [hq] at hv hy
            simp only [Option.getD_some] at hv
            cases hv
            rw [hy, ← hw]; rfl
        · cases hw
      · rename_i hd
        simp only [Option.some.injEq] at hw; subst hw
        have hy : yielded ops a.tmps j = none := by unfold yielded; simp [hj, hd]
        rw [hy]; rfl
    · rename_i hj
      simp only [Option.some.injEq] at hw; subst hw
      have hy : yielded ops a.tmps j = none := by unfold yielded; simp [hj]
      rw [hy]; rfl

/-- The frame that is entered. -/
def entered (P : Program) : Next → Frame
  | .enter f args => Frame.enter P f args .normal
  | .round l f t a b => Frame.round l f t a b .normal
  | _ => default

/-- What is known beside the memory: the variables of the package level, what is said of operations and calls. -/
def ChookOk (P : Program) (V : Env) (base : Fr) (W0 : World) (X : Cx) : Prop :=
  ∀ Y, X.Le Y → ∀ f args M o M', V.chook f args M = some (o, M') → ∀ K W args', MemR Y ⟨base.own, K⟩ W0 M W → VRs Y args args' →
    ∀ (c : Frame) (cs : List Frame), ∃ X' w', Y.Le X' ∧ MemR X' ⟨base.own, K⟩ W0 M' w' ∧ (match o with
      | .ret v => ∃ v', VR X' v v' ∧ Steps P (lone (Frame.enter P f ⟨args'⟩ .normal) (c :: cs) W) (lone (c.finish v') cs w')
      | .pan _ => False)

structure GX (P : Program) (V : Env) (base : Fr) (W0 : World) (X : Cx) : Prop where
  gr : GR V.ng X
  hook : HookOk P V base W0 X
  chook : ChookOk P V base W0 X

theorem GX.mono {P : Program} {V : Env} {base : Fr} {W0 : World} {X Y : Cx} (hl : X.Le Y) (h : GX P V base W0 X) : GX P V base W0 Y :=
  ⟨h.gr.mono hl, fun Z hz => h.hook Z (hl.trans hz), fun Z hz => h.chook Z (hl.trans hz)⟩

/-- Whichever blocks are kept. -/
theorem GX.keeps {P : Program} {V : Env} {base : Fr} {W0 : World} {X : Cx} (h : GX P V base W0 X) (K : Nat → Option Obj) : GX P V ⟨base.own, K⟩ W0 X := ⟨h.gr, h.hook, h.chook⟩

/-- Nothing is said of operations and calls. -/
theorem GX.plain {P : Program} {V : Env} {base : Fr} {W0 : World} {X : Cx} (h : GR V.ng X) (h1 : V.hook = fun _ _ => none) (h2 : V.chook = fun _ _ _ => none) : GX P V base W0 X :=
  ⟨h, fun Y _ ρ o vs r hr => (by rw [h1] at hr; cases hr), fun Y _ f args M o M' hr => (by rw [h2] at hr; cases hr)⟩

/-- What a call is to do, whoever calls. -/
def CallOk (P : Program) (V : Env) (callf : CallF) : Prop :=
  ∀ t args M v M', callf t args M = some (v, M') → ∀ X base W0 W nx, GX P V base W0 X → MemR X base W0 M W → RR X W (.enter t args) nx →
    ∀ (c : Frame) (cs : List Frame), ∃ v' X' w', X.Le X' ∧ MemR X' base W0 M' w' ∧ VR X' v v' ∧ Steps P (lone (entered P nx) (c :: cs) W) (lone (c.finish v') cs w')

theorem Next.val_inv {r : Res} {nx : Next} {v : MV} (h : RR X W r nx) (e : r = .val v) : ∃ v', nx = .value v' ∧ VR X v v' := by
  subst e; cases h with | val h => exact ⟨_, rfl, h⟩

theorem noDefer {V : Env} {e : Operand → Option MV} {o : Oper} {r : Res} {M' : Mem} (h : opH o.op P V e M = some (r, M')) (hr : ∀ d, r ≠ .dfr d) (c : Call) : o.op ≠ .defer c := by
  intro hc
  rcases opH_inv h with h | ⟨_, hd, _⟩
  case inr => rw [hc] at hd; cases hd
  unfold opM at h
  simp only [hc] at h
  split at h
  · split at h
    · split at h
      · simp only [Option.some.injEq, Prod.mk.injEq] at h
        exact hr _ h.1.symm
      · cases h
    · cases h
  · cases h

/-- One operation, calls and all. -/
theorem opVal_steps {V : Env} (hV : ∀ f x, V.ext f = some x → ExtOk P f x) {callf : CallF} (hcall : CallOk P V callf) {e : Operand → Option MV} {o : Oper} {v : MV} {M' : Mem}
    (hc : opVal P V callf e M o = some (v, M')) {a : Act} (he : EvOk X e a.eval) (hg : GX P V base W0 X) (h : MemR X base W0 M W)
    {ops : Array Oper} {i : Nat} {rest : List Nat} {k : List Item} {b : Frame} {cs : List Frame} (ho : ops[i]? = some o) (hw : Region.wanted o (yielded ops a.tmps) = true) :
    ∃ v' X' W', X.Le X' ∧ MemR X' base W0 M' W' ∧ VR X' v v' ∧ Steps P (lone (b.atR a (.inRegion ops (i :: rest) :: k)) cs W) (lone (b.atR (a.put o.dst v') (.inRegion ops rest :: k)) cs W') := by
  have hfin : ∀ v, (b.atR a (.inRegion ops (i :: rest) :: k)).finish v = b.atR (a.put o.dst v) (.inRegion ops rest :: k) := by
    intro v; rw [Frame.finish_atR, ho]; rfl
  have hg' := stepGR_op (P := P) (b := b) (k := k) (cs := cs) (w := W) (rest := rest) ho hw
  unfold opVal at hc
  split at hc
  · rename_i u M1 hop
    simp only [Option.some.injEq, Prod.mk.injEq] at hc
    obtain ⟨rfl, rfl⟩ := hc
    rw [Oper.semAt_eq _ _ _ (noDefer hop (fun d => by simp))] at hg'
    obtain ⟨X', W', hle, hm, nx, hrun, hrr⟩ := opH_sound hV hg.hook he h hop
    cases hrr with | val hv =>
    refine ⟨_, X', W', hle, hm, hv, .one (step_lone_go ?_)⟩
    rw [hg', ← hfin]; simp [stepG.apply, hrun]
  · rename_i M1 hop
    simp only [Option.some.injEq, Prod.mk.injEq] at hc
    obtain ⟨rfl, rfl⟩ := hc
    rw [Oper.semAt_eq _ _ _ (noDefer hop (fun d => by simp))] at hg'
    obtain ⟨X', W', hle, hm, nx, hrun, hrr⟩ := opH_sound hV hg.hook he h hop
    cases hrr
    refine ⟨undef, X', W', hle, hm, .tup .nil, .one (step_lone_go ?_)⟩
    rw [hg', ← hfin]; simp [stepG.apply, hrun]
  · rename_i f args M1 hop
    rw [Oper.semAt_eq _ _ _ (noDefer hop (fun d => by simp))] at hg'
    obtain ⟨X1, W1, hle1, hm1, nx, hrun, hrr⟩ := opH_sound hV hg.hook he h hop
    obtain ⟨v', X2, w2, hle2, hm2, hv2, hsteps⟩ := hcall _ _ _ _ _ hc X1 base W0 W1 nx (hg.mono hle1) hm1 hrr (b.atR a (.inRegion ops (i :: rest) :: k)) cs
    rw [hfin] at hsteps
    refine ⟨v', X2, w2, hle1.trans hle2, hm2, hv2, ?_⟩
    have henter : step P (lone (b.atR a (.inRegion ops (i :: rest) :: k)) cs W) = .next (lone (entered P nx) (b.atR a (.inRegion ops (i :: rest) :: k) :: cs) W1) := by
      cases hrr
      · exact step_lone_go (by rw [hg']; simp [stepG.apply, hrun, Frame.atR, entered])
      · exact step_lone_go (by rw [hg']; simp [stepG.apply, hrun, Frame.atR, entered])
    exact .head henter hsteps
  · cases hc

theorem unwanted_steps {o : Oper} {a : Act} {ops : Array Oper} {i : Nat} {rest : List Nat} {k : List Item} {b : Frame} {cs : List Frame} (ho : ops[i]? = some o) (hw : Region.wanted o (yielded ops a.tmps) = false) :
    Steps P (lone (b.atR a (.inRegion ops (i :: rest) :: k)) cs W) (lone (b.atR (a.put o.dst undef) (.inRegion ops rest :: k)) cs W) := by
  have hs := stepR_op_skip (P := P) (b := b) (a := a) (k := k) (cs := cs) (w := W) (ops := ops) (i := i) (rest := rest) (by simp [ho, hw])
  simp only [ho, Option.bind_some] at hs
  exact .one hs

/-- One operation, wanted or not: what it leaves, and the memory. -/
def opRun (P : Program) (V : Env) (callf : CallF) (ops : Array Oper) (F : Nat → MV) (e : Operand → Option MV) (M : Mem) (o : Oper) : Option (MV × Mem) :=
  match wantM ops F o with
  | some true => opVal P V callf e M o
  | some false => some (undefM, M)
  | none => none

theorem opRun_steps {V : Env} (hV : ∀ f x, V.ext f = some x → ExtOk P f x) {callf : CallF} (hcall : CallOk P V callf) {F : Nat → MV} {e : Operand → Option MV} {n : Nat} {o : Oper} {v : MV} {M' : Mem} {ops : Array Oper}
    (hc : opRun P V callf ops F e M o = some (v, M')) {a : Act} (ht : TF X n F a.tmps) (he : EvOk X e a.eval) (hg : GX P V base W0 X) (h : MemR X base W0 M W)
    {i : Nat} {rest : List Nat} {k : List Item} {b : Frame} {cs : List Frame} (ho : ops[i]? = some o) :
    ∃ v' X' W', X.Le X' ∧ MemR X' base W0 M' W' ∧ VR X' v v' ∧ Steps P (lone (b.atR a (.inRegion ops (i :: rest) :: k)) cs W) (lone (b.atR (a.put o.dst v') (.inRegion ops rest :: k)) cs W') := by
  unfold opRun at hc
  split at hc
  · rename_i hw
    exact opVal_steps hV hcall hc he hg h ho (want_sound ht hw)
  · rename_i hw
    simp only [Option.some.injEq, Prod.mk.injEq] at hc
    obtain ⟨rfl, rfl⟩ := hc
    exact ⟨undef, X, W, Cx.Le.refl X, h, .tup .nil, unwanted_steps ho (want_sound ht hw)⟩
  · cases hc

theorem Act.put_defers' (a : Act) (d : Option Tmp) (v : Value) : (a.put d v).defers = a.defers := by cases d <;> rfl

/-- A region in the order of its text. -/
def execL (P : Program) (V : Env) (callf : CallF) (ops : Array Oper) (n : Nat) : List Oper → Tr MV → Mem → Option (Tr MV × Mem)
  | [], tm, M => some (tm, M)
  | o :: r, tm, M => match opRun P V callf ops (tmGet tm) (ev V.ng tm) M o with
    | some (v, M') => match tmPut n tm o.dst v with
      | some tm' => execL P V callf ops n r tm' M'
      | none => none
    | none => none

theorem execL_steps {V : Env} (hV : ∀ f x, V.ext f = some x → ExtOk P f x) {callf : CallF} (hcall : CallOk P V callf) {n : Nat} {ops : Array Oper} {k : List Item} {b : Frame} {cs : List Frame} {base : Fr} {W0 : World} {M' : Mem} {tm' : Tr MV} :
    ∀ (l : List Oper) (i : Nat) (tm : Tr MV) (M : Mem) (X : Cx) (W : World) (a : Act), (∀ j, l[j]? = ops[i + j]?) → execL P V callf ops n l tm M = some (tm', M') → TmR X n tm a.tmps → GX P V base W0 X → MemR X base W0 M W →
    ∃ X' W' a', X.Le X' ∧ MemR X' base W0 M' W' ∧ TmR X' n tm' a'.tmps ∧ a'.defers = a.defers ∧ Steps P (lone (b.atR a (.inRegion ops ((List.range ops.size).drop i) :: k)) cs W) (lone (b.atR a' k) cs W')
  | [], i, tm, M, X, W, a, hl, hc, ht, hg, h => by
    simp only [execL, Option.some.injEq, Prod.mk.injEq] at hc
    obtain ⟨rfl, rfl⟩ := hc
    have h0 : ops.size ≤ i := by
      have := hl 0
      simp only [List.getElem?_nil, Nat.add_zero] at this
      exact Array.getElem?_eq_none_iff.1 this.symm
    have h1 : (List.range ops.size).drop i = [] := by rw [List.drop_eq_nil_iff]; simpa using h0
    rw [h1]
    exact ⟨X, W, a, Cx.Le.refl X, h, ht, rfl, .one stepR_region_end⟩
  | o :: r, i, tm, M, X, W, a, hl, hc, ht, hg, h => by
    simp only [execL] at hc
    have ho : ops[i]? = some o := by have := hl 0; simpa using this.symm
    have hi : i < ops.size := (Array.getElem?_eq_some_iff.1 ho).1
    have h1 : (List.range ops.size).drop i = i :: (List.range ops.size).drop (i + 1) := by
      rw [List.drop_eq_getElem_cons (by simpa using hi)]; simp
    split at hc
    · rename_i v M1 hop
      split at hc
      · rename_i tm1 htm
        rw [h1]
        obtain ⟨v', X1, W1, hle1, hm1, hv1, hs1⟩ := opRun_steps (b := b) (cs := cs) (k := k) (rest := (List.range ops.size).drop (i + 1)) hV hcall hop (TmR.iff.1 ht) (.of_ev hg.gr ht) hg h ho
        obtain ⟨X2, W2, a2, hle2, hm2, ht2, hd2, hs2⟩ := execL_steps hV hcall (b := b) (cs := cs) (k := k) r (i + 1) tm1 M1 X1 W1 (a.put o.dst v') (fun j => by have := hl (j + 1); simpa [Nat.add_assoc, Nat.add_comm, Nat.add_left_comm] using this) hc ((ht.mono hle1).put hv1 htm) (hg.mono hle1) hm1
        exact ⟨X2, W2, a2, hle1.trans hle2, hm2, ht2, hd2.trans (Act.put_defers' _ _ _), hs1.trans hs2⟩
      · cases hc
    · cases hc
end
end Go.Ev
