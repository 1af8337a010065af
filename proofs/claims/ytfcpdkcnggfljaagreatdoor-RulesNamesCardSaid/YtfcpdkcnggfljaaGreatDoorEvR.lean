/- The evaluator: whole functions. -/
import Derived.Test.YtfcpdkcnggfljaaGreatDoorEvQ6
namespace Go.Ev

def putAll (nt : Nat) : Nat → List MV → Tr MV → Option (Tr MV)
  | _, [], tm => some tm
  | i, v :: r, tm => match tmPut nt tm (some i) v with
    | some tm' => putAll nt (i + 1) r tm'
    | none => none

def resOne (P : Program) (M : Mem) (tm : Tr MV) : ResultVar → Option MV
  | .tmp t => some (tmGet tm t)
  | .cell a t => loadM P M t (tmGet tm a)

def resM (P : Program) (M : Mem) (fn : Func) (tm : Tr MV) : Option MV :=
  match mapO (resOne P M tm) fn.results.toList with
  | some [v] => some v
  | some l => some (.tup l)
  | none => none

def retM (P : Program) (M : Mem) (fn : Func) (tm : Tr MV) : Option (MV × Mem) :=
  match resM P M fn tm with
  | some v => some (v, M)
  | none => none

def Mem.seq (M : Mem) (k : Mem → Option (MV × Mem)) : Option (MV × Mem) :=
  match M with
  | ⟨h, nx, ro⟩ => match h with
    | .e => seqN nx fun nx => k ⟨.e, nx, ro⟩
    | .n l v r => seqN nx fun nx => k ⟨.n l v r, nx, ro⟩
theorem Mem.seq_eq (M : Mem) (k : Mem → Option (MV × Mem)) : M.seq k = k M := by
  obtain ⟨h, nx, ro⟩ := M
  cases h <;> simp [Mem.seq, seqN_eq]

def enterWith (P : Program) (R : Func → Nat → Tr MV → List Item → Mem → Option (MV × Mem)) : CallF := fun f args M =>
  match fnOf P f with
  | some (g, c) => match putAll (args.length + (g.ntmps - args.length)) 0 args .e with
    | some tm => R g (args.length + (g.ntmps - args.length)) tm [.code c] M
    | none => none
  | none => none

def run (P : Program) (V : Env) : Nat → Func → Nat → Tr MV → List Item → Mem → Option (MV × Mem)
  | 0, _, _, _, _, _ => none
  | n + 1, fn, nt, tm, todo, M => match todo with
    | [] => retM P M fn tm
    | .code c :: k => match c with
      | .ret => retM P M fn tm
      | .skip => run P V n fn nt tm k M
      | .label _ => run P V n fn nt tm k M
      | .seq a b => run P V n fn nt tm (.code a :: .code b :: k) M
      | .cond c x y => match ev V.ng tm c with
        | some (.b t) => run P V n fn nt tm (.code (bif t then x else y) :: k) M
        | _ => none
      | .block id c => run P V n fn nt tm (.code c :: .inBlock id :: k) M
      | .loop c => run P V n fn nt tm (.code c :: .inLoop c :: k) M
      | .exit id => match exitTo id k with
        | some k' => run P V n fn nt tm k' M
        | none => none
      | .goto l => match gotoIn l k with
        | some k' => run P V n fn nt tm k' M
        | none => none
      | .region _ ops draw => match (bif draw then drawM P V (enterWith P (run P V n)) ops nt tm M else execL P V (enterWith P (run P V n)) ops nt ops.toList tm M) with
        | some (tm', M') => M'.seq fun M' => run P V n fn nt tm' k M'
        | none => none
      | .scope c => run P V n fn nt tm (.code c :: .inScope c :: k) M
      | _ => none
    | .inBlock _ :: k => run P V n fn nt tm k M
    | .inScope _ :: k => run P V n fn nt tm k M
    | .inLoop c :: k => run P V n fn nt tm (.code c :: .inLoop c :: k) M
    | _ => none

section
variable {P : Program} {V : Env}

theorem putAll_sound {X : Cx} {nt : Nat} : ∀ (l : List MV) (l' : List Value) (i : Nat) (tm tm' : Tr MV) (t : Array Value), VRs X l l' → putAll nt i l tm = some tm' → TmR X nt tm t →
    ∀ t' : Array Value, t'.size = nt → (∀ j, t'.getD j undef = if i ≤ j ∧ j < i + l'.length then l'.getD (j - i) undef else t.getD j undef) → TmR X nt tm' t'
  | [], l', i, tm, tm', t, h, hp, ht, t', hs, hj => by
    cases h
    simp only [putAll, Option.some.injEq] at hp; subst hp
    rw [TmR.iff] at ht ⊢
    refine ⟨hs, fun j => ?_⟩
    rw [hj j, if_neg (by simp)]
    exact ht.2 j
  | v :: r, l', i, tm, tm', t, h, hp, ht, t', hs, hj => by
    cases h with | cons hv hr =>
    rename_i v' r'
    simp only [putAll] at hp
    split at hp
    · rename_i tm1 h1
      have ht1 : TmR X nt tm1 (t.setIfInBounds i v') := by
        have := TmR.put (a := { tmps := t, defers := [] }) ht hv h1
        exact this
      refine putAll_sound r r' (i + 1) tm1 tm' _ hr hp ht1 t' hs fun j => ?_
      rw [hj j]
      have hin : i < nt := by
        unfold tmPut at h1
        cases hq : (Nat.blt i nt && Nat.blt i 65535) <;> simp only [hq, cond_true, cond_false, reduceCtorEq] at h1
        simp only [Bool.and_eq_true, Nat.blt_eq] at hq; exact hq.1
      rcases Nat.lt_trichotomy j i with e | e | e
      · rw [if_neg (by omega), if_neg (by omega)]
        simp [Array.getD_eq_getD_getElem?, Array.getElem?_setIfInBounds_ne (show i ≠ j by omega)]
      · subst e
        rw [if_pos (by simp), if_neg (by omega)]
        simp [Array.getD_eq_getD_getElem?, ht.1, hin]
      · by_cases e2 : j < i + (r'.length + 1)
        · rw [if_pos (by simp; omega), if_pos (by omega)]
          have : j - i = (j - (i + 1)) + 1 := by omega
          rw [this]; rfl
        · rw [if_neg (by simp; omega), if_neg (by omega)]
          simp [Array.getD_eq_getD_getElem?, Array.getElem?_setIfInBounds_ne (show i ≠ j by omega)]
    · cases hp

theorem enter_tm {X : Cx} {args : List MV} {args' : List Value} {tm : Tr MV} {m : Nat} (h : VRs X args args') (hp : putAll (args.length + (m - args.length)) 0 args .e = some tm) :
    TmR X (args.length + (m - args.length)) tm ((⟨args'⟩ : Array Value) ++ Array.replicate (m - (⟨args'⟩ : Array Value).size) undef) := by
  have hl : args'.length = args.length := h.length
  refine putAll_sound args args' 0 .e tm (Array.replicate (args.length + (m - args.length)) undef) h hp ?_ _ ?_ ?_
  · rw [TmR.iff]
    refine ⟨by simp, fun i => ?_⟩
    have : (Array.replicate (args.length + (m - args.length)) undef).getD i undef = undef := by
      simp only [Array.getD_eq_getD_getElem?, Array.getElem?_replicate]
      split <;> rfl
    rw [this]
    simp only [tmGet, Tr.get_e]
    exact .tup .nil
  · simp [hl]
  · intro j
    have hr : ∀ n i : Nat, (Array.replicate n undef).getD i undef = undef := by
      intro n i
      simp only [Array.getD_eq_getD_getElem?, Array.getElem?_replicate]
      split <;> rfl
    rw [hr]
    by_cases e : j < args'.length
    · rw [if_pos (by omega)]
      simp [Array.getD_eq_getD_getElem?, Array.getElem?_append, e, List.getD_eq_getElem?_getD]
    · rw [if_neg (by omega)]
      simp only [Array.getD_eq_getD_getElem?, Array.getElem?_append, List.size_toArray, e, if_false, Array.getElem?_replicate]
      split <;> rfl

theorem resL_run {X : Cx} {W : World} {M : Mem} {tm : Tr MV} {q : ResultVar → Sem Value} (hq : ∀ x v, resOne P M tm x = some v → ∃ v', (q x).run P W = .ok v' W ∧ VR X v v') : ∀ {l : List ResultVar} {vs : List MV}, mapO (resOne P M tm) l = some vs →
    ∃ vs', (l.mapM q).run P W = .ok vs' W ∧ VRs X vs vs'
  | [], vs, hc => by simp only [mapO, Option.some.injEq] at hc; subst hc; exact ⟨[], rfl, .nil⟩
  | x :: r, vs, hc => by
    simp only [mapO] at hc
    split at hc
    · rename_i y ys hy hys
      simp only [Option.some.injEq] at hc; subst hc
      obtain ⟨y', h1, h2⟩ := hq x y hy
      obtain ⟨ys', h3, h4⟩ := resL_run hq hys
      refine ⟨y' :: ys', ?_, .cons h2 h4⟩
      simp only [List.mapM_cons, Sem.run_bind, h1, Result.andThen_ok, h3, Sem.run_pure]
    · cases hc

theorem resA_run {X : Cx} {W : World} {M : Mem} {tm : Tr MV} {q : ResultVar → Sem Value} (hq : ∀ x v, resOne P M tm x = some v → ∃ v', (q x).run P W = .ok v' W ∧ VR X v v') {a : Array ResultVar} {vs : List MV} (hv : mapO (resOne P M tm) a.toList = some vs) :
    ∃ vs', (do let vs ← a.mapM q; pure (if h : vs.size = 1 then vs[0] else .tuple vs) : Sem Value).run P W = .ok (if h : (⟨vs'⟩ : Array Value).size = 1 then (⟨vs'⟩ : Array Value)[0] else .tuple ⟨vs'⟩) W ∧ VRs X vs vs' := by
  obtain ⟨vs', h1, h2⟩ := resL_run (P := P) hq hv
  refine ⟨vs', ?_, h2⟩
  rw [Array.mapM_eq_mapM_toList]
  simp only [Sem.run_bind, map_eq_pure_bind, Sem.run_pure, h1, Result.andThen_ok]

theorem results_run {X : Cx} {base : Nat} {W0 W : World} {M : Mem} {nt : Nat} {tm : Tr MV} {t : Array Value} {fn : Func} {v : MV} (h : MemR X base W0 M W) (ht : TmR X nt tm t) (hc : resM P M fn tm = some v) :
    ∃ v', (results fn t).run P W = .ok v' W ∧ VR X v v' := by
  unfold resM at hc
  have key : ∀ {vs : List MV}, mapO (resOne P M tm) fn.results.toList = some vs → ∃ vs', (results fn t).run P W = .ok (if h : (⟨vs'⟩ : Array Value).size = 1 then (⟨vs'⟩ : Array Value)[0] else .tuple ⟨vs'⟩) W ∧ VRs X vs vs' := by
    intro vs hv
    refine resA_run (fun x v hx => ?_) hv
    cases x with
    | tmp i =>
      simp only [resOne, Option.some.injEq] at hx; subst hx
      exact ⟨_, rfl, ht.getD i⟩
    | cell a ty =>
      simp only [resOne] at hx
      obtain ⟨ad, v', he, hrun, hr⟩ := loadVar_run h (ht.getD a) hx
      refine ⟨v', ?_, hr⟩
      simp [he, asAddr, hrun]
  split at hc
  · rename_i u hu
    simp only [Option.some.injEq] at hc; subst hc
    obtain ⟨vs', h1, h2⟩ := key hu
    cases h2 with | cons h3 t =>
    cases t
    exact ⟨_, h1, h3⟩
  · rename_i l hne hl
    simp only [Option.some.injEq] at hc; subst hc
    obtain ⟨vs', h1, h2⟩ := key hl
    refine ⟨.tuple ⟨vs'⟩, ?_, .tup h2⟩
    rw [h1, dif_neg]
    intro he
    have h3 := h2.length
    simp only [List.size_toArray] at he
    rw [he] at h3
    match l, h3 with
    | [u], _ => exact hne u rfl
  · cases hc

theorem at_enter {f : FuncId} {args : Array Value} {fn : Func} {c : Code} (hf : P.funcs[f]? = some fn) (hb : fn.body = some c) :
    Frame.enter P f args .normal = ({ fn := f, tmps := #[], todo := [], defers := [], mode := .run, kind := .normal } : Frame).atR { tmps := args ++ Array.replicate (fn.ntmps - args.size) undef, defers := [] } [.code c] := by
  simp [Frame.enter, Frame.atR, hf, hb]

/-- What a frame's run is to do. -/
def RunOk (P : Program) (V : Env) (R : Func → Nat → Tr MV → List Item → Mem → Option (MV × Mem)) : Prop :=
  ∀ fn nt tm todo M v M', R fn nt tm todo M = some (v, M') → ∀ (X : Cx) (base : Nat) (W0 W : World) (b : Frame) (a : Act) (cs : List Frame), P.funcs[b.fn]? = some fn → b.kind = .normal → b.roundOf = none → a.defers = [] →
    TmR X nt tm a.tmps → GR V.ng X → MemR X base W0 M W →
    ∃ v' X' W' fr, X.Le X' ∧ MemR X' base W0 M' W' ∧ VR X' v v' ∧ Steps P (lone (b.atR a todo) cs W) (lone fr cs W') ∧ fr.fn = b.fn ∧ fr.leaving P W' (.returned v')

theorem enterWith_ok {R : Func → Nat → Tr MV → List Item → Mem → Option (MV × Mem)} (h : RunOk P V R) : CallOk P V (enterWith P R) := by
  intro f args M v M' hc X base W0 W args' hg hm ha cs
  unfold enterWith at hc
  split at hc
  · rename_i g c hf
    split at hc
    · rename_i tm htm
      obtain ⟨_, hfn, hbody⟩ := enter_run hf ⟨args'⟩ W
      have ht := enter_tm ha htm
      obtain ⟨v', X', W', fr, hle, hm', hv, hs, hfr, hlv⟩ := h _ _ _ _ _ _ _ hc X base W0 W { fn := f, tmps := #[], todo := [], defers := [], mode := .run, kind := .normal } { tmps := (⟨args'⟩ : Array Value) ++ Array.replicate (g.ntmps - (⟨args'⟩ : Array Value).size) undef, defers := [] } cs hfn rfl rfl rfl ht hg hm
      rw [at_enter hfn hbody]
      exact ⟨.returned v', W', fr, ⟨v', X', rfl, hle, hm', hv⟩, hs, hfr, hlv⟩
    · cases hc
  · cases hc

theorem ret_ok {X : Cx} {base : Nat} {W0 W : World} {M M' : Mem} {nt : Nat} {tm : Tr MV} {fn : Func} {v : MV} {b : Frame} {a : Act} {cs : List Frame} {todo : List Item} (hf : P.funcs[b.fn]? = some fn) (hk : b.kind = .normal) (hd : a.defers = []) (ht : TmR X nt tm a.tmps) (hm : MemR X base W0 M W)
    (hc : retM P M fn tm = some (v, M')) (hstep : step P (lone (b.atR a todo) cs W) = .next (lone { b.atR a todo with mode := .returning } cs W)) :
    ∃ v' X' W' fr, X.Le X' ∧ MemR X' base W0 M' W' ∧ VR X' v v' ∧ Steps P (lone (b.atR a todo) cs W) (lone fr cs W') ∧ fr.fn = b.fn ∧ fr.leaving P W' (.returned v') := by
  unfold retM at hc
  split at hc
  · rename_i u hu
    simp only [Option.some.injEq, Prod.mk.injEq] at hc
    obtain ⟨rfl, rfl⟩ := hc
    obtain ⟨v', h1, h2⟩ := results_run hm ht hu
    exact ⟨v', X, W, _, Cx.Le.refl X, hm, h2, .one hstep, rfl, rfl, hd, hk, fn, hf, h1⟩
  · cases hc

theorem run_ok (hmix : P.follows .mixedOrders = true) (hV : ∀ f x, V.ext f = some x → ExtOk P f x) : ∀ n, RunOk P V (run P V n) := by
  intro n
  induction n with
  | zero => intro fn nt tm todo M v M' h; cases h
  | succ n ih =>
    intro fn nt tm todo M v M' h X base W0 W b a cs hf hk hr hd ht hg hm
    have go : ∀ {todo' : List Item}, run P V n fn nt tm todo' M = some (v, M') → step P (lone (b.atR a todo) cs W) = .next (lone (b.atR a todo') cs W) →
        ∃ v' X' W' fr, X.Le X' ∧ MemR X' base W0 M' W' ∧ VR X' v v' ∧ Steps P (lone (b.atR a todo) cs W) (lone fr cs W') ∧ fr.fn = b.fn ∧ fr.leaving P W' (.returned v') := by
      intro todo' h' hs
      obtain ⟨v', X', W', fr, h1, h2, h3, h4, h5, h6⟩ := ih _ _ _ _ _ _ _ h' X base W0 W b a cs hf hk hr hd ht hg hm
      exact ⟨v', X', W', fr, h1, h2, h3, .head hs h4, h5, h6⟩
    unfold run at h
    split at h
    · exact ret_ok hf hk hd ht hm h (stepR_end hr)
    · rename_i c k
      split at h
      · exact ret_ok hf hk hd ht hm h (stepR_ret hr)
      · exact go h stepR_skip
      · exact go h stepR_label
      · exact go h stepR_seq
      · split at h
        · rename_i t hev
          have hv := ev_sound hg ht hev
          refine go h (stepR_cond (t := t) ?_ |>.trans ?_)
          · generalize a.eval _ = u at hv
            cases hv; rfl
          · cases t <;> rfl
        · cases h
      · exact go h stepR_block
      · exact go h stepR_loop
      · split at h
        · rename_i k' hk'
          exact go h (stepR_exit hk')
        · cases h
      · split at h
        · rename_i k' hk'
          exact go h (stepR_goto hk')
        · cases h
      · rename_i id ops draw
        split at h
        · rename_i tm1 M1 hc1
          rw [Mem.seq_eq] at h
          have hcall := enterWith_ok ih
          have hreg : ∃ X' W' a', X.Le X' ∧ MemR X' base W0 M1 W' ∧ TmR X' nt tm1 a'.tmps ∧ a'.defers = a.defers ∧ Steps P (lone (b.atR a (.code (.region id ops draw) :: k)) cs W) (lone (b.atR a' k) cs W') := by
            cases draw with
            | true => exact draw_steps hmix hV hcall hc1 ht hg hm id
            | false =>
              obtain ⟨X', W', a', h1, h2, h3, h4, h5⟩ := execL_steps hV hcall (b := b) (cs := cs) (k := k) (ops := ops) ops.toList 0 tm M X W a (fun j => by simp) hc1 ht hg hm
              exact ⟨X', W', a', h1, h2, h3, h4, .head stepR_region h5⟩
          obtain ⟨X1, W1, a1, hle1, hm1, ht1, hd1, hs1⟩ := hreg
          obtain ⟨v', X', W', fr, h1, h2, h3, h4, h5, h6⟩ := ih _ _ _ _ _ _ _ h X1 base W0 W1 b a1 cs hf hk hr (hd1.trans hd) ht1 (hg.mono hle1) hm1
          exact ⟨v', X', W', fr, hle1.trans h1, h2, h3, hs1.trans h4, h5, h6⟩
        · cases h
      · rename_i c
        exact go h (step_lone_go (by simp [stepG, stepG.exec, Frame.atR]))
      · cases h
    · exact go h stepR_inBlock
    · exact go h (step_lone_go (by simp [stepG, stepG.exec, Frame.atR]))
    · exact go h stepR_inLoop
    · cases h

/-- A call. -/
def callM' (P : Program) (V : Env) (n : Nat) : CallF := enterWith P (run P V n)
theorem callM'_ok (hmix : P.follows .mixedOrders = true) (hV : ∀ f x, V.ext f = some x → ExtOk P f x) (n : Nat) : CallOk P V (callM' P V n) := enterWith_ok (run_ok hmix hV n)
end
end Go.Ev
