/- The evaluator: whole functions. -/
import Derived.Test.YtghcpfgpmliiaaaGreatDoorEvQ8
namespace Go.Ev

def putAll (nt : Nat) : Nat → List MV → Tr MV → Option (Tr MV)
  | _, [], tm => some tm
  | i, v :: r, tm => match tmPut nt tm (some i) v with
    | some tm' => putAll nt (i + 1) r tm'
    | none => none

def resOne (P : Program) (M : Mem) (tm : Tr MV) : ResultVar → Option MV
  | .tmp t => some (tmGet tm t)
  | .cell a t => loadM P M t (tmGet tm a)

def resM (P : Program) (M : Mem) (fn : Func) (tm : Tr MV) : Option MV :=
  match mapO (resOne P M tm) fn.results.toList with
  | some [v] => some v
  | some l => some (.tup l)
  | none => none

def retM (P : Program) (M : Mem) (fn : Func) (tm : Tr MV) : Option (MV × Mem) :=
  match resM P M fn tm with
  | some v => some (v, M)
  | none => none

def Mem.seq (M : Mem) (k : Mem → Option (MV × Mem)) : Option (MV × Mem) :=
  match M with
  | ⟨h, nx, ro⟩ => match h with
    | .e => seqN nx fun nx => k ⟨.e, nx, ro⟩
    | .n l v r => seqN nx fun nx => k ⟨.n l v r, nx, ro⟩
theorem Mem.seq_eq (M : Mem) (k : Mem → Option (MV × Mem)) : M.seq k = k M := by
  obtain ⟨h, nx, ro⟩ := M
  cases h <;> simp [Mem.seq, seqN_eq]

section
variable {P : Program} {V : Env}

theorem putAll_sound {X : Cx} {nt : Nat} : ∀ (l : List MV) (l' : List Value) (i : Nat) (tm tm' : Tr MV) (t : Array Value), VRs X l l' → putAll nt i l tm = some tm' → TmR X nt tm t →
    ∀ t' : Array Value, t'.size = nt → (∀ j, t'.getD j undef = if i ≤ j ∧ j < i + l'.length then l'.getD (j - i) undef else t.getD j undef) → TmR X nt tm' t'
  | [], l', i, tm, tm', t, h, hp, ht, t', hs, hj => by
    cases h
    simp only [putAll, Option.some.injEq] at hp; subst hp
    rw [TmR.iff] at ht ⊢
    refine ⟨hs, fun j => ?_⟩
    rw [hj j, if_neg (by simp)]
    exact ht.2 j
  | v :: r, l', i, tm, tm', t, h, hp, ht, t', hs, hj => by
    cases h with | cons hv hr =>
    rename_i v' r'
    simp only [putAll] at hp
    split at hp
    · rename_i tm1 h1
      have ht1 : TmR X nt tm1 (t.setIfInBounds i v') := by
        have := TmR.put (a := { tmps := t, defers := [] }) ht hv h1
        exact this
      refine putAll_sound r r' (i + 1) tm1 tm' _ hr hp ht1 t' hs fun j => ?_
      rw [hj j]
      have hin : i < nt := by
        unfold tmPut at h1
        cases hq : (Nat.blt i nt && Nat.blt i 65535) <;> simp only [hq, cond_true, cond_false, reduceCtorEq] at h1
        simp only [Bool.and_eq_true, Nat.blt_eq] at hq; exact hq.1
      rcases Nat.lt_trichotomy j i with e | e | e
      · rw [if_neg (by omega), if_neg (by omega)]
        simp [Array.getD_eq_getD_getElem?, Array.getElem?_setIfInBounds_ne (show i ≠ j by omega)]
      · subst e
        rw [if_pos (by simp), if_neg (by omega)]
        simp [Array.getD_eq_getD_getElem?, ht.1, hin]
      · by_cases e2 : j < i + (r'.length + 1)
        · rw [if_pos (by simp; omega), if_pos (by omega)]
          have : j - i = (j - (i + 1)) + 1 := by omega
          rw [this]; rfl
        · rw [if_neg (by simp; omega), if_neg (by omega)]
          simp [Array.getD_eq_getD_getElem?, Array.getElem?_setIfInBounds_ne (show i ≠ j by omega)]
    · cases hp

theorem enter_tm {X : Cx} {args : List MV} {args' : List Value} {tm : Tr MV} {m : Nat} (h : VRs X args args') (hp : putAll (args.length + (m - args.length)) 0 args .e = some tm) :
    TmR X (args.length + (m - args.length)) tm ((⟨args'⟩ : Array Value) ++ Array.replicate (m - (⟨args'⟩ : Array Value).size) undef) := by
  have hl : args'.length = args.length := h.length
  refine putAll_sound args args' 0 .e tm (Array.replicate (args.length + (m - args.length)) undef) h hp ?_ _ ?_ ?_
  · rw [TmR.iff]
    refine ⟨by simp, fun i => ?_⟩
    have : (Array.replicate (args.length + (m - args.length)) undef).getD i undef = undef := by
      simp only [Array.getD_eq_getD_getElem?, Array.getElem?_replicate]
      split <;> rfl
    rw [this]
    simp only [tmGet, Tr.get_e]
    exact .tup .nil
  · simp [hl]
  · intro j
    have hr : ∀ n i : Nat, (Array.replicate n undef).getD i undef = undef := by
      intro n i
      simp only [Array.getD_eq_getD_getElem?, Array.getElem?_replicate]
      split <;> rfl
    rw [hr]
    by_cases e : j < args'.length
    · rw [if_pos (by omega)]
      simp [Array.getD_eq_getD_getElem?, Array.getElem?_append, e, List.getD_eq_getElem?_getD]
    · rw [if_neg (by omega)]
      simp only [Array.getD_eq_getD_getElem?, Array.getElem?_append, List.size_toArray, e, if_false, Array.getElem?_replicate]
      split <;> rfl

theorem resL_run {X : Cx} {W : World} {M : Mem} {tm : Tr MV} {q : ResultVar → Sem Value} (hq : ∀ x v, resOne P M tm x = some v → ∃ v', (q x).run P W = .ok v' W ∧ VR X v v') : ∀ {l : List ResultVar} {vs : List MV}, mapO (resOne P M tm) l = some vs →
    ∃ vs', (l.mapM q).run P W = .ok vs' W ∧ VRs X vs vs'
  | [], vs, hc => by simp only [mapO, Option.some.injEq] at hc; subst hc; exact ⟨[], rfl, .nil⟩
  | x :: r, vs, hc => by
    simp only [mapO] at hc
    split at hc
    · rename_i y ys hy hys
      simp only [Option.some.injEq] at hc; subst hc
      obtain ⟨y', h1, h2⟩ := hq x y hy
      obtain ⟨ys', h3, h4⟩ := resL_run hq hys
      refine ⟨y' :: ys', ?_, .cons h2 h4⟩
      simp only [List.mapM_cons, Sem.run_bind, h1, Result.andThen_ok, h3, Sem.run_pure]
    · cases hc

theorem resA_run {X : Cx} {W : World} {M : Mem} {tm : Tr MV} {q : ResultVar → Sem Value} (hq : ∀ x v, resOne P M tm x = some v → ∃ v', (q x).run P W = .ok v' W ∧ VR X v v') {a : Array ResultVar} {vs : List MV} (hv : mapO (resOne P M tm) a.toList = some vs) :
    ∃ vs', (do let vs ← a.mapM q; pure (if h : vs.size = 1 then vs[0] else .tuple vs) : Sem Value).run P W = .ok (if h : (⟨vs'⟩ : Array Value).size = 1 then (⟨vs'⟩ : Array Value)[0] else .tuple ⟨vs'⟩) W ∧ VRs X vs vs' := by
  obtain ⟨vs', h1, h2⟩ := resL_run (P := P) hq hv
  refine ⟨vs', ?_, h2⟩
  rw [Array.mapM_eq_mapM_toList]
  simp only [Sem.run_bind, map_eq_pure_bind, Sem.run_pure, h1, Result.andThen_ok]

theorem results_run {X : Cx} {base : Fr} {W0 W : World} {M : Mem} {nt : Nat} {tm : Tr MV} {t : Array Value} {fn : Func} {v : MV} (h : MemR X base W0 M W) (ht : TmR X nt tm t) (hc : resM P M fn tm = some v) :
    ∃ v', (results fn t).run P W = .ok v' W ∧ VR X v v' := by
  unfold resM at hc
  have key : ∀ {vs : List MV}, mapO (resOne P M tm) fn.results.toList = some vs → ∃ vs', (results fn t).run P W = .ok (if h : (⟨vs'⟩ : Array Value).size = 1 then (⟨vs'⟩ : Array Value)[0] else .tuple ⟨vs'⟩) W ∧ VRs X vs vs' := by
    intro vs hv
    refine resA_run (fun x v hx => ?_) hv
    cases x with
    | tmp i =>
      simp only [resOne, Option.some.injEq] at hx; subst hx
      exact ⟨_, rfl, ht.getD i⟩
    | cell a ty =>
      simp only [resOne] at hx
      obtain ⟨ad, v', he, hrun, hr⟩ := loadVar_run h (ht.getD a) hx
      refine ⟨v', ?_, hr⟩
      simp [he, asAddr, hrun]
  split at hc
  · rename_i u hu
    simp only [Option.some.injEq] at hc; subst hc
    obtain ⟨vs', h1, h2⟩ := key hu
    cases h2 with | cons h3 t =>
    cases t
    exact ⟨_, h1, h3⟩
  · rename_i l hne hl
    simp only [Option.some.injEq] at hc; subst hc
    obtain ⟨vs', h1, h2⟩ := key hl
    refine ⟨.tuple ⟨vs'⟩, ?_, .tup h2⟩
    rw [h1, dif_neg]
    intro he
    have h3 := h2.length
    simp only [List.size_toArray] at he
    rw [he] at h3
    match l, h3 with
    | [u], _ => exact hne u rfl
  · cases hc

theorem at_enter {f : FuncId} {args : Array Value} {fn : Func} {c : Code} (hf : P.funcs[f]? = some fn) (hb : fn.body = some c) :
    Frame.enter P f args .normal = ({ fn := f, tmps := #[], todo := [], defers := [], mode := .run, kind := .normal } : Frame).atR { tmps := args ++ Array.replicate (fn.ntmps - args.size) undef, defers := [] } [.code c] := by
  simp [Frame.enter, Frame.atR, hf, hb]

end
end Go.Ev
