/- The evaluator: operations with all that they may come to; the way out of a frame. -/
import Derived.Test.YtghcpfgpmliiaaaGreatDoorEvX2
namespace Go.Ev

section
variable {P : Program} {V : Env} {base : Fr} {W0 : World}

/-- What an operation leaves. -/
def XOk (P : Program) (cx : Cxt) (X : Cx) (base : Fr) (W0 : World) (b : Frame) (a : Act) (cs : List Frame) (o : Oper) (ops : Array Oper) (rest : List Nat) (k : List Item) (m : Machine) : XR → Prop
  | .val v M ds u => ∃ v' X' W' ds' cs', X.Le X' ∧ MemR X' base W0 M W' ∧ VR X' v v' ∧ DRs X' ds ds' ∧ CsLe cx cs cs' ∧ CxOk cx X' b.kind b.roundOf u cs' ∧
      Steps P m (lone (b.atR ({ a with defers := ds' }.put o.dst v') (.inRegion ops rest :: k)) cs' W')
  | .pan c M ds u => ∃ c' X' W' ds' cs' todo, X.Le X' ∧ MemR X' base W0 M W' ∧ CR X' c c' ∧ DRs X' ds ds' ∧ CsLe cx cs cs' ∧ CxOk cx X' b.kind b.roundOf u cs' ∧
      Steps P m (lone { b.atR { a with defers := ds' } todo with mode := .panicking c' } cs' W')

theorem act_eta (a : Act) : Act.mk a.tmps a.defers = a := rfl

theorem v1_ne {M M' : Mem} {x : Option MV} {d : MD} : v1 M x ≠ some (.dfr d, M') := by cases x <;> simp [v1]
theorem v2_ne {M' : Mem} {x : Option (MV × Mem)} {d : MD} : v2 x ≠ some (.dfr d, M') := by cases x <;> simp [v2]
theorem u2_ne {M' : Mem} {x : Option Mem} {d : MD} : u2 x ≠ some (.dfr d, M') := by cases x <;> simp [u2]
theorem builtin_ne {M M' : Mem} {bi : Builtin} {t : Array TypeId} {l : List MV} {d : MD} : builtinM P M bi t l ≠ some (.dfr d, M') := by
  unfold builtinM
  split <;> first | exact v1_ne | exact v2_ne | simp
theorem callM_ne {M M' : Mem} {f : FuncId} {l : List MV} {d : MD} : callM P V M f l ≠ some (.dfr d, M') := by
  unfold callM
  intro h
  repeat' split at h
  all_goals simp at h
theorem target_ne {M M' : Mem} {t : MTg} {l : List MV} {d : MD} : targetM P V M t l ≠ some (.dfr d, M') := by
  unfold targetM
  intro h
  repeat' split at h
  all_goals first | exact callM_ne h | cases h
theorem yield_ne {M M' : Mem} {b : Nat} {l : List MV} {d : MD} : yieldM M b l ≠ some (.dfr d, M') := by
  unfold yieldM
  intro h
  split at h
  · rename_i st pending f nt tm params assign body dfs _
    cases hq : Nat.beq l.length params.length <;> rw [hq] at h <;> simp at h
  · cases h

theorem opM_dfr {e : Operand → Option MV} {M M' : Mem} {o : Oper} {d : MD} (h : opM P V e M o = some (.dfr d, M')) : ∃ c, o.op = .defer c := by
  cases ho : o.op <;> first | exact ⟨_, rfl⟩ | skip
  all_goals (exfalso; simp only [opM, ho] at h)
  all_goals (repeat' split at h)
  all_goals first | exact v1_ne h | exact v2_ne h | exact u2_ne h | exact builtin_ne h | exact target_ne h | exact yield_ne h | (simp at h; done) | (simp only [nilM] at *; repeat' split at *) <;> simp_all

theorem finish_atR' {b : Frame} {a : Act} {ops : Array Oper} {i : Nat} {rest : List Nat} {k : List Item} {o : Oper} (ho : ops[i]? = some o) (v : Value) :
    (b.atR a (.inRegion ops (i :: rest) :: k)).finish v = b.atR (a.put o.dst v) (.inRegion ops rest :: k) := by
  rw [Frame.finish_atR, ho]; rfl

theorem opH_dfr {e : Operand → Option MV} {M M' : Mem} {o : Oper} {d : MD} (h : opH o.op P V e M = some (.dfr d, M')) : ∃ c, o.op = .defer c := by
  rcases opH_inv h with hc | ⟨_, _, _, _, _, _, _, hr⟩
  · exact opM_dfr hc
  · cases hr

theorem opX_ok {cx : Cxt} {callx : CallX} (hV : ∀ f x, V.ext f = some x → ExtOk P f x) (hcall : CallXOk P V callx) {X : Cx} {W : World} {M : Mem} {nt : Nat} {tm : Tr MV} {ds : List MD} {u : MMode} {xr : XR} {a : Act} {ops : Array Oper} {i : Nat} {rest : List Nat} {k : List Item}
    {b : Frame} {cs : List Frame} {o : Oper} (ho : ops[i]? = some o)
    (hc : opX (wantM ops (tmGet tm) o) P V tm M o.op cx callx ds u = some xr) (hcx : CxOk cx X b.kind b.roundOf u cs) (hds : DRs X ds a.defers) (ht : TmR X nt tm a.tmps) (hg : GX P V base W0 X) (hm : MemR X base W0 M W) :
    XOk P cx X base W0 b a cs o ops rest k (lone (b.atR a (.inRegion ops (i :: rest) :: k)) cs W) xr := by
  have he : EvOk X (ev V.ng tm) a.eval := .of_ev hg.gr ht
  have hfin := fun v => finish_atR' (b := b) (a := a) (rest := rest) (k := k) ho v
  cases hw : wantM ops (tmGet tm) o with
  | none => rw [hw] at hc; cases hc
  | some w =>
    have hwant := want_sound (TmR.iff.1 ht) hw
    cases w with
    | false =>
      rw [hw] at hc
      simp only [opX, Option.some.injEq] at hc
      subst hc
      exact ⟨undef, X, W, a.defers, cs, Cx.Le.refl X, hm, .tup .nil, hds, hcx.le_refl, hcx, unwanted_steps ho hwant⟩
    | true =>
      rw [hw] at hc
      simp only [opX] at hc
      have hg' := stepGR_op (P := P) (b := b) (k := k) (cs := cs) (w := W) (rest := rest) ho hwant
      cases hop : opH o.op P V (ev V.ng tm) M with
      | none => rw [hop] at hc; cases hc
      | some q =>
        obtain ⟨r, M1⟩ := q
        rw [hop] at hc
        simp only [orX] at hc
        have hs := opH_sound hV hg.hook he hm hop
        obtain ⟨X', W', hle, hm', hnx⟩ := hs
        cases r with
        | val v =>
          simp only [resX, Option.some.injEq] at hc; subst hc
          obtain ⟨nx, hrun, hrr⟩ := hnx
          cases hrr with | val hv =>
          rw [Oper.semAt_eq _ _ _ (noDefer hop (fun d => by simp))] at hg'
          refine ⟨_, X', W', a.defers, cs, hle, hm', hv, hds.mono hle, hcx.le_refl, hcx.mono hle, .one (step_lone_go ?_)⟩
          rw [hg', act_eta, ← hfin]; simp [stepG.apply, hrun]
        | skip =>
          simp only [resX, Option.some.injEq] at hc; subst hc
          obtain ⟨nx, hrun, hrr⟩ := hnx
          cases hrr
          rw [Oper.semAt_eq _ _ _ (noDefer hop (fun d => by simp))] at hg'
          refine ⟨undef, X', W', a.defers, cs, hle, hm', .tup .nil, hds.mono hle, hcx.le_refl, hcx.mono hle, .one (step_lone_go ?_)⟩
          rw [hg', act_eta, ← hfin]; simp [stepG.apply, hrun]
        | pan v =>
          simp only [resX, Option.some.injEq] at hc; subst hc
          obtain ⟨v', hrun, hv⟩ := hnx
          rw [Oper.semAt_eq _ _ _ (noDefer hop (fun d => by simp))] at hg'
          refine ⟨[{ v := v', recovered := false }], X', W', a.defers, cs, .inRegion ops (i :: rest) :: k, hle, hm', .cons hv .nil, hds.mono hle, hcx.le_refl, hcx.mono hle, .one (step_lone_go ?_)⟩
          rw [hg', act_eta]; simp [stepG.apply, hrun, Frame.raise, Frame.atR]
        | enter t args =>
          simp only [resX] at hc
          obtain ⟨nx, hrun, hrr⟩ := hnx
          rw [Oper.semAt_eq _ _ _ (noDefer hop (fun d => by simp))] at hg'
          have henter : step P (lone (b.atR a (.inRegion ops (i :: rest) :: k)) cs W) = .next (lone (entered P nx) (b.atR a (.inRegion ops (i :: rest) :: k) :: cs) W') := by
            cases hrr
            · exact step_lone_go (by rw [hg']; simp [stepG.apply, hrun, Frame.atR, entered])
            · exact step_lone_go (by rw [hg']; simp [stepG.apply, hrun, Frame.atR, entered])
          cases hq : callx t args M1 with
          | none => rw [hq] at hc; cases hc
          | some q =>
            obtain ⟨o', M2⟩ := q
            rw [hq] at hc
            obtain ⟨e, X2, W2, hle2, hm2, hee, hsteps⟩ := hcall _ _ _ _ _ hq X' base W0 W' nx (hg.mono hle) hm' hrr (b.atR a (.inRegion ops (i :: rest) :: k)) cs
            have hle3 := hle.trans hle2
            cases hee with
            | ret hv =>
              simp only [outX, Option.some.injEq] at hc; subst hc
              simp only [backTo, hfin] at hsteps
              exact ⟨_, X2, W2, a.defers, cs, hle3, hm2, hv, hds.mono hle3, hcx.le_refl, hcx.mono hle3, .head henter hsteps⟩
            | pan hv =>
              simp only [outX, Option.some.injEq] at hc; subst hc
              exact ⟨_, X2, W2, a.defers, cs, .inRegion ops (i :: rest) :: k, hle3, hm2, hv, hds.mono hle3, hcx.le_refl, hcx.mono hle3, .head henter hsteps⟩
        | dfr d =>
          simp only [resX] at hc
          obtain ⟨nx, hrun, hrr⟩ := hnx
          cases hrr with | dfr hd =>
          rename_i d'
          have plain : b.roundOf = none → some (XR.val undefM M1 (d :: ds) u) = some xr → XOk P cx X base W0 b a cs o ops rest k (lone (b.atR a (.inRegion ops (i :: rest) :: k)) cs W) xr := by
            intro hro hxr
            simp only [Option.some.injEq] at hxr; subst hxr
            rw [hro, Oper.semAt_none] at hg'
            refine ⟨undef, X', W', d' :: a.defers, cs, hle, hm', .tup .nil, .cons hd (hds.mono hle), hcx.le_refl, hcx.mono hle, .one (step_lone_go ?_)⟩
            have := finish_atR' (b := b) (a := { a with defers := d' :: a.defers }) (rest := rest) (k := k) ho undef
            rw [hg', ← this]; simp [stepG.apply, hrun, Frame.atR]
          cases cx with
          | call => exact plain hcx.2 hc
          | dfr => exact plain hcx.2.1 hc
          | round blk =>
            have hcx0 := hcx
            obtain ⟨hk, ⟨n, z, hρ, hro⟩, hcs⟩ := hcx
            simp only [dfrX] at hc
            cases hdm : deferRoundM M1 blk d with
            | none => rw [hdm] at hc; cases hc
            | some M2 =>
              rw [hdm] at hc
              simp only [valX, Option.some.injEq] at hc; subst hc
              obtain ⟨W2, hrun2, hm2⟩ := deferRound_sound (P := P) hm' (hle.1 _ _ hρ) hd hdm
              -- which operation it is
              obtain ⟨cl, hcl, hres⟩ : ∃ cl, o.op = .defer cl ∧ (resolve a.eval cl o.type).run P W = .ok d' W' := by
                obtain ⟨cl, hcl⟩ := opH_dfr hop
                refine ⟨cl, hcl, ?_⟩
                simp only [execOp, hcl, Sem.run_bind] at hrun
                cases hr : (resolve a.eval cl o.type).run P W with
                | halt h w => rw [hr] at hrun; cases hrun
                | ok dd w =>
                  rw [hr] at hrun
                  simp only [Result.andThen_ok, Sem.run_pure, Result.ok.injEq, Next.defer.injEq] at hrun
                  rw [hrun.1, hrun.2]
              have hsem : ((o.semAt b.roundOf a.eval).run P W) = .ok .skip W2 := by
                simp only [Oper.semAt, hro, hcl, Sem.run_bind, hres, Result.andThen_ok, hrun2, Sem.run_pure]
              refine ⟨undef, X', W2, a.defers, cs, hle, hm2, .tup .nil, hds.mono hle, hcx0.le_refl, hcx0.mono hle, .one (step_lone_go ?_)⟩
              rw [hg', act_eta, ← hfin]; simp [stepG.apply, hsem]
        | recov =>
          simp only [resX] at hc
          obtain ⟨nx, hrun, hrr⟩ := hnx
          cases hrr
          rw [Oper.semAt_eq _ _ _ (noDefer hop (fun d => by simp))] at hg'
          have none_ : tryRecover (b.atR a (.inRegion ops (i :: rest) :: k)) cs = none → b.roundOf = none → some (XR.val .nif M1 ds u) = some xr → XOk P cx X base W0 b a cs o ops rest k (lone (b.atR a (.inRegion ops (i :: rest) :: k)) cs W) xr := by
            intro htr hro hxr
            simp only [Option.some.injEq] at hxr; subst hxr
            refine ⟨.nilIface, X', W', a.defers, cs, hle, hm', .nif, hds.mono hle, hcx.le_refl, hcx.mono hle, .one (step_lone_go ?_)⟩
            rw [hg', act_eta, ← hfin]
            simp only [stepG.apply, hrun, Sem.runT_eq]
            simp [Frame.atR, hro] at htr ⊢
            simp [htr]
          cases cx with
          | call => exact none_ (by simp [tryRecover, Frame.atR, hcx.1]) hcx.2 hc
          | round blk => cases hc
          | dfr =>
            have hcx0 := hcx
            obtain ⟨hk, hro, c, r, rfl, hmr⟩ := hcx
            simp only [recovX] at hc
            cases u with
            | ret =>
              have hmode : c.mode = .returning := by
                obtain ⟨md, hmd⟩ : ∃ md, md = c.mode := ⟨_, rfl⟩
                rw [← hmd] at hmr ⊢; cases hmr; rfl
              exact none_ (by simp [tryRecover, Frame.atR, hk, hmode]) hro hc
            | pan ch =>
              obtain ⟨md, hmd⟩ : ∃ md, md = c.mode := ⟨_, rfl⟩
              rw [← hmd] at hmr
              cases hmr with | pan hch =>
              cases hch with
              | nil => exact none_ (by simp [tryRecover, Frame.atR, hk, ← hmd]) hro hc
              | cons hv ht' =>
                rename_i v v' rec l l'
                cases rec with
                | true => exact none_ (by simp [tryRecover, Frame.atR, hk, ← hmd]) hro hc
                | false =>
                  simp only [Option.some.injEq] at hc; subst hc
                  refine ⟨v', X', W', a.defers, { c with mode := .panicking ({ v := v', recovered := true } :: l') } :: r, hle, hm', hv.mono hle, hds.mono hle, ⟨c, r, _, rfl, rfl⟩, ⟨hk, hro, _, r, rfl, .pan (.cons (hv.mono hle) (ht'.mono hle))⟩, .one (step_lone_go ?_)⟩
                  rw [hg', act_eta, ← hfin]
                  simp only [stepG.apply, hrun, Sem.runT_eq]
                  simp [Frame.atR, hro, tryRecover, hk, ← hmd, Frame.finish]

/-! ### A region in the order of its text -/
def ROk (P : Program) (cx : Cxt) (X : Cx) (base : Fr) (W0 : World) (b : Frame) (nt : Nat) (cs : List Frame) (k : List Item) (m : Machine) : RO → Prop
  | .go tm M ds u => ∃ X' W' a' cs', X.Le X' ∧ MemR X' base W0 M W' ∧ TmR X' nt tm a'.tmps ∧ DRs X' ds a'.defers ∧ CsLe cx cs cs' ∧ CxOk cx X' b.kind b.roundOf u cs' ∧ Steps P m (lone (b.atR a' k) cs' W')
  | .pan c tm M ds u => ∃ c' X' W' a' cs' todo, X.Le X' ∧ MemR X' base W0 M W' ∧ CR X' c c' ∧ TmR X' nt tm a'.tmps ∧ DRs X' ds a'.defers ∧ CsLe cx cs cs' ∧ CxOk cx X' b.kind b.roundOf u cs' ∧
      Steps P m (lone { b.atR a' todo with mode := .panicking c' } cs' W')

theorem ROk.head {cx : Cxt} {X X' : Cx} {b : Frame} {nt : Nat} {cs cs' : List Frame} {k : List Item} {m m' : Machine} {r : RO} (hs : Steps P m m') (hle : X.Le X') (hcs : CsLe cx cs cs') (h : ROk P cx X' base W0 b nt cs' k m' r) : ROk P cx X base W0 b nt cs k m r := by
  cases r with
  | go tm M ds u =>
    obtain ⟨X2, W2, a2, cs2, h1, h2, h3, h4, h5, h6, h7⟩ := h
    exact ⟨X2, W2, a2, cs2, hle.trans h1, h2, h3, h4, hcs.trans h5, h6, hs.trans h7⟩
  | pan c tm M ds u =>
    obtain ⟨c', X2, W2, a2, cs2, todo, h1, h2, h3, h4, h5, h6, h7, h8⟩ := h
    exact ⟨c', X2, W2, a2, cs2, todo, hle.trans h1, h2, h3, h4, h5, hcs.trans h6, h7, hs.trans h8⟩

theorem execX_ok {cx : Cxt} {callx : CallX} (hV : ∀ f x, V.ext f = some x → ExtOk P f x) (hcall : CallXOk P V callx) {nt : Nat} {ops : Array Oper} {k : List Item} {b : Frame} {r : RO} :
    ∀ (l : List Oper) (i : Nat) (tm : Tr MV) (M : Mem) (ds : List MD) (u : MMode) (X : Cx) (W : World) (a : Act) (cs : List Frame), (∀ j, l[j]? = ops[i + j]?) → execX P V cx callx ops nt l tm M ds u = some r →
    CxOk cx X b.kind b.roundOf u cs → DRs X ds a.defers → TmR X nt tm a.tmps → GX P V base W0 X → MemR X base W0 M W →
    ROk P cx X base W0 b nt cs k (lone (b.atR a (.inRegion ops ((List.range ops.size).drop i) :: k)) cs W) r
  | [], i, tm, M, ds, u, X, W, a, cs, hl, hc, hcx, hds, ht, hg, h => by
    simp only [execX, Option.some.injEq] at hc
    subst hc
    have h0 : ops.size ≤ i := by
      have := hl 0
      simp only [List.getElem?_nil, Nat.add_zero] at this
      exact Array.getElem?_eq_none_iff.1 this.symm
    have h1 : (List.range ops.size).drop i = [] := by rw [List.drop_eq_nil_iff]; simpa using h0
    rw [h1]
    exact ⟨X, W, a, cs, Cx.Le.refl X, h, ht, hds, hcx.le_refl, hcx, .one stepR_region_end⟩
  | o :: rr, i, tm, M, ds, u, X, W, a, cs, hl, hc, hcx, hds, ht, hg, h => by
    simp only [execX] at hc
    have ho : ops[i]? = some o := by have := hl 0; simpa using this.symm
    have hi : i < ops.size := (Array.getElem?_eq_some_iff.1 ho).1
    have h1 : (List.range ops.size).drop i = i :: (List.range ops.size).drop (i + 1) := by
      rw [List.drop_eq_getElem_cons (by simpa using hi)]; simp
    rw [h1]
    cases hx : opX (wantM ops (tmGet tm) o) P V tm M o.op cx callx ds u with
    | none => rw [hx] at hc; cases hc
    | some xr =>
      rw [hx] at hc
      have hop := opX_ok (b := b) (rest := (List.range ops.size).drop (i + 1)) (k := k) hV hcall ho hx hcx hds ht hg h
      cases xr with
      | val v M1 ds1 u1 =>
        simp only [thenX] at hc
        obtain ⟨v', X1, W1, ds', cs1, hle1, hm1, hv1, hds1, hcs1, hcx1, hs1⟩ := hop
        cases htp : tmPut nt tm o.dst v with
        | none => rw [htp] at hc; cases hc
        | some tm1 =>
          rw [htp] at hc
          simp only [putX] at hc
          have ht1 : TmR X1 nt tm1 (({ a with defers := ds' } : Act).put o.dst v').tmps := TmR.put (a := { a with defers := ds' }) (ht.mono hle1) hv1 htp
          have ih := execX_ok hV hcall (b := b) (k := k) rr (i + 1) tm1 M1 ds1 u1 X1 W1 (({ a with defers := ds' } : Act).put o.dst v') cs1 (fun j => by have := hl (j + 1); simpa [Nat.add_assoc, Nat.add_comm, Nat.add_left_comm] using this) hc hcx1
            (by rw [Act.put_defers']; exact hds1) ht1 (hg.mono hle1) hm1
          exact ih.head hs1 hle1 hcs1
      | pan c M1 ds1 u1 =>
        simp only [thenX, Option.some.injEq] at hc; subst hc
        obtain ⟨c', X1, W1, ds', cs1, todo, hle1, hm1, hv1, hds1, hcs1, hcx1, hs1⟩ := hop
        exact ⟨c', X1, W1, { a with defers := ds' }, cs1, todo, hle1, hm1, hv1, ht.mono hle1, hds1, hcs1, hcx1, hs1⟩

/-! ### The way out -/
theorem step_defer_value {fr : Frame} {cs : List Frame} {w w' : World} {d : Deferred} {ds : List Deferred} {fv : Fn} {cap : Array Value} {v : Value}
    (hm : fr.mode ≠ .run) (hd : fr.defers = d :: ds) (ht : d.target = .fn fv cap) (hi : (invoke d.target d.args).run P w = .ok (.value v) w') :
    step P (lone fr cs w) = .next (lone { fr with defers := ds } cs w') := by
  obtain ⟨t, a⟩ := d
  simp only at ht hi
  subst ht
  refine step_lone_go ?_
  cases hmode : fr.mode with
  | run => exact absurd hmode hm
  | returning => simp [stepG, unwind, callDeferred, hmode, hd, hi]
  | panicking chain => simp [stepG, unwind, callDeferred, hmode, hd, hi]

theorem step_defer_enter {fr : Frame} {cs : List Frame} {w w' : World} {d : Deferred} {ds : List Deferred} {fv : Fn} {cap : Array Value} {f : FuncId}
    {args : Array Value} (hm : fr.mode ≠ .run) (hd : fr.defers = d :: ds) (ht : d.target = .fn fv cap)
    (hi : (invoke d.target d.args).run P w = .ok (.enter f args) w') :
    step P (lone fr cs w) = .next (lone (Frame.enter P f args .deferred) ({ fr with defers := ds } :: cs) w') := by
  obtain ⟨t, a⟩ := d
  simp only at ht hi
  subst ht
  refine step_lone_go ?_
  cases hmode : fr.mode with
  | run => exact absurd hmode hm
  | returning => simp [stepG, unwind, callDeferred, hmode, hd, hi]
  | panicking chain => simp [stepG, unwind, callDeferred, hmode, hd, hi]

theorem step_defer_collected {fr : Frame} {cs : List Frame} {w w' : World} {n : Nat} {args : Array Value} {ds calls : List Deferred}
    (hm : fr.mode ≠ .run) (hd : fr.defers = { target := .collected n, args := args } :: ds) (hi : (Instr.takeDeferred n).run P w = .ok calls w') :
    step P (lone fr cs w) = .next (lone { fr with defers := calls ++ ds } cs w') := by
  refine step_lone_go ?_
  cases hmode : fr.mode with
  | run => exact absurd hmode hm
  | returning => simp [stepG, unwind, hmode, hd, hi]
  | panicking chain => simp [stepG, unwind, hmode, hd, hi]

theorem at_enterD {f : FuncId} {args : Array Value} {fn : Func} {c : Code} (hf : P.funcs[f]? = some fn) (hb : fn.body = some c) :
    Frame.enter P f args .deferred = ({ fn := f, tmps := #[], todo := [], defers := [], mode := .run, kind := .deferred } : Frame).atR { tmps := args ++ Array.replicate (fn.ntmps - args.size) undef, defers := [] } [.code c] := by
  simp [Frame.enter, Frame.atR, hf, hb]

theorem fin_ret {cx : Cxt} {X : Cx} {W : World} {fn : Func} {v : MV} {v' : Value} {fr : Frame} {cs : List Frame} {u : MMode} (hcx : CxOk cx X fr.kind fr.roundOf u cs) (hm : fr.mode = .returning) (hd : fr.defers = []) (hf : P.funcs[fr.fn]? = some fn)
    (hr : (results fn fr.tmps).run P W = .ok v' W) (hv : VR X v v') : ∃ m', Steps P (lone fr cs W) m' ∧ Fin P cx fr.fn cs (.ret v) u X W m' := by
  cases cx with
  | call => exact ⟨_, Steps.refl P _, .returned v', fr, .ret hv, rfl, rfl, hm, hd, hcx.1, fn, hf, hr⟩
  | round blk =>
    obtain ⟨hk, _, c, r, rfl⟩ := hcx
    exact ⟨_, .one (step_leave_returned ⟨hm, hd, hk, fn, hf, hr⟩), .returned v', c, r, rfl, .ret hv, rfl⟩
  | dfr =>
    obtain ⟨hk, _, c, r, rfl, hmr⟩ := hcx
    exact ⟨_, .one (step_going_returned hk ⟨hm, hd, fn, hf, hr⟩), c, r, _, rfl, hmr.settle, rfl⟩

theorem fin_pan {cx : Cxt} {X : Cx} {W : World} {fn : Func} {c : List (MV × Bool)} {c' : List PanicEntry} {fr : Frame} {cs : List Frame} {u : MMode} (hcx : CxOk cx X fr.kind fr.roundOf u cs) (hm : fr.mode = .panicking c') (hd : fr.defers = []) (hf : P.funcs[fr.fn]? = some fn)
    (hv : CR X c c') : ∃ m', Steps P (lone fr cs W) m' ∧ Fin P cx fr.fn cs (.pan c) u X W m' := by
  cases cx with
  | call => exact ⟨_, Steps.refl P _, .panicked c', fr, .pan hv, rfl, rfl, hm, hd, fn, hf⟩
  | round blk =>
    obtain ⟨hk, _, q, r, rfl⟩ := hcx
    exact ⟨_, .one (step_leave_panicked ⟨hm, hd, fn, hf⟩), .panicked c', q, r, rfl, .pan hv, rfl⟩
  | dfr =>
    obtain ⟨hk, _, q, r, rfl, hmr⟩ := hcx
    exact ⟨_, .one (step_going_panicked ⟨hm, hd, fn, hf⟩), q, r, _, rfl, hmr.raised hv, rfl⟩

theorem unwind_ok {R : RunXF} (hV : ∀ f x, V.ext f = some x → ExtOk P f x) (hR : RunXOk P V R) {cx : Cxt} {fn : Func} {nt : Nat} {tm : Tr MV} {u : MMode} :
    ∀ (n : Nat) (ds : List MD) (md : MMode) (M : Mem) (o : Out) (M' : Mem), unwindX P V R fn tm n ds md M = some (o, M') →
    ∀ (X : Cx) (W : World) (fr : Frame) (cs : List Frame), MRel X md fr.mode → DRs X ds fr.defers → TmR X nt tm fr.tmps → P.funcs[fr.fn]? = some fn → CxOk cx X fr.kind fr.roundOf u cs → GX P V base W0 X → MemR X base W0 M W →
    ∃ X' W' m', X.Le X' ∧ MemR X' base W0 M' W' ∧ Steps P (lone fr cs W) m' ∧ Fin P cx fr.fn cs o u X' W' m' := by
  intro n
  induction n with
  | zero => intro ds md M o M' h; cases h
  | succ n ih =>
    intro ds md M o M' h X W fr cs hmd hds ht hf hcx hg hm
    unfold unwindX at h
    split at h
    · -- nothing is deferred
      obtain ⟨dd, hdd⟩ : ∃ dd, dd = fr.defers := ⟨_, rfl⟩
      rw [← hdd] at hds
      cases hds
      obtain ⟨mm, hmm⟩ : ∃ mm, mm = fr.mode := ⟨_, rfl⟩
      rw [← hmm] at hmd
      cases hmd with
      | ret =>
        simp only at h
        split at h
        · rename_i v hv
          simp only [Option.some.injEq, Prod.mk.injEq] at h
          obtain ⟨rfl, rfl⟩ := h
          obtain ⟨v', hr, hvr⟩ := results_run hm ht hv
          obtain ⟨m', hs, hfin⟩ := fin_ret hcx hmm.symm hdd.symm hf hr hvr
          exact ⟨X, W, m', Cx.Le.refl X, hm, hs, hfin⟩
        · cases h
      | pan hc =>
        simp only [Option.some.injEq, Prod.mk.injEq] at h
        obtain ⟨rfl, rfl⟩ := h
        obtain ⟨m', hs, hfin⟩ := fin_pan (W := W) hcx hmm.symm hdd.symm hf hc
        exact ⟨X, W, m', Cx.Le.refl X, hm, hs, hfin⟩
    · -- what rounds have deferred
      rename_i blk args r
      obtain ⟨dd, hdd⟩ : ∃ dd, dd = fr.defers := ⟨_, rfl⟩
      rw [← hdd] at hds
      cases hds with | cons hd htl =>
      cases hd with | mk ht' ha =>
      cases ht' with | collected hρ =>
      rename_i r' l' n' d z
      split at h
      · rename_i l M1 htake
        obtain ⟨n2, z2, l2, W1, hρ2, hl2, hrun, hm1⟩ := take_sound (P := P) hm htake
        rw [hρ] at hρ2
        simp only [Option.some.injEq, Prod.mk.injEq] at hρ2
        obtain ⟨rfl, rfl, rfl⟩ := hρ2
        have hs := step_defer_collected (cs := cs) hmd.not_run hdd.symm hrun
        obtain ⟨X', W', m', h1, h2, h3, h4⟩ := ih _ _ _ _ _ h X W1 { fr with defers := l2 ++ r' } cs hmd (hl2.append htl) ht hf hcx hg hm1
        exact ⟨X', W', m', h1, h2, .head hs h3, h4⟩
      · cases h
    · -- a deferred call
      rename_i f cap args r
      obtain ⟨dd, hdd⟩ : ∃ dd, dd = fr.defers := ⟨_, rfl⟩
      rw [← hdd] at hds
      cases hds with | cons hd htl =>
      cases hd with | mk ht' ha =>
      cases ht' with | fn hcap =>
      rename_i r' args' cap'
      split at h
      · -- one without a Go body
        rename_i v M1 htg
        obtain ⟨X1, W1, hle1, hm1, nx, hrun, hrr⟩ := target_to hV hm (.fn hcap) ha htg
        cases hrr with | val hv =>
        have hs := step_defer_value (cs := cs) hmd.not_run hdd.symm rfl hrun
        obtain ⟨X', W', m', h1, h2, h3, h4⟩ := ih _ _ _ _ _ h X1 W1 { fr with defers := r' } cs (hmd.mono hle1) (htl.mono hle1) (ht.mono hle1) hf (hcx.mono hle1) (hg.mono hle1) hm1
        exact ⟨X', W', m', hle1.trans h1, h2, .head hs h3, h4⟩
      · rename_i g args2 M1 htg
        obtain ⟨X1, W1, hle1, hm1, nx, hrun, hrr⟩ := target_to hV hm (.fn hcap) ha htg
        cases hrr with | enter hargs =>
        rename_i args2'
        split at h
        · rename_i md' M2 hdc
          unfold dfrCall at hdc
          split at hdc
          · rename_i gfn c hfo
            split at hdc
            · rename_i tmg htmg
              split at hdc
              · rename_i o1 u1 M3 hR1
                simp only [Option.some.injEq, Prod.mk.injEq] at hdc
                obtain ⟨rfl, rfl⟩ := hdc
                obtain ⟨hinv, hfn, hbody⟩ := enter_run hfo ⟨args2'⟩ W1
                have htg' := enter_tm hargs htmg
                have hs := step_defer_enter (cs := cs) hmd.not_run hdd.symm rfl hrun
                obtain ⟨X2, W2, m2, hle2, hm2, hs2, hfin2⟩ := hR _ _ _ _ _ _ _ _ _ _ _ _ hR1 X1 base W0 W1
                    { fn := g, tmps := #[], todo := [], defers := [], mode := .run, kind := .deferred } { tmps := (⟨args2'⟩ : Array Value) ++ Array.replicate (gfn.ntmps - (⟨args2'⟩ : Array Value).size) undef, defers := [] } ({ fr with defers := r' } :: cs) hfn rfl
                    ⟨rfl, rfl, _, _, rfl, hmd.mono hle1⟩ .nil htg' (hg.mono hle1) hm1
                obtain ⟨c0, r0, md2, hceq, hmr, hm2eq⟩ := hfin2
                simp only [List.cons.injEq] at hceq
                obtain ⟨rfl, rfl⟩ := hceq
                have hle3 := hle1.trans hle2
                obtain ⟨X', W', m', h1, h2, h3, h4⟩ := ih _ _ _ _ _ h X2 W2 { { fr with defers := r' } with mode := md2 } cs hmr (htl.mono hle3) (ht.mono hle3) hf (hcx.mono hle3) (hg.mono hle3) hm2
                subst hm2eq
                rw [← at_enterD hfn hbody] at hs2
                exact ⟨X', W', m', hle3.trans h1, h2, .head hs (hs2.trans h3), h4⟩
              · cases hdc
            · cases hdc
          · cases hdc
        · cases h
      · cases h
end
end Go.Ev
