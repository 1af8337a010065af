/- The evaluator: whole functions, with deferred calls, panics, and ranges over functions: what they come to in the model. -/
import Derived.Test.YtghcpfgpmliiaaaGreatDoorEvX3
import Derived.RangeFuncIn
namespace Go.Ev

section
variable {P : Program} {V : Env} {base : Fr} {W0 : World}

/-- Where a run is to come out, from a machine on. -/
def Goal (P : Program) (cx : Cxt) (X : Cx) (base : Fr) (W0 : World) (fid : FuncId) (cs : List Frame) (m : Machine) (o : Out) (u : MMode) (M' : Mem) : Prop :=
  ∃ X' W' m', X.Le X' ∧ MemR X' base W0 M' W' ∧ Steps P m m' ∧ Fin P cx fid cs o u X' W' m'

theorem Goal.head {cx : Cxt} {X X' : Cx} {fid : FuncId} {cs cs' : List Frame} {m m' : Machine} {o : Out} {u : MMode} {M' : Mem} (hs : Steps P m m') (hle : X.Le X') (hcs : CsLe cx cs cs') (h : Goal P cx X' base W0 fid cs' m' o u M') : Goal P cx X base W0 fid cs m o u M' := by
  obtain ⟨X2, W2, m2, h1, h2, h3, h4⟩ := h
  exact ⟨X2, W2, m2, hle.trans h1, h2, hs.trans h3, h4.le hcs⟩

theorem leftX_inv {q : Option (Out × Mem)} {u u' : MMode} {o : Out} {M' : Mem} (h : leftX q u = some (o, u', M')) : q = some (o, M') ∧ u' = u := by
  cases q with
  | none => cases h
  | some q => obtain ⟨o1, M1⟩ := q; simp only [leftX, Option.some.injEq, Prod.mk.injEq] at h; obtain ⟨rfl, rfl, rfl⟩ := h; exact ⟨rfl, rfl⟩

theorem roundOut_inv {q : Option Mem} {b : Bool} {u u' : MMode} {o : Out} {M' : Mem} (h : roundOut q b u = some (o, u', M')) : q = some M' ∧ u' = u ∧ o = .ret (.b b) := by
  cases q with
  | none => cases h
  | some q => simp only [roundOut, Option.some.injEq, Prod.mk.injEq] at h; obtain ⟨rfl, rfl, rfl⟩ := h; exact ⟨rfl, rfl, rfl⟩

/-- A round's end. -/
theorem round_end {X : Cx} {W : World} {M M' : Mem} {blk : Nat} {b : Frame} {a : Act} {cs : List Frame} {todo : List Item} {jump : Option Code} {u u' : MMode} {o : Out} {fid : FuncId}
    (hcx : CxOk (.round blk) X b.kind b.roundOf u cs) (hm : MemR X base W0 M W) (hc : roundOut (endRoundM M blk jump) jump.isNone u = some (o, u', M'))
    (hstep : ∀ {n : Nat} {v : Value} {w' : World} {c : Frame} {r : List Frame}, b.roundOf = some n → b.kind = .normal → (Instr.endRound n jump).run P W = .ok v w' → step P (lone (b.atR a todo) (c :: r) W) = .next (lone (c.finish v) r w')) :
    Goal P (.round blk) X base W0 fid cs (lone (b.atR a todo) cs W) o u' M' := by
  obtain ⟨hq, rfl, rfl⟩ := roundOut_inv hc
  obtain ⟨hk, ⟨n, z, hρ, hro⟩, c, r, rfl⟩ := hcx
  obtain ⟨W', hrun, hm'⟩ := endRound_sound (P := P) hm hρ hq
  exact ⟨X, W', _, Cx.Le.refl X, hm', .one (hstep hro hk hrun), .returned (.bool jump.isNone), c, r, rfl, .ret (.b _), rfl⟩

theorem left_ok {R : RunXF} (hV : ∀ f x, V.ext f = some x → ExtOk P f x) (hR : RunXOk P V R) {n : Nat} {cx : Cxt} {fn : Func} {nt : Nat} {tm : Tr MV} {ds : List MD} {u u' : MMode} {md : MMode} {M M' : Mem} {o : Out} {X : Cx} {W : World} {fr : Frame} {cs : List Frame}
    (hc : leftX (unwindX P V R fn tm n ds md M) u = some (o, u', M')) (hmd : MRel X md fr.mode) (hds : DRs X ds fr.defers) (ht : TmR X nt tm fr.tmps) (hf : P.funcs[fr.fn]? = some fn) (hcx : CxOk cx X fr.kind fr.roundOf u cs) (hg : GX P V base W0 X) (hm : MemR X base W0 M W) :
    Goal P cx X base W0 fr.fn cs (lone fr cs W) o u' M' := by
  obtain ⟨hq, rfl⟩ := leftX_inv hc
  exact unwind_ok hV hR n _ _ _ _ _ hq X W fr cs hmd hds ht hf hcx hg hm

theorem leave_ok {R : RunXF} (hV : ∀ f x, V.ext f = some x → ExtOk P f x) (hR : RunXOk P V R) {n : Nat} {cx : Cxt} {fid : FuncId} {fn : Func} {nt : Nat} {tm : Tr MV} {ds : List MD} {u u' : MMode} {M M' : Mem} {o : Out} {X : Cx} {W : World} {b : Frame} {a : Act} {cs : List Frame} {jump : Option Code} {todo : List Item}
    (hc : leaveX jump P V n R cx fid fn nt tm ds u M = some (o, u', M')) (hfid : b.fn = fid) (hf : P.funcs[fid]? = some fn) (hcx : CxOk cx X b.kind b.roundOf u cs) (hds : DRs X ds a.defers) (ht : TmR X nt tm a.tmps) (hg : GX P V base W0 X) (hm : MemR X base W0 M W)
    (hstep1 : b.roundOf = none → step P (lone (b.atR a todo) cs W) = .next (lone { b.atR a todo with mode := .returning } cs W))
    (hstep2 : ∀ {n : Nat} {v : Value} {w' : World} {c : Frame} {r : List Frame}, b.roundOf = some n → b.kind = .normal → (Instr.endRound n jump).run P W = .ok v w' → step P (lone (b.atR a todo) (c :: r) W) = .next (lone (c.finish v) r w')) :
    Goal P cx X base W0 fid cs (lone (b.atR a todo) cs W) o u' M' := by
  have plain : b.roundOf = none → leftX (unwindX P V R fn tm n ds .ret M) u = some (o, u', M') → Goal P cx X base W0 fid cs (lone (b.atR a todo) cs W) o u' M' := by
    intro hro h
    subst hfid
    exact .head (.one (hstep1 hro)) (Cx.Le.refl X) hcx.le_refl (left_ok (fr := { b.atR a todo with mode := .returning }) hV hR h .ret hds ht hf hcx hg hm)
  cases cx with
  | call => exact plain hcx.2 hc
  | dfr => exact plain hcx.2.1 hc
  | round blk => exact round_end hcx hm hc hstep2

/-- A call out of a region. -/
theorem enterX_ok {R : RunXF} (hR : RunXOk P V R) : CallXOk P V (enterX P V R) := by
  intro t args M o M' hc X base W0 W nx hg hm hrr c cs
  cases hrr with
  | enter ha =>
    rename_i f args'
    simp only [enterX] at hc
    split at hc
    · rename_i q hq
      simp only [Option.some.injEq] at hc
      subst hc
      obtain ⟨X', w', h1, h2, h3⟩ := hg.chook X (Cx.Le.refl X) _ _ _ _ _ hq base.keep W args' hm ha c cs
      cases o with
      | ret v => obtain ⟨v', hv, hs⟩ := h3; exact ⟨.returned v', X', w', h1, h2, .ret hv, hs⟩
      | pan ch => exact h3.elim
    split at hc
    · rename_i g cd hfo
      split at hc
      · rename_i tm htm
        split at hc
        · rename_i o1 u1 M1 hrun
          simp only [Option.some.injEq, Prod.mk.injEq] at hc
          obtain ⟨rfl, rfl⟩ := hc
          obtain ⟨_, hfn, hbody⟩ := enter_run hfo ⟨args'⟩ W
          have ht := enter_tm ha htm
          obtain ⟨X', W', m', hle, hm', hs, hfin⟩ := hR _ _ _ _ _ _ _ _ _ _ _ _ hrun X base W0 W { fn := f, tmps := #[], todo := [], defers := [], mode := .run, kind := .normal }
            { tmps := (⟨args'⟩ : Array Value) ++ Array.replicate (g.ntmps - (⟨args'⟩ : Array Value).size) undef, defers := [] } (c :: cs) hfn rfl ⟨rfl, rfl⟩ .nil ht hg hm
          obtain ⟨e, fr, he, rfl, hfr, hlv⟩ := hfin
          refine ⟨e, X', W', hle, hm', he, ?_⟩
          simp only [entered]
          rw [at_enter hfn hbody]
          refine hs.trans ?_
          cases he with
          | ret hv => exact .one (step_leave_returned hlv)
          | pan hv => exact .one (step_leave_panicked hlv)
        · cases hc
      · cases hc
    · cases hc
  | round hρ hl hw hs =>
    rename_i blk n z args' lp
    simp only [enterX] at hc
    split at hc
    · rename_i st pending f nt tm params assign body dfs hget
      obtain ⟨n', z', t, db, dz, h1, h2, h3, h4⟩ := loop_live hm hget
      rw [hρ] at h1
      simp only [Option.some.injEq, Prod.mk.injEq] at h1
      obtain ⟨rfl, _, rfl⟩ := h1
      rw [hw] at h4
      simp only [Option.some.injEq, Obj.loop.injEq] at h4
      subst h4
      split at hc
      · rename_i g hfn
        split at hc
        · rename_i tm' htm
          split at hc
          · rename_i o1 u1 M1 hrun
            simp only [Option.some.injEq, Prod.mk.injEq] at hc
            obtain ⟨rfl, rfl⟩ := hc
            have put : ∀ (ps : List Tmp) (vs : List MV) (vs' : List Value) (tm tm' : Tr MV) (t : Array Value), VRs X vs vs' → enterX.putRound nt ps vs tm = some tm' → TmR X nt tm t → TmR X nt tm' ((ps.zip vs').foldl (fun t (p, a) => t.setIfInBounds p a) t) := by
              intro ps
              induction ps with
              | nil => intro vs vs' tm tm' t hv hp ht; cases vs <;> (simp only [enterX.putRound, Option.some.injEq] at hp; subst hp; simpa using ht)
              | cons p ps ih =>
                intro vs vs' tm tm' t hv hp ht
                cases vs with
                | nil => simp only [enterX.putRound, Option.some.injEq] at hp; subst hp; cases hv; simpa using ht
                | cons v vs =>
                  cases hv with | cons hv hvs =>
                  rename_i v' vs'
                  simp only [enterX.putRound] at hp
                  split at hp
                  · rename_i tm1 h1
                    have ht1 : TmR X nt tm1 (t.setIfInBounds p v') := TmR.put (a := { tmps := t, defers := [] }) ht hv h1
                    exact ih vs vs' tm1 tm' _ hvs hp ht1
                  · cases hp
            have ht := put params args args' tm tm' t hl htm h3
            have hsz : roundT { state := st, pending := pending, fn := f, tmps := t, params := ⟨params⟩, assign := assign, body := body, defers := db } ⟨args'⟩ = (params.zip args').foldl (fun t (p, a) => t.setIfInBounds p a) t := by
              simp [roundT]
            obtain ⟨X', W', m', hle, hm', hs', hfin⟩ := hR _ _ _ _ _ _ _ _ _ _ _ _ hrun X base W0 W { fn := f, tmps := #[], todo := [], defers := [], mode := .run, kind := .normal, roundOf := some n }
              { tmps := (params.zip args').foldl (fun t (p, a) => t.setIfInBounds p a) t, defers := [] } (c :: cs) hfn rfl ⟨rfl, ⟨n, z, hρ, rfl⟩, c, cs, rfl⟩ .nil ht hg hm
            obtain ⟨e, c0, r0, hceq, he, rfl⟩ := hfin
            simp only [List.cons.injEq] at hceq
            obtain ⟨rfl, rfl⟩ := hceq
            refine ⟨e, X', W', hle, hm', he, ?_⟩
            simp only [entered, hsz]
            exact hs'
          · cases hc
        · cases hc
      · cases hc
    · cases hc

theorem run_resolve {a : Act} {f : Operand} {args : Array Operand} {fv : Fn} {first cap : Array Value} (h : a.eval f = .func fv first cap) {ty : TypeId} :
    (resolve a.eval { callee := .value f, args := args, argTypes := #[] } ty) = pure { target := .fn fv cap, args := first ++ args.map a.eval } := by
  simp [resolve, h, Deferred.ofValue]

theorem runX_ok (hmix : P.follows .mixedOrders = true) (hV : ∀ f x, V.ext f = some x → ExtOk P f x) : ∀ n, RunXOk P V (runX P V n) := by
  intro n
  induction n with
  | zero => intro cx fid fn nt tm todo ds u M o u' M' h; cases h
  | succ n ih =>
    intro cx fid fn nt tm todo ds u M o u' M' h X base W0 W b a cs hf hfid hcx hds ht hg hm
    show Goal P cx X base W0 fid cs (lone (b.atR a todo) cs W) o u' M'
    have go : ∀ {todo' : List Item}, runX P V n cx fid fn nt tm todo' ds u M = some (o, u', M') → step P (lone (b.atR a todo) cs W) = .next (lone (b.atR a todo') cs W) →
        Goal P cx X base W0 fid cs (lone (b.atR a todo) cs W) o u' M' := by
      intro todo' h' hs
      exact .head (.one hs) (Cx.Le.refl X) hcx.le_refl (ih _ _ _ _ _ _ _ _ _ _ _ _ h' X base W0 W b a cs hf hfid hcx hds ht hg hm)
    simp only [runX] at h
    cases todo with
    | nil => exact leave_ok (jump := none) hV ih h hfid hf hcx hds ht hg hm (fun hro => stepR_end hro) (fun hro hk hr => stepR_round_end hro hk hr)
    | cons i k =>
      cases i with
      | inBlock id => exact go h stepR_inBlock
      | inScope body => exact go h (step_lone_go (by simp [stepG, stepG.exec, Frame.atR]))
      | inLoop body => exact go h stepR_inLoop
      | inRegion ops td => cases h
      | inRangeFunc l => cases h
      | endRangeFunc l => cases h
      | call d w r s => cases h
      | extern r s => cases h
      | beginRound =>
        cases cx with
        | call => cases h
        | dfr => cases h
        | round blk =>
          simp only [todoX, itemX] at h
          cases hb : beginRoundM M blk with
          | none => rw [hb] at h; cases h
          | some M1 =>
            rw [hb] at h
            simp only [beginX] at h
            obtain ⟨hk, ⟨n', z, hρ, hro⟩, c, r, rfl⟩ := hcx
            obtain ⟨W1, hrun, hm1⟩ := beginRound_sound (P := P) hm hρ hb
            exact .head (.one (stepR_beginRound hro hrun)) (Cx.Le.refl X) rfl (ih _ _ _ _ _ _ _ _ _ _ _ _ h X base W0 W1 b a _ hf hfid ⟨hk, ⟨n', z, hρ, hro⟩, c, r, rfl⟩ hds ht hg hm1)
      | code cd =>
        cases cd with
        | skip => exact go h stepR_skip
        | label l => exact go h stepR_label
        | seq x y => exact go h stepR_seq
        | block id x => exact go h stepR_block
        | loop x => exact go h stepR_loop
        | scope x => exact go h (step_lone_go (by simp [stepG, stepG.exec, Frame.atR]))
        | refuse w => cases h
        | ret => exact leave_ok (jump := some .ret) hV ih h hfid hf hcx hds ht hg hm (fun hro => stepR_ret hro) (fun hro hk hr => stepR_round_ret hro hk hr)
        | cond q x y =>
          simp only [todoX, itemX, codeX] at h
          cases hev : ev V.ng tm q with
          | none => rw [hev] at h; cases h
          | some v =>
            have hv := ev_sound hg.gr ht hev
            rw [hev] at h
            cases v <;> first | (cases h; done) | skip
            rename_i t
            simp only [condX] at h
            refine go h (stepR_cond (t := t) ?_ |>.trans ?_)
            · generalize a.eval _ = u at hv
              cases hv; rfl
            · cases t <;> rfl
        | exit id =>
          simp only [todoX, itemX, codeX] at h
          cases hx : exitTo id k with
          | some k' => rw [hx] at h; exact go h (stepR_exit hx)
          | none =>
            rw [hx] at h
            simp only [toX, jumpX] at h
            cases cx with
            | call => cases h
            | dfr => cases h
            | round blk => exact round_end (jump := some (.exit id)) hcx hm h (fun hro hk hr => stepR_round_exit hro hk hx hr)
        | goto l =>
          simp only [todoX, itemX, codeX] at h
          cases hx : gotoIn l k with
          | some k' => rw [hx] at h; exact go h (stepR_goto hx)
          | none =>
            rw [hx] at h
            simp only [toX, jumpX] at h
            cases cx with
            | call => cases h
            | dfr => cases h
            | round blk => exact round_end (jump := some (.goto l)) hcx hm h (fun hro hk hr => stepR_round_goto hro hk hx hr)
        | region id ops draw =>
          simp only [todoX, itemX, codeX] at h
          have hcall := enterX_ok ih
          obtain ⟨ro, hro, hreg⟩ : ∃ ro, (bif draw then drawX (drawL P V (retF (enterX P V (runX P V n))) ops nt tm M) ds u else execX P V cx (enterX P V (runX P V n)) ops nt ops.toList tm M ds u) = some ro ∧
              ROk P cx X base W0 b nt cs k (lone (b.atR a (.code (.region id ops draw) :: k)) cs W) ro := by
            cases draw with
            | true =>
              simp only [cond_true] at h ⊢
              cases hd : drawL P V (retF (enterX P V (runX P V n))) ops nt tm M with
              | none => rw [hd] at h; cases h
              | some q =>
                obtain ⟨tm1, M1⟩ := q
                obtain ⟨X', W', a', h1, h2, h3, h4, h5⟩ := drawL_steps (b := b) (cs := cs) (k := k) hmix hV (retF_ok hcall) hd ht hg hm id
                exact ⟨_, rfl, X', W', a', cs, h1, h2, h3, by rw [h4]; exact hds.mono h1, hcx.le_refl, hcx.mono h1, h5⟩
            | false =>
              simp only [cond_false] at h ⊢
              cases hd : execX P V cx (enterX P V (runX P V n)) ops nt ops.toList tm M ds u with
              | none => rw [hd] at h; cases h
              | some ro =>
                refine ⟨ro, rfl, ?_⟩
                have := execX_ok (b := b) (k := k) hV hcall ops.toList 0 tm M ds u X W a cs (fun j => by simp) hd hcx hds ht hg hm
                exact this.head (.one stepR_region) (Cx.Le.refl X) hcx.le_refl
          rw [hro] at h
          cases ro with
          | go tm1 M1 ds1 u1 =>
            simp only [regX] at h
            rw [Mem.seqX_eq] at h
            obtain ⟨X1, W1, a1, cs1, hle1, hm1, ht1, hds1, hcs1, hcx1, hs1⟩ := hreg
            exact .head hs1 hle1 hcs1 (ih _ _ _ _ _ _ _ _ _ _ _ _ h X1 base W0 W1 b a1 cs1 hf hfid hcx1 hds1 ht1 (hg.mono hle1) hm1)
          | pan c tm1 M1 ds1 u1 =>
            simp only [regX] at h
            obtain ⟨c', X1, W1, a1, cs1, todo, hle1, hm1, hc1, ht1, hds1, hcs1, hcx1, hs1⟩ := hreg
            subst hfid
            exact .head hs1 hle1 hcs1 (left_ok (fr := { b.atR a1 todo with mode := .panicking c' }) hV ih h (.pan hc1) hds1 ht1 hf hcx1 (hg.mono hle1) hm1)
        | rangeFunc f params assign body =>
          simp only [todoX, itemX, codeX] at h
          have hcall := enterX_ok ih
          cases hev : ev V.ng tm f with
          | none => rw [hev] at h; cases h
          | some v =>
            have hv := ev_sound hg.gr ht hev
            rw [hev] at h
            cases v <;> first | (cases h; done) | skip
            rename_i g first cap
            simp only [loopFnX] at h
            cases hel : enterLoopM M cx fid nt tm params.toList assign body with
            | none => rw [hel] at h; cases h
            | some q =>
              obtain ⟨L, mark, M2⟩ := q
              rw [hel] at h
              simp only at h
              obtain ⟨X2, W2, n2, z2, mark', hle2, hm2, hρ2, hmark, hrun2⟩ := enterLoop_sound (P := P) (fid := fid) hm hcx ht hel
              cases htg : targetM P V M2 (.fn g cap) (first ++ [.yl L]) with
              | none => rw [htg] at h; cases h
              | some q =>
                obtain ⟨r, M3⟩ := q
                rw [htg] at h
                cases r <;> first | (cases h; done) | skip
                rename_i t args
                cases t <;> first | (cases h; done) | skip
                rename_i fc
                simp only [loopTgX] at h
                obtain ⟨fv, hfv⟩ : ∃ fv, fv = a.eval f := ⟨_, rfl⟩
                rw [← hfv] at hv
                cases hv with | fn hfirst hcap =>
                rename_i first' cap'
                have hargs : VRs X2 (first ++ [.yl L]) (first' ++ [.func (.yield n2) ⟨[]⟩ ⟨[]⟩]) := (hfirst.mono hle2).append (.cons (.yl hρ2) .nil)
                obtain ⟨X3, W3, hle3, hm3, nx, hrun3, hrr⟩ := target_to hV hm2 (.fn (hcap.mono hle2)) hargs htg
                have hres : (resolve a.eval (rangeCall f n2) 0).run P W2 = .ok { target := .fn g ⟨cap'⟩, args := ⟨first' ++ [.func (.yield n2) ⟨[]⟩ ⟨[]⟩]⟩ } W2 := by
                  rw [run_resolve hfv.symm, Sem.run_pure]
                  have : (⟨first'⟩ ++ (#[.const (.func (.yield n2) #[] #[])] : Array Operand).map a.eval : Array Value) = ⟨first' ++ [.func (.yield n2) ⟨[]⟩ ⟨[]⟩]⟩ := by
                    apply Array.ext'
                    simp [Act.eval]
                  rw [this]
                have hrr0 := hrr
                cases hrr with | enter hargs3 =>
                rename_i args3
                have hen := stepR_rangeFunc (P := P) (b := b) (a := a) (k := k) (cs := cs) (w := W) (by rw [hfid]; exact hrun2) hres hrun3
                have hle23 := hle2.trans hle3
                cases hq : enterX P V (runX P V n) (.fn fc) args M3 with
                | none => rw [hq] at h; cases h
                | some q =>
                  obtain ⟨o1, M4⟩ := q
                  rw [hq] at h
                  obtain ⟨e, X4, W4, hle4, hm4, he, hs4⟩ := hcall _ _ _ _ _ hq X3 base W0 W3 _ (hg.mono hle23) hm3 hrr0 (b.atR { a with defers := mark' ++ a.defers } (.inRangeFunc n2 :: k)) cs
                  have hle := hle23.trans hle4
                  have hds' : DRs X4 (mark ++ ds) (mark' ++ a.defers) := (hmark.mono (hle3.trans hle4)).append (hds.mono hle)
                  cases he with
                  | ret hv =>
                    simp only [loopCallX] at h
                    simp only [backTo, finish_atR_inRangeFunc] at hs4
                    cases hel2 : endLoopM M4 L with
                    | none => rw [hel2] at h; cases h
                    | some q =>
                      obtain ⟨jump, M5⟩ := q
                      rw [hel2] at h
                      simp only [loopOutX] at h
                      obtain ⟨W5, hrun5, hm5⟩ := endLoop_sound (P := P) hm4 ((hle3.trans hle4).1 _ _ hρ2) hel2
                      have hs5 := stepR_endRangeFunc (P := P) (b := b) (a := { a with defers := mark' ++ a.defers }) (k := k) (cs := cs) hrun5
                      exact .head (.head hen (hs4.trans (.one hs5))) hle hcx.le_refl (ih _ _ _ _ _ _ _ _ _ _ _ _ h X4 base W0 W5 b { a with defers := mark' ++ a.defers } cs hf hfid (hcx.mono hle) hds' (ht.mono hle) (hg.mono hle) hm5)
                  | pan hv =>
                    simp only [loopCallX] at h
                    rename_i ch ch'
                    subst hfid
                    exact .head (.head hen hs4) hle hcx.le_refl (left_ok (fr := { b.atR { a with defers := mark' ++ a.defers } (.inRangeFunc n2 :: k) with mode := .panicking ch' }) hV ih h (.pan hv) hds' (ht.mono hle) hf (hcx.mono hle) (hg.mono hle) hm4)

/-- A call. -/
theorem callX_ok (hmix : P.follows .mixedOrders = true) (hV : ∀ f x, V.ext f = some x → ExtOk P f x) (n : Nat) {f : FuncId} {args : List MV} {M M' : Mem} {o : Out} (hc : callX P V n f args M = some (o, M')) {X : Cx} {W : World} {args' : List Value}
    (hg : GX P V base W0 X) (hm : MemR X base W0 M W) (ha : VRs X args args') : Calls P f ⟨args'⟩ W (fun e w' => ∃ X', ER X' o e ∧ X.Le X' ∧ MemR X' base W0 M' w') := by
  intro cs
  unfold callX at hc
  split at hc
  · rename_i g cd hfo
    split at hc
    · rename_i tm htm
      split at hc
      · rename_i o1 u1 M1 hrun
        simp only [Option.some.injEq, Prod.mk.injEq] at hc
        obtain ⟨rfl, rfl⟩ := hc
        obtain ⟨_, hfn, hbody⟩ := enter_run hfo ⟨args'⟩ W
        have ht := enter_tm ha htm
        obtain ⟨X', W', m', hle, hm', hs, hfin⟩ := runX_ok hmix hV n _ _ _ _ _ _ _ _ _ _ _ _ hrun X base W0 W { fn := f, tmps := #[], todo := [], defers := [], mode := .run, kind := .normal }
          { tmps := (⟨args'⟩ : Array Value) ++ Array.replicate (g.ntmps - (⟨args'⟩ : Array Value).size) undef, defers := [] } cs hfn rfl ⟨rfl, rfl⟩ .nil ht hg hm
        obtain ⟨e, fr, he, rfl, hfr, hlv⟩ := hfin
        rw [← at_enter hfn hbody] at hs
        refine ⟨e, W', fr, ⟨X', he, hle, hm'⟩, ?_, hfr, hlv⟩
        cases he <;> exact hs
      · cases hc
    · cases hc
  · cases hc
end
end Go.Ev
