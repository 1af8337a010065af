/- The evaluator: whole functions, with deferred calls, panics, and ranges over functions: what they are to do in the model; the way out. -/
import Derived.Test.YtghcpfgpmliiaaaGreatDoorEvX1
import Derived.Defers
namespace Go.Ev

section
variable {P : Program} {V : Env} {X : Cx} {base : Fr} {W0 W : World} {M : Mem}

/-! ### Relations -/
inductive CR (X : Cx) : List (MV × Bool) → List PanicEntry → Prop
  | nil : CR X [] []
  | cons {v : MV} {v' : Value} {r : Bool} {l : List (MV × Bool)} {l' : List PanicEntry} (h : VR X v v') (t : CR X l l') : CR X ((v, r) :: l) ({ v := v', recovered := r } :: l')

theorem CR.mono {X Y : Cx} (hl : X.Le Y) {l : List (MV × Bool)} {l' : List PanicEntry} (h : CR X l l') : CR Y l l' := by
  induction h with
  | nil => exact .nil
  | cons h _ ih => exact .cons (h.mono hl) ih
theorem CR.append {l m : List (MV × Bool)} {l' m' : List PanicEntry} (h : CR X l l') (k : CR X m m') : CR X (l ++ m) (l' ++ m') := by
  induction h with
  | nil => exact k
  | cons h _ ih => exact .cons h ih
theorem CR.dropped {l : List (MV × Bool)} {l' : List PanicEntry} (h : CR X l l') : l'.dropWhile (!·.goexit) = [] := by
  induction h with
  | nil => rfl
  | cons h _ ih => simpa [List.dropWhile_cons] using ih

inductive MRel (X : Cx) : MMode → FrameMode → Prop
  | ret : MRel X .ret .returning
  | pan {c : List (MV × Bool)} {c' : List PanicEntry} (h : CR X c c') : MRel X (.pan c) (.panicking c')

theorem MRel.mono {X Y : Cx} (hl : X.Le Y) {m : MMode} {u : FrameMode} (h : MRel X m u) : MRel Y m u := by
  cases h with
  | ret => exact .ret
  | pan h => exact .pan (h.mono hl)
theorem MRel.settle {m : MMode} {u : FrameMode} (h : MRel X m u) : MRel X (settleM m) (settle u) := by
  cases h with
  | ret => exact .ret
  | pan h =>
    cases h with
    | nil => exact .pan .nil
    | cons h t =>
      rename_i v v' r l l'
      cases r with
      | false => exact .pan (.cons h t)
      | true =>
        have := t.dropped
        simp only [Go.settle, this]
        exact .ret
theorem MRel.raised {m : MMode} {u : FrameMode} (h : MRel X m u) {c : List (MV × Bool)} {c' : List PanicEntry} (hc : CR X c c') : MRel X (raisedM m c) (raised u c') := by
  cases h with
  | ret => exact .pan hc
  | pan h => exact .pan (hc.append h)
theorem MRel.not_run {m : MMode} {u : FrameMode} (h : MRel X m u) : u ≠ .run := by cases h <;> simp

theorem DRs.append {l m : List MD} {l' m' : List Deferred} (h : DRs X l l') (k : DRs X m m') : DRs X (l ++ m) (l' ++ m') := by
  induction h with
  | nil => exact k
  | cons h _ ih => exact .cons h ih

inductive ER (X : Cx) : Out → Ending → Prop
  | ret {v : MV} {v' : Value} (h : VR X v v') : ER X (.ret v) (.returned v')
  | pan {c : List (MV × Bool)} {c' : List PanicEntry} (h : CR X c c') : ER X (.pan c) (.panicked c')

/-- How a call comes back to its caller. -/
def backTo : Ending → Frame → Frame
  | .returned v => fun c => c.finish v
  | .panicked ch => fun c => c.raise ch
  | .outgrown => fun c => c

/-- What a call out of a region is to do. -/
def CallXOk (P : Program) (V : Env) (callx : CallX) : Prop :=
  ∀ t args M o M', callx t args M = some (o, M') → ∀ X base W0 W nx, GX P V base W0 X → MemR X base W0 M W → RR X W (.enter t args) nx →
    ∀ (c : Frame) (cs : List Frame), ∃ e X' w', X.Le X' ∧ MemR X' base W0 M' w' ∧ ER X' o e ∧ Steps P (lone (entered P nx) (c :: cs) W) (lone (backTo e c) cs w')

theorem retF_ok {callx : CallX} (h : CallXOk P V callx) : CallOk P V (retF callx) := by
  intro t args M v M' hc X base W0 W nx hg hm hr c cs
  unfold retF at hc
  split at hc
  · rename_i v0 M0 hq
    simp only [Option.some.injEq, Prod.mk.injEq] at hc
    obtain ⟨rfl, rfl⟩ := hc
    obtain ⟨e, X', w', h1, h2, h3, h4⟩ := h _ _ _ _ _ hq X base W0 W nx hg hm hr c cs
    cases h3 with | ret hv =>
    exact ⟨_, X', w', h1, h2, hv, h4⟩
  · cases hc

/-- What stands around a frame: by what it is. -/
def CxOk (cx : Cxt) (X : Cx) (kind : CallKind) (ro : Option Nat) (u : MMode) (cs : List Frame) : Prop :=
  match cx with
  | .call => kind = .normal ∧ ro = none
  | .round blk => kind = .normal ∧ (∃ n z, X.ρ blk = some (n, 0, z) ∧ ro = some n) ∧ ∃ c r, cs = c :: r
  | .dfr => kind = .deferred ∧ ro = none ∧ ∃ c r, cs = c :: r ∧ MRel X u c.mode

theorem CxOk.mono {X Y : Cx} (hl : X.Le Y) {cx : Cxt} {kind : CallKind} {ro : Option Nat} {u : MMode} {cs : List Frame} (h : CxOk cx X kind ro u cs) : CxOk cx Y kind ro u cs := by
  cases cx with
  | call => exact h
  | round blk => obtain ⟨h1, ⟨n, z, h2, h3⟩, h4⟩ := h; exact ⟨h1, ⟨n, z, hl.1 _ _ h2, h3⟩, h4⟩
  | dfr => obtain ⟨h1, h2, c, r, h3, h4⟩ := h; exact ⟨h1, h2, c, r, h3, h4.mono hl⟩

/-- The callers, but for the mode of a deferred call's. -/
def CsLe (cx : Cxt) (cs cs' : List Frame) : Prop :=
  match cx with
  | .dfr => ∃ c r m, cs = c :: r ∧ cs' = { c with mode := m } :: r
  | _ => cs' = cs

theorem CxOk.le_refl {cx : Cxt} {kind : CallKind} {ro : Option Nat} {u : MMode} {cs : List Frame} (h : CxOk cx X kind ro u cs) : CsLe cx cs cs := by
  cases cx with
  | call => rfl
  | round blk => rfl
  | dfr => obtain ⟨_, _, c, r, rfl, _⟩ := h; exact ⟨c, r, c.mode, rfl, rfl⟩
theorem CsLe.trans {cx : Cxt} {a b c : List Frame} (h : CsLe cx a b) (k : CsLe cx b c) : CsLe cx a c := by
  cases cx with
  | call => exact Eq.trans (b := b) k h
  | round blk => exact Eq.trans (b := b) k h
  | dfr =>
    obtain ⟨c1, r1, m1, rfl, rfl⟩ := h
    obtain ⟨c2, r2, m2, h2, rfl⟩ := k
    simp only [List.cons.injEq] at h2
    obtain ⟨rfl, rfl⟩ := h2
    exact ⟨c1, r1, m2, rfl, rfl⟩

/-- Where a frame's run comes out. -/
def Fin (P : Program) (cx : Cxt) (fid : FuncId) (cs : List Frame) (o : Out) (u : MMode) (X : Cx) (W : World) (m : Machine) : Prop :=
  match cx with
  | .call => ∃ e fr, ER X o e ∧ m = lone fr cs W ∧ fr.fn = fid ∧ fr.leaving P W e
  | .round _ => ∃ e c r, cs = c :: r ∧ ER X o e ∧ m = lone (backTo e c) r W
  | .dfr => ∃ c r md, cs = c :: r ∧ MRel X (afterM o u) md ∧ m = lone { c with mode := md } r W

theorem Fin.le {cx : Cxt} {fid : FuncId} {cs cs' : List Frame} {o : Out} {u : MMode} {m : Machine} (hl : CsLe cx cs cs') (h : Fin P cx fid cs' o u X W m) : Fin P cx fid cs o u X W m := by
  cases cx with
  | call => cases hl; exact h
  | round blk => cases hl; exact h
  | dfr =>
    obtain ⟨c, r, m1, rfl, rfl⟩ := hl
    obtain ⟨c2, r2, md, h2, h3, h4⟩ := h
    simp only [List.cons.injEq] at h2
    obtain ⟨rfl, rfl⟩ := h2
    exact ⟨c, r, md, rfl, h3, h4⟩

/-- What a frame's run is to do. -/
def RunXOk (P : Program) (V : Env) (R : RunXF) : Prop :=
  ∀ cx fid fn nt tm todo ds u M o u' M', R cx fid fn nt tm todo ds u M = some (o, u', M') →
    ∀ (X : Cx) (base : Fr) (W0 W : World) (b : Frame) (a : Act) (cs : List Frame), P.funcs[fid]? = some fn → b.fn = fid → CxOk cx X b.kind b.roundOf u cs → DRs X ds a.defers → TmR X nt tm a.tmps → GX P V base W0 X → MemR X base W0 M W →
    ∃ X' W' m', X.Le X' ∧ MemR X' base W0 M' W' ∧ Steps P (lone (b.atR a todo) cs W) m' ∧ Fin P cx fid cs o u' X' W' m'

/-! ### Blocks -/
theorem Mem.setBlk_inv {M' : Mem} {blk : Nat} {mb : MB} (h : M.setBlk blk mb = some M') : M.ro ≤ blk ∧ blk < top ∧ M' = { M with h := Tr.set 23 M.h blk (some mb) } := by
  unfold Mem.setBlk at h
  cases hq : (Nat.ble M.ro blk && Nat.blt blk top) <;> rw [hq] at h <;> simp only [cond_true, cond_false, reduceCtorEq, Option.some.injEq] at h
  simp only [Bool.and_eq_true, Nat.ble_eq, Nat.blt_eq] at hq
  exact ⟨hq.1, hq.2, h.symm⟩

theorem MemR.setBlk {M' : Mem} {blk n d z : Nat} {mb mb' : MB} {o' : Obj} (h : MemR X base W0 M W) (hb : M.h.get blk = some mb) (hρ : X.ρ blk = some (n, d, z)) (hc : M.setBlk blk mb' = some M') (hor : OR X d z mb' o') :
    MemR X base W0 M' { W with heap := W.heap.setIfInBounds n o' } := by
  obtain ⟨hro, ht, rfl⟩ := Mem.setBlk_inv hc
  have hn := h.bound _ _ hρ
  refine h.replace (o' := o') hb hρ hro ht hor rfl rfl rfl (by simp) (by simp [hn]) (fun k hk => ?_)
  simp [Array.getElem?_setIfInBounds_ne (fun e : n = k => hk e.symm)]

theorem run_setObj {n : Nat} {o o' : Obj} (h : W.heap[n]? = some o) (hc : ∀ c e f, o ≠ .cells c e f) : (setObj n o').run P W = .ok () { W with heap := W.heap.setIfInBounds n o' } := by
  simp only [setObj, Sem.run, h]
  all_goals (cases o <;> first | rfl | exact absurd rfl (hc _ _ _))

theorem run_getObj {n : Nat} {o : Obj} (h : W.heap[n]? = some o) (hc : ∀ c e f, o ≠ .cells c e f) : (getObj n).run P W = .ok o W := by
  simp only [getObj, Sem.run, h]
  all_goals (cases o <;> first | rfl | exact absurd rfl (hc _ _ _))

theorem loop_live (h : MemR X base W0 M W) {blk : Nat} {st : LoopState} {pending : Option Code} {f nt : Nat} {tm : Tr MV} {params : List Tmp} {assign body : Code} {dfs : Nat} (hget : M.h.get blk = some (.loop st pending f nt tm params assign body dfs)) :
    ∃ n z t db dz, X.ρ blk = some (n, 0, z) ∧ X.ρ dfs = some (db, 0, dz) ∧ TmR X nt tm t ∧ W.heap[n]? = some (.loop { state := st, pending := pending, fn := f, tmps := t, params := ⟨params⟩, assign := assign, body := body, defers := db }) := by
  obtain ⟨n, d, z, o, hρ, hW, hd, t, db, dd, dz, htm, hρd, hdd, ho⟩ := h.live _ _ hget
  subst hd; subst hdd; subst ho
  exact ⟨n, z, t, db, dz, hρ, hρd, htm, hW⟩

theorem run_getLoop {n : Nat} {lp : Loop} (h : W.heap[n]? = some (.loop lp)) : (Instr.getLoop n).run P W = .ok lp W := by
  simp [Instr.getLoop, getObj_loop h, Result.andThen]

theorem beginRound_sound {M' : Mem} {blk n z : Nat} (h : MemR X base W0 M W) (hρ : X.ρ blk = some (n, 0, z)) (hc : beginRoundM M blk = some M') :
    ∃ W', (Instr.beginRound n).run P W = .ok () W' ∧ MemR X base W0 M' W' := by
  unfold beginRoundM at hc
  split at hc
  · rename_i pending f nt tm params assign body dfs hget
    obtain ⟨n', z', t, db, dz, h1, h2, h3, h4⟩ := loop_live h hget
    rw [hρ] at h1
    simp only [Option.some.injEq, Prod.mk.injEq] at h1
    obtain ⟨rfl, _, rfl⟩ := h1
    refine ⟨_, ?_, h.setBlk hget hρ hc ⟨rfl, t, db, 0, dz, h3, h2, rfl, rfl⟩⟩
    simp [Instr.beginRound, run_getLoop h4, run_setObj h4 (fun _ _ _ => by simp), Result.andThen]
  · cases hc

theorem endRound_sound {M' : Mem} {blk n z : Nat} {jump : Option Code} (h : MemR X base W0 M W) (hρ : X.ρ blk = some (n, 0, z)) (hc : endRoundM M blk jump = some M') :
    ∃ W', (Instr.endRound n jump).run P W = .ok (.bool jump.isNone) W' ∧ MemR X base W0 M' W' := by
  unfold endRoundM at hc
  split at hc
  · rename_i st pending f nt tm params assign body dfs hget
    obtain ⟨n', z', t, db, dz, h1, h2, h3, h4⟩ := loop_live h hget
    rw [hρ] at h1
    simp only [Option.some.injEq, Prod.mk.injEq] at h1
    obtain ⟨rfl, _, rfl⟩ := h1
    refine ⟨_, ?_, h.setBlk hget hρ hc ⟨rfl, t, db, 0, dz, h3, h2, rfl, rfl⟩⟩
    cases jump <;> simp [Instr.endRound, run_getLoop h4, run_setObj h4 (fun _ _ _ => by simp), Result.andThen]
  · cases hc

theorem endLoop_sound {M' : Mem} {blk n z : Nat} {jump : Option Code} (h : MemR X base W0 M W) (hρ : X.ρ blk = some (n, 0, z)) (hc : endLoopM M blk = some (jump, M')) :
    ∃ W', (Instr.endLoop n).run P W = .ok jump W' ∧ MemR X base W0 M' W' := by
  unfold endLoopM at hc
  split at hc
  · rename_i st pending f nt tm params assign body dfs hget
    cases hq : notBusy st <;> rw [hq] at hc <;> simp only [cond_true, cond_false, reduceCtorEq] at hc
    split at hc
    · rename_i M1 hset
      simp only [Option.some.injEq, Prod.mk.injEq] at hc
      obtain ⟨rfl, rfl⟩ := hc
      obtain ⟨n', z', t, db, dz, h1, h2, h3, h4⟩ := loop_live h hget
      rw [hρ] at h1
      simp only [Option.some.injEq, Prod.mk.injEq] at h1
      obtain ⟨rfl, _, rfl⟩ := h1
      refine ⟨_, ?_, h.setBlk hget hρ hset ⟨rfl, t, db, 0, dz, h3, h2, rfl, rfl⟩⟩
      have hb : st ≠ LoopState.busy := by cases st <;> first | (simp; done) | (simp [notBusy] at hq)
      simp [Instr.endLoop, run_getLoop h4, run_setObj h4 (fun _ _ _ => by simp), Result.andThen, hb]
    · cases hc
  · cases hc

theorem dfr_live (h : MemR X base W0 M W) {blk : Nat} {ds : List MD} (hget : M.h.get blk = some (.dfr (some ds))) : ∃ n z ds', X.ρ blk = some (n, 0, z) ∧ DRs X ds ds' ∧ W.heap[n]? = some (.deferred (some ds')) := by
  obtain ⟨n, d, z, o, hρ, hW, hd, ds', ho, hds⟩ := h.live _ _ hget
  subst hd; subst ho
  exact ⟨n, z, ds', hρ, hds, hW⟩

theorem deferRound_sound {M' : Mem} {blk n z : Nat} {d : MD} {d' : Deferred} (h : MemR X base W0 M W) (hρ : X.ρ blk = some (n, 0, z)) (hd : DR X d d') (hc : deferRoundM M blk d = some M') :
    ∃ W', (Instr.deferInRound n d').run P W = .ok () W' ∧ MemR X base W0 M' W' := by
  unfold deferRoundM at hc
  split at hc
  · rename_i st pending f nt tm params assign body dfs hget
    obtain ⟨n', z', t, db, dz, h1, h2, h3, h4⟩ := loop_live h hget
    rw [hρ] at h1
    simp only [Option.some.injEq, Prod.mk.injEq] at h1
    obtain ⟨rfl, _, rfl⟩ := h1
    split at hc
    · rename_i ds hds
      obtain ⟨n2, z2, ds', h5, h6, h7⟩ := dfr_live h hds
      rw [h2] at h5
      simp only [Option.some.injEq, Prod.mk.injEq] at h5
      obtain ⟨rfl, _, rfl⟩ := h5
      refine ⟨_, ?_, h.setBlk hds h2 hc ⟨rfl, _, rfl, .cons hd h6⟩⟩
      simp [Instr.deferInRound, run_getLoop h4, run_getObj h7 (fun _ _ _ => by simp), run_setObj h7 (fun _ _ _ => by simp), Result.andThen]
    · cases hc
  · cases hc

theorem take_sound {M' : Mem} {blk : Nat} {l : List MD} (h : MemR X base W0 M W) (hc : takeM M blk = some (l, M')) :
    ∃ n z l' W', X.ρ blk = some (n, 0, z) ∧ DRs X l l' ∧ (Instr.takeDeferred n).run P W = .ok l' W' ∧ MemR X base W0 M' W' := by
  unfold takeM at hc
  split at hc
  · rename_i ds hds
    split at hc
    · rename_i M1 hset
      simp only [Option.some.injEq, Prod.mk.injEq] at hc
      obtain ⟨rfl, rfl⟩ := hc
      obtain ⟨n2, z2, ds', h5, h6, h7⟩ := dfr_live h hds
      refine ⟨n2, z2, ds', _, h5, h6, ?_, h.setBlk hds h5 hset ⟨rfl, rfl⟩⟩
      simp [Instr.takeDeferred, run_getObj h7 (fun _ _ _ => by simp), run_setObj h7 (fun _ _ _ => by simp), Result.andThen]
    · cases hc
  · cases hc

theorem run_newObj {o : Obj} : (newObj o).run P W = .ok W.heap.size (W.alloc o) := rfl

theorem enterLoop_sound {M' : Mem} {cx : Cxt} {kind : CallKind} {ro : Option Nat} {u : MMode} {cs : List Frame} {fid nt L : Nat} {tm : Tr MV} {t : Array Value} {params : Array Tmp} {assign body : Code} {mark : List MD}
    (h : MemR X base W0 M W) (hcx : CxOk cx X kind ro u cs) (ht : TmR X nt tm t) (hc : enterLoopM M cx fid nt tm params.toList assign body = some (L, mark, M')) :
    ∃ X' W' n z mark', X.Le X' ∧ MemR X' base W0 M' W' ∧ X'.ρ L = some (n, 0, z) ∧ DRs X' mark mark' ∧ (Instr.enterLoop fid t params assign body ro).run P W = .ok (n, mark') W' := by
  have outer : ∀ {q : Option (Nat × List MD × Mem)}, q = some (L, mark, M') → ro = none → q = (match M.new (.dfr (some [])) with
    | some (D, M1) => match M1.new (.loop .ready none fid nt tm params.toList assign body D) with
      | some (L, M2) => some (L, [⟨.collected D, []⟩], M2)
      | none => none
    | none => none) → ∃ X' W' n z mark', X.Le X' ∧ MemR X' base W0 M' W' ∧ X'.ρ L = some (n, 0, z) ∧ DRs X' mark mark' ∧ (Instr.enterLoop fid t params assign body ro).run P W = .ok (n, mark') W' := by
    intro q hq hro he
    subst hro
    rw [he] at hq
    split at hq
    · rename_i D M1 hD
      split at hq
      · rename_i L1 M2 hL
        simp only [Option.some.injEq, Prod.mk.injEq] at hq
        obtain ⟨rfl, rfl, rfl⟩ := hq
        obtain ⟨e1, hle1, hm1⟩ := h.new (z := 0) (o := .deferred (some [])) hD ⟨rfl, [], rfl, .nil⟩
        have hρD := Cx.add_same X D (W.heap.size, 0, 0)
        obtain ⟨e2, hle2, hm2⟩ := hm1.new (z := 0) (o := .loop { state := .ready, pending := none, fn := fid, tmps := t, params := params, assign := assign, body := body, defers := W.heap.size }) hL
          ⟨rfl, t, W.heap.size, 0, 0, (ht.mono hle1).mono (Cx.add_le (hm1.fresh _ (by
            have : L1 = M1.next := by
              unfold Mem.new at hL
              cases hb : Nat.blt M1.next top <;> rw [hb] at hL <;> simp only [cond_true, cond_false, reduceCtorEq, Option.some.injEq, Prod.mk.injEq] at hL
              exact hL.1.symm
            omega))), by
            have hne : D ≠ L1 := by
              have e3 : L1 = M1.next := by
                unfold Mem.new at hL
                cases hb : Nat.blt M1.next top <;> rw [hb] at hL <;> simp only [cond_true, cond_false, reduceCtorEq, Option.some.injEq, Prod.mk.injEq] at hL
                exact hL.1.symm
              have := hm1.fresh L1 (by omega)
              intro e
              rw [← e, hρD] at this
              cases this
            rw [Cx.add_ne _ _ hne]; exact hρD, rfl, rfl⟩
        refine ⟨_, _, _, _, [{ target := .collected W.heap.size, args := #[] }], hle1.trans hle2, hm2, Cx.add_same _ _ _, .cons (.mk (.collected (hle2.1 _ _ hρD)) .nil) .nil, ?_⟩
        simp [Instr.enterLoop, run_newObj, Result.andThen]
        rfl
      · cases hq
    · cases hq
  cases cx with
  | call => obtain ⟨_, hro⟩ := hcx; exact outer hc hro rfl
  | dfr => obtain ⟨_, hro, _⟩ := hcx; exact outer hc hro rfl
  | round l =>
    obtain ⟨_, ⟨n, z, hρ, hro⟩, _⟩ := hcx
    subst hro
    simp only [enterLoopM] at hc
    split at hc
    · rename_i st pending f nt' tm' params' assign' body' dfs hget
      split at hc
      · rename_i L1 M2 hL
        simp only [Option.some.injEq, Prod.mk.injEq] at hc
        obtain ⟨rfl, rfl, rfl⟩ := hc
        obtain ⟨n', z', t', db, dz, h1, h2, h3, h4⟩ := loop_live h hget
        rw [hρ] at h1
        simp only [Option.some.injEq, Prod.mk.injEq] at h1
        obtain ⟨rfl, _, rfl⟩ := h1
        have e3 : L1 = M.next := by
          unfold Mem.new at hL
          cases hb : Nat.blt M.next top <;> rw [hb] at hL <;> simp only [cond_true, cond_false, reduceCtorEq, Option.some.injEq, Prod.mk.injEq] at hL
          exact hL.1.symm
        have hfr := h.fresh L1 (by omega)
        have hle0 : X.Le (X.add L1 (W.heap.size, 0, 0)) := Cx.add_le hfr
        obtain ⟨e2, hle2, hm2⟩ := h.new (z := 0) (o := .loop { state := .ready, pending := none, fn := fid, tmps := t, params := params, assign := assign, body := body, defers := db }) hL
          ⟨rfl, t, db, 0, dz, ht.mono hle0, hle0.1 _ _ h2, rfl, rfl⟩
        refine ⟨_, _, _, _, [], hle2, hm2, Cx.add_same _ _ _, .nil, ?_⟩
        simp [Instr.enterLoop, run_getLoop h4, run_newObj, Result.andThen]
        try rfl
      · cases hc
    · cases hc
end
end Go.Ev
