/- The evaluator: a region that draws its order. One order is walked; what is checked of the operations serves every order. -/
import Derived.Test.YtghcpfgpmliiaaaGreatDoorEvQ2
namespace Go.Ev

/-! ### Sameness of values -/
def sameV : Nat → MV → MV → Bool
  | 0, _, _ => false
  | n + 1, a, b => match a, b with
    | .b x, .b y => bif x then y else !y
    | .i k x, .i l y => eqK k l && eqI x y
    | .f k x, .f l y => eqFK k l && Nat.beq x y
    | .s x, .s y => eqL x y
    | .np, .np | .nsl, .nsl | .nm, .nm | .nfn, .nfn | .nif, .nif => true
    | .p a b, .p c d => Nat.beq a c && Nat.beq b d
    | .sl a b c d e f, .sl a' b' c' d' e' f' => Nat.beq a a' && Nat.beq b b' && Nat.beq c c' && Nat.beq d d' && Nat.beq e e' && (bif f then f' else !f')
    | .m a, .m b => Nat.beq a b
    | .ifc t v, .ifc u w => Nat.beq t u && sameV n v w
    | .agg x, .agg y => sameVs n x y
    | .tup x, .tup y => sameVs n x y
    | _, _ => false
where
  sameVs (n : Nat) : List MV → List MV → Bool
    | [], [] => true
    | x :: r, y :: s => sameV n x y && sameVs n r s
    | _, _ => false

theorem eqB_true {x y : Bool} (h : (bif x then y else !y) = true) : x = y := by cases x <;> cases y <;> simp_all

theorem sameV_eq : ∀ (n : Nat) (a b : MV), sameV n a b = true → a = b := by
  intro n
  induction n with
  | zero => intro a b h; simp [sameV] at h
  | succ n ih =>
    have ihs : ∀ (x y : List MV), sameV.sameVs n x y = true → x = y := by
      intro x
      induction x with
      | nil => intro y h; cases y with
        | nil => rfl
        | cons => simp [sameV.sameVs] at h
      | cons x r ihr => intro y h; cases y with
        | nil => simp [sameV.sameVs] at h
        | cons y s =>
          simp only [sameV.sameVs, Bool.and_eq_true] at h
          rw [ih _ _ h.1, ihr _ h.2]
    intro a b h
    unfold sameV at h
    have nb : ∀ {x y : Nat}, Nat.beq x y = true → x = y := fun h => Nat.eq_of_beq_eq_true h
    split at h <;> (try simp only [Bool.and_eq_true] at h)
    · rw [eqB_true h]
    · obtain ⟨h1, h2⟩ := h
      rw [eqI_eq] at h2
      rw [eqK_eq h1, eq_of_beq h2]
    · rw [eqFK_eq h.1, nb h.2]
    · rw [eqL_true h]
    · rfl
    · rfl
    · rfl
    · rfl
    · rfl
    · rw [nb h.1, nb h.2]
    · obtain ⟨⟨⟨⟨⟨h1, h2⟩, h3⟩, h4⟩, h5⟩, h6⟩ := h
      rw [nb h1, nb h2, nb h3, nb h4, nb h5, eqB_true h6]
    · rw [nb h]
    · rw [nb h.1, ih _ _ h.2]
    · rw [ihs _ _ h]
    · rw [ihs _ _ h]
    · cases h

/-! ### Loads -/
theorem opH_congr {P : Program} {V : Env} {e e' : Operand → Option MV} {M : Mem} {o : Oper} (h : ∀ x ∈ o.op.operands, e x = e' x) : opH o.op P V e M = opH o.op P V e' M := by
  have h2 : mapO e o.op.operands.toList = mapO e' o.op.operands.toList := by
    have : ∀ l : List Operand, (∀ x ∈ l, e x = e' x) → mapO e l = mapO e' l := by
      intro l
      induction l with
      | nil => intro _; rfl
      | cons x l ih => intro hl; simp only [mapO, hl x (by simp), ih fun y hy => hl y (by simp [hy])]
    exact this _ fun x hx => h x (by simpa using hx)
  unfold opH
  rw [opK_eq, opK_eq, opM_congr h]
  cases opM P V e' M o with
  | some q => rfl
  | none => simp only [hookK, h2]

theorem opH_silent {P : Program} {V : Env} {e : Operand → Option MV} {M M' : Mem} {o : Oper} {r : Res} (hs : silentOp P o = true) (h : opH o.op P V e M = some (r, M')) : M' = M ∧ (∃ v, r = .val v) ∧ ∀ M2, opH o.op P V e M2 = some (r, M2) := by
  rcases opH_inv h with hc | ⟨hn, hd, rfl, vs, v, hvs, hv, rfl⟩
  · obtain ⟨h1, h2, h3⟩ := opM_silent hs hc
    refine ⟨h1, h2, fun M2 => ?_⟩
    unfold opH
    rw [opK_eq, h3 M2]; rfl
  · refine ⟨rfl, ⟨v, rfl⟩, fun M2 => ?_⟩
    unfold opH
    rw [opK_eq]
    have hn2 : opM P V e M2 o = none := by
      cases hq : opM P V e M2 o with
      | none => rfl
      | some q =>
        obtain ⟨r2, M3⟩ := q
        have := (opM_silent hs hq).2.2 M'
        rw [hn] at this; cases this
    rw [hn2]
    simp only [hookK, hd, cond_false, hvs, hookV, hv, v1]

theorem opM_load {P : Program} {V : Env} {e : Operand → Option MV} {M M' : Mem} {o : Oper} {r : Res} (hs : loadOp o = true) (h : opM P V e M o = some (r, M')) : M' = M ∧ ∃ v, r = .val v := by
  obtain ⟨dst, op, type, pos, after, guard⟩ := o
  cases op <;> simp only [loadOp, Bool.false_eq_true] at hs <;> simp only [opM] at h
  case call c =>
    split at hs
    · rename_i b hcal
      simp only [hcal] at h
      split at h
      · cases b <;> simp only [Bool.false_eq_true] at hs
        unfold builtinM at h
        split at h <;> first | (simp [v1, cplxM] at h; done) | exact ⟨(v1_eq h).1, (v1_eq h).2.1⟩ | contradiction
      · cases h
    · cases hs
  all_goals (split at h <;> first | (cases h; done) | exact ⟨(v1_eq h).1, (v1_eq h).2.1⟩)

theorem opH_load {P : Program} {V : Env} {e : Operand → Option MV} {M M' : Mem} {o : Oper} {r : Res} (hs : loadOp o = true) (h : opH o.op P V e M = some (r, M')) : M' = M ∧ ∃ v, r = .val v := by
  rcases opH_inv h with hc | ⟨_, _, rfl, vs, v, _, _, rfl⟩
  · exact opM_load hs hc
  · exact ⟨rfl, v, rfl⟩

/-! ### Temporaries as a function -/
def evF (ng : Nat) (F : Nat → MV) : Operand → Option MV
  | .tmp t => some (F t)
  | .const v => ofK v
  | .global g => bif Nat.blt g ng then some (.p g 0) else none
  | .func f => some (.fn (.func f) [] [])

theorem evF_ev (ng : Nat) (tm : Tr MV) : evF ng (tmGet tm) = ev ng tm := by funext x; cases x <;> rfl

def putF (F : Nat → MV) (d : Option Tmp) (v : MV) : Nat → MV := fun i => if d = some i then v else F i

theorem putF_tm {n : Nat} {tm tm' : Tr MV} {d : Option Tmp} {v : MV} (h : tmPut n tm d v = some tm') : tmGet tm' = putF (tmGet tm) d v := funext fun i => tmPut_get h i

theorem putF_ne {F : Nat → MV} {d : Option Tmp} {v : MV} {i : Nat} (h : d ≠ some i) : putF F d v i = F i := by simp [putF, h]

theorem putF_comm {F : Nat → MV} {d d' : Option Tmp} {v u : MV} (h : ∀ i, d = some i → d' ≠ some i) : putF (putF F d v) d' u = putF (putF F d' u) d v := by
  funext i
  simp only [putF]
  by_cases e : d = some i
  · rw [if_pos e, if_neg (h i e), if_pos e]
  · rw [if_neg e, if_neg e]

section
variable (P : Program) (V : Env) (callf : CallF) (ops : Array Oper)

def runF (F : Nat → MV) (M : Mem) (o : Oper) : Option (MV × Mem) := opRun P V callf ops F (evF V.ng F) M o

variable {P V callf ops}

theorem runF_congr {F F' : Nat → MV} {M : Mem} {o : Oper} (h : ∀ d ∈ o.looksAt ops, F d = F' d) : runF P V callf ops F M o = runF P V callf ops F' M o := by
  have hop : ∀ x ∈ o.op.operands, evF V.ng F x = evF V.ng F' x := by
    intro x hx
    cases x with
    | tmp t =>
      simp only [evF]
      rw [h t (List.mem_append_left _ (List.mem_filterMap.2 ⟨.tmp t, by simpa using hx, rfl⟩))]
    | const v => rfl
    | global g => rfl
    | func f => rfl
  have hw : wantM ops F o = wantM ops F' o := by
    unfold wantM
    cases hg : o.guard with
    | none => rfl
    | some q =>
      obtain ⟨j, want⟩ := q
      cases hj : ops[j]? with
      | none => simp only [hj]
      | some oj =>
        simp only [hj]
        cases hd : oj.dst with
        | none => simp only [hd]
        | some d =>
          have := h d (List.mem_append_right _ (by simp [hg, hj, hd]))
          simp only [hd, this]
  unfold runF opRun
  rw [hw]
  split
  · unfold opVal
    rw [opH_congr hop]
  · rfl
  · rfl

theorem runF_silent {F : Nat → MV} {M M' : Mem} {o : Oper} {v : MV} (hs : silentOp P o = true) (h : runF P V callf ops F M o = some (v, M')) : M' = M ∧ ∀ M2, runF P V callf ops F M2 o = some (v, M2) := by
  unfold runF opRun at h ⊢
  split at h
  · rename_i hw
    try simp only [hw]
    unfold opVal at h ⊢
    split at h
    · rename_i u M1 hop
      obtain ⟨rfl, _, h2⟩ := opH_silent hs hop
      simp only [Option.some.injEq, Prod.mk.injEq] at h
      obtain ⟨rfl, rfl⟩ := h
      exact ⟨rfl, fun M2 => by rw [h2 M2]⟩
    · rename_i M1 hop; obtain ⟨_, ⟨u, hu⟩, _⟩ := opH_silent hs hop; cases hu
    · rename_i M1 hop; obtain ⟨_, ⟨u, hu⟩, _⟩ := opH_silent hs hop; cases hu
    · cases h
  · rename_i hw
    simp only [Option.some.injEq, Prod.mk.injEq] at h
    obtain ⟨rfl, rfl⟩ := h
    exact ⟨rfl, fun M2 => by simp only [hw]⟩
  · cases h

theorem runF_load {F : Nat → MV} {M M' : Mem} {o : Oper} {v : MV} (hs : loadOp o = true) (h : runF P V callf ops F M o = some (v, M')) : M' = M := by
  unfold runF opRun at h
  split at h
  · unfold opVal at h
    split at h
    · rename_i u M1 hop
      obtain ⟨rfl, _⟩ := opH_load hs hop
      simp only [Option.some.injEq, Prod.mk.injEq] at h
      exact h.2.symm
    · rename_i M1 hop; obtain ⟨_, ⟨u, hu⟩⟩ := opH_load hs hop; cases hu
    · rename_i M1 hop; obtain ⟨_, ⟨u, hu⟩⟩ := opH_load hs hop; cases hu
    · cases h
  · simp only [Option.some.injEq, Prod.mk.injEq] at h
    exact h.2.symm
  · cases h

end
end Go.Ev
