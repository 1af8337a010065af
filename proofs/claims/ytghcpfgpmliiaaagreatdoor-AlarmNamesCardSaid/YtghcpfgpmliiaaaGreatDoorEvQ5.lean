/- The evaluator: the plan of a region that draws its order, and its walk. -/
import Derived.Test.YtghcpfgpmliiaaaGreatDoorEvQ4
namespace Go.Ev

structure Pend where
  k : Nat
  o : Oper
  tm : Tr MV
  v : MV

def soleB (P : Program) (ops : Array Oper) (j : Nat) : Bool :=
  match ops[j]? with
  | some o => !(silentOp P o) && !(loadOp o)
  | none => false

def concB (ops : Array Oper) (l : Array Bool) (i : Nat) (o : Oper) : Bool :=
  (List.range ops.size).all fun j => Nat.beq j i || l.getD j true || (match ops[j]? with
    | some oj => (bnd oj).contains i || o.apart ops oj
    | none => true)

def dstB (nt : Nat) (o : Oper) : Bool := match o.dst with | some d => Nat.blt d nt | none => true

def okPlan (P : Program) (ops : Array Oper) (nt : Nat) : List (Nat × Nat) → Array Bool → Bool
  | [], l => (Region.ready .any ops l).isEmpty
  | (i, c) :: r, l => (match ops[i]? with
    | some o => dstB nt o && (match c with
      | 0 => (Region.ready .any ops l).contains i && silentOp P o && concB ops l i o
      | 1 => (Region.ready .any ops l).contains i && loadOp o && concB ops l i o
      | _ => (match Region.ready .any ops l with | [j] => Nat.beq j i | _ => false))
    | none => false) && okPlan P ops nt r (l.setIfInBounds i true)

def findPlan (P : Program) (ops : Array Oper) : Nat → Array Bool → List (Nat × Nat)
  | 0, _ => []
  | f + 1, l =>
    let rs := Region.ready .any ops l
    match rs.find? fun i => match ops[i]? with | some o => silentOp P o | none => false with
    | some i => (i, 0) :: findPlan P ops f (l.setIfInBounds i true)
    | none => match rs.find? fun i => match ops[i]? with | some o => loadOp o | none => false with
      | some i => (i, 1) :: findPlan P ops f (l.setIfInBounds i true)
      | none => match rs with
        | i :: _ => (i, 2) :: findPlan P ops f (l.setIfInBounds i true)
        | [] => []

def recheck (P : Program) (V : Env) (callf : CallF) (ops : Array Oper) (j : Nat) (M : Mem) : List Pend → Option (List Pend)
  | [] => some []
  | p :: r => match recheck P V callf ops j M r with
    | some r' => bif ancB ops 8 j p.k && soleB P ops j then some r' else match opRun P V callf ops (tmGet p.tm) (ev V.ng p.tm) M p.o with
      | some (u, _) => bif sameV 6 u p.v then some (p :: r') else none
      | none => none
    | none => none

def regM (P : Program) (V : Env) (callf : CallF) (ops : Array Oper) (nt : Nat) : List (Nat × Nat) → Tr MV → Mem → List Pend → Option (Tr MV × Mem)
  | [], tm, M, _ => some (tm, M)
  | (i, c) :: r, tm, M, pend => match ops[i]? with
    | some o => match opRun P V callf ops (tmGet tm) (ev V.ng tm) M o with
      | some (v, M') => match tmPut nt tm o.dst v with
        | some tm' => match c with
          | 0 => regM P V callf ops nt r tm' M' pend
          | 1 => regM P V callf ops nt r tm' M' (⟨i, o, tm, v⟩ :: pend)
          | _ => match recheck P V callf ops i M' pend with
            | some pend' => regM P V callf ops nt r tm' M' pend'
            | none => none
        | none => none
      | none => none
    | none => none

section
variable {P : Program} {V : Env} {callf : CallF} {ops : Array Oper} {nt : Nat}

def ObP (P : Program) (V : Env) (callf : CallF) (ops : Array Oper) (pend : List Pend) (l : Array Bool) (M : Mem) : Prop :=
  ∀ p ∈ pend, (∃ j, l.getD j false = true ∧ soleB P ops j = true ∧ ancB ops 8 j p.k = true) ∨ runF P V callf ops (tmGet p.tm) M p.o = some (p.v, M)

theorem runF_ev {tm : Tr MV} {M : Mem} {o : Oper} : opRun P V callf ops (tmGet tm) (ev V.ng tm) M o = runF P V callf ops (tmGet tm) M o := by
  unfold runF; rw [evF_ev]

theorem recheck_sound {j : Nat} {M : Mem} : ∀ {pend pend' : List Pend}, (∀ p ∈ pend, loadOp p.o = true) → recheck P V callf ops j M pend = some pend' →
    (∀ p ∈ pend', p ∈ pend ∧ runF P V callf ops (tmGet p.tm) M p.o = some (p.v, M)) ∧ ∀ p ∈ pend, p ∈ pend' ∨ (soleB P ops j = true ∧ ancB ops 8 j p.k = true)
  | [], pend', _, h => by
    simp only [recheck, Option.some.injEq] at h; subst h
    exact ⟨by simp, by simp⟩
  | p :: r, pend', hl, h => by
    simp only [recheck] at h
    split at h
    · rename_i r' hr
      obtain ⟨h1, h2⟩ := recheck_sound (fun q hq => hl q (by simp [hq])) hr
      cases hb : (ancB ops 8 j p.k && soleB P ops j) with
      | true =>
        rw [hb] at h; simp only [cond_true, Option.some.injEq] at h; subst h
        simp only [Bool.and_eq_true] at hb
        refine ⟨fun q hq => ⟨by simp [(h1 q hq).1], (h1 q hq).2⟩, fun q hq => ?_⟩
        rcases List.mem_cons.1 hq with e | e
        · subst e; exact .inr ⟨hb.2, hb.1⟩
        · exact h2 q e
      | false =>
        rw [hb] at h; simp only [cond_false] at h
        split at h
        · rename_i u M1 hop
          cases hs : sameV 6 u p.v with
          | false => rw [hs] at h; cases h
          | true =>
            rw [hs] at h; simp only [cond_true, Option.some.injEq] at h; subst h
            have hu := sameV_eq _ _ _ hs; subst hu
            rw [runF_ev] at hop
            have hM := runF_load (hl p (by simp)) hop; subst hM
            refine ⟨fun q hq => ?_, fun q hq => ?_⟩
            · rcases List.mem_cons.1 hq with e | e
              · subst e; exact ⟨by simp, hop⟩
              · exact ⟨by simp [(h1 q e).1], (h1 q e).2⟩
            · rcases List.mem_cons.1 hq with e | e
              · subst e; exact .inl (by simp)
              · rcases h2 q e with h3 | h3
                · exact .inl (by simp [h3])
                · exact .inr h3
        · cases h
    · cases h

theorem concB_sound {l : Array Bool} {i : Nat} {o : Oper} (h : concB ops l i o = true) : Conc ops l i o := by
  intro j oj hj hne hl
  unfold concB at h
  rw [List.all_eq_true] at h
  have := h j (by simpa using (Array.getElem?_eq_some_iff.1 hj).1)
  simp only [hj, hl, Bool.or_false, Bool.or_eq_true] at this
  rcases this with h1 | h1 | h1
  · exact absurd (Nat.eq_of_beq_eq_true h1) hne
  · exact .inl (by simpa using h1)
  · exact .inr h1

theorem dstB_sound {o : Oper} (h : dstB nt o = true) : ∀ d, o.dst = some d → d < nt := by
  intro d hd
  simpa [dstB, hd] using h

theorem regM_any {tm' : Tr MV} {M' : Mem} : ∀ (plan : List (Nat × Nat)) (l : Array Bool) (tm : Tr MV) (M : Mem) (pend : List Pend), okPlan P ops nt plan l = true → Closed ops l → (∀ p ∈ pend, loadOp p.o = true) → ObP P V callf ops pend l M →
    regM P V callf ops nt plan tm M pend = some (tm', M') → AnyO P V callf ops nt (ObP P V callf ops pend) (fun F M1 => F = tmGet tm' ∧ M1 = M') plan.length l (tmGet tm) M
  | [], l, tm, M, pend, hok, hcl, hld, hob, h => by
    simp only [regM, Option.some.injEq, Prod.mk.injEq] at h
    obtain ⟨rfl, rfl⟩ := h
    exact ⟨hob, by simpa [okPlan] using hok, rfl, rfl⟩
  | (i, c) :: r, l, tm, M, pend, hok, hcl, hld, hob, h => by
    simp only [okPlan, Bool.and_eq_true] at hok
    obtain ⟨hok1, hok2⟩ := hok
    simp only [regM] at h
    split at h
    · rename_i o ho
      simp only [ho, Bool.and_eq_true] at hok1
      obtain ⟨hdst, hok1⟩ := hok1
      have hd := dstB_sound hdst
      split at h
      · rename_i v M1 hop
        rw [runF_ev] at hop
        split at h
        · rename_i tm1 htm
          have hF := putF_tm htm
          have obSet : ∀ (pend : List Pend) (l : Array Bool) (M : Mem), ObP P V callf ops pend l M → ObP P V callf ops pend (l.setIfInBounds i true) M := by
            intro pend l M hb p hp
            rcases hb p hp with ⟨j, h1, h2⟩ | h1
            · exact .inl ⟨j, set_mono h1, h2⟩
            · exact .inr h1
          have obBack : soleB P ops i = false → ∀ (pend : List Pend) (l : Array Bool) (M : Mem), i < l.size → ObP P V callf ops pend (l.setIfInBounds i true) M → ObP P V callf ops pend l M := by
            intro hsole pend l M hil hb p hp
            rcases hb p hp with ⟨j, h1, h2, h3⟩ | h1
            · rw [set_getD hil] at h1
              by_cases e : i = j
              · subst e; rw [hsole] at h2; cases h2
              · rw [if_neg e] at h1; exact .inl ⟨j, h1, h2, h3⟩
            · exact .inr h1
          split at h
          · -- silent
            simp only [Bool.and_eq_true] at hok1
            obtain ⟨⟨hr, hs⟩, hcc⟩ := hok1
            have hr' : i ∈ Region.ready .any ops l := by simpa using hr
            obtain ⟨rfl, hst⟩ := runF_silent hs hop
            have ih := regM_any r _ tm1 M1 pend hok2 (hcl.set hr') hld (obSet _ _ _ hob) h
            rw [hF] at ih
            refine first (tmGet tm) ho hd (fun l2 F2 M2 _ _ _ hag => ?_) (obBack (by simp [soleB, ho, hs]) pend) _ _ _ _ hr' hcl (concB_sound hcc) (fun _ _ => rfl) ih
            rw [runF_congr hag]; exact hst M2
          · -- a load
            simp only [Bool.and_eq_true] at hok1
            obtain ⟨⟨hr, hs⟩, hcc⟩ := hok1
            have hr' : i ∈ Region.ready .any ops l := by simpa using hr
            have := runF_load hs hop
            subst this
            have hob2 : ObP P V callf ops (⟨i, o, tm, v⟩ :: pend) (l.setIfInBounds i true) M1 := by
              intro p hp
              rcases List.mem_cons.1 hp with e | e
              · subst e; exact .inr hop
              · exact obSet _ _ _ hob p e
            have ih := regM_any r _ tm1 M1 (⟨i, o, tm, v⟩ :: pend) hok2 (hcl.set hr') (fun p hp => by
              rcases List.mem_cons.1 hp with e | e
              · subst e; exact hs
              · exact hld p e) hob2 h
            rw [hF] at ih
            have hsole : soleB P ops i = false := by simp [soleB, ho, hs]
            have := first (tmGet tm) ho hd (fun l2 F2 M2 hc2 hi2 hb2 hag => ?_) (obBack hsole _) _ _ _ _ hr' hcl (concB_sound hcc) (fun _ _ => rfl) ih
            · exact AnyO.mono (fun _ => True) (fun _ _ _ => trivial) (fun l M _ hb p hp => hb p (by simp [hp])) trivial this
            · rw [runF_congr hag]
              rcases hb2 ⟨i, o, tm, v⟩ (by simp) with ⟨j, h1, h2, h3⟩ | h1
              · have := anc_closed hc2 _ _ _ h3 h1
                rw [hi2] at this; cases this
              · exact h1
          · -- nothing else is ready
            rename_i hc0 hc1
            have hr1 : Region.ready .any ops l = [i] := by
              have hm : (match Region.ready .any ops l with | [j] => Nat.beq j i | _ => false) = true := by
                revert hok1
                split
                · exact absurd rfl hc0
                · exact absurd rfl hc1
                · exact id
              revert hm
              split
              · rename_i j hj
                intro hq
                rw [hj, Nat.eq_of_beq_eq_true hq]
              · intro hq; cases hq
            split at h
            · rename_i pend' hrc
              obtain ⟨h1, h2⟩ := recheck_sound hld hrc
              have hr' : i ∈ Region.ready .any ops l := by rw [hr1]; simp
              obtain ⟨o', ho', hil, _⟩ := mem_ready.1 hr'
              have ih := regM_any r _ tm1 M1 pend' hok2 (hcl.set hr') (fun p hp => hld p (h1 p hp).1) (fun p hp => .inr (h1 p hp).2) h
              rw [hF] at ih
              refine ⟨hob, fun h0 => (by rw [hr1] at h0; cases h0), fun i' hi' => ?_⟩
              rw [hr1] at hi'
              have : i' = i := by simpa using hi'
              subst this
              refine ⟨o, v, M1, ho, hop, hd, AnyO.mono (fun l => l.getD i' false = true) (fun _ _ => set_mono) (fun l M hl hb p hp => ?_) (by rw [set_getD (getD_lt hil)]; simp) ih⟩
              rcases h2 p hp with h3 | h3
              · exact hb p h3
              · exact .inl ⟨i', hl, h3.1, h3.2⟩
            · cases h
        · cases h
      · cases h
    · cases h
end
end Go.Ev
