/- The evaluator: a region that draws its order, in which one new variable is made beside a call: the evaluator makes it last. -/
import Derived.Test.YtghcpfgpmliiaaaGreatDoorEvQ6
namespace Go.Ev
open Go (Region.ready)

/-! ### The operations with the new variable made behind others -/
def lateOp (pre : List Nat) (o : Oper) : Oper := { o with after := o.after ++ (pre.map fun p => ({ on := p, ground := .data } : Edge)).toArray }

def lateOps (ops : Array Oper) (j : Nat) (pre : List Nat) : Array Oper := ops.modify j (lateOp pre)

theorem lateOps_at {ops : Array Oper} {j : Nat} {pre : List Nat} (i : Nat) : (lateOps ops j pre)[i]? = if j = i then (ops[i]?).map (lateOp pre) else ops[i]? := by
  unfold lateOps
  rw [Array.getElem?_modify]

theorem bnd_late {pre : List Nat} {o : Oper} {k : Nat} : k ∈ bnd (lateOp pre o) ↔ k ∈ bnd o ∨ k ∈ pre := by
  rw [mem_bnd, mem_bnd]
  constructor
  · rintro ⟨e, he, hb, rfl⟩
    simp only [lateOp, Array.mem_append, List.mem_toArray, List.mem_map] at he
    rcases he with he | ⟨p, hp, rfl⟩
    · exact .inl ⟨e, he, hb, rfl⟩
    · exact .inr hp
  · rintro (⟨e, he, hb, rfl⟩ | h)
    · exact ⟨e, by simp [lateOp, he], hb, rfl⟩
    · exact ⟨{ on := k, ground := .data }, by simp only [lateOp, Array.mem_append, List.mem_toArray, List.mem_map]; exact .inr ⟨k, h, rfl⟩, rfl, rfl⟩

/-- What is asked of the operations. -/
structure LateOk (P : Program) (nt : Nat) (ops : Array Oper) (j : Nat) (pre : List Nat) (oj : Oper) (t : TypeId) (d : Tmp) (z : MV) : Prop where
  at_ : ops[j]? = some oj
  op : oj.op = .alloc t
  dst : oj.dst = some d
  guard : oj.guard = none
  zero : zeroOf P t = some z
  room : d < nt
  free : bnd oj = []
  ahead : ∀ p ∈ pre, p ≠ j ∧ p < ops.size
  back : ∀ i oi, ops[i]? = some oi → ∀ e ∈ bnd oi, e < i
  deps : ∀ i oi, ops[i]? = some oi → j ∈ bnd oi → ∀ p ∈ pre, ancB ops 8 i p = true
  looks : ∀ i oi, ops[i]? = some oi → i ≠ j → (d ∈ oi.looksAt ops → j ∈ bnd oi) ∧ oi.dst ≠ some d

def allOps (ops : Array Oper) (p : Nat → Oper → Bool) : Bool := (List.range ops.size).all fun i => match ops[i]? with | some o => p i o | none => true

theorem allOps_sound {ops : Array Oper} {p : Nat → Oper → Bool} (h : allOps ops p = true) {i : Nat} {o : Oper} (ho : ops[i]? = some o) : p i o = true := by
  unfold allOps at h
  rw [List.all_eq_true] at h
  have := h i (by simpa using (Array.getElem?_eq_some_iff.1 ho).1)
  simpa [ho] using this

def lateB (P : Program) (nt : Nat) (ops : Array Oper) (j : Nat) (pre : List Nat) : Bool :=
  match ops[j]? with
  | some oj => match oj.op, oj.dst, oj.guard with
    | .alloc t, some d, none => (zeroOf P t).isSome && Nat.blt d nt && (bnd oj).isEmpty && (pre.all fun p => !(Nat.beq p j) && Nat.blt p ops.size) &&
        (allOps ops fun i oi => (bnd oi).all fun e => Nat.blt e i) &&
        (allOps ops fun i oi => !((bnd oi).contains j) || pre.all fun p => ancB ops 8 i p) &&
        (allOps ops fun i oi => Nat.beq i j || ((!((oi.looksAt ops).contains d) || (bnd oi).contains j) && (match oi.dst with | some e => !(Nat.beq e d) | none => true)))
    | _, _, _ => false
  | none => false

theorem lateB_sound {P : Program} {nt : Nat} {ops : Array Oper} {j : Nat} {pre : List Nat} (h : lateB P nt ops j pre = true) : ∃ oj t d z, LateOk P nt ops j pre oj t d z := by
  unfold lateB at h
  split at h
  · rename_i oj hj
    split at h
    · rename_i t d ho hd hg
      simp only [Bool.and_eq_true] at h
      obtain ⟨⟨⟨⟨⟨⟨hz, hr⟩, h1⟩, h2⟩, h3⟩, h4⟩, h5⟩ := h
      obtain ⟨z, hz⟩ := Option.isSome_iff_exists.1 hz
      refine ⟨oj, t, d, z, hj, ho, hd, hg, hz, by simpa using hr, by simpa using h1, fun p hp => ?_, fun i oi hi e he => ?_, fun i oi hi hb p hp => ?_, fun i oi hi hne => ?_⟩
      · have := List.all_eq_true.1 h2 p hp
        simp only [Bool.and_eq_true, Bool.not_eq_true', Nat.blt_eq] at this
        exact ⟨fun e => by rw [e] at this; simp at this, this.2⟩
      · have := allOps_sound h3 hi
        have := List.all_eq_true.1 this e he
        simpa using this
      · have := allOps_sound h4 hi
        simp only [Bool.or_eq_true, Bool.not_eq_true'] at this
        rcases this with h6 | h6
        · exfalso
          rw [← Bool.not_eq_true] at h6
          exact h6 (by simpa using hb)
        · exact List.all_eq_true.1 h6 p hp
      · have := allOps_sound h5 hi
        simp only [Bool.or_eq_true, Bool.and_eq_true, Bool.not_eq_true'] at this
        rcases this with h6 | ⟨h6, h7⟩
        · exact absurd (Nat.eq_of_beq_eq_true h6) hne
        · refine ⟨fun hl => ?_, fun hd2 => ?_⟩
          · rcases h6 with h6 | h6
            · exfalso
              rw [← Bool.not_eq_true] at h6
              exact h6 (by simpa using hl)
            · simpa using h6
          · rw [hd2] at h7
            simp at h7
    · cases h
  · cases h

section
variable {P : Program} {V : Env} {callf : CallF} {ops : Array Oper} {nt : Nat} {j : Nat} {pre : List Nat} {oj : Oper} {t : TypeId} {d : Tmp}

theorem want_late {F : Nat → MV} {o : Oper} : wantM (lateOps ops j pre) F o = wantM ops F o := by
  unfold wantM
  cases o.guard with
  | none => rfl
  | some q =>
    obtain ⟨k, want⟩ := q
    simp only
    rw [lateOps_at]
    by_cases e : j = k
    · rw [if_pos e]
      cases ops[k]? <;> rfl
    · rw [if_neg e]

theorem runF_late {F : Nat → MV} {M : Mem} {o : Oper} : runF P V callf (lateOps ops j pre) F M o = runF P V callf ops F M o := by
  unfold runF opRun
  rw [want_late]

theorem runF_late' {F : Nat → MV} {M : Mem} {o : Oper} : runF P V callf ops F M (lateOp pre o) = runF P V callf ops F M o := rfl

/-- At most so many are not listed. -/
def Left (ops : Array Oper) (l : Array Bool) (n : Nat) : Prop := ∀ L : List Nat, L.Nodup → (∀ i ∈ L, i < ops.size ∧ l.getD i true = false) → L.length ≤ n

theorem Left.set {l : Array Bool} {n i : Nat} (h : Left ops l (n + 1)) (hi : i < ops.size) (hl : l.getD i true = false) : Left ops (l.setIfInBounds i true) n := by
  intro L hL hall
  have hil : i < l.size := getD_lt hl
  have hni : i ∉ L := by
    intro hm
    have := (hall i hm).2
    rw [set_getD hil, if_pos rfl] at this
    cases this
  have := h (i :: L) (List.nodup_cons.2 ⟨hni, hL⟩) (fun k hk => by
    rcases List.mem_cons.1 hk with e | e
    · subst e; exact ⟨hi, hl⟩
    · have := hall k e
      rw [set_getD hil] at this
      by_cases e2 : i = k
      · rw [if_pos e2] at this; cases this.2
      · rw [if_neg e2] at this; exact this)
  simpa using this

theorem Left.none {l : Array Bool} (h : Left ops l 0) {i : Nat} (hi : i < ops.size) : l.getD i true = true := by
  cases hq : l.getD i true with
  | true => rfl
  | false =>
    have := h [i] (by simp) (fun k hk => by simp at hk; subst hk; exact ⟨hi, hq⟩)
    simp at this

theorem nodup_le : ∀ (n : Nat) (L : List Nat), L.Nodup → (∀ i ∈ L, i < n) → L.length ≤ n
  | 0, L, _, h => by
    cases L with
    | nil => simp
    | cons x L => exact absurd (h x (by simp)) (by omega)
  | n + 1, L, hL, h => by
    by_cases hm : n ∈ L
    · have h1 := nodup_le n (L.erase n) (hL.erase n) (fun i hi => by
        have h2 := h i (List.mem_of_mem_erase hi)
        have h3 : i ≠ n := fun e => by subst e; exact (List.Nodup.not_mem_erase hL) hi
        omega)
      rw [List.length_erase_of_mem hm] at h1
      omega
    · have := nodup_le n L hL (fun i hi => by
        have h2 := h i hi
        have h3 : i ≠ n := fun e => hm (e ▸ hi)
        omega)
      omega

theorem Left.start (ops : Array Oper) (l : Array Bool) : Left ops l ops.size := fun L hL hall => nodup_le _ L hL fun i hi => (hall i hi).1

/-- Where something is not listed something is ready. -/
theorem ready_of_left (hback : ∀ i oi, ops[i]? = some oi → ∀ e ∈ bnd oi, e < i) {l : Array Bool} : ∀ i, i < ops.size → l.getD i true = false → l.size = ops.size → Region.ready .any ops l ≠ [] := by
  intro i
  induction i using Nat.strongRecOn with
  | _ i ih =>
    intro hi hl hs hnil
    have ho : ops[i]? = some ops[i] := by simp [hi]
    by_cases hall : ∀ k ∈ bnd ops[i], l.getD k false = true
    · have := mem_ready.2 ⟨_, ho, hl, hall⟩
      rw [hnil] at this; cases this
    · simp only [Classical.not_forall] at hall
      obtain ⟨k, hk, hkl⟩ := hall
      have hki := hback i _ ho k hk
      refine ih k hki (by omega) ?_ hs hnil
      have : l.getD k false = false := by simpa using hkl
      have hks : k < l.size := by omega
      simpa [Array.getD_eq_getD_getElem?, hks] using this

theorem all_listed (hback : ∀ i oi, ops[i]? = some oi → ∀ e ∈ bnd oi, e < i) {l : Array Bool} (hs : l.size = ops.size) (h : Region.ready .any ops l = []) {i : Nat} (hi : i < ops.size) : l.getD i true = true := by
  cases hq : l.getD i true with
  | true => rfl
  | false => exact absurd h (ready_of_left hback i hi hq hs)

/-! ### The model makes the variable: a block that the evaluator does not know yet -/
theorem alloc_exec {z : MV} {oj : Oper} (hop : oj.op = .alloc t) (hz : zeroOf P t = some z) : ∃ (l : List MV) (l' : List Value), z.cellsM = some l ∧ (∀ X, VRs X l l') ∧
    ∀ (ρ : Operand → Value) (W : World), (execOp ρ oj).run P W = .ok (.value (.pointer (some ⟨W.heap.size, 0, none⟩))) (W.alloc (.cells ⟨l'⟩ t)) := by
  obtain ⟨zv, zl, hzr, hzv, hzc, _⟩ := zero_run hz
  refine ⟨zl, zv.cells.toList, hzc, fun X => (hzv X).cells hzc, fun ρ W => ?_⟩
  simp only [execOp, hop, Instr.alloc, Sem.run_bind, hzr W, Result.andThen_ok]
  simp [newVar, Go.newRow]

def keepAlso (base : Fr) (n : Nat) (o : Obj) : Nat → Option Obj := fun m => if m = n then some o else base.keep m

theorem MemR.keepMore {X : Cx} {base : Fr} {W0 W : World} {M : Mem} (h : MemR X base W0 M W) (o : Obj) : MemR X ⟨base.own, keepAlso base W.heap.size o⟩ W0 M (W.alloc o) := by
  have hb := h.bound
  refine ⟨fun b mb hm => ?_, h.inj, fun b x hx => ?_, h.fresh, h.own, h.below.alloc o, fun n o' hk => ?_, h.ro⟩
  · obtain ⟨n, d, z, o1, h1, h2, h3⟩ := h.live b mb hm
    exact ⟨n, d, z, o1, h1, (RowKit.Below.heap_alloc _ _ _ (hb _ _ h1)).trans h2, h3⟩
  · rw [World.size_alloc]; have := hb b x hx; omega
  · have hk : (if n = W.heap.size then some o else base.keep n) = some o' := hk
    by_cases e : n = W.heap.size
    · rw [if_pos e] at hk
      simp only [Option.some.injEq] at hk; subst hk; subst e
      refine ⟨alloc_new W o, fun b x _ hx e => ?_, fun b m x _ hx e => ?_⟩
      · have := hb b x hx; omega
      · have := hb b x hx; omega
    · rw [if_neg e] at hk
      obtain ⟨h1, h2, h3⟩ := h.keep n o' hk
      exact ⟨(RowKit.Below.heap_alloc _ _ _ (Array.getElem?_eq_some_iff.1 h1).1).trans h1, h2, h3⟩

/-- The evaluator makes it then. -/
theorem MemR.adopt {X : Cx} {base : Fr} {W0 W : World} {M M' : Mem} {np b : Nat} {e : TypeId} {l : List MV} {l' : List Value} (h : MemR X ⟨base.own, keepAlso base np (.cells ⟨l'⟩ e)⟩ W0 M W) (hnp : W0.heap.size ≤ np) (hk : base.keep np = none)
    (hv : ∀ X, VRs X l l') (hc : M.newRow e l = some (b, M')) : X.Le (X.add b (np, 0, l'.length)) ∧ MemR (X.add b (np, 0, l'.length)) base W0 M' W := by
  unfold Mem.newRow Mem.new at hc
  cases hcond : Nat.blt M.next top with
  | false => rw [hcond] at hc; cases hc
  | true =>
    rw [hcond] at hc
    simp only [cond_true, Option.some.injEq, Prod.mk.injEq] at hc
    obtain ⟨rfl, rfl⟩ := hc
    have ht : M.next < top := by simpa using hcond
    have hnone : X.ρ M.next = none := h.fresh _ (Nat.le_refl _)
    have hle : X.Le (X.add M.next (np, 0, l'.length)) := Cx.add_le hnone
    have hg : ∀ i, (Tr.set 23 M.h M.next (some (.cells l e .none true))).get i = if i = M.next then some (.cells l e .none true) else M.h.get i := fun i => Tr.get_set _ _ _ _ _ (top_lt ht)
    obtain ⟨k1, k2, k3⟩ := h.keep np (.cells ⟨l'⟩ e) (by simp [keepAlso])
    refine ⟨hle, ?_⟩
    constructor
    · intro i m hi
      rw [hg] at hi
      by_cases e' : i = M.next
      · subst e'; simp only [if_true, Option.some.injEq] at hi; subst hi
        refine ⟨np, 0, l'.length, _, Cx.add_same _ _ _, k1, l', (0, 0), e, rfl, rfl, by rw [(hv X).length]; omega, ?_, rfl, fun _ => ⟨rfl, (hv X).length⟩, fun _ => rfl⟩
        rw [List.drop_zero, List.take_of_length_le (by rw [(hv X).length]; omega)]; exact hv _
      · rw [if_neg e'] at hi
        obtain ⟨n1, d1, z1, o1, h1, h2, h3⟩ := h.live i m hi
        exact ⟨n1, d1, z1, o1, hle.1 _ _ h1, h2, h3.mono hle⟩
    · intro b1 b2 m1 m2 hr h1 h2 hne x1 x2 e1 e2
      rw [hg] at h1 h2
      by_cases c1 : b1 = M.next
      · have c2 : b2 ≠ M.next := fun e => hne (c1.trans e.symm)
        rw [if_neg c2] at h2
        rw [c1, Cx.add_same] at e1
        rw [Cx.add_ne _ _ c2] at e2
        simp only [Option.some.injEq] at e1
        subst e1
        exact fun e => k3 _ _ _ h2 e2 e.symm
      · rw [if_neg c1] at h1
        rw [Cx.add_ne _ _ c1] at e1
        by_cases c2 : b2 = M.next
        · rw [c2, Cx.add_same] at e2
          simp only [Option.some.injEq] at e2
          subst e2
          exact k3 _ _ _ h1 e1
        · rw [if_neg c2] at h2
          rw [Cx.add_ne _ _ c2] at e2
          exact h.inj b1 b2 _ _ hr h1 h2 hne x1 x2 e1 e2
    · intro b x hx
      by_cases e' : b = M.next
      · subst e'; rw [Cx.add_same] at hx; simp only [Option.some.injEq] at hx; subst hx
        exact (Array.getElem?_eq_some_iff.1 k1).1
      · rw [Cx.add_ne _ _ e'] at hx; exact h.bound _ _ hx
    · intro b hb
      have hb' : M.next + 1 ≤ b := hb
      rw [Cx.add_ne _ _ (by omega)]
      exact h.fresh b (by omega)
    · intro b x hb hx
      by_cases e' : b = M.next
      · subst e'; rw [Cx.add_same] at hx; simp only [Option.some.injEq] at hx; subst hx
        exact .inr hnp
      · rw [Cx.add_ne _ _ e'] at hx; exact h.own b x hb hx
    · exact h.below
    · intro m o' ho'
      have hne : m ≠ np := fun e => by rw [e, hk] at ho'; cases ho'
      obtain ⟨h1, h2, h3⟩ := h.keep m o' (by simp only [keepAlso]; rw [if_neg hne]; exact ho')
      refine ⟨h1, fun b x hb hx => ?_, fun b m' x hb hx => ?_⟩
      · by_cases e' : b = M.next
        · subst e'; rw [Cx.add_same] at hx; simp only [Option.some.injEq] at hx; subst hx
          exact fun e => hne e.symm
        · rw [Cx.add_ne _ _ e'] at hx; exact h2 b x hb hx
      · rw [hg] at hb
        by_cases e' : b = M.next
        · subst e'; rw [Cx.add_same] at hx; simp only [Option.some.injEq] at hx; subst hx
          exact fun e => hne e.symm
        · rw [if_neg e'] at hb; rw [Cx.add_ne _ _ e'] at hx; exact h3 b m' x hb hx
    · have := h.ro; show M.ro ≤ M.next + 1; omega
end
end Go.Ev
