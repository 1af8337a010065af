/- The evaluator: a region that draws its order, in which one new variable is made beside a call, in the model. -/
import Derived.Test.YtghcpfgpmliiaaaGreatDoorEvQ7
namespace Go.Ev
open Go (Region.ready)

section
variable {P : Program} {V : Env} {callf : CallF} {ops : Array Oper} {nt : Nat} {j : Nat} {pre : List Nat} {oj : Oper} {t : TypeId} {d : Tmp} {z : MV}
  {Ob : Array Bool → Mem → Prop} {Q : (Nat → MV) → Mem → Prop} {k : List Item} {b : Frame} {cs : List Frame} {base : Fr} {W0 : World}

/-- Where the region comes out. -/
def LGoal (P : Program) (nt : Nat) (Q : (Nat → MV) → Mem → Prop) (k : List Item) (b : Frame) (cs : List Frame) (base : Fr) (W0 : World) (X : Cx) (a : Act) (m : Machine) : Prop :=
  ∃ F' M' X' W' a', Q F' M' ∧ X.Le X' ∧ MemR X' base W0 M' W' ∧ TF X' nt F' a'.tmps ∧ a'.defers = a.defers ∧ Steps P m (lone (b.atR a' k) cs W')

theorem LGoal.head {X X1 : Cx} {a a1 : Act} {m m1 : Machine} (hs : Steps P m m1) (hle : X.Le X1) (hd : a1.defers = a.defers) (h : LGoal P nt Q k b cs base W0 X1 a1 m1) : LGoal P nt Q k b cs base W0 X a m := by
  obtain ⟨F', M', X', W', a', h1, h2, h3, h4, h5, h6⟩ := h
  exact ⟨F', M', X', W', a', h1, hle.trans h2, h3, h4, h5.trans hd, hs.trans h6⟩

def ModeN (P : Program) (V : Env) (callf : CallF) (ops : Array Oper) (nt j : Nat) (pre : List Nat) (Ob : Array Bool → Mem → Prop) (Q : (Nat → MV) → Mem → Prop) (k : List Item) (b : Frame) (cs : List Frame) (base : Fr) (W0 : World) (n : Nat) : Prop :=
  ∀ (q : Nat) (l : Array Bool) (F : Nat → MV) (M : Mem) (X : Cx) (W : World) (a : Act), AnyO P V callf (lateOps ops j pre) nt Ob Q n l F M → l.size = ops.size → Closed ops l → Left ops l n → TF X nt F a.tmps → GX P V base W0 X → MemR X base W0 M W →
    LGoal P nt Q k b cs base W0 X a (lone (b.atR a (.inRegion ops (Region.linearise.go .any ops n q l []) :: k)) cs W)

def ModeP (P : Program) (V : Env) (callf : CallF) (ops : Array Oper) (nt j : Nat) (pre : List Nat) (t : TypeId) (d : Tmp) (z : MV) (Ob : Array Bool → Mem → Prop) (Q : (Nat → MV) → Mem → Prop) (k : List Item) (b : Frame) (cs : List Frame) (base : Fr) (W0 : World) (n : Nat) : Prop :=
  ∀ (q : Nat) (l lE : Array Bool) (F : Nat → MV) (M : Mem) (X : Cx) (W : World) (a : Act) (np : Nat) (zl : List MV) (zl' : List Value), l = lE.setIfInBounds j true → lE.getD j true = false → AnyO P V callf (lateOps ops j pre) nt Ob Q (n + 1) lE F M →
    l.size = ops.size → Closed ops l → Left ops l n → TF X nt (putF F (some d) .hid) a.tmps → a.tmps.getD d undef = .pointer (some ⟨np, 0, none⟩) → GX P V base W0 X → MemR X ⟨base.own, keepAlso base np (.cells ⟨zl'⟩ t)⟩ W0 M W →
    W0.heap.size ≤ np → base.keep np = none → z.cellsM = some zl → (∀ Y, VRs Y zl zl') →
    LGoal P nt Q k b cs base W0 X a (lone (b.atR a (.inRegion ops (Region.linearise.go .any ops n q l []) :: k)) cs W)

theorem ready_late (L : LateOk P nt ops j pre oj t d z) {l : Array Bool} {i : Nat} (hi : i ≠ j) : i ∈ Region.ready .any (lateOps ops j pre) l ↔ i ∈ Region.ready .any ops l := by
  rw [mem_ready, mem_ready, lateOps_at, if_neg (fun e => hi e.symm)]

theorem ready_late_j (L : LateOk P nt ops j pre oj t d z) {l : Array Bool} : j ∈ Region.ready .any (lateOps ops j pre) l ↔ l.getD j true = false ∧ ∀ p ∈ pre, l.getD p false = true := by
  rw [mem_ready]
  constructor
  · rintro ⟨o, ho, h1, h2⟩
    rw [lateOps_at, if_pos rfl, L.at_] at ho
    simp only [Option.map_some, Option.some.injEq] at ho
    subst ho
    exact ⟨h1, fun p hp => h2 p (bnd_late.2 (.inr hp))⟩
  · rintro ⟨h1, h2⟩
    refine ⟨lateOp pre oj, by rw [lateOps_at, if_pos rfl, L.at_]; rfl, h1, fun p hp => ?_⟩
    rcases bnd_late.1 hp with h | h
    · rw [L.free] at h; cases h
    · exact h2 p h

/-- The evaluator makes the variable. -/
theorem materialize (L : LateOk P nt ops j pre oj t d z) {n q : Nat} (hN : ModeN P V callf ops nt j pre Ob Q k b cs base W0 n) {l lE : Array Bool} {F : Nat → MV} {M : Mem} {X : Cx} {W : World} {a : Act} {np : Nat} {zl : List MV} {zl' : List Value}
    (hl : l = lE.setIfInBounds j true) (hany : AnyO P V callf (lateOps ops j pre) nt Ob Q (n + 1) lE F M) (hsz : l.size = ops.size) (hcl : Closed ops l) (hleft : Left ops l n) (ht : TF X nt (putF F (some d) .hid) a.tmps) (hptr : a.tmps.getD d undef = .pointer (some ⟨np, 0, none⟩))
    (hg : GX P V base W0 X) (hm : MemR X ⟨base.own, keepAlso base np (.cells ⟨zl'⟩ t)⟩ W0 M W) (hnp : W0.heap.size ≤ np) (hk : base.keep np = none) (hzl : z.cellsM = some zl) (hv : ∀ Y, VRs Y zl zl') (hr : j ∈ Region.ready .any (lateOps ops j pre) lE) :
    LGoal P nt Q k b cs base W0 X a (lone (b.atR a (.inRegion ops (Region.linearise.go .any ops n q l []) :: k)) cs W) := by
  obtain ⟨_, _, h1⟩ := hany
  obtain ⟨o, v, M1, ho, hrun, hd, hrest⟩ := h1 j hr
  rw [lateOps_at, if_pos rfl, L.at_] at ho
  simp only [Option.map_some, Option.some.injEq] at ho
  subst ho
  rw [runF_late, runF_late'] at hrun
  have hdst : (lateOp pre oj).dst = some d := L.dst
  rw [hdst] at hrest
  -- what the evaluator did
  unfold runF opRun at hrun
  have hw : wantM ops F oj = some true := by unfold wantM; rw [L.guard]
  rw [hw] at hrun
  simp only [opVal] at hrun
  have hnew : M.newVar t z = some (v, M1) := by
    split at hrun
    · rename_i u M2 hop
      simp only [Option.some.injEq, Prod.mk.injEq] at hrun
      obtain ⟨rfl, rfl⟩ := hrun
      rcases opH_inv hop with hop | ⟨_, hdf, _⟩
      · unfold opM at hop
        simp only [L.op, L.zero] at hop
        obtain ⟨v0, hv0, hval⟩ := v2_inv hop
        simp only [Res.val.injEq] at hval
        subst hval
        exact hv0
      · rw [L.op] at hdf; cases hdf
    · rename_i M2 hop
      rcases opH_inv hop with hop | ⟨_, hdf, _⟩
      · unfold opM at hop
        simp only [L.op, L.zero] at hop
        obtain ⟨_, _, hval⟩ := v2_inv hop
        cases hval
      · rw [L.op] at hdf; cases hdf
    · rename_i tg args M2 hop
      rcases opH_inv hop with hop | ⟨_, hdf, _⟩
      · unfold opM at hop
        simp only [L.op, L.zero] at hop
        obtain ⟨_, _, hval⟩ := v2_inv hop
        cases hval
      · rw [L.op] at hdf; cases hdf
    · cases hrun
  unfold Mem.newVar at hnew
  rw [hzl] at hnew
  simp only at hnew
  split at hnew
  · rename_i bb M2 hrow
    simp only [Option.some.injEq, Prod.mk.injEq] at hnew
    obtain ⟨rfl, rfl⟩ := hnew
    obtain ⟨hle, hm1⟩ := hm.adopt hnp hk hv hrow
    have hvp : VR (X.add bb (np, 0, zl'.length)) (.p bb 0) (.pointer (some ⟨np, 0, none⟩)) := by
      have := VR.p (X := X.add bb (np, 0, zl'.length)) (blk := bb) (off := 0) (Cx.add_same X bb (np, 0, zl'.length))
      simpa using this
    have ht1 : TF (X.add bb (np, 0, zl'.length)) nt (putF F (some d) (.p bb 0)) a.tmps := by
      refine ⟨ht.1, fun i => ?_⟩
      by_cases e : d = i
      · subst e
        rw [hptr]
        simpa [putF] using hvp
      · have := (ht.2 i).mono hle
        rw [putF_ne (by simpa using e)] at this ⊢
        exact this
    rw [← hl] at hrest
    exact LGoal.head (Steps.refl P _) hle rfl (hN q l _ _ _ W a hrest hsz hcl hleft ht1 (hg.mono hle) hm1)
  · cases hnew

theorem set_comm {l : Array Bool} {i j : Nat} : (l.setIfInBounds i true).setIfInBounds j true = (l.setIfInBounds j true).setIfInBounds i true := by
  by_cases e : i = j
  · subst e; rfl
  · apply Array.ext'
    simp only [Array.toList_setIfInBounds]
    exact List.set_comm _ _ e

theorem late_modes (hV : ∀ f x, V.ext f = some x → ExtOk P f x) (hcall : CallOk P V callf) (L : LateOk P nt ops j pre oj t d z) : ∀ n, ModeN P V callf ops nt j pre Ob Q k b cs base W0 n ∧ ModeP P V callf ops nt j pre t d z Ob Q k b cs base W0 n := by
  have hj : j < ops.size := (Array.getElem?_eq_some_iff.1 L.at_).1
  -- from the evaluator's row to the model's
  have toE : ∀ {l lE : Array Bool}, l = lE.setIfInBounds j true → lE.getD j true = false → ∀ i d', i ≠ j → l.getD i d' = lE.getD i d' := by
    intro l lE hl hlE i d' hi
    rw [hl, set_getD (getD_lt hlE), if_neg (fun e => hi e.symm)]
  -- a row that is all listed: the variable is ready
  have jready : ∀ {l lE : Array Bool}, l = lE.setIfInBounds j true → lE.getD j true = false → l.size = ops.size → (∀ p ∈ pre, l.getD p true = true) → j ∈ Region.ready .any (lateOps ops j pre) lE := by
    intro l lE hl hlE hsz hall
    refine (ready_late_j L).2 ⟨hlE, fun p hp => ?_⟩
    obtain ⟨hpj, hps⟩ := L.ahead p hp
    have h1 := hall p hp
    rw [toE hl hlE p true hpj] at h1
    have h2 : p < lE.size := by rw [hl] at hsz; simp at hsz; omega
    simpa [Array.getD_eq_getD_getElem?, h2] using h1
  have stepP : ∀ n, ModeN P V callf ops nt j pre Ob Q k b cs base W0 n → (∀ m, n = m + 1 → ModeP P V callf ops nt j pre t d z Ob Q k b cs base W0 m) → ModeP P V callf ops nt j pre t d z Ob Q k b cs base W0 n := by
    intro n hN hP q l lE F M X W a np zl zl' hl hlE hany hsz hcl hleft ht hptr hg hm hnp hk hzl hv
    have mat := fun hr => materialize (q := q) L hN hl hany hsz hcl hleft ht hptr hg hm hnp hk hzl hv hr
    cases n with
    | zero =>
      exact mat (jready hl hlE hsz fun p hp => hleft.none (L.ahead p hp).2)
    | succ n =>
      cases hi : (Region.ready .any ops l)[q % (Region.ready .any ops l).length]? with
      | none =>
        have hnil : Region.ready .any ops l = [] := by
          cases hr : Region.ready .any ops l with
          | nil => rfl
          | cons x xs =>
            rw [hr] at hi
            have hlt : q % (x :: xs).length < (x :: xs).length := Nat.mod_lt _ (by simp)
            simp at hi
            simp at hlt
            omega
        exact mat (jready hl hlE hsz fun p hp => all_listed L.back hsz hnil (L.ahead p hp).2)
      | some i =>
        have hir := List.mem_of_getElem? hi
        obtain ⟨oi, hoi, hil, hdeps⟩ := mem_ready.1 hir
        have hij : i ≠ j := by
          rintro rfl
          rw [hl, set_getD (getD_lt hlE), if_pos rfl] at hil
          cases hil
        by_cases hb : j ∈ bnd oi
        · refine mat (jready hl hlE hsz fun p hp => ?_)
          have ha := L.deps i oi hoi hb p hp
          have hlp : l.getD p false = true := by
            have ha' : (match ops[i]? with | some oj => (bnd oj).any fun e => Nat.beq e p || ancB ops 7 e p | none => false) = true := ha
            rw [hoi] at ha'
            simp only [List.any_eq_true, Bool.or_eq_true] at ha'
            obtain ⟨e, he, h1⟩ := ha'
            rcases h1 with h1 | h1
            · rw [← Nat.eq_of_beq_eq_true h1]; exact hdeps e he
            · exact anc_closed hcl _ _ _ h1 (hdeps e he)
          have hps : p < l.size := by rw [hsz]; exact (L.ahead p hp).2
          simpa [Array.getD_eq_getD_getElem?, hps] using hlp
        · -- the evaluator takes the same step
          have hrE : i ∈ Region.ready .any (lateOps ops j pre) lE := by
            rw [ready_late L hij, mem_ready]
            refine ⟨oi, hoi, by rw [← toE hl hlE i true hij]; exact hil, fun e he => ?_⟩
            have hej : e ≠ j := fun h => hb (h ▸ he)
            rw [← toE hl hlE e false hej]; exact hdeps e he
          obtain ⟨_, _, h1⟩ := hany
          obtain ⟨o, v, M1, ho, hrun, hd, hrest⟩ := h1 i hrE
          rw [lateOps_at, if_neg (fun e => hij e.symm), hoi] at ho
          simp only [Option.some.injEq] at ho
          subst ho
          rw [runF_late] at hrun
          obtain ⟨hlook, hdst⟩ := L.looks i oi hoi hij
          have hrun' : runF P V callf ops (putF F (some d) .hid) M oi = some (v, M1) := by
            rw [← hrun]
            refine runF_congr fun e he => ?_
            exact putF_ne (fun h => by
              simp only [Option.some.injEq] at h
              subst h
              exact hb (hlook he))
          obtain ⟨v', X1, W1, hle1, hm1, hv1, hs1⟩ := opRun_steps (base := ⟨base.own, keepAlso base np (.cells ⟨zl'⟩ t)⟩) (b := b) (cs := cs) (k := k) (rest := Region.linearise.go .any ops n (q / (Region.ready .any ops l).length) (l.setIfInBounds i true) []) hV hcall hrun' ht (.of_TF hg.gr ht) (hg.keeps _) hm hoi
          have hgo : Region.linearise.go .any ops (n + 1) q l [] = i :: Region.linearise.go .any ops n (q / (Region.ready .any ops l).length) (l.setIfInBounds i true) [] := by
            simp only [Region.linearise.go]
            change (match (Region.ready .any ops l)[q % (Region.ready .any ops l).length]? with
              | some i => Region.linearise.go .any ops n (q / (Region.ready .any ops l).length) (l.setIfInBounds i true) [i]
              | none => [].reverse) = _
            rw [hi]
            simp only []
            rw [linearise_go_acc, List.reverse_singleton, List.singleton_append]
          rw [hgo]
          refine LGoal.head hs1 hle1 (Act.put_defers' _ _ _) (hP n rfl (q / (Region.ready .any ops l).length) (l.setIfInBounds i true) (lE.setIfInBounds i true) (putF F oi.dst v) M1 X1 W1 (a.put oi.dst v') np zl zl' ?_ ?_ hrest (by simpa using hsz) (hcl.set hir) (hleft.set (Array.getElem?_eq_some_iff.1 hoi).1 hil) ?_ ?_ (hg.mono hle1) hm1 hnp hk hzl hv)
          · rw [hl, set_comm]
          · rw [set_getD (by have := getD_lt hil; rw [hl] at this; simpa using this), if_neg hij]; exact hlE
          · have := (ht.mono hle1).put hv1 hd
            rwa [putF_comm (fun i hi' hi2 => hdst (by rw [hi2, ← hi']))] at this
          · cases hdd : oi.dst with
            | none => exact hptr
            | some e =>
              have hne : e ≠ d := fun h => hdst (by rw [hdd, h])
              have : (a.put (some e) v').tmps = a.tmps.setIfInBounds e v' := rfl
              rw [this]
              simpa [Array.getD_eq_getD_getElem?, Array.getElem?_setIfInBounds_ne hne] using hptr
  intro n
  induction n with
  | zero =>
    have hN : ModeN P V callf ops nt j pre Ob Q k b cs base W0 0 := by
      intro q l F M X W a hany hsz hcl hleft ht hg hm
      refine ⟨F, M, X, W, a, hany.2.2, Cx.Le.refl X, hm, ht, rfl, ?_⟩
      simp only [Region.linearise.go, List.reverse_nil]
      exact .one stepR_region_end
    exact ⟨hN, stepP 0 hN fun m hm => by cases hm⟩
  | succ n ih =>
    have hN : ModeN P V callf ops nt j pre Ob Q k b cs base W0 (n + 1) := by
      intro q l F M X W a hany hsz hcl hleft ht hg hm
      cases hi : (Region.ready .any ops l)[q % (Region.ready .any ops l).length]? with
      | none =>
        have hnil : Region.ready .any ops l = [] := by
          cases hr : Region.ready .any ops l with
          | nil => rfl
          | cons x xs =>
            rw [hr] at hi
            have hlt : q % (x :: xs).length < (x :: xs).length := Nat.mod_lt _ (by simp)
            simp at hi
            simp at hlt
            omega
        have hnil' : Region.ready .any (lateOps ops j pre) l = [] := by
          rw [List.eq_nil_iff_forall_not_mem]
          intro i hi2
          obtain ⟨o, ho, h1, _⟩ := mem_ready.1 hi2
          have his : i < ops.size := by have := (Array.getElem?_eq_some_iff.1 ho).1; simpa [lateOps] using this
          rw [all_listed L.back hsz hnil his] at h1
          cases h1
        refine ⟨F, M, X, W, a, hany.2.1 hnil', Cx.Le.refl X, hm, ht, rfl, ?_⟩
        simp only [Region.linearise.go]
        change Steps P (lone (b.atR a (.inRegion ops (match (Region.ready .any ops l)[q % (Region.ready .any ops l).length]? with
          | some i => Region.linearise.go .any ops n (q / (Region.ready .any ops l).length) (l.setIfInBounds i true) [i]
          | none => [].reverse) :: k)) cs W) (lone (b.atR a k) cs W)
        rw [hi]
        exact .one stepR_region_end
      | some i =>
        have hir := List.mem_of_getElem? hi
        obtain ⟨oi, hoi, hil, hdeps⟩ := mem_ready.1 hir
        have hgo : Region.linearise.go .any ops (n + 1) q l [] = i :: Region.linearise.go .any ops n (q / (Region.ready .any ops l).length) (l.setIfInBounds i true) [] := by
          simp only [Region.linearise.go]
          change (match (Region.ready .any ops l)[q % (Region.ready .any ops l).length]? with
            | some i => Region.linearise.go .any ops n (q / (Region.ready .any ops l).length) (l.setIfInBounds i true) [i]
            | none => [].reverse) = _
          rw [hi]
          simp only []
          rw [linearise_go_acc, List.reverse_singleton, List.singleton_append]
        rw [hgo]
        by_cases hr' : i ∈ Region.ready .any (lateOps ops j pre) l
        · obtain ⟨_, _, h1⟩ := hany
          obtain ⟨o, v, M1, ho, hrun, hd, hrest⟩ := h1 i hr'
          have hrun2 : runF P V callf ops F M oi = some (v, M1) ∧ o.dst = oi.dst := by
            rw [lateOps_at] at ho
            by_cases e : j = i
            · rw [if_pos e, hoi] at ho
              simp only [Option.map_some, Option.some.injEq] at ho
              subst ho
              rw [runF_late, runF_late'] at hrun
              exact ⟨hrun, rfl⟩
            · rw [if_neg e, hoi] at ho
              simp only [Option.some.injEq] at ho
              subst ho
              rw [runF_late] at hrun
              exact ⟨hrun, rfl⟩
          obtain ⟨hrun2, hdd⟩ := hrun2
          rw [hdd] at hrest hd
          obtain ⟨v', X1, W1, hle1, hm1, hv1, hs1⟩ := opRun_steps (b := b) (cs := cs) (k := k) (rest := Region.linearise.go .any ops n (q / (Region.ready .any ops l).length) (l.setIfInBounds i true) []) hV hcall hrun2 ht (.of_TF hg.gr ht) hg hm hoi
          exact LGoal.head hs1 hle1 (Act.put_defers' _ _ _) (ih.1 _ _ _ _ _ W1 (a.put oi.dst v') hrest (by simpa using hsz) (hcl.set hir) (hleft.set (Array.getElem?_eq_some_iff.1 hoi).1 hil) ((ht.mono hle1).put hv1 hd) (hg.mono hle1) hm1)
        · -- the variable is made before the evaluator makes it
          have hij : i = j := by
            by_cases e : i = j
            · exact e
            · exact absurd ((ready_late L e).2 hir) hr'
          subst hij
          rw [L.at_] at hoi
          simp only [Option.some.injEq] at hoi
          subst hoi
          obtain ⟨zl, zl', hzl, hv, hexec⟩ := alloc_exec L.op L.zero
          have hwant : Region.wanted oj (yielded ops a.tmps) = true := by unfold Region.wanted; rw [L.guard]
          have hg' := stepGR_op (P := P) (b := b) (k := k) (cs := cs) (w := W) (rest := Region.linearise.go .any ops n (q / (Region.ready .any ops l).length) (l.setIfInBounds i true) []) L.at_ hwant
          rw [Oper.semAt_eq _ _ _ (fun c => by rw [L.op]; simp)] at hg'
          have hfin : ∀ v, (b.atR a (.inRegion ops (i :: Region.linearise.go .any ops n (q / (Region.ready .any ops l).length) (l.setIfInBounds i true) []) :: k)).finish v = b.atR (a.put (some d) v) (.inRegion ops (Region.linearise.go .any ops n (q / (Region.ready .any ops l).length) (l.setIfInBounds i true) []) :: k) := by
            intro v
            rw [Frame.finish_atR, L.at_]
            simp [L.dst]
          have hs : step P (lone (b.atR a (.inRegion ops (i :: Region.linearise.go .any ops n (q / (Region.ready .any ops l).length) (l.setIfInBounds i true) []) :: k)) cs W) =
              .next (lone (b.atR (a.put (some d) (.pointer (some ⟨W.heap.size, 0, none⟩))) (.inRegion ops (Region.linearise.go .any ops n (q / (Region.ready .any ops l).length) (l.setIfInBounds i true) []) :: k)) cs (W.alloc (.cells ⟨zl'⟩ t))) := by
            refine step_lone_go ?_
            rw [hg', ← hfin]; simp [stepG.apply, hexec]
          have htm : (a.put (some d) (.pointer (some ⟨W.heap.size, 0, none⟩))).tmps = a.tmps.setIfInBounds d (.pointer (some ⟨W.heap.size, 0, none⟩)) := rfl
          have hdn : d < a.tmps.size := by rw [ht.1]; exact L.room
          refine LGoal.head (.one hs) (Cx.Le.refl X) rfl (ih.2 _ (l.setIfInBounds i true) l F M X _ (a.put (some d) (.pointer (some ⟨W.heap.size, 0, none⟩))) W.heap.size zl zl' rfl hil hany (by simpa using hsz) (hcl.set hir) (hleft.set hj hil) ?_ ?_ hg (hm.keepMore _) hm.below.size ?_ hzl hv)
          · refine ⟨by rw [htm]; simpa using ht.1, fun e => ?_⟩
            rw [htm]
            by_cases he : d = e
            · subst he; rw [show putF F (some d) .hid d = .hid by simp [putF]]; exact .hid _
            · rw [putF_ne (by simpa using he)]
              have := ht.2 e
              simpa [Array.getD_eq_getD_getElem?, Array.getElem?_setIfInBounds_ne he] using this
          · rw [htm]; simp [Array.getD_eq_getD_getElem?, hdn]
          · cases hq : base.keep W.heap.size with
            | none => rfl
            | some o =>
              have := (hm.keep _ _ hq).1
              simp at this
    exact ⟨hN, stepP (n + 1) hN fun m hm => by cases hm; exact ih.2⟩

/-! ### A region that draws its order -/
def planOk (P : Program) (ops : Array Oper) (nt : Nat) : Option (List (Nat × Nat)) :=
  let l0 := Array.replicate ops.size false
  let plan := findPlan P ops ops.size l0
  bif Nat.beq plan.length ops.size && okPlan P ops nt plan l0 then some plan else none

/-- What is before all that hangs on the new variable. -/
def aheadOf (ops : Array Oper) (j : Nat) : List Nat :=
  (List.range ops.size).filter fun p => !(Nat.beq p j) && !(ancB ops 8 p j) && allOps ops fun i oi => !((bnd oi).contains j) || ancB ops 8 i p

def findLate (P : Program) (nt : Nat) (ops : Array Oper) : Option (Nat × List Nat) :=
  match (List.range ops.size).find? fun j => lateB P nt ops j (aheadOf ops j) with
  | some j => some (j, aheadOf ops j)
  | none => none

def drawL (P : Program) (V : Env) (callf : CallF) (ops : Array Oper) (nt : Nat) (tm : Tr MV) (M : Mem) : Option (Tr MV × Mem) :=
  match planOk P ops nt with
  | some plan => regM P V callf ops nt plan tm M []
  | none => match findLate P nt ops with
    | some (j, pre) => match planOk P (lateOps ops j pre) nt with
      | some plan => regM P V callf (lateOps ops j pre) nt plan tm M []
      | none => none
    | none => none

theorem planOk_sound {plan : List (Nat × Nat)} (h : planOk P ops nt = some plan) : plan.length = ops.size ∧ okPlan P ops nt plan (Array.replicate ops.size false) = true := by
  unfold planOk at h
  simp only at h
  cases hb : (Nat.beq (findPlan P ops ops.size (Array.replicate ops.size false)).length ops.size && okPlan P ops nt (findPlan P ops ops.size (Array.replicate ops.size false)) (Array.replicate ops.size false)) with
  | false => rw [hb] at h; cases h
  | true =>
    rw [hb] at h
    simp only [cond_true, Option.some.injEq] at h
    subst h
    simp only [Bool.and_eq_true] at hb
    exact ⟨Nat.eq_of_beq_eq_true hb.1, hb.2⟩

theorem drawL_steps (hmix : P.follows .mixedOrders = true) (hV : ∀ f x, V.ext f = some x → ExtOk P f x) (hcall : CallOk P V callf) {tm tm' : Tr MV} {M M' : Mem} (hc : drawL P V callf ops nt tm M = some (tm', M'))
    {X : Cx} {base : Fr} {W0 W : World} {a : Act} (ht : TmR X nt tm a.tmps) (hg : GX P V base W0 X) (hm : MemR X base W0 M W) {k : List Item} {b : Frame} {cs : List Frame} (id : Nat) :
    ∃ X' W' a', X.Le X' ∧ MemR X' base W0 M' W' ∧ TmR X' nt tm' a'.tmps ∧ a'.defers = a.defers ∧ Steps P (lone (b.atR a (.code (.region id ops true) :: k)) cs W) (lone (b.atR a' k) cs W') := by
  have hdraw : MemR X base W0 M { W with drawn := W.drawn + 1 } := hm.drew
  have hclosed : ∀ (os : Array Oper) (n : Nat), Closed os (Array.replicate n false) := fun os n j oj _ hj => by
    simp only [Array.getD_eq_getD_getElem?, Array.getElem?_replicate] at hj; split at hj <;> cases hj
  unfold drawL at hc
  split at hc
  · rename_i plan hp
    obtain ⟨hlen, hok⟩ := planOk_sound hp
    have hany := regM_any _ _ tm M [] hok (hclosed _ _) (by simp) (fun p hp => by cases hp) hc
    rw [hlen] at hany
    obtain ⟨F', M2, X', W', a', ⟨rfl, rfl⟩, hle, hm', ht', hd', hs⟩ := any_steps hV hcall (b := b) (cs := cs) (k := k) ops.size (W.tape W.drawn (.order b.fn id)) _ _ M X _ a hany (TmR.iff.1 ht) hg hdraw
    refine ⟨X', W', a', hle, hm', TmR.iff.2 ht', hd', .head stepR_region_draw ?_⟩
    simp only [Region.schedule, hmix, Bool.true_or, if_true]
    exact hs
  · split at hc
    · rename_i j pre hfl
      have hlb : lateB P nt ops j pre = true := by
        unfold findLate at hfl
        split at hfl
        · rename_i j' hf
          simp only [Option.some.injEq, Prod.mk.injEq] at hfl
          obtain ⟨rfl, rfl⟩ := hfl
          have hf2 := List.find?_some hf
          exact hf2
        · cases hfl
      obtain ⟨oj, t, d, z, L⟩ := lateB_sound hlb
      split at hc
      · rename_i plan hp
        obtain ⟨hlen, hok⟩ := planOk_sound hp
        have hsz : (lateOps ops j pre).size = ops.size := by simp [lateOps]
        have hany := regM_any _ _ tm M [] hok (hclosed _ _) (by simp) (fun p hp => by cases hp) hc
        rw [hlen, hsz] at hany
        obtain ⟨F', M2, X', W', a', ⟨rfl, rfl⟩, hle, hm', ht', hd', hs⟩ := (late_modes (b := b) (cs := cs) (k := k) hV hcall L ops.size).1 (W.tape W.drawn (.order b.fn id)) _ _ M X _ a hany (by simp) (hclosed _ _) (Left.start _ _) (TmR.iff.1 ht) hg hdraw
        refine ⟨X', W', a', hle, hm', TmR.iff.2 ht', hd', .head stepR_region_draw ?_⟩
        simp only [Region.schedule, hmix, Bool.true_or, if_true]
        exact hs
      · cases hc
    · cases hc
end
end Go.Ev
