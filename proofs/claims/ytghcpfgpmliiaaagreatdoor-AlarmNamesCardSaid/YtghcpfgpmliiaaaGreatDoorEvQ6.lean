/- The evaluator: a region that draws its order, in the model. -/
import Derived.Test.YtghcpfgpmliiaaaGreatDoorEvQ5
namespace Go.Ev

section
variable {P : Program} {V : Env} {callf : CallF} {ops : Array Oper} {nt : Nat}

theorem EvOk.of_TF {X : Cx} {n : Nat} {F : Nat → MV} {a : Act} (hg : GR V.ng X) (ht : TF X n F a.tmps) : EvOk X (evF V.ng F) a.eval := by
  intro x v h
  cases x with
  | tmp t => simp only [evF, Option.some.injEq] at h; subst h; exact ht.2 t
  | const v => exact ofV_sound _ _ _ ((ofK_eq v).symm.trans h)
  | global g => exact ev_sound (tm := .e) (n := 0) (a := { tmps := #[], defers := [] }) hg ⟨rfl, fun i => by rw [Tr.get_e]; exact .tup .nil⟩ (x := .global g) h
  | func f => simp only [evF, Option.some.injEq] at h; subst h; exact .fn .nil .nil

theorem TF.mono {X Y : Cx} (hl : X.Le Y) {n : Nat} {F : Nat → MV} {t : Array Value} (h : TF X n F t) : TF Y n F t := ⟨h.1, fun i => (h.2 i).mono hl⟩

theorem TF.put {X : Cx} {n : Nat} {F : Nat → MV} {a : Act} {d : Option Tmp} {v : MV} {v' : Value} (h : TF X n F a.tmps) (hv : VR X v v') (hd : ∀ i, d = some i → i < n) : TF X n (putF F d v) (a.put d v').tmps := by
  cases d with
  | none => exact ⟨h.1, fun i => by rw [putF_ne (by simp)]; exact h.2 i⟩
  | some d =>
    refine ⟨by simp [Act.put, h.1], fun i => ?_⟩
    have hdn := hd d rfl
    have e1 : (a.put (some d) v').tmps = a.tmps.setIfInBounds d v' := rfl
    rw [e1]
    by_cases e : d = i
    · subst e
      simp [putF, Array.getD_eq_getD_getElem?, h.1, hdn, hv]
    · rw [putF_ne (by simpa using e)]
      have := h.2 i
      simpa [Array.getD_eq_getD_getElem?, Array.getElem?_setIfInBounds_ne e] using this

theorem any_steps (hV : ∀ f x, V.ext f = some x → ExtOk P f x) (hcall : CallOk P V callf) {Ob : Array Bool → Mem → Prop} {Q : (Nat → MV) → Mem → Prop} {k : List Item} {b : Frame} {cs : List Frame} {base : Fr} {W0 : World} :
    ∀ (n t : Nat) (l : Array Bool) (F : Nat → MV) (M : Mem) (X : Cx) (W : World) (a : Act), AnyO P V callf ops nt Ob Q n l F M → TF X nt F a.tmps → GX P V base W0 X → MemR X base W0 M W →
    ∃ F' M' X' W' a', Q F' M' ∧ X.Le X' ∧ MemR X' base W0 M' W' ∧ TF X' nt F' a'.tmps ∧ a'.defers = a.defers ∧
      Steps P (lone (b.atR a (.inRegion ops (Region.linearise.go .any ops n t l []) :: k)) cs W) (lone (b.atR a' k) cs W')
  | 0, t, l, F, M, X, W, a, h, ht, hg, hm => by
    refine ⟨F, M, X, W, a, h.2.2, Cx.Le.refl X, hm, ht, rfl, ?_⟩
    simp only [Region.linearise.go, List.reverse_nil]
    exact .one stepR_region_end
  | n + 1, t, l, F, M, X, W, a, h, ht, hg, hm => by
    obtain ⟨_, h0, h1⟩ := h
    simp only [Region.linearise.go]
    change ∃ F' M' X' W' a', Q F' M' ∧ X.Le X' ∧ MemR X' base W0 M' W' ∧ TF X' nt F' a'.tmps ∧ a'.defers = a.defers ∧
      Steps P (lone (b.atR a (.inRegion ops (match (Region.ready .any ops l)[t % (Region.ready .any ops l).length]? with
      | some i => Region.linearise.go .any ops n (t / (Region.ready .any ops l).length) (l.setIfInBounds i true) [i]
      | none => [].reverse) :: k)) cs W) (lone (b.atR a' k) cs W')
    cases hi : (Region.ready .any ops l)[t % (Region.ready .any ops l).length]? with
    | none =>
      have hnil : Region.ready .any ops l = [] := by
        cases hr : Region.ready .any ops l with
        | nil => rfl
        | cons x xs =>
          rw [hr] at hi
          have hlt : t % (x :: xs).length < (x :: xs).length := Nat.mod_lt _ (by simp)
          simp at hi
          simp at hlt
          omega
      refine ⟨F, M, X, W, a, h0 hnil, Cx.Le.refl X, hm, ht, rfl, ?_⟩
      simp only [List.reverse_nil]
      exact .one stepR_region_end
    | some i =>
      simp only []
      rw [linearise_go_acc, List.reverse_singleton, List.singleton_append]
      obtain ⟨o, v, M1, ho, hrun, hd, hrest⟩ := h1 i (List.mem_of_getElem? hi)
      obtain ⟨v', X1, W1, hle1, hm1, hv1, hs1⟩ := opRun_steps (b := b) (cs := cs) (k := k) (rest := Region.linearise.go .any ops n (t / (Region.ready .any ops l).length) (l.setIfInBounds i true) []) hV hcall hrun ht (.of_TF hg.gr ht) hg hm ho
      obtain ⟨F2, M2, X2, W2, a2, hq, hle2, hm2, ht2, hd2, hs2⟩ := any_steps hV hcall (b := b) (cs := cs) (k := k) n _ _ _ _ X1 W1 (a.put o.dst v') hrest ((ht.mono hle1).put hv1 hd) (hg.mono hle1) hm1
      exact ⟨F2, M2, X2, W2, a2, hq, hle1.trans hle2, hm2, ht2, hd2.trans (Act.put_defers' _ _ _), hs1.trans hs2⟩

/-- A region that draws its order. -/
def drawM (P : Program) (V : Env) (callf : CallF) (ops : Array Oper) (nt : Nat) (tm : Tr MV) (M : Mem) : Option (Tr MV × Mem) :=
  let l0 := Array.replicate ops.size false
  let plan := findPlan P ops ops.size l0
  bif Nat.beq plan.length ops.size && okPlan P ops nt plan l0 then regM P V callf ops nt plan tm M [] else none

theorem draw_steps (hmix : P.follows .mixedOrders = true) (hV : ∀ f x, V.ext f = some x → ExtOk P f x) (hcall : CallOk P V callf) {tm tm' : Tr MV} {M M' : Mem} (hc : drawM P V callf ops nt tm M = some (tm', M'))
    {X : Cx} {base : Fr} {W0 W : World} {a : Act} (ht : TmR X nt tm a.tmps) (hg : GX P V base W0 X) (hm : MemR X base W0 M W) {k : List Item} {b : Frame} {cs : List Frame} (id : Nat) :
    ∃ X' W' a', X.Le X' ∧ MemR X' base W0 M' W' ∧ TmR X' nt tm' a'.tmps ∧ a'.defers = a.defers ∧ Steps P (lone (b.atR a (.code (.region id ops true) :: k)) cs W) (lone (b.atR a' k) cs W') := by
  simp only [drawM] at hc
  cases hb : (Nat.beq (findPlan P ops ops.size (Array.replicate ops.size false)).length ops.size && okPlan P ops nt (findPlan P ops ops.size (Array.replicate ops.size false)) (Array.replicate ops.size false)) with
  | false => rw [hb] at hc; cases hc
  | true =>
    rw [hb] at hc; simp only [cond_true] at hc
    simp only [Bool.and_eq_true] at hb
    obtain ⟨hlen, hok⟩ := hb
    have hlen := Nat.eq_of_beq_eq_true hlen
    have hany := regM_any _ _ tm M [] hok (fun j oj _ hj => by simp only [Array.getD_eq_getD_getElem?, Array.getElem?_replicate] at hj; split at hj <;> cases hj) (by simp) (fun p hp => by cases hp) hc
    rw [hlen] at hany
    have hdraw : MemR X base W0 M { W with drawn := W.drawn + 1 } := hm.drew
    obtain ⟨F', M2, X', W', a', ⟨rfl, rfl⟩, hle, hm', ht', hd', hs⟩ := any_steps hV hcall (b := b) (cs := cs) (k := k) ops.size (W.tape W.drawn (.order b.fn id)) _ _ M X _ a hany (TmR.iff.1 ht) hg hdraw
    refine ⟨X', W', a', hle, hm', TmR.iff.2 ht', hd', .head stepR_region_draw ?_⟩
    simp only [Region.schedule, hmix, Bool.true_or, if_true]
    exact hs
end
end Go.Ev
