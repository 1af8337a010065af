/- The evaluator: every order of a region. -/
import Derived.Test.YtghcpfgpmliiaaaGreatDoorEvQ3
namespace Go.Ev
open Go (Region.ready)

def bnd (o : Oper) : List Nat := (o.after.toList.filter (Region.binds .any)).map (·.on)

/-- Is 'k' (not only next to) before 'j'? -/
def ancB (ops : Array Oper) : Nat → Nat → Nat → Bool
  | 0, _, _ => false
  | f + 1, j, k => match ops[j]? with
    | some oj => (bnd oj).any fun e => Nat.beq e k || ancB ops f e k
    | none => false

def Closed (ops : Array Oper) (listed : Array Bool) : Prop := ∀ j oj, ops[j]? = some oj → listed.getD j false = true → ∀ e ∈ bnd oj, listed.getD e false = true

theorem mem_bnd {o : Oper} {k : Nat} : k ∈ bnd o ↔ ∃ e ∈ o.after, Region.binds .any e = true ∧ e.on = k := by
  unfold bnd
  simp only [List.mem_map, List.mem_filter, Array.mem_toList_iff]
  constructor
  · rintro ⟨e, ⟨h1, h2⟩, h3⟩; exact ⟨e, h1, h2, h3⟩
  · rintro ⟨e, h1, h2, h3⟩; exact ⟨e, ⟨h1, h2⟩, h3⟩

theorem mem_ready {ops : Array Oper} {listed : Array Bool} {i : Nat} : i ∈ Region.ready .any ops listed ↔ ∃ o, ops[i]? = some o ∧ listed.getD i true = false ∧ ∀ k ∈ bnd o, listed.getD k false = true := by
  unfold Region.ready
  simp only [List.mem_filter, List.mem_range, Bool.and_eq_true, Bool.not_eq_true']
  constructor
  · rintro ⟨hi, h1, h2⟩
    have ho : ops[i]? = some ops[i] := by simp [hi]
    refine ⟨_, ho, h1, ?_⟩
    simp only [ho, Option.map_some, Option.getD_some, Array.all_eq_true_iff_forall_mem] at h2
    intro k hk
    obtain ⟨e, he, hb, rfl⟩ := mem_bnd.1 hk
    have := h2 e he
    simpa [hb] using this
  · rintro ⟨o, ho, h1, h2⟩
    refine ⟨(Array.getElem?_eq_some_iff.1 ho).1, h1, ?_⟩
    simp only [ho, Option.map_some, Option.getD_some, Array.all_eq_true_iff_forall_mem]
    intro e he
    cases hb : Region.binds .any e with
    | false => rfl
    | true => simpa using h2 e.on (mem_bnd.2 ⟨e, he, hb, rfl⟩)

theorem getD_lt {l : Array Bool} {i : Nat} (h : l.getD i true = false) : i < l.size := by
  rcases Nat.lt_or_ge i l.size with h' | h'
  · exact h'
  · simp [Array.getD_eq_getD_getElem?, h'] at h

theorem getD_false {l : Array Bool} {i : Nat} (h : l.getD i true = false) : l.getD i false = false := by
  have := getD_lt h
  simpa [Array.getD_eq_getD_getElem?, this] using h

theorem set_getD {l : Array Bool} {i j : Nat} {d : Bool} (hi : i < l.size) : (l.setIfInBounds i true).getD j d = if i = j then true else l.getD j d := by
  by_cases e : i = j
  · subst e; simp [Array.getD_eq_getD_getElem?, hi]
  · simp [Array.getD_eq_getD_getElem?, Array.getElem?_setIfInBounds_ne e, e]

theorem set_mono {l : Array Bool} {i j : Nat} (h : l.getD j false = true) : (l.setIfInBounds i true).getD j false = true := by
  by_cases e : i = j
  · subst e
    rcases Nat.lt_or_ge i l.size with h' | h'
    · simp [Array.getD_eq_getD_getElem?, h']
    · simp [Array.getD_eq_getD_getElem?, h'] at h
  · simpa [Array.getD_eq_getD_getElem?, Array.getElem?_setIfInBounds_ne e] using h

theorem Closed.set {ops : Array Oper} {l : Array Bool} (h : Closed ops l) {i : Nat} (hi : i ∈ Region.ready .any ops l) : Closed ops (l.setIfInBounds i true) := by
  obtain ⟨o, ho, hl, ha⟩ := mem_ready.1 hi
  intro j oj hj hlj e he
  rw [set_getD (getD_lt hl)] at hlj
  by_cases e' : i = j
  · subst e'
    rw [ho] at hj; simp only [Option.some.injEq] at hj; subst hj
    exact set_mono (ha e he)
  · rw [if_neg e'] at hlj
    exact set_mono (h j oj hj hlj e he)

theorem anc_closed {ops : Array Oper} {l : Array Bool} (h : Closed ops l) : ∀ (f j k : Nat), ancB ops f j k = true → l.getD j false = true → l.getD k false = true := by
  intro f
  induction f with
  | zero => intro j k ha; simp [ancB] at ha
  | succ f ih =>
    intro j k ha hl
    simp only [ancB] at ha
    split at ha
    · rename_i oj hj
      simp only [List.any_eq_true, Bool.or_eq_true] at ha
      obtain ⟨e, he, h1⟩ := ha
      have hle := h j oj hj hl e he
      rcases h1 with h1 | h1
      · rw [← Nat.eq_of_beq_eq_true h1]; exact hle
      · exact ih e k h1 hle
    · cases ha

section
variable {P : Program} {V : Env} {callf : CallF} {ops : Array Oper}

/-- Every order from here on: all comes to pass, 'Ob' holds all along, and at the end 'Q'. -/
def AnyO (P : Program) (V : Env) (callf : CallF) (ops : Array Oper) (nt : Nat) (Ob : Array Bool → Mem → Prop) (Q : (Nat → MV) → Mem → Prop) : Nat → Array Bool → (Nat → MV) → Mem → Prop
  | 0, listed, F, M => Ob listed M ∧ Region.ready .any ops listed = [] ∧ Q F M
  | n + 1, listed, F, M => Ob listed M ∧ (Region.ready .any ops listed = [] → Q F M) ∧
    ∀ i ∈ Region.ready .any ops listed, ∃ o v M', ops[i]? = some o ∧ runF P V callf ops F M o = some (v, M') ∧ (∀ d, o.dst = some d → d < nt) ∧
      AnyO P V callf ops nt Ob Q n (listed.setIfInBounds i true) (putF F o.dst v) M'

variable {nt : Nat} {Ob Ob' : Array Bool → Mem → Prop} {Q : (Nat → MV) → Mem → Prop}

theorem AnyO.ob {n : Nat} {l : Array Bool} {F : Nat → MV} {M : Mem} (h : AnyO P V callf ops nt Ob Q n l F M) : Ob l M := by
  cases n <;> exact h.1

theorem AnyO.mono (K : Array Bool → Prop) (hK : ∀ l i, K l → K (l.setIfInBounds i true)) (hob : ∀ l M, K l → Ob l M → Ob' l M) : ∀ {n : Nat} {l : Array Bool} {F : Nat → MV} {M : Mem}, K l → AnyO P V callf ops nt Ob Q n l F M → AnyO P V callf ops nt Ob' Q n l F M
  | 0, _, _, _, hk, h => ⟨hob _ _ hk h.1, h.2⟩
  | n + 1, l, F, M, hk, h => ⟨hob _ _ hk h.1, h.2.1, fun i hi => by
      obtain ⟨o, v, M', h1, h2, h3, h4⟩ := h.2.2 i hi
      exact ⟨o, v, M', h1, h2, h3, AnyO.mono K hK hob (hK _ _ hk) h4⟩⟩

def Conc (ops : Array Oper) (l : Array Bool) (i : Nat) (o : Oper) : Prop :=
  ∀ j oj, ops[j]? = some oj → j ≠ i → l.getD j true = false → i ∈ bnd oj ∨ o.apart ops oj = true

theorem first {i : Nat} {o : Oper} {v : MV} (F0 : Nat → MV) (ho : ops[i]? = some o) (hd : ∀ d, o.dst = some d → d < nt)
    (stab : ∀ l F' M', Closed ops l → l.getD i false = false → Ob l M' → (∀ d ∈ o.looksAt ops, F' d = F0 d) → runF P V callf ops F' M' o = some (v, M'))
    (hob : ∀ l M, i < l.size → Ob (l.setIfInBounds i true) M → Ob l M) :
    ∀ (n : Nat) (l : Array Bool) (F : Nat → MV) (M : Mem), i ∈ Region.ready .any ops l → Closed ops l → Conc ops l i o → (∀ d ∈ o.looksAt ops, F d = F0 d) →
      AnyO P V callf ops nt Ob Q n (l.setIfInBounds i true) (putF F o.dst v) M → AnyO P V callf ops nt Ob Q (n + 1) l F M := by
  intro n
  induction n with
  | zero =>
    intro l F M hi hcl hcon hF h
    obtain ⟨o', ho', hl, ha⟩ := mem_ready.1 hi
    have hs := getD_lt hl
    have hOb := hob _ _ hs h.1
    refine ⟨hOb, fun h0 => ?_, fun j hj => ?_⟩
    · rw [h0] at hi; cases hi
    · by_cases e : j = i
      · subst e; exact ⟨o, v, M, ho, stab l F M hcl (getD_false hl) hOb hF, hd, h⟩
      · exfalso
        obtain ⟨oj, hoj, hlj, haj⟩ := mem_ready.1 hj
        have : j ∈ Region.ready .any ops (l.setIfInBounds i true) := mem_ready.2 ⟨oj, hoj, by rw [set_getD hs, if_neg (Ne.symm e)]; exact hlj, fun k hk => set_mono (haj k hk)⟩
        rw [h.2.1] at this; cases this
  | succ n ih =>
    intro l F M hi hcl hcon hF h
    obtain ⟨o', ho', hl, ha⟩ := mem_ready.1 hi
    have hs := getD_lt hl
    have hOb := hob _ _ hs h.1
    refine ⟨hOb, fun h0 => ?_, fun j hj => ?_⟩
    · rw [h0] at hi; cases hi
    · by_cases e : j = i
      · subst e; exact ⟨o, v, M, ho, stab l F M hcl (getD_false hl) hOb hF, hd, h⟩
      · obtain ⟨oj, hoj, hlj, haj⟩ := mem_ready.1 hj
        have hj' : j ∈ Region.ready .any ops (l.setIfInBounds i true) := mem_ready.2 ⟨oj, hoj, by rw [set_getD hs, if_neg (Ne.symm e)]; exact hlj, fun k hk => set_mono (haj k hk)⟩
        obtain ⟨oj', u, M', hoj', hrun, hdj, hrest⟩ := h.2.2 j hj'
        rw [hoj] at hoj'; simp only [Option.some.injEq] at hoj'; subst hoj'
        have hap : o.apart ops oj = true := by
          rcases hcon j oj hoj e hlj with h1 | h1
          · have := haj i h1
            rw [getD_false hl] at this; cases this
          · exact h1
        obtain ⟨a1, a2, a3⟩ := Oper.apart_spec hap
        have hrun' : runF P V callf ops F M oj = some (u, M') := by
          rw [← hrun]
          exact runF_congr fun d hd' => (putF_ne fun e' => a1 d e' hd').symm
        refine ⟨oj, u, M', hoj, hrun', hdj, ih _ _ _ ?_ (hcl.set hj) ?_ ?_ ?_⟩
        · exact mem_ready.2 ⟨o', ho', by rw [set_getD (getD_lt hlj), if_neg e]; exact hl, fun k hk => set_mono (ha k hk)⟩
        · intro j2 oj2 h1 h2 h3
          rw [set_getD (getD_lt hlj)] at h3
          by_cases e2 : j = j2
          · rw [if_pos e2] at h3; cases h3
          · rw [if_neg e2] at h3; exact hcon j2 oj2 h1 h2 h3
        · intro d hd'
          rw [putF_ne fun e' => a3 d e' hd']; exact hF d hd'
        · rw [putF_comm fun k hk hk' => a2 k hk' hk, Array.setIfInBounds_comm _ _ e]
          exact hrest
end
end Go.Ev
