/- The evaluator: operations that leave the memory alone. -/
import Derived.Test.YtghcpfgpmliiaaaGreatDoorEvQ1
namespace Go.Ev

def flatTo : Option TypeDesc → Bool
  | some (.int _) | some (.float _) => true
  | _ => false

def strish : Option TypeDesc → Bool
  | some .string | some (.slice _) | some (.array _ _) => true
  | _ => false

/-- It neither looks at the memory nor changes it. -/
def silentOp (P : Program) (o : Oper) : Bool :=
  match o.op with
  | .move _ | .assign _ | .pick _ _ _ | .build _ _ | .nilCheck _ | .binOp _ _ _ _ _ | .unOp _ _ _ | .makeInterface _ _ | .makeFunc _ _ _
  | .slice _ _ _ _ _ | .fieldAddr _ _ _ | .field _ _ _ | .indexAddr _ _ _ | .index _ _ _ | .typeAssert _ _ _ _ | .extract _ _ => true
  | .convert _ d _ => flatTo (P.underlying d)
  | .call c => match c.callee with
    | .builtin b => match b with
      | .len => match c.argTypes[0]? with
        | some t => strish (P.underlying t)
        | none => false
      | .cap | .max | .min | .unsafeSliceData | .real | .imag | .complex => true
      | _ => false
    | _ => false
  | _ => false

/-- It looks at the memory and does not change it. -/
def loadOp (o : Oper) : Bool :=
  match o.op with
  | .load _ _ | .lookup _ _ _ _ => true
  | .call c => match c.callee with
    | .builtin b => match b with
      | .len => true
      | _ => false
    | _ => false
  | _ => false

section
variable {P : Program} {V : Env} {e : Operand → Option MV}

theorem v1_eq {M M' : Mem} {o : Option MV} {r : Res} (h : v1 M o = some (r, M')) : M' = M ∧ (∃ v, r = .val v) ∧ ∀ M2, v1 M2 o = some (r, M2) := by
  obtain ⟨v, rfl, rfl, rfl⟩ := v1_inv h
  exact ⟨rfl, ⟨_, rfl⟩, fun _ => rfl⟩

theorem conv_flat {M M' : Mem} {s d : TypeId} {x v : MV} (hf : flatTo (P.underlying d) = true) (h : convM P M s d x = some (v, M')) : M' = M ∧ ∀ M2, convM P M2 s d x = some (v, M2) := by
  have hd : (∃ k, P.underlying d = some (.int k)) ∨ ∃ k, P.underlying d = some (.float k) := by
    unfold flatTo at hf
    split at hf
    · rename_i k hk; exact .inl ⟨k, hk⟩
    · rename_i k hk; exact .inr ⟨k, hk⟩
    · cases hf
  unfold convM at h ⊢
  rcases hd with ⟨k, hk⟩ | ⟨k, hk⟩ <;> simp only [hk] at h ⊢ <;> cases hs : P.underlying s <;> rw [hs] at h <;> (try (simp only [reduceCtorEq] at h; done)) <;> cases x <;> (try (rename_i sd; cases sd <;> simp at h; done)) <;> simp only [] at h ⊢
  · simp only [Option.some.injEq, Prod.mk.injEq] at h; obtain ⟨rfl, rfl⟩ := h; exact ⟨rfl, fun _ => rfl⟩
  · split at h
    · rename_i hz
      try simp only [hz]
      cases hq : (!(ltI _ k.min)) && !(ltI k.max _) <;> rw [hq] at h <;> simp only [cond_true, cond_false, reduceCtorEq, Option.some.injEq, Prod.mk.injEq] at h
      obtain ⟨rfl, rfl⟩ := h
      exact ⟨rfl, fun _ => by simp only [hq, cond_true]⟩
    · cases h
  · simp only [Option.some.injEq, Prod.mk.injEq] at h; obtain ⟨rfl, rfl⟩ := h; exact ⟨rfl, fun _ => rfl⟩
  · cases hq : eqFK _ k <;> rw [hq] at h <;> simp only [cond_true, cond_false, reduceCtorEq, Option.some.injEq, Prod.mk.injEq] at h
    obtain ⟨rfl, rfl⟩ := h
    exact ⟨rfl, fun _ => by simp only [cond_true]⟩

theorem unsafe_flat {M : Mem} {s d : TypeId} {x : MV} (hf : flatTo (P.underlying d) = true) : unsafeM P M s d x = none := by
  have hd : (∃ k, P.underlying d = some (.int k)) ∨ ∃ k, P.underlying d = some (.float k) := by
    unfold flatTo at hf
    split at hf
    · rename_i k hk; exact .inl ⟨k, hk⟩
    · rename_i k hk; exact .inr ⟨k, hk⟩
    · cases hf
  unfold unsafeM
  rcases hd with ⟨k, hk⟩ | ⟨k, hk⟩ <;> simp only [hk] <;> cases P.underlying s <;> simp

theorem conv_none {M : Mem} {s d : TypeId} {x : MV} (hf : flatTo (P.underlying d) = true) (h : convM P M s d x = none) : ∀ M2, convM P M2 s d x = none := by
  intro M2
  cases hq : convM P M2 s d x with
  | none => rfl
  | some q =>
    obtain ⟨v, M3⟩ := q
    obtain ⟨_, h2⟩ := conv_flat hf hq
    rw [h2 M] at h; cases h

theorem len_flat {M : Mem} {at_ : Array TypeId} {x : MV} (hf : (match at_[0]? with | some t => strish (P.underlying t) | none => false) = true) (M2 : Mem) : lenM P M2 at_ x = lenM P M at_ x := by
  unfold lenM
  split at hf
  · rename_i t ht
    simp only [ht]
    unfold strish at hf
    split at hf <;> rename_i hu <;> first | (cases hf; done) | (simp only [hu]; done) | (simp only [hu]; cases x <;> rfl)
  · cases hf

theorem nil_val {v : MV} {r : Res} (h : nilM v = some r) : ∃ u, r = .val u := by
  unfold nilM at h
  split at h <;> simp only [Option.some.injEq, reduceCtorEq] at h <;> subst h <;> exact ⟨_, rfl⟩

set_option maxHeartbeats 1000000 in
theorem opM_silent {M M' : Mem} {o : Oper} {r : Res} (hs : silentOp P o = true) (h : opM P V e M o = some (r, M')) : M' = M ∧ (∃ v, r = .val v) ∧ ∀ M2, opM P V e M2 o = some (r, M2) := by
  obtain ⟨dst, op, type, pos, after, guard⟩ := o
  cases op <;> simp only [silentOp, Bool.false_eq_true] at hs <;> simp only [opM] at h ⊢
  case convert s d x =>
    split at h
    · rename_i v hv
      try simp only [hv]
      split at h
      · rename_i q hq
        obtain ⟨w, M3⟩ := q
        obtain ⟨rfl, h2⟩ := conv_flat hs hq
        simp only [v2, Option.some.injEq, Prod.mk.injEq] at h
        obtain ⟨rfl, rfl⟩ := h
        exact ⟨rfl, ⟨_, rfl⟩, fun M2 => by simp only [h2 M2, v2]⟩
      · rw [unsafe_flat hs] at h; cases h
    · cases h
  case nilCheck x =>
    split at h
    · split at h
      · rename_i r0 hr0
        simp only [Option.some.injEq, Prod.mk.injEq] at h
        obtain ⟨rfl, rfl⟩ := h
        obtain ⟨u, rfl⟩ := nil_val hr0
        exact ⟨rfl, ⟨_, rfl⟩, fun _ => rfl⟩
      · cases h
    · cases h
  case call c =>
    split at hs
    · rename_i b hcal
      simp only [hcal] at h ⊢
      split at h
      · rename_i args hargs
        try simp only [hargs]
        cases b <;> simp only [Bool.false_eq_true] at hs
        case len =>
          unfold builtinM at h ⊢
          split at h <;> rename_i heq <;> simp only [reduceCtorEq] at heq
          · rename_i x _
            obtain ⟨h1, h2, h3⟩ := v1_eq h
            refine ⟨h1, h2, fun M2 => ?_⟩
            show v1 M2 (lenM P M2 c.argTypes _) = _
            rw [len_flat (M := M) hs M2]
            exact h3 M2
          · rename_i hne _ _ _ _ _ _
            unfold cplxM at h; simp [v1] at h
        all_goals
          unfold builtinM at h ⊢
          split at h <;> rename_i heq <;> simp only [reduceCtorEq] at heq <;> first | exact v1_eq h | (simp [v1, cplxM] at h; done)
      · cases h
    · cases hs
  case makeFunc fn first captured =>
    split at h
    · simp only [Option.some.injEq, Prod.mk.injEq] at h
      obtain ⟨rfl, rfl⟩ := h
      exact ⟨rfl, ⟨_, rfl⟩, fun _ => rfl⟩
    · cases h
  case pick c a b =>
    split at h
    · exact v1_eq h
    · exact v1_eq h
    · cases h
  all_goals (first | exact v1_eq h | (split at h <;> first | exact v1_eq h | (cases h; done)))

end
end Go.Ev
