/- The evaluator: equality, the two-place operations together, the one-place ones. -/
import Derived.Test.YtghcpfgpmliiaaaGreatDoorEvF
import Derived.Laws.StructEq
namespace Go.Ev

section
variable {P : Program} {X : Cx}

set_option maxHeartbeats 2000000 in
theorem eqM_sound : ∀ (d : Nat) (t : TypeId) (x y : MV) (r : Bool), eqM P d t x y = some r → ∀ (x' y' : Value), VR X x x' → VR X y y' → ∀ (k : Nat) (W : World), (Op.equalIn (d + k) t x' y').run P W = .ok r W := by
  intro d
  induction d with
  | zero => intro t x y r h; simp [eqM] at h
  | succ d ih =>
    intro t x y r h x' y' hx hy k W
    rw [show d + 1 + k = (d + k) + 1 by omega]
    unfold eqM at h
    split at h
    · rename_i hu
      cases hx; cases hy
      simp only [Option.some.injEq] at h; subst h
      simp [Op.equalIn, run_underlying hu]
    · rename_i k1 a k2 b hu
      cases hx; cases hy
      cases hk : eqK k1 k2 <;> rw [hk] at h <;> simp only [cond_true, cond_false, reduceCtorEq, Option.some.injEq] at h
      subst h
      have := eqK_eq hk; subst this
      simp [Op.equalIn, run_underlying hu, eqI_eq]
    · rename_i k1 a k2 b hu
      cases hx; cases hy
      cases hk : eqFK k1 k2 <;> rw [hk] at h <;> simp only [cond_true, cond_false, reduceCtorEq, Option.some.injEq] at h
      subst h
      have := eqFK_eq hk; subst this
      simp [Op.equalIn, run_underlying hu]
    · rename_i a b hu
      cases hx with | s _ ha =>
      cases hy with | s _ hb =>
      simp only [Option.some.injEq] at h; subst h
      simp [Op.equalIn, run_underlying hu, beq_toListBytes, bs_toList, eqL_eq ha hb]
    · rename_i hu
      cases hx; cases hy
      simp only [Option.some.injEq] at h; subst h
      simp [Op.equalIn, run_underlying hu]
    · rename_i hu
      cases hx; cases hy
      simp only [Option.some.injEq] at h; subst h
      simp [Op.equalIn, run_underlying hu]
    · rename_i hu
      cases hx; cases hy
      simp only [Option.some.injEq] at h; subst h
      simp [Op.equalIn, run_underlying hu]
    · rename_i e a i b j hu
      cases hx with | p ha =>
      cases hy with | p hb =>
      rename_i n1 d1 z1 n2 d2 z2
      split at h
      · rename_i n hn
        cases h0 : Nat.beq n 0 <;> rw [h0] at h <;> simp only [cond_true, cond_false, reduceCtorEq] at h
        cases hab : Nat.beq a b <;> rw [hab] at h <;> simp only [cond_true, cond_false, reduceCtorEq, Option.some.injEq] at h
        subst h
        have e1 : a = b := by simpa using hab
        subst e1
        rw [ha] at hb
        simp only [Option.some.injEq, Prod.mk.injEq] at hb
        obtain ⟨rfl, rfl, rfl⟩ := hb
        have hne : ¬ n = 0 := by intro e; subst e; simp at h0
        simp [Op.equalIn, run_underlying hu, sizeOf_run hn, hne, sameAddr]
        rw [Bool.eq_iff_iff]; simp
      · cases h
    · rename_i hu
      cases hx; cases hy
      simp only [Option.some.injEq] at h; subst h
      simp [Op.equalIn, run_underlying hu]
    · rename_i hu
      cases hx; cases hy
      simp only [Option.some.injEq] at h; subst h
      simp [Op.equalIn, run_underlying hu]
    · rename_i hu
      cases hx; cases hy
      simp only [Option.some.injEq] at h; subst h
      simp [Op.equalIn, run_underlying hu]
    · rename_i ms tx vx ty vy hu
      cases hx with | ifc ha =>
      cases hy with | ifc hb =>
      cases hab : Nat.beq tx ty <;> rw [hab] at h <;> simp only [cond_true, cond_false, Option.some.injEq] at h
      · subst h
        have : ¬ tx = ty := by intro e; subst e; simp at hab
        simp [Op.equalIn, run_underlying hu, this]
      · have e1 : tx = ty := by simpa using hab
        subst e1
        split at h
        · rename_i i hi
          cases hc : i.comparable <;> rw [hc] at h <;> simp only [cond_true, cond_false, reduceCtorEq] at h
          have := ih _ _ _ _ h _ _ ha hb k W
          simp [Op.equalIn, run_underlying hu, typeInfo, hi, hc, this]
        · cases h
    · rename_i fs xs ys hu
      cases hx with | agg ha =>
      cases hy with | agg hb =>
      cases hst : P.stoodInHeld t <;> rw [hst] at h <;> simp only [cond_true, cond_false, reduceCtorEq] at h
      have hfo : P.fieldsOf t = fs := by simp [Program.fieldsOf, hu]
      rw [run_equalIn_struct W _ _ _ _ (by rw [hfo]; exact hu) hst, hfo]
      generalize fs.toList = l at h
      clear hu hfo
      induction l generalizing r with
      | nil => simp only [List.foldr_nil, Option.some.injEq] at h; subst h; simp [Op.eqFields]
      | cons f l ihl =>
        simp only [List.foldr_cons] at h
        simp only [Op.eqFields]
        cases hn : (f.name == "_") with
        | true =>
          rw [hn] at h; simp only [cond_true] at h
          have : f.name = "_" := by simpa using hn
          simp [this]
          exact ihl _ h
        | false =>
          rw [hn] at h; simp only [cond_false] at h
          have hne : f.name ≠ "_" := by intro e; rw [e] at hn; simp at hn
          split at h
          · rename_i a b hpa hpb
            obtain ⟨a', hra, hva⟩ := part_run ha hpa W
            obtain ⟨b', hrb, hvb⟩ := part_run hb hpb W
            split at h
            · rename_i he
              have := ih _ _ _ _ he _ _ hva hvb k W
              simp [hne, hra, hrb, this]
              exact ihl _ h
            · rename_i hnt
              cases r with
              | true => exact absurd h (by intro e; exact hnt e)
              | false =>
                have := ih _ _ _ _ h _ _ hva hvb k W
                simp [hne, hra, hrb, this]
          · cases h
    · rename_i hu
      cases hx; cases hy
      simp only [Option.some.injEq] at h; subst h
      simp [Op.equalIn, run_underlying hu]
    · rename_i hu
      cases hx; cases hy
      simp only [Option.some.injEq] at h; subst h
      simp [Op.equalIn, run_underlying hu]
    · rename_i hu
      cases hx; cases hy
      simp only [Option.some.injEq] at h; subst h
      simp [Op.equalIn, run_underlying hu]
    · rename_i hu
      cases hx; cases hy
      simp only [Option.some.injEq] at h; subst h
      simp [Op.equalIn, run_underlying hu]
    · rename_i hu
      cases hx; cases hy
      simp only [Option.some.injEq] at h; subst h
      simp [Op.equalIn, run_underlying hu]
    · rename_i hu
      cases hx; cases hy
      simp only [Option.some.injEq] at h; subst h
      simp [Op.equalIn, run_underlying hu]
    · rename_i hu
      cases hx; cases hy
      simp only [Option.some.injEq] at h; subst h
      simp [Op.equalIn, run_underlying hu]
    · rename_i hu
      cases hx; cases hy
      simp only [Option.some.injEq] at h; subst h
      simp [Op.equalIn, run_underlying hu]
    · rename_i hu
      cases hx; cases hy
      simp only [Option.some.injEq] at h; subst h
      simp [Op.equalIn, run_underlying hu]
    · cases h

/-! ### All two-place operations -/
def isConst : Operand → Bool
  | .const _ => true
  | _ => false

/-- Values whose comparison is met by 'Op.equal' alone. -/
def odd : MV → Bool
  | .i _ _ | .f _ _ | .c _ _ _ | .s _ | .sym _ | .hid => false
  | _ => true

def cmpM (P : Program) (op : BinOp) (t : TypeId) (x y : MV) : Option MV :=
  match op with
  | .eql => (eqM P 24 t x y).map .b
  | .neq => (eqM P 24 t x y).map fun r => .b (!r)
  | _ => none

def binM (P : Program) (op : BinOp) (t : TypeId) (xc yc : Bool) (x y : MV) : Option MV :=
  match x, y with
  | .i k a, .i k' b => bif isShift op then shiftM op k a b else bif eqK k k' then intM op k a b else none
  | .f k a, .f k' b => bif eqFK k k' then fltM op k a b else none
  | .s a, .s b => strM op a b
  | .nif, .nif => bif xc || yc then cmpM P op t .nif .nif else none
  | .agg xs, .agg ys => bif P.eqGuardType P.depth t then none else cmpM P op t (.agg xs) (.agg ys)
  | x, y => bif odd x && odd y then cmpM P op t x y else none

theorem equal_run {t : TypeId} {x y : MV} {r : Bool} (h : eqM P 24 t x y = some r) {x' y' : Value} (hx : VR X x x') (hy : VR X y y') (W : World) : (Op.equal t x' y').run P W = .ok r W := by
  have := eqM_sound 24 t x y r h x' y' hx hy 9976 W
  exact this

theorem guard_int (op : BinOp) (t : TypeId) (x y : Operand) (a b : Value) (h1 : ¬ (a = .nilIface ∧ b = .nilIface)) (h2 : ∀ c d, ¬ (a = .agg c ∧ b = .agg d)) (W : World) : (eqGuard op t x y a b).run P W = .ok () W := by
  unfold eqGuard
  cases op <;> simp <;> (split <;> simp_all)

theorem two {op : BinOp} {t : TypeId} {xo yo : Operand} {r : MV} {W : World} (x y : MV) (x' y' : Value) (hx : VR X x x') (hy : VR X y y') (h : cmpM P op t x y = some r)
    (hg : (eqGuard op t xo yo x' y').run P W = .ok () W)
    (n1 : ∀ a b c d, ¬ (x' = .int a b ∧ y' = .int c d)) (n2 : ∀ a b c d, ¬ (x' = .float a b ∧ y' = .float c d)) (n3 : ∀ a b c d e f, ¬ (x' = .complex a b c ∧ y' = .complex d e f)) (n4 : ∀ a b, ¬ (x' = .string a ∧ y' = .string b)) :
    Calm P X (do eqGuard op t xo yo x' y'; binOp op t x' y') W r := by
  unfold cmpM at h
  split at h
  · simp only [Option.map_eq_some_iff] at h
    obtain ⟨b, hb, rfl⟩ := h
    refine ⟨.bool b, ?_, .b b⟩
    have := equal_run hb hx hy W
    simp only [Sem.run_bind, hg, Result.andThen_ok]
    have hh : binOp .eql t x' y' = (do pure (.bool (← Op.equal t x' y'))) := by
      cases x' <;> cases y' <;> first | rfl | (exfalso; exact n1 _ _ _ _ ⟨rfl, rfl⟩) | (exfalso; exact n2 _ _ _ _ ⟨rfl, rfl⟩) | (exfalso; exact n3 _ _ _ _ _ _ ⟨rfl, rfl⟩) | (exfalso; exact n4 _ _ ⟨rfl, rfl⟩)
    rw [hh]; simp [this]
  · simp only [Option.map_eq_some_iff] at h
    obtain ⟨b, hb, rfl⟩ := h
    refine ⟨.bool (!b), ?_, .b _⟩
    have := equal_run hb hx hy W
    simp only [Sem.run_bind, hg, Result.andThen_ok]
    have hh : binOp .neq t x' y' = (do pure (.bool (!(← Op.equal t x' y')))) := by
      cases x' <;> cases y' <;> first | rfl | (exfalso; exact n1 _ _ _ _ ⟨rfl, rfl⟩) | (exfalso; exact n2 _ _ _ _ ⟨rfl, rfl⟩) | (exfalso; exact n3 _ _ _ _ _ _ ⟨rfl, rfl⟩) | (exfalso; exact n4 _ _ ⟨rfl, rfl⟩)
    rw [hh]; simp [this]
  · cases h

set_option maxHeartbeats 1000000 in
theorem binM_calm {op : BinOp} {t : TypeId} {xo yo : Operand} {x y r : MV} {x' y' : Value} {W : World} (hx : VR X x x') (hy : VR X y y') (hc : binM P op t (isConst xo) (isConst yo) x y = some r) :
    Calm P X (do eqGuard op t xo yo x' y'; binOp op t x' y') W r := by
  unfold binM at hc
  split at hc
  · rename_i k a k' b
    cases hx; cases hy
    have hg := guard_int (P := P) op t xo yo (.int k a) (.int k' b) (by simp) (by simp) W
    cases hs : isShift op <;> rw [hs] at hc <;> simp only [cond_true, cond_false] at hc
    · cases hk : eqK k k' <;> rw [hk] at hc <;> simp only [cond_true, cond_false, reduceCtorEq] at hc
      have := eqK_eq hk; subst this
      obtain ⟨v', hr, hv⟩ := intM_calm (P := P) (X := X) (W := W) (t := t) hs hc
      exact ⟨v', by simp only [Sem.run_bind, hg, Result.andThen_ok, hr], hv⟩
    · obtain ⟨v', hr, hv⟩ := shift_calm (P := P) (X := X) (W := W) (yk := k') hc
      refine ⟨v', ?_, hv⟩
      simp only [Sem.run_bind, hg, Result.andThen_ok]
      cases op <;> simp only [isShift, reduceCtorEq] at hs <;> simpa only [binOp] using hr
  · rename_i k a k' b
    cases hx; cases hy
    have hg := guard_int (P := P) op t xo yo (.float k a) (.float k' b) (by simp) (by simp) W
    cases hk : eqFK k k' <;> rw [hk] at hc <;> simp only [cond_true, cond_false, reduceCtorEq] at hc
    have := eqFK_eq hk; subst this
    obtain ⟨v', hr, hv⟩ := fltM_calm (P := P) (X := X) (W := W) (t := t) hc
    exact ⟨v', by simp only [Sem.run_bind, hg, Result.andThen_ok, hr], hv⟩
  · rename_i a b
    cases hx with | s _ ha =>
    cases hy with | s _ hb =>
    have hg := guard_int (P := P) op t xo yo (.string (bs a)) (.string (bs b)) (by simp) (by simp) W
    obtain ⟨v', hr, hv⟩ := strM_calm (P := P) (X := X) (W := W) (t := t) ha hb hc
    exact ⟨v', by simp only [Sem.run_bind, hg, Result.andThen_ok, hr], hv⟩
  · cases hq : (isConst xo || isConst yo) <;> rw [hq] at hc <;> simp only [cond_true, cond_false, reduceCtorEq] at hc
    cases hx; cases hy
    refine two .nif .nif _ _ .nif .nif hc ?_ (by simp) (by simp) (by simp) (by simp)
    clear hc
    unfold eqGuard
    cases xo <;> cases yo <;> simp [isConst] at hq <;> cases op <;> simp
  · rename_i xs ys
    cases hq : P.eqGuardType P.depth t <;> rw [hq] at hc <;> simp only [cond_true, cond_false, reduceCtorEq] at hc
    cases hx with | agg ha =>
    cases hy with | agg hb =>
    exact two _ _ _ _ (.agg ha) (.agg hb) hc (run_eqGuard_agg W op t xo yo _ _ hq) (by simp) (by simp) (by simp) (by simp)
  · rename_i n1 n2 n3 n4 n5
    cases hq : (odd x && odd y) <;> rw [hq] at hc <;> simp only [cond_true, cond_false, reduceCtorEq] at hc
    simp only [Bool.and_eq_true] at hq
    obtain ⟨o1, o2⟩ := hq
    refine two x y x' y' hx hy hc ?_ ?_ ?_ ?_ ?_
    · refine guard_int _ _ _ _ _ _ ?_ ?_ W
      · rintro ⟨rfl, rfl⟩
        cases hx <;> cases hy <;> simp_all [odd]
      · rintro c d ⟨rfl, rfl⟩
        cases hx <;> cases hy <;> simp_all [odd]
    · rintro a b c d ⟨rfl, rfl⟩; cases hx <;> simp_all [odd]
    · rintro a b c d ⟨rfl, rfl⟩; cases hx <;> simp_all [odd]
    · rintro a b c d e f ⟨rfl, rfl⟩; cases hx <;> simp_all [odd]
    · rintro a b ⟨rfl, rfl⟩; cases hx <;> simp_all [odd]

/-! ### One-place operations -/
def unM (op : UnOp) : MV → Option MV
  | .i k n => match op with
    | .neg => intM .sub k 0 n
    | .xor => intM .xor k (if k.signed then -1 else k.max) n
    | _ => none
  | .f k b => match op with
    | .neg => some (.f k (Op.negFloat k b))
    | _ => none
  | .b x => match op with
    | .not => some (.b (!x))
    | _ => none
  | _ => none

theorem unM_calm {op : UnOp} {x r : MV} {x' : Value} {W : World} (hx : VR X x x') (hc : unM op x = some r) : Calm P X (Op.unary op x') W r := by
  cases x <;> simp only [unM] at hc <;> first | cases hc | skip
  · cases hx
    cases op <;> simp only [reduceCtorEq, Option.some.injEq] at hc
    subst hc
    exact ⟨_, by simp only [Op.unary]; rfl, .b _⟩
  · rename_i k n
    cases hx
    cases op <;> simp only [reduceCtorEq] at hc
    · simp only [intM, Option.some.injEq] at hc; subst hc
      exact ⟨.int k (k.wrap (0 - n)), by simp [Op.unary, Op.intArith], by rw [wrapF_eq]; exact .i _ _⟩
    · simp only [intM, Option.some.injEq] at hc; subst hc
      exact ⟨_, by simp only [Op.unary, Op.intBits]; rfl, .i _ _⟩
  · rename_i k n
    cases hx
    cases op <;> simp only [reduceCtorEq, Option.some.injEq] at hc
    subst hc
    exact ⟨_, by simp only [Op.unary]; rfl, .f _ _⟩
end
end Go.Ev
