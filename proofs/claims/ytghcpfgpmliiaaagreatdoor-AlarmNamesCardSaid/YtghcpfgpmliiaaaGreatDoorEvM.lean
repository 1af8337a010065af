/- The evaluator: assertions, tuples, iterators over strings, the plain builtins, unsafe's few. -/
import Derived.Test.YtghcpfgpmliiaaaGreatDoorEvL
namespace Go.Ev

section
variable {P : Program} {X : Cx} {base : Fr} {W0 W : World} {M : Mem}

/-! ### Builtins that only look -/
def lenM (P : Program) (M : Mem) (at_ : Array TypeId) (x : MV) : Option MV :=
  match at_[0]? with
  | some t => match P.underlying t, x with
    | some .string, .s l => some (.i .i64 (l.length : Int))
    | some (.array n _), _ => some (.i .i64 (n : Int))
    | some (.slice _), .nsl => some (.i .i64 0)
    | some (.slice _), .sl _ _ n _ _ _ => some (.i .i64 (n : Int))
    | some (.map _ _), .nm => some (.i .i64 0)
    | some (.map _ _), .m b => match M.h.get b with
      | some (.map es _) => some (.i .i64 (es.length : Int))
      | _ => none
    | _, _ => none
  | none => none

theorem ERs.length {es : List (MV × MV × Nat)} {es' : List MapEntry} (h : ERs X es es') : es'.length = es.length := by
  induction h with
  | nil => rfl
  | cons _ _ _ ih => simp [ih]

theorem MemR.mapAt (h : MemR X base W0 M W) {b n d z clock : Nat} {es : List (MV × MV × Nat)} (hρ : X.ρ b = some (n, d, z)) (hb : M.h.get b = some (.map es clock)) : ∃ es', W.heap[n]? = some (.map ⟨es'⟩ clock) ∧ ERs X es es' := by
  obtain ⟨n', d', z', o, hρ', hW, h0, es', ho, he⟩ := h.live _ _ hb
  rw [hρ] at hρ'
  simp only [Option.some.injEq, Prod.mk.injEq] at hρ'
  obtain ⟨rfl, rfl, rfl⟩ := hρ'
  subst ho
  exact ⟨es', hW, he⟩

theorem getObj_run {n : Nat} {o : Obj} (h : W.heap[n]? = some o) (hn : ∀ c e f, o ≠ .cells c e f) : (getObj n).run P W = .ok o W := by
  simp only [getObj, Sem.run, h]

theorem len_to {at_ : Array TypeId} {ty : TypeId} {x r : MV} {x' : Value} (h : MemR X base W0 M W) (hx : VR X x x') (hc : lenM P M at_ x = some r) : ToV P X base W0 (Builtin.len_ at_ ty #[x']) W r M := by
  unfold lenM at hc
  split at hc
  · rename_i t ht
    split at hc
    · rename_i l hu
      cases hx
      simp only [Option.some.injEq] at hc; subst hc
      exact .pure h (v' := .int .i64 (l.length : Int)) (by simp [Builtin.len_, ht, run_underlying hu, bs_size, goInt]) (.i _ _)
    · rename_i n e hu
      simp only [Option.some.injEq] at hc; subst hc
      refine .pure h (v' := .int .i64 (n : Int)) ?_ (.i _ _)
      simp [Builtin.len_, ht, run_underlying hu, goInt]
    · rename_i e hu
      cases hx
      simp only [Option.some.injEq] at hc; subst hc
      exact .pure h (v' := .int .i64 0) (by simp [Builtin.len_, ht, run_underlying hu, goInt]) (.i _ _)
    · rename_i e a b n c d f hu
      cases hx
      simp only [Option.some.injEq] at hc; subst hc
      exact .pure h (v' := .int .i64 (n : Int)) (by simp [Builtin.len_, ht, run_underlying hu, goInt]) (.i _ _)
    · rename_i k e hu
      cases hx
      simp only [Option.some.injEq] at hc; subst hc
      exact .pure h (v' := .int .i64 0) (by simp [Builtin.len_, ht, run_underlying hu, goInt]) (.i _ _)
    · rename_i k e b hu
      cases hx with | m hρ =>
      split at hc
      · rename_i es clock hb
        simp only [Option.some.injEq] at hc; subst hc
        obtain ⟨es', hW, he⟩ := h.mapAt hρ hb
        refine .pure h (v' := .int .i64 (es.length : Int)) ?_ (.i _ _)
        simp [Builtin.len_, ht, run_underlying hu, goInt, getObj_run hW (by simp), he.length]
      · cases hc
    · cases hc
  · cases hc

def capM (P : Program) (at_ : Array TypeId) (x : MV) : Option MV :=
  match at_[0]? with
  | some t => match P.underlying t, x with
    | some (.array n _), _ => some (.i .i64 (n : Int))
    | some (.slice _), .nsl => some (.i .i64 0)
    | some (.slice _), .sl _ _ _ c _ true => some (.i .i64 (c : Int))
    | _, _ => none
  | none => none

theorem cap_to {at_ : Array TypeId} {ty : TypeId} {x r : MV} {x' : Value} (h : MemR X base W0 M W) (hx : VR X x x') (hc : capM P at_ x = some r) : ToV P X base W0 (Builtin.cap_ at_ ty #[x']) W r M := by
  unfold capM at hc
  split at hc
  · rename_i t ht
    split at hc
    · rename_i n e hu
      simp only [Option.some.injEq] at hc; subst hc
      exact .pure h (v' := .int .i64 (n : Int)) (by simp [Builtin.cap_, ht, run_underlying hu, goInt]) (.i _ _)
    · rename_i e hu
      cases hx
      simp only [Option.some.injEq] at hc; subst hc
      exact .pure h (v' := .int .i64 0) (by simp [Builtin.cap_, ht, run_underlying hu, goInt]) (.i _ _)
    · rename_i e a b n c d hu
      cases hx with | sl hρ hcap he hl hz =>
      simp only [Option.some.injEq] at hc; subst hc
      have := he rfl
      subst this
      exact .pure h (v' := .int .i64 _) (by simp [Builtin.cap_, ht, run_underlying hu, goInt]) (.i _ _)
    · cases hc
  · cases hc

/-- max and min of two integers. -/
def maxM (mx : Bool) : List MV → Option MV
  | [.i k a, .i _ b] => some (.i k (bif mx then (bif ltI a b then b else a) else (bif ltI b a then b else a)))
  | _ => none

theorem max_to {at_ : Array TypeId} {ty : TypeId} {l : List MV} {l' : List Value} {r : MV} (h : MemR X base W0 M W) (hl : VRs X l l') (hc : maxM true l = some r) : ToV P X base W0 (Builtin.max_ at_ ty ⟨l'⟩) W r M := by
  unfold maxM at hc
  split at hc
  · rename_i k a k2 b
    cases hl with | cons h1 t =>
    cases t with | cons h2 t =>
    cases t
    cases h1; cases h2
    simp only [cond_true, Option.some.injEq] at hc; subst hc
    refine .pure h (v' := .int k (if b > a then b else a)) ?_ ?_
    · simp [Builtin.max_, Builtin.max2]
    · rw [show (bif ltI a b then b else a) = if b > a then b else a from by rw [ltI_eq]; by_cases e : a < b <;> simp [e]]
      exact .i _ _
  · cases hc

theorem min_to {at_ : Array TypeId} {ty : TypeId} {l : List MV} {l' : List Value} {r : MV} (h : MemR X base W0 M W) (hl : VRs X l l') (hc : maxM false l = some r) : ToV P X base W0 (Builtin.min_ at_ ty ⟨l'⟩) W r M := by
  unfold maxM at hc
  split at hc
  · rename_i k a k2 b
    cases hl with | cons h1 t =>
    cases t with | cons h2 t =>
    cases t
    cases h1; cases h2
    simp only [cond_false, Option.some.injEq] at hc; subst hc
    refine .pure h (v' := .int k (if b < a then b else a)) ?_ ?_
    · simp [Builtin.min_, Builtin.min2]
    · rw [show (bif ltI b a then b else a) = if b < a then b else a from by rw [ltI_eq]; by_cases e : b < a <;> simp [e]]
      exact .i _ _
  · cases hc

/-! ### Tuples, interfaces -/
def extractM (i : Nat) : MV → Option MV
  | .tup l => l[i]?
  | _ => none

theorem extract_to {i : Nat} {x r : MV} {x' : Value} (h : MemR X base W0 M W) (hx : VR X x x') (hc : extractM i x = some r) : ToV P X base W0 (Instr.extract x' i) W r M := by
  cases x <;> simp only [extractM] at hc <;> first | cases hc | skip
  cases hx with | tup hl =>
  rename_i l l'
  obtain ⟨v', hv, hr⟩ := hl.get hc
  refine .pure h ?_ hr
  have : (⟨l'⟩ : Array Value)[i]? = some v' := by simpa using hv
  simp only [Instr.extract, this, Sem.run_pure]

def makeIfaceM (P : Program) (t : TypeId) (x : MV) : Option MV :=
  match P.underlying t with
  | some (.interface _) => none
  | some _ => some (.ifc t x)
  | none => none

theorem makeIface_to {t : TypeId} {x r : MV} {x' : Value} (h : MemR X base W0 M W) (hx : VR X x x') (hc : makeIfaceM P t x = some r) : ToV P X base W0 (Instr.makeInterface t x') W r M := by
  unfold makeIfaceM at hc
  split at hc
  · cases hc
  · rename_i d hni hu
    simp only [Option.some.injEq] at hc; subst hc
    refine .pure h (v' := .iface t x') ?_ (.ifc hx)
    cases d <;> first | (exact (hni _ rfl).elim) | (simp [Instr.makeInterface, run_underlying hu])
  · cases hc

def assertM (P : Program) (t : TypeId) (ok : Bool) (x : MV) : Option MV :=
  match P.underlying t with
  | none => none
  | some (.interface _) => none
  | some _ => match x with
    | .ifc u v => bif Nat.beq u t then some (bif ok then .tup [v, .b true] else v) else bif ok then (match zeroOf P t with
      | some z => some (.tup [z, .b false])
      | none => none) else none
    | .nif => bif ok then (match zeroOf P t with
      | some z => some (.tup [z, .b false])
      | none => none) else none
    | _ => none

theorem assert_to {xt t : TypeId} {ok : Bool} {x r : MV} {x' : Value} (h : MemR X base W0 M W) (hx : VR X x x') (hc : assertM P t ok x = some r) : ToV P X base W0 (Instr.typeAssert x' xt t ok) W r M := by
  unfold assertM at hc
  split at hc
  · cases hc
  · cases hc
  · rename_i d hni hu
    cases x <;> simp only at hc <;> first | (cases hc; done) | skip
    · rename_i u v
      cases hx with | ifc hv =>
      rename_i v'
      cases hq : Nat.beq u t <;> rw [hq] at hc <;> simp only [cond_true, cond_false] at hc
      · have hne : ¬ u = t := by intro e; subst e; simp at hq
        cases ok <;> simp only [cond_true, cond_false, reduceCtorEq] at hc
        split at hc
        · rename_i z hz
          simp only [Option.some.injEq] at hc; subst hc
          obtain ⟨zv, zl, hzr, hzv, _, _⟩ := zero_run hz
          refine .pure h (v' := .tuple #[zv, .bool false]) ?_ (.tup (.cons (hzv X) (.cons (.b false) .nil)))
          cases d <;> first | (exact (hni _ rfl).elim) | (simp [Instr.typeAssert, run_underlying hu, hne, hzr W])
        · cases hc
      · have he : u = t := by simpa using hq
        subst he
        simp only [Option.some.injEq] at hc; subst hc
        cases ok
        · refine .pure h (v' := v') ?_ hv
          cases d <;> first | (exact (hni _ rfl).elim) | (simp [Instr.typeAssert, run_underlying hu])
        · refine .pure h (v' := .tuple #[v', .bool true]) ?_ (.tup (.cons hv (.cons (.b true) .nil)))
          cases d <;> first | (exact (hni _ rfl).elim) | (simp [Instr.typeAssert, run_underlying hu])
    · cases hx
      cases ok <;> simp only [cond_true, cond_false, reduceCtorEq] at hc
      split at hc
      · rename_i z hz
        simp only [Option.some.injEq] at hc; subst hc
        obtain ⟨zv, zl, hzr, hzv, _, _⟩ := zero_run hz
        refine .pure h (v' := .tuple #[zv, .bool false]) ?_ (.tup (.cons (hzv X) (.cons (.b false) .nil)))
        cases d <;> first | (exact (hni _ rfl).elim) | (simp [Instr.typeAssert, run_underlying hu, hzr W])
      · cases hc

/-! ### Ranges over strings -/
def rangeM (P : Program) (M : Mem) (t : TypeId) : MV → Option (MV × Mem)
  | .s l => match P.underlying t with
    | some .string => match M.new (.siter l 0) with
      | some (b, M') => some (.p b 0, M')
      | none => none
    | _ => none
  | _ => none

theorem new_next {mb : MB} {M' : Mem} {b : Nat} (hc : M.new mb = some (b, M')) : b = M.next := by
  unfold Mem.new at hc
  cases hq : Nat.blt M.next top <;> rw [hq] at hc
  · cases hc
  · simp only [cond_true, Option.some.injEq, Prod.mk.injEq] at hc; exact hc.1.symm

theorem range_to {M' : Mem} {t : TypeId} {x r : MV} {x' : Value} (h : MemR X base W0 M W) (hx : VR X x x') (hc : rangeM P M t x = some (r, M')) : ToV P X base W0 (Instr.range t x') W r M' := by
  cases x <;> simp only [rangeM] at hc <;> first | cases hc | skip
  rename_i l
  cases hx with | s _ hlt =>
  split at hc
  · rename_i hu
    split at hc
    · rename_i b M1 hn
      simp only [Option.some.injEq, Prod.mk.injEq] at hc
      obtain ⟨rfl, rfl⟩ := hc
      obtain ⟨_, hle, hm⟩ := h.new (z := 0) (o := .stringIter (bs l) 0) hn ⟨rfl, hlt, rfl⟩
      refine ⟨_, _, .pointer (some ⟨W.heap.size, 0, none⟩), hle, ?_, hm, .p (d := 0) (Cx.add_same _ _ _)⟩
      simp [Instr.range, run_underlying hu]
    · cases hc
  · cases hc

def Mem.put (M : Mem) (b : Nat) (mb : MB) : Option Mem :=
  bif Nat.ble M.ro b && Nat.blt b top then some { M with h := Tr.set 23 M.h b (some mb) } else none

/-- An object (no row of cells) replaced. -/
theorem MemR.put {M' : Mem} (h : MemR X base W0 M W) {b n d z : Nat} {mb mb' : MB} {o o' : Obj} (hρ : X.ρ b = some (n, d, z)) (hb : M.h.get b = some mb) (hc : M.put b mb' = some M') (hW : W.heap[n]? = some o) (hno : ∀ c e f, o ≠ .cells c e f)
    (hor : OR X d z mb' o') : ∃ W', (setObj n o').run P W = .ok () W' ∧ MemR X base W0 M' W' := by
  unfold Mem.put at hc
  cases hq : (Nat.ble M.ro b && Nat.blt b top) <;> rw [hq] at hc <;> simp only [cond_true, cond_false, reduceCtorEq, Option.some.injEq] at hc
  subst hc
  simp only [Bool.and_eq_true, Nat.ble_eq, Nat.blt_eq] at hq
  refine ⟨{ W with heap := W.heap.setIfInBounds n o' }, ?_, ?_⟩
  · simp only [setObj, Sem.run, hW]
  · have hlt : n < W.heap.size := (Array.getElem?_eq_some_iff.1 hW).1
    refine h.replace hb hρ hq.1 hq.2 hor rfl rfl rfl (by simp) ?_ ?_
    · show (W.heap.setIfInBounds n o')[n]? = some o'
      simp [hlt]
    · intro k hk
      show (W.heap.setIfInBounds n o')[k]? = _
      rw [Array.getElem?_setIfInBounds_ne (fun e => hk e.symm)]

def nextM (M : Mem) (it : MV) (isString : Bool) : Option (MV × Mem) :=
  match it with
  | .p b off => bif isString && Nat.beq off 0 then (match M.h.get b with
    | some (.siter l pos) => bif Nat.blt pos l.length then
        (match M.put b (.siter l (pos + (Utf8.decode (bs l) pos).2)) with
        | some M' => some (.tup [.b true, .i .i64 (pos : Int), .i .i32 ((Utf8.decode (bs l) pos).1 : Int)], M')
        | none => none)
      else some (.tup [.b false], M)
    | _ => none) else none
  | _ => none

theorem next_to {M' : Mem} {it r : MV} {it' : Value} {isString : Bool} {ty : TypeId} (h : MemR X base W0 M W) (hx : VR X it it') (hc : nextM M it isString = some (r, M')) : ToV P X base W0 (Instr.next it' isString ty) W r M' := by
  cases it <;> simp only [nextM] at hc <;> first | cases hc | skip
  rename_i b off
  cases hq : (isString && Nat.beq off 0) <;> rw [hq] at hc <;> simp only [cond_true, cond_false, reduceCtorEq] at hc
  simp only [Bool.and_eq_true, Nat.beq_eq] at hq
  obtain ⟨q1, q2⟩ := hq
  subst q1; subst q2
  cases hx with | p hρ =>
  rename_i n d z
  split at hc
  · rename_i l pos hb
    obtain ⟨n', d', z', o, hρ', hW, h0, hlt, ho⟩ := h.live _ _ hb
    rw [hρ] at hρ'
    simp only [Option.some.injEq, Prod.mk.injEq] at hρ'
    obtain ⟨rfl, rfl, rfl⟩ := hρ'
    subst ho; subst h0
    cases hp : Nat.blt pos l.length <;> rw [hp] at hc <;> simp only [cond_true, cond_false, Option.some.injEq, Prod.mk.injEq] at hc
    · obtain ⟨rfl, rfl⟩ := hc
      have hn : ¬ pos < (bs l).size := by
        rw [bs_size]; intro e
        have : Nat.blt pos l.length = true := by simpa using e
        rw [hp] at this; cases this
      refine .pure h (v' := .tuple #[.bool false]) ?_ (.tup (.cons (.b false) .nil))
      simp [Instr.next, getObj_run hW (by simp), hn]
    · have hlt' : pos < (bs l).size := by rw [bs_size]; simpa using hp
      split at hc
      · rename_i M1 hput
        simp only [Option.some.injEq, Prod.mk.injEq] at hc
        obtain ⟨rfl, rfl⟩ := hc
        obtain ⟨W', hrun, hm⟩ := MemR.put (P := P) h hρ hb hput hW (by simp) (o' := .stringIter (bs l) (pos + (Utf8.decode (bs l) pos).2)) ⟨rfl, hlt, rfl⟩
        refine ⟨X, W', .tuple #[.bool true, .int .i64 (pos : Int), .int .i32 ((Utf8.decode (bs l) pos).1 : Int)], Cx.Le.refl X, ?_, hm, .tup (.cons (.b true) (.cons (.i _ _) (.cons (.i _ _) .nil)))⟩
        simp [Instr.next, getObj_run hW (by simp), hlt', hrun, goInt]
      · cases hc
  · cases hc
end
end Go.Ev
