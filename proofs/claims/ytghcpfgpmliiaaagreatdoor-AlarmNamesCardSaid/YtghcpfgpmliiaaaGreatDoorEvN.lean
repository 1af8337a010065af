/- The evaluator: unsafe's few (strings.Builder), maps. -/
import Derived.Test.YtghcpfgpmliiaaaGreatDoorEvM
namespace Go.Ev

section
variable {P : Program} {X : Cx} {base : Fr} {W0 W : World} {M : Mem}

theorem shape_run {blk n d z : Nat} {l : List MV} {e : TypeId} {fz : MF} {wh : Bool} (h : MemR X base W0 M W) (hρ : X.ρ blk = some (n, d, z)) (hb : M.h.get blk = some (.cells l e fz wh)) :
    ∃ e', W.shape? n = some (e', z) ∧ d + l.length ≤ z ∧ (wh = true → d = 0 ∧ z = l.length) ∧ (Nat.beq e anyT = false → e' = e) := by
  obtain ⟨n', d', z', o, hρ', hW, c, f, e', ho, hlen, hle, hvs, hfz, hwh⟩ := h.live _ _ hb
  rw [hρ] at hρ'
  simp only [Option.some.injEq, Prod.mk.injEq] at hρ'
  obtain ⟨rfl, rfl, rfl⟩ := hρ'
  subst ho
  refine ⟨e', ?_, hle, hwh⟩
  simp [World.shape?, hW, hlen]

theorem noView_run {n e z : Nat} (hs : W.shape? n = some (e, z)) : (viewAt n).run P W = .ok none W := by
  simp [viewAt, hs]

theorem lies {e u : TypeId} {s count off n : Nat} (hs : P.cellsOf e = s) (h0 : s ≠ 0) (h1 : off % s = 0) (h2 : off / s + n ≤ count) (h3 : P.underlyingId e = P.underlyingId u) : liesAt P P.depth e count off u n = true := by
  obtain ⟨k, hk⟩ : ∃ k, P.depth = k + 1 := ⟨2 * (P.types.size + Made.depth) + 1, rfl⟩
  rw [hk]
  unfold liesAt
  rw [hk]
  unfold rowAt
  rw [hs, if_neg h0]
  have h4 : sameLayout P (k + 1) e u = true := by unfold sameLayout; simp [h3]
  simp [h1, h2, h4]

/-- A pointer as an unsafe.Pointer, and back. -/
def unsafeM (P : Program) (M : Mem) (src dst : TypeId) (x : MV) : Option MV :=
  match P.underlying src, P.underlying dst, x with
  | some (.pointer _), some .unsafePointer, .np => some .np
  | some (.pointer t), some .unsafePointer, .p blk off => match M.h.get blk, szOf P t with
    | some (.cells l _ _ _), some s => bif Nat.blt off l.length && Nat.blt 0 s then some (.p blk off) else none
    | _, _ => none
  | some .unsafePointer, some (.pointer _), .np => some .np
  | some .unsafePointer, some (.pointer u), .p blk off => match M.h.get blk, szOf P u with
    | some (.cells l e _ true), some su => bif Nat.blt 0 (P.cellsOf e) && Nat.beq (off % P.cellsOf e) 0 && Nat.ble (off / P.cellsOf e + 1) (l.length / P.cellsOf e) && Nat.beq (P.underlyingId e) (P.underlyingId u) && Nat.blt 0 su && !(Nat.beq e anyT) then some (.p blk off) else none
    | _, _ => none
  | _, _, _ => none

theorem unsafe_to {src dst : TypeId} {x r : MV} {x' : Value} (h : MemR X base W0 M W) (hx : VR X x x') (hc : unsafeM P M src dst x = some r) : ToV P X base W0 (convert src dst x') W r M := by
  unfold unsafeM at hc
  split at hc
  · rename_i t hs hd
    cases hx
    simp only [Option.some.injEq] at hc; subst hc
    exact .pure h (v' := .pointer none) (by simp [convert, run_underlying hs, run_underlying hd, Conv.unsafePointer]) .np
  · rename_i t blk off hs hd
    cases hx with | p hρ =>
    rename_i n d z
    split at hc
    · rename_i l e fz wh s hb hsz
      cases hq : (Nat.blt off l.length && Nat.blt 0 s) <;> rw [hq] at hc <;> simp only [cond_true, cond_false, reduceCtorEq, Option.some.injEq] at hc
      subst hc
      simp only [Bool.and_eq_true, Nat.blt_eq] at hq
      obtain ⟨e', hsh, hle, _⟩ := shape_run h hρ hb
      have c1 : ¬ s = 0 := by omega
      have c2 : ¬ (z ≤ d + off) := by omega
      refine .pure h (v' := .pointer (some ⟨n, d + off, none⟩)) ?_ (.p hρ)
      simp [convert, run_underlying hs, run_underlying hd, Conv.unsafePointer, Conv.seenAt, noView_run hsh, cellsIn, hsh, sizeOf_run hsz, c1, c2]
    · cases hc
  · rename_i t hs hd
    cases hx
    simp only [Option.some.injEq] at hc; subst hc
    exact .pure h (v' := .pointer none) (by simp [convert, run_underlying hs, run_underlying hd, Conv.unsafePointer]) .np
  · rename_i u blk off hs hd
    cases hx with | p hρ =>
    rename_i n d z
    split at hc
    · rename_i l e fz su hb hsz
      cases hq : (Nat.blt 0 (P.cellsOf e) && Nat.beq (off % P.cellsOf e) 0 && Nat.ble (off / P.cellsOf e + 1) (l.length / P.cellsOf e) && Nat.beq (P.underlyingId e) (P.underlyingId u) && Nat.blt 0 su && !(Nat.beq e anyT)) <;> rw [hq] at hc <;> simp only [cond_true, cond_false, reduceCtorEq, Option.some.injEq] at hc
      subst hc
      simp only [Bool.and_eq_true, Nat.blt_eq, Nat.ble_eq, Bool.not_eq_true'] at hq
      obtain ⟨⟨⟨⟨⟨q1, q2⟩, q3⟩, q4⟩, q5⟩, q6⟩ := hq
      have q2 := Nat.eq_of_beq_eq_true q2
      have q4 := Nat.eq_of_beq_eq_true q4
      obtain ⟨e', hsh, hle, hwh⟩ := shape_run h hρ hb
      obtain ⟨hd0, hz0⟩ := hwh.1 rfl
      have he := (hwh.2 q6).symm
      subst he
      subst hd0; subst hz0
      have c1 : ¬ su = 0 := by omega
      have hl := lies (P := P) (e := e) (u := u) (s := P.cellsOf e) (count := l.length / P.cellsOf e) (off := off) (n := 1) rfl (by omega) q2 q3 q4
      refine .pure h (v' := .pointer (some ⟨n, 0 + off, none⟩)) ?_ (.p hρ)
      simp [convert, run_underlying hs, run_underlying hd, Conv.unsafePointer, Conv.seenAt, noView_run hsh, hsh, sizeOf_run hsz, c1, variablesAt, hl]
    · cases hc
  · cases hc

def sliceDataM : MV → Option MV
  | .nsl => some .np
  | .sl blk off _ cap _ _ => bif Nat.blt 0 cap then some (.p blk off) else none
  | _ => none

theorem sliceData_to {at_ : Array TypeId} {ty : TypeId} {x r : MV} {x' : Value} (h : MemR X base W0 M W) (hx : VR X x x') (hc : sliceDataM x = some r) : ToV P X base W0 (Builtin.unsafeSliceData_ at_ ty #[x']) W r M := by
  cases x <;> simp only [sliceDataM] at hc <;> first | (cases hc; done) | skip
  · cases hx
    simp only [Option.some.injEq] at hc; subst hc
    exact .pure h (v' := .pointer none) rfl .np
  · rename_i blk off len cap sz ex
    cases hx with | sl hρ hcap he hl hz =>
    rename_i cap' n d z
    cases hq : Nat.blt 0 cap <;> rw [hq] at hc <;> simp only [cond_true, cond_false, reduceCtorEq, Option.some.injEq] at hc
    subst hc
    have : 0 < cap := by simpa using hq
    have c0 : ¬ cap' = 0 := by omega
    refine .pure h (v' := .pointer (some ⟨n, d + off, none⟩)) ?_ (.p hρ)
    have : Builtin.unsafeSliceData_ at_ ty #[.slice (some ⟨n, d + off, none⟩) len cap'] = (if cap' ≠ 0 then pure (.pointer (some ⟨n, d + off, none⟩)) else do
      if (← viewAt n).isSome then pure (.pointer (some ⟨n, d + off, none⟩))
      else pure (.pointer (some ⟨← newObj (.view ⟨n, d + off, none⟩ (← elemOf ty)), 0, none⟩))) := rfl
    rw [this, if_pos c0]
    rfl

/-! ### Maps -/
def keyKind : TypeDesc → Bool
  | .int _ | .string | .bool => true
  | _ => false

def sameM : TypeDesc → MV → MV → Option Bool
  | .int _, .i k a, .i k' b => bif eqK k k' then some (eqI a b) else none
  | .string, .s a, .s b => some (eqL a b)
  | .bool, .b a, .b b => some (a == b)
  | _, _, _ => none

def findM (kd : TypeDesc) (k : MV) : List (MV × MV × Nat) → Nat → Option (Option (Nat × MV))
  | [], _ => some none
  | (k', v, _) :: es, i => match sameM kd k k' with
    | some true => some (some (i, v))
    | some false => findM kd k es (i + 1)
    | none => none

theorem eqL_true : ∀ {a b : List Nat}, eqL a b = true → a = b
  | [], [], _ => rfl
  | [], _ :: _, h => by simp [eqL] at h
  | _ :: _, [], h => by simp [eqL] at h
  | a :: x, b :: y, h => by
    simp only [eqL] at h
    cases hq : Nat.beq a b <;> rw [hq] at h <;> simp only [cond_true, cond_false, reduceCtorEq] at h
    have : a = b := by simpa using hq
    rw [this, eqL_true h]

inductive FdR (X : Cx) (es : List (MV × MV × Nat)) (es' : List MapEntry) (k' : Value) (i : Nat) : Option (Nat × MV) → Option (Nat × Value) → Prop
  | none : FdR X es es' k' i none none
  | some {j : Nat} {v : MV} {v' : Value} {e0 : MV × MV × Nat} {e0' : MapEntry} (hv : VR X v v') (hij : i ≤ j) (h1 : es[j - i]? = some e0) (h2 : es'[j - i]? = some e0') (hk : VR X e0.1 e0'.key) (hs : Instr.sameBits 10000 e0'.key k' = true) :
      FdR X es es' k' i (some (j, v)) (some (j, v'))

theorem same_run {kd : TypeDesc} {a b : MV} {a' b' : Value} {r : Bool} (ha : VR X a a') (hb : VR X b b') (hc : sameM kd a b = some r) : Instr.sameNow kd a' b' = some r ∧ (r = true → Instr.sameBits 10000 b' a' = true) := by
  unfold sameM at hc
  split at hc
  · rename_i k0 k x k' y
    cases ha; cases hb
    cases hq : eqK k k' <;> rw [hq] at hc <;> simp only [cond_true, cond_false, reduceCtorEq, Option.some.injEq] at hc
    have := eqK_eq hq; subst this
    subst hc
    refine ⟨by simp [Instr.sameNow, eqI_eq], fun e => ?_⟩
    rw [eqI_eq] at e
    have : x = y := by simpa using e
    subst this
    simp [Instr.sameBits]
  · rename_i x y
    cases ha with | s _ hx =>
    cases hb with | s _ hy =>
    simp only [Option.some.injEq] at hc; subst hc
    have e0 : (bs x == bs y) = eqL x y := by rw [beq_toListBytes, bs_toList, bs_toList, eqL_eq hx hy]
    refine ⟨by simp [Instr.sameNow, e0], fun e => ?_⟩
    have e1 := eqL_true e
    subst e1
    simp [Instr.sameBits, beq_toListBytes]
  · rename_i x y
    cases ha; cases hb
    simp only [Option.some.injEq] at hc; subst hc
    refine ⟨by simp [Instr.sameNow], fun e => ?_⟩
    have : x = y := by simpa using e
    subst this
    simp [Instr.sameBits]
  · cases hc

theorem find_run {kd : TypeDesc} {k : MV} {k' : Value} (hk : VR X k k') : ∀ {es : List (MV × MV × Nat)} {es' : List MapEntry} {i : Nat} {r : Option (Nat × MV)}, ERs X es es' → findM kd k es i = some r →
    ∃ r', Instr.findNow kd k' es' i = some r' ∧ FdR X es es' k' i r r'
  | [], _, i, r, he, hc => by
    cases he
    simp only [findM, Option.some.injEq] at hc; subst hc
    exact ⟨none, rfl, .none⟩
  | (k1, v1, n1) :: es, _, i, r, he, hc => by
    cases he with
    | cons hk1 hv1 t =>
      simp only [findM] at hc
      split at hc
      · rename_i hs
        simp only [Option.some.injEq] at hc; subst hc
        obtain ⟨h1, h2⟩ := same_run hk hk1 hs
        refine ⟨_, by simp only [Instr.findNow, h1], .some (e0 := (k1, v1, n1)) hv1 (Nat.le_refl _) (by simp) (by rw [Nat.sub_self]; rfl) hk1 (h2 rfl)⟩
      · rename_i hs
        obtain ⟨h1, h2⟩ := same_run hk hk1 hs
        obtain ⟨r', hr', hrr⟩ := find_run hk t hc
        refine ⟨r', by simp only [Instr.findNow, h1]; exact hr', ?_⟩
        cases hrr with
        | none => exact .none
        | some hv hij a1 a2 a3 a4 =>
          rename_i j v v' e0 e0'
          refine .some (e0 := e0) (e0' := e0') hv (by omega) ?_ ?_ a3 a4
          · rw [show j - i = (j - (i + 1)) + 1 by omega, List.getElem?_cons_succ]; exact a1
          · rw [show j - i = (j - (i + 1)) + 1 by omega, List.getElem?_cons_succ]; exact a2
      · cases hc

theorem checkKey_run {t : TypeId} {kd : TypeDesc} (hu : P.underlying t = some kd) (hk : keyKind kd = true) (e : Bool) (v : Value) (W : World) : (Instr.checkKey e 10000 t v).run P W = .ok () W := by
  show (Instr.checkKey e (9999 + 1) t v).run P W = .ok () W
  unfold Instr.checkKey
  cases kd <;> simp [keyKind] at hk <;> simp [run_underlying hu]

def lookupM (P : Program) (M : Mem) (t : TypeId) (x k : MV) (ok : Bool) : Option MV :=
  match P.underlying t with
  | some (.map kt et) => match P.underlying kt with
    | some kd => bif keyKind kd then (match (match x with
        | .nm => some []
        | .m b => match M.h.get b with
          | some (.map es _) => some es
          | _ => none
        | _ => none : Option (List (MV × MV × Nat))) with
      | some es => match findM kd k es 0 with
        | some (some (_, v)) => some (bif ok then .tup [v, .b true] else v)
        | some none => match zeroOf P et with
          | some z => some (bif ok then .tup [z, .b false] else z)
          | none => none
        | none => none
      | none => none) else none
    | none => none
  | _ => none

theorem findKey_run {t : TypeId} {kd : TypeDesc} {k' : Value} {es' : List MapEntry} {r : Option (Nat × Value)} (hu : P.underlying t = some kd) (h : Instr.findNow kd k' es' 0 = some r) (W : World) : (Instr.findKey t k' es').run P W = .ok r W := by
  simp only [Instr.findKey, Sem.run_bind, run_underlying hu, Result.andThen_ok, h, Sem.run_pure]

theorem lookup_to {t : TypeId} {x k r : MV} {x' k' : Value} {ok : Bool} (h : MemR X base W0 M W) (hx : VR X x x') (hk : VR X k k') (hc : lookupM P M t x k ok = some r) : ToV P X base W0 (Instr.lookup t x' k' ok) W r M := by
  unfold lookupM at hc
  split at hc
  · rename_i kt et hu
    split at hc
    · rename_i kd hkd
      cases hq : keyKind kd <;> rw [hq] at hc <;> simp only [cond_true, cond_false, reduceCtorEq] at hc
      split at hc
      · rename_i es hes
        obtain ⟨es', hes', hread⟩ : ∃ es', ERs X es es' ∧ ((x' = .map none ∧ es' = []) ∨ ∃ n clock, x' = .map (some n) ∧ W.heap[n]? = some (.map ⟨es'⟩ clock)) := by
          cases x <;> simp only [reduceCtorEq] at hes
          · cases hx
            simp only [Option.some.injEq] at hes; subst hes
            exact ⟨[], .nil, .inl ⟨rfl, rfl⟩⟩
          · rename_i b
            cases hx with | m hρ =>
            split at hes
            · rename_i es0 clock hb
              simp only [Option.some.injEq] at hes; subst hes
              obtain ⟨es', hW, he⟩ := h.mapAt hρ hb
              exact ⟨es', he, .inr ⟨_, _, rfl, hW⟩⟩
            · cases hes
        have main : ∀ (r' : Option (Nat × Value)) (v' : Value), Instr.findNow kd k' es' 0 = some r' → (r' = none → ∀ W, (zeroValue et).run P W = .ok v' W) → (∀ j v, r' = some (j, v) → v = v') →
            (Instr.lookup t x' k' ok).run P W = .ok (if ok then .tuple #[v', .bool r'.isSome] else v') W := by
          intro r' v' hf hz hz'
          rcases hread with ⟨rfl, rfl⟩ | ⟨n, clock, rfl, hW⟩
          · simp only [Instr.lookup, Sem.run_bind, run_underlying hu, Result.andThen_ok, Sem.run_pure, checkKey_run hkd hq, findKey_run hkd hf]
            cases r' with
            | none => simp [hz rfl]
            | some r' => obtain ⟨j, v⟩ := r'; have := hz' j v rfl; subst this; simp
          · simp only [Instr.lookup, Sem.run_bind, run_underlying hu, Result.andThen_ok, Sem.run_pure, getObj_run hW (by simp), checkKey_run hkd hq, findKey_run hkd hf]
            cases r' with
            | none => simp [hz rfl]
            | some r' => obtain ⟨j, v⟩ := r'; have := hz' j v rfl; subst this; simp
        split at hc
        · rename_i j v hf
          simp only [Option.some.injEq] at hc; subst hc
          obtain ⟨r', hr', hrr⟩ := find_run hk hes' hf
          cases hrr with
          | some hv hij a1 a2 a3 a4 =>
            rename_i v' e0 e0'
            have := main _ v' hr' (by simp) (by simp)
            cases ok
            · exact .pure h (by simpa using this) hv
            · exact .pure h (by simpa using this) (.tup (.cons hv (.cons (.b true) .nil)))
        · rename_i hf
          split at hc
          · rename_i z hz
            simp only [Option.some.injEq] at hc; subst hc
            obtain ⟨r', hr', hrr⟩ := find_run hk hes' hf
            obtain ⟨zv, zl, hzr, hzv, _, _⟩ := zero_run hz
            cases hrr
            have := main _ zv hr' (fun _ => hzr) (by simp)
            cases ok
            · exact .pure h (by simpa using this) (hzv X)
            · exact .pure h (by simpa using this) (.tup (.cons (hzv X) (.cons (.b false) .nil)))
          · cases hc
        · cases hc
      · cases hc
    · cases hc
  · cases hc

def makeMapM (P : Program) (M : Mem) (t : TypeId) (r : Option MV) : Option (MV × Mem) :=
  match r with
  | none => match M.new (.map [] 0) with
    | some (b, M') => some (.m b, M')
    | none => none
  | some (.i _ _) => match P.underlying t with
    | some (.map _ _) => match M.new (.map [] 0) with
      | some (b, M') => some (.m b, M')
      | none => none
    | _ => none
  | _ => none

theorem makeMap_to {M' : Mem} {t : TypeId} {o : Option MV} {o' : Option Value} {r : MV} (h : MemR X base W0 M W) (ho : VO X o o') (hc : makeMapM P M t o = some (r, M')) : ToV P X base W0 (Instr.makeMap t o') W r M' := by
  have fin : ∀ b M1, M.new (.map [] 0) = some (b, M1) → ToV P X base W0 (do pure (.map (some (← newObj (.map #[] 0))))) W (.m b) M1 := by
    intro b M1 hn
    obtain ⟨_, hle, hm⟩ := h.new (z := 0) (o := .map ⟨[]⟩ 0) hn ⟨rfl, [], rfl, .nil⟩
    exact ⟨_, _, .map (some W.heap.size), hle, by simp, hm, .m (Cx.add_same _ _ _)⟩
  unfold makeMapM at hc
  split at hc
  · cases ho
    split at hc
    · rename_i b M1 hn
      simp only [Option.some.injEq, Prod.mk.injEq] at hc
      obtain ⟨rfl, rfl⟩ := hc
      obtain ⟨X', W', v', a1, a2, a3, a4⟩ := fin b M1 hn
      exact ⟨X', W', v', a1, by simpa [Instr.makeMap] using a2, a3, a4⟩
    · cases hc
  · rename_i k n
    cases ho with | some hv =>
    cases hv
    split at hc
    · rename_i kt et hu
      split at hc
      · rename_i b M1 hn
        simp only [Option.some.injEq, Prod.mk.injEq] at hc
        obtain ⟨rfl, rfl⟩ := hc
        obtain ⟨X', W', v', a1, a2, a3, a4⟩ := fin b M1 hn
        exact ⟨X', W', v', a1, by simpa [Instr.makeMap, run_underlying hu, asInt, asIntOf] using a2, a3, a4⟩
      · cases hc
    · cases hc
  · cases hc

def modM (k v : MV) : List (MV × MV × Nat) → Nat → List (MV × MV × Nat)
  | [], _ => []
  | (_, _, n) :: es, 0 => (k, v, n) :: es
  | e :: es, i + 1 => e :: modM k v es i

theorem mod_ers {k v : MV} {k' v' : Value} (hk : VR X k k') (hv : VR X v v') : ∀ {es : List (MV × MV × Nat)} {es' : List MapEntry} (i : Nat), ERs X es es' → ERs X (modM k v es i) (es'.modify i fun e => { e with key := k', val := v' })
  | [], _, i, h => by cases h; cases i <;> exact .nil
  | (a, b, n) :: es, _, i, h => by
    cases h with
    | cons h1 h2 t =>
      cases i with
      | zero => exact .cons hk hv t
      | succ i => exact .cons h1 h2 (mod_ers hk hv i t)

theorem ERs.snoc {k v : MV} {k' v' : Value} (hk : VR X k k') (hv : VR X v v') (n : Nat) {es : List (MV × MV × Nat)} {es' : List MapEntry} (h : ERs X es es') : ERs X (es ++ [(k, v, n)]) (es' ++ [⟨k', v', n⟩]) := by
  induction h with
  | nil => exact .cons hk hv .nil
  | cons a b _ ih => exact .cons a b ih

def mapUpdateM (P : Program) (M : Mem) (t : TypeId) (m k v : MV) : Option Mem :=
  match P.underlying t, m with
  | some (.map kt _), .m b => match P.underlying kt, M.h.get b with
    | some kd, some (.map es clock) => bif keyKind kd then (match findM kd k es 0 with
      | some (some (j, _)) => M.put b (.map (modM k v es j) clock)
      | some none => M.put b (.map (es ++ [(k, v, clock)]) (clock + 1))
      | none => none) else none
    | _, _ => none
  | _, _ => none

theorem mapUpdate_to {M' : Mem} {t : TypeId} {m k v : MV} {m' k' v' : Value} (h : MemR X base W0 M W) (hm : VR X m m') (hk : VR X k k') (hv : VR X v v') (hc : mapUpdateM P M t m k v = some M') : ToU P X base W0 (Instr.mapUpdate t m' k' v') W M' := by
  unfold mapUpdateM at hc
  split at hc
  · rename_i kt et b hu
    cases hm with | m hρ =>
    rename_i n d z
    split at hc
    · rename_i kd es clock hkd hb
      cases hq : keyKind kd <;> rw [hq] at hc <;> simp only [cond_true, cond_false, reduceCtorEq] at hc
      obtain ⟨es', hW, he⟩ := h.mapAt hρ hb
      obtain ⟨n', d', z', o, hρ', hW', h0, _⟩ := h.live _ _ hb
      rw [hρ] at hρ'
      simp only [Option.some.injEq, Prod.mk.injEq] at hρ'
      obtain ⟨rfl, rfl, rfl⟩ := hρ'
      split at hc
      · rename_i j w hf
        obtain ⟨r', hr', hrr⟩ := find_run hk he hf
        cases hrr with
        | some hvv hij a1 a2 a3 a4 =>
          rename_i w' e0 e0'
          obtain ⟨W', hrun, hm⟩ := MemR.put (P := P) h hρ hb hc hW (by simp) (o' := .map ⟨es'.modify j fun e => { e with key := k', val := v' }⟩ clock) ⟨h0, _, rfl, mod_ers hk hv j he⟩
          refine ⟨X, W', Cx.Le.refl X, ?_, hm⟩
          have ha2 : es'[j]? = some e0' := by simpa using a2
          have harr : ((⟨es'⟩ : Array MapEntry).modify j fun e => { e with key := k', val := v' }) = ⟨es'.modify j fun e => { e with key := k', val := v' }⟩ := by simp
          simp [Instr.mapUpdate, run_underlying hu, getObj_run hW (by simp), checkKey_run hkd hq, findKey_run hkd hr', Instr.keyThatStays, ha2, a4, hrun]
      · rename_i hf
        obtain ⟨r', hr', hrr⟩ := find_run hk he hf
        cases hrr
        obtain ⟨W', hrun, hm⟩ := MemR.put (P := P) h hρ hb hc hW (by simp) (o' := .map ⟨es' ++ [⟨k', v', clock⟩]⟩ (clock + 1)) ⟨h0, _, rfl, ERs.snoc hk hv clock he⟩
        refine ⟨X, W', Cx.Le.refl X, ?_, hm⟩
        simp [Instr.mapUpdate, run_underlying hu, getObj_run hW (by simp), checkKey_run hkd hq, findKey_run hkd hr', hrun]
      · cases hc
    · cases hc
  · cases hc

/-! ### unsafe.String -/
theorem loadBytes_run (nb : Nat) : ∀ (l : List Nat) (o : Nat) (acc : List Nat), (∀ (j x : Nat), l[j]? = some x → W.cell? ⟨nb, o + j, none⟩ = some (.int .u8 (x : Int))) → (loadBytes ⟨nb, o, none⟩ (bs acc) l.length).run P W = .ok (bs (acc ++ l)) W
  | [], o, acc, _ => by simp [loadBytes]
  | x :: l, o, acc, h => by
    have h0 : W.cell? ⟨nb, o, none⟩ = some (.int .u8 (x : Int)) := h 0 x rfl
    have ih := loadBytes_run nb l (o + 1) (acc ++ [x]) fun j y hj => by
      have := h (j + 1) y (by simpa using hj)
      rwa [show o + (j + 1) = o + 1 + j by omega] at this
    simp only [List.length_cons, loadBytes, Sem.run_bind, run_load, h0, Result.andThen_ok, addr_add]
    have e : (bs acc).push ((x : Int).toNat.toUInt8) = bs (acc ++ [x]) := by
      rw [← push_bs]; rfl
    rw [e, ih]
    simp

def freezeFz (fz : MF) (off n : Nat) : Option MF :=
  match fz with
  | .none => some (.rng off (off + n))
  | .rng lo hi => some (.rng (min lo off) (max hi (off + n)))
  | .strish => none

def unsafeStringM (P : Program) (M : Mem) (at_ : Array TypeId) (p n : MV) : Option (MV × Mem) :=
  match n, at_[0]? with
  | .i _ (.ofNat 0), some _ => match p with
    | .np => some (.s [], M)
    | .p _ _ => some (.s [], M)
    | _ => none
  | .i _ (.ofNat (k + 1)), some pt => match p, P.underlying pt with
    | .p blk off, some (.pointer u) => match M.h.get blk, M.cells blk off (k + 1) with
      | some (.cells l e fz wh), some cs => match convM.mapO' byteOf cs, freezeFz fz off (k + 1) with
        | some s, some fz' => bif Nat.beq (P.cellsOf e) 1 && Nat.beq (P.underlyingId e) (P.underlyingId u) && Nat.blt k 4294967296 && !(Nat.beq e anyT) then (match M.put blk (.cells l e fz' wh) with
          | some M' => some (.s s, M')
          | none => none) else none
        | _, _ => none
      | _, _ => none
    | _, _ => none
  | _, _ => none

theorem mapO'_get : ∀ {cs : List MV} {l : List Nat} {j x : Nat}, convM.mapO' byteOf cs = some l → l[j]? = some x → ∃ c, cs[j]? = some c ∧ byteOf c = some x
  | [], l, j, x, h, hj => by simp only [convM.mapO', Option.some.injEq] at h; subst h; simp at hj
  | c :: cs, l, j, x, h, hj => by
    simp only [convM.mapO'] at h
    split at h
    · rename_i y ys hy hys
      simp only [Option.some.injEq] at h; subst h
      cases j with
      | zero => simp at hj; subst hj; exact ⟨c, rfl, hy⟩
      | succ j => simp at hj; simpa using mapO'_get hys hj
    · cases h

theorem unsafeString_to {M' : Mem} {at_ : Array TypeId} {ty : TypeId} {p n r : MV} {p' n' : Value} (h : MemR X base W0 M W) (hp : VR X p p') (hn : VR X n n') (hc : unsafeStringM P M at_ p n = some (r, M')) :
    ToV P X base W0 (Builtin.unsafeString_ at_ ty #[p', n']) W r M' := by
  have hgen : ∀ (a : Option Addr) (len_ : Value), Builtin.unsafeString_ at_ ty #[.pointer a, len_] = (do
      let n ← asInt len_
      let some pt := at_[0]? | stuck "unsafe.String: no argument types"
      if n < 0 then runtimePanic (.error "unsafe.String: len out of range")
      if n > IntKind.i64.max then unsupported (.unsafePointer "String: a length above the largest int")
      match a with
      | none =>
        if n = 0 then pure (.string .empty)
        else runtimePanic (.error "unsafe.String: ptr is nil and len is not zero")
      | some a =>
        if n = 0 then pure (.string .empty)
        else if ← variablesAt a (← elemOf pt) n.toNat then do
          let s ← loadBytes a .empty n.toNat
          freeze a n.toNat
          pure (.string s)
        else unsupported (.unsafePointer "String: not so many bytes at ptr")) := fun _ _ => rfl
  have hmax : IntKind.i64.max = 9223372036854775807 := by decide
  unfold unsafeStringM at hc
  split at hc
  · rename_i k pt hpt
    cases hn
    split at hc
    · cases hp
      simp only [Option.some.injEq, Prod.mk.injEq] at hc
      obtain ⟨rfl, rfl⟩ := hc
      refine .pure h (v' := .string (bs [])) ?_ (.s _ (by simp))
      rw [hgen]
      simp [asInt, asIntOf, hpt, hmax]
      rfl
    · cases hp
      simp only [Option.some.injEq, Prod.mk.injEq] at hc
      obtain ⟨rfl, rfl⟩ := hc
      refine .pure h (v' := .string (bs [])) ?_ (.s _ (by simp))
      rw [hgen]
      simp [asInt, asIntOf, hpt, hmax]
      rfl
    · cases hc
  · rename_i kk k pt hpt
    cases hn
    split at hc
    · rename_i blk off u hu
      cases hp with | p hρ =>
      rename_i nb d z
      split at hc
      · rename_i l e fz wh cs hb hcs
        split at hc
        · rename_i s fz' hs hfz'
          cases hq : (Nat.beq (P.cellsOf e) 1 && Nat.beq (P.underlyingId e) (P.underlyingId u) && Nat.blt k 4294967296 && !(Nat.beq e anyT)) <;> rw [hq] at hc <;> simp only [cond_true, cond_false, reduceCtorEq] at hc
          simp only [Bool.and_eq_true, Nat.blt_eq, Bool.not_eq_true'] at hq
          obtain ⟨⟨⟨q1, q2⟩, q3⟩, q6⟩ := hq
          have q1 := Nat.eq_of_beq_eq_true q1
          have q2 := Nat.eq_of_beq_eq_true q2
          split at hc
          · rename_i M1 hput
            simp only [Option.some.injEq, Prod.mk.injEq] at hc
            obtain ⟨rfl, rfl⟩ := hc
            obtain ⟨cs', hvs, hlen, hrun⟩ := h.cells hρ hcs
            obtain ⟨h1, rfl⟩ := bytes_back hvs hs
            obtain ⟨e', hsh, hle, hwh⟩ := shape_run h hρ hb
            have he := (hwh.2 q6).symm
            subst he
            obtain ⟨lx, e2, fz2, wh2, hb2, hlx, hcsx⟩ := cells_block hcs
            rw [hb] at hb2
            simp only [Option.some.injEq, MB.cells.injEq] at hb2
            obtain ⟨rfl, rfl, rfl, rfl⟩ := hb2
            obtain ⟨n', d', z', o, hρ', hW, c, f, e2', ho, hclen, hcle, hcvs, hfz, hcwh⟩ := h.live _ _ hb
            rw [hρ] at hρ'
            simp only [Option.some.injEq, Prod.mk.injEq] at hρ'
            obtain ⟨rfl, rfl, rfl⟩ := hρ'
            subst ho
            have he := (hcwh.2 q6).symm
            subst he
            have hsl : s.length = k + 1 := by
              have := hvs.length
              rw [List.length_map] at this
              rw [this, hlen]
            have hcell : ∀ (j x : Nat), s[j]? = some x → W.cell? ⟨nb, d + off + j, none⟩ = some (.int .u8 (x : Int)) := by
              intro j x hj
              have hjk : j < k + 1 := by
                have := (List.getElem?_eq_some_iff.1 hj).1; omega
              have hr := hrun P
              have hcj : cs[j]? = some (cs[j]'(by omega)) := List.getElem?_eq_getElem (by omega)
              have hmc : M.cell blk (off + j) = some (cs[j]'(by omega)) := by
                unfold Mem.cell
                rw [hb]
                simp only
                have : cs[j]? = l[off + j]? := by rw [hcsx, List.getElem?_take_of_lt hjk, List.getElem?_drop]
                rw [← this]; exact hcj
              obtain ⟨v', hv', hvr⟩ := h.cell hρ hmc
              obtain ⟨c0, hc0, hby⟩ := mapO'_get hs hj
              rw [hcj] at hc0
              simp only [Option.some.injEq] at hc0
              rw [hc0] at hvr
              rw [Nat.add_assoc, hv', (byteOf_sound hvr hby).1]
            have hload := loadBytes_run (P := P) nb s (d + off) [] hcell
            rw [hsl] at hload
            simp only [List.nil_append] at hload
            unfold Mem.put at hput
            cases hq4 : (Nat.ble M.ro blk && Nat.blt blk top) <;> rw [hq4] at hput <;> simp only [cond_true, cond_false, reduceCtorEq, Option.some.injEq] at hput
            subst hput
            simp only [Bool.and_eq_true, Nat.ble_eq, Nat.blt_eq] at hq4
            have hvar : liesAt P P.depth e (z / P.cellsOf e) (d + off) u (k + 1) = true :=
              lies rfl (by omega) (by rw [q1]; exact Nat.mod_one _) (by rw [q1]; simp; omega) q2
            have hfr : (W.freeze ⟨nb, d + off, none⟩ (k + 1)).heap[nb]? = some (.cells ⟨c⟩ e (if f.1 == f.2 then (d + off, d + off + (k + 1)) else (min f.1 (d + off), max f.2 (d + off + (k + 1))))) := by
              simp only [World.freeze]
              rw [if_neg (by omega)]
              simp only [Array.getElem?_modify]
              simp [hW]
            have hm := h.replace (mb' := .cells l e fz' wh) (o' := .cells ⟨c⟩ e (if f.1 == f.2 then (d + off, d + off + (k + 1)) else (min f.1 (d + off), max f.2 (d + off + (k + 1))))) (W' := W.freeze ⟨nb, d + off, none⟩ (k + 1)) hb hρ hq4.1 hq4.2 (by
                refine ⟨c, _, _, rfl, hclen, hcle, hcvs, ?_, hcwh⟩
                unfold freezeFz at hfz'
                cases fz with
                | none =>
                  simp only [Option.some.injEq] at hfz'; subst hfz'
                  have hf0 : f.1 = f.2 := hfz
                  rw [if_pos (by simpa using hf0)]
                  exact ⟨by omega, by simp [Nat.add_assoc], by omega⟩
                | rng lo hi =>
                  simp only [Option.some.injEq] at hfz'; subst hfz'
                  obtain ⟨g1, g2, g3⟩ := hfz
                  subst g2
                  rw [if_neg (by simp; omega)]
                  refine ⟨by omega, ?_, by omega⟩
                  simp only [Prod.mk.injEq]
                  omega
                | strish => simp at hfz') (by simp [World.freeze]) (by simp [World.freeze]) (by simp [World.freeze]) (by simp [World.freeze]) hfr (by
                intro j hj
                simp only [World.freeze]
                rw [if_neg (by omega)]
                simp only [Array.getElem?_modify]
                rw [if_neg (fun e0 => hj e0.symm)])
            refine ⟨X, _, .string (bs s), Cx.Le.refl X, ?_, hm, .s _ h1⟩
            rw [hgen]
            have c1 : ¬ ((((k + 1 : Nat)) : Int) < 0) := by omega
            have c2 : ¬ ((((k + 1 : Nat)) : Int) > IntKind.i64.max) := by rw [hmax]; omega
            have c3 : ¬ ((((k + 1 : Nat)) : Int) = 0) := by omega
            have e0 : ByteArray.empty = bs [] := rfl
            simp only [asInt, asIntOf, Sem.run_bind, Sem.run_pure, Result.andThen_ok, hpt, Int.ofNat_eq_natCast, if_neg c1, if_neg c2, if_neg c3, elemOf, run_underlying hu, variablesAt, run_program, run_shape, hsh, hvar, if_true, Int.toNat_natCast, e0, hload, run_freeze]
          · cases hc
        · cases hc
      · cases hc
    · cases hc
  · cases hc
end
end Go.Ev
