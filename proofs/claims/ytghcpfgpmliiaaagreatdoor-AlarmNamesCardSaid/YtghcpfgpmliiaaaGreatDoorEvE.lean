/- The evaluator: memory's instructions (new variables, loads, stores, fields, elements, slices). -/
import Derived.Test.YtghcpfgpmliiaaaGreatDoorEvD
namespace Go.Ev

/-- The instruction runs to a value that the evaluator's stands for. -/
def ToV (P : Program) (X : Cx) (base : Fr) (W0 : World) (s : Sem Value) (W : World) (v : MV) (M' : Mem) : Prop :=
  ∃ X' W' v', X.Le X' ∧ s.run P W = .ok v' W' ∧ MemR X' base W0 M' W' ∧ VR X' v v'
def ToU (P : Program) (X : Cx) (base : Fr) (W0 : World) (s : Sem Unit) (W : World) (M' : Mem) : Prop :=
  ∃ X' W', X.Le X' ∧ s.run P W = .ok () W' ∧ MemR X' base W0 M' W'

section
variable {P : Program} {X : Cx} {base : Fr} {W0 W : World} {M : Mem}

theorem ToV.pure {s : Sem Value} {v : MV} {v' : Value} (h : MemR X base W0 M W) (hr : s.run P W = .ok v' W) (hv : VR X v v') : ToV P X base W0 s W v M :=
  ⟨X, W, v', Cx.Le.refl X, hr, h, hv⟩

/-! ### New variables -/
def Mem.newRow (M : Mem) (e : TypeId) (l : List MV) : Option (Nat × Mem) := M.new (.cells l e .none true)

theorem MemR.newRow {M' : Mem} {e : TypeId} {l : List MV} {l' : List Value} {blk : Nat} (h : MemR X base W0 M W) (hv : VRs X l l') (hc : M.newRow e l = some (blk, M')) :
    blk = M.next ∧ X.Le (X.add blk (W.heap.size, 0, l'.length)) ∧ MemR (X.add blk (W.heap.size, 0, l'.length)) base W0 M' (W.alloc (.cells ⟨l'⟩ e)) ∧ (X.add blk (W.heap.size, 0, l'.length)).ρ blk = some (W.heap.size, 0, l'.length) := by
  have hb : blk = M.next := by
    unfold Mem.newRow Mem.new at hc
    cases hq : Nat.blt M.next top <;> rw [hq] at hc
    · cases hc
    · simp only [cond_true, Option.some.injEq, Prod.mk.injEq] at hc; exact hc.1.symm
  subst hb
  have hle : X.Le (X.add M.next (W.heap.size, 0, l'.length)) := Cx.add_le (h.fresh _ (Nat.le_refl _))
  have := h.new (z := l'.length) (o := .cells ⟨l'⟩ e) hc ⟨l', (0, 0), e, rfl, rfl, by rw [hv.length]; omega, by
    rw [List.drop_zero, List.take_of_length_le (by rw [hv.length]; omega)]; exact hv.mono hle, rfl, fun _ => ⟨rfl, hv.length⟩, fun _ => rfl⟩
  exact ⟨rfl, this.2.1, this.2.2, Cx.add_same _ _ _⟩

def Mem.newVar (M : Mem) (e : TypeId) (v : MV) : Option (MV × Mem) :=
  match v.cellsM with
  | some l => match M.newRow e l with
    | some (b, M') => some (.p b 0, M')
    | none => none
  | none => none

theorem newVar_to {M' : Mem} {e : TypeId} {v r : MV} {v' : Value} (h : MemR X base W0 M W) (hv : VR X v v') (hc : M.newVar e v = some (r, M')) :
    ToV P X base W0 (do pure (.pointer (some (← newVar e v')))) W r M' := by
  unfold Mem.newVar at hc
  split at hc
  · rename_i l hl
    split at hc
    · rename_i b M1 hn
      simp only [Option.some.injEq, Prod.mk.injEq] at hc
      obtain ⟨rfl, rfl⟩ := hc
      have hvs := hv.cells hl
      obtain ⟨rfl, hle, hm, hρ⟩ := h.newRow hvs hn
      refine ⟨_, _, .pointer (some ⟨W.heap.size, 0, none⟩), hle, ?_, hm, .p hρ⟩
      simp [newVar, Go.newRow]
    · cases hc
  · cases hc

/-! ### Loads and stores -/
def loadM (P : Program) (M : Mem) (t : TypeId) : MV → Option MV
  | .p blk off => match aggOf P t with
    | some true => match szOf P t with
      | some n => match M.cells blk off n with
        | some l => some (.agg l)
        | none => none
      | none => none
    | some false => M.cell blk off
    | none => none
  | _ => none

theorem loadVar_run {t : TypeId} {v r : MV} {v' : Value} (h : MemR X base W0 M W) (hv : VR X v v') (hc : loadM P M t v = some r) :
    ∃ a r', v' = .pointer (some a) ∧ (loadVar t a).run P W = .ok r' W ∧ VR X r r' := by
  cases v <;> simp only [loadM] at hc <;> first | cases hc | skip
  rename_i blk off
  cases hv with
  | p hρ =>
    rename_i n d z
    refine ⟨⟨n, d + off, none⟩, ?_⟩
    split at hc
    · rename_i ha
      split at hc
      · rename_i k hk
        split at hc
        · rename_i l hl
          simp only [Option.some.injEq] at hc; subst hc
          obtain ⟨l', hvs, hlen, hrun⟩ := h.cells hρ hl
          exact ⟨.agg ⟨l'⟩, rfl, by simp [loadVar, isAgg_run ha, sizeOf_run hk, hrun P], .agg hvs⟩
        · cases hc
      · cases hc
    · rename_i ha
      obtain ⟨v', hcell, hvr⟩ := h.cell hρ hc
      exact ⟨v', rfl, by simp [loadVar, isAgg_run ha, hcell], hvr⟩
    · cases hc

theorem load_to {t : TypeId} {v r : MV} {v' : Value} (h : MemR X base W0 M W) (hv : VR X v v') (hc : loadM P M t v = some r) : ToV P X base W0 (Instr.loadAt t v') W r M := by
  obtain ⟨a, r', rfl, hrun, hr⟩ := loadVar_run h hv hc
  exact .pure h (by simp [Instr.loadAt, Instr.sureAddr, hrun]) hr

def storeM (P : Program) (M : Mem) (t : TypeId) (a v : MV) : Option Mem :=
  match a with
  | .p blk off => match v.cellsM with
    | some l => match szOf P t with
      | some n => bif Nat.beq l.length n then M.setCells blk off l else none
      | none => none
    | none => none
  | _ => none

theorem store_to {M' : Mem} {t : TypeId} {a v : MV} {a' v' : Value} (h : MemR X base W0 M W) (ha : VR X a a') (hv : VR X v v') (hc : storeM P M t a v = some M') : ToU P X base W0 (Instr.storeAt t a' v') W M' := by
  cases a <;> simp only [storeM] at hc <;> first | cases hc | skip
  rename_i blk off
  cases ha with
  | p hρ =>
    rename_i n d z
    split at hc
    · rename_i l hl
      split at hc
      · rename_i k hk
        cases hb : Nat.beq l.length k with
        | false => rw [hb] at hc; cases hc
        | true =>
          rw [hb] at hc; simp only [cond_true] at hc
          have hb' : l.length = k := by simpa using hb
          have hvs := hv.cells hl
          obtain ⟨W', hrun, hm⟩ := MemR.setCells hρ P off (d + off) 0 hvs (by omega) h hc
          refine ⟨X, W', Cx.Le.refl X, ?_, hm⟩
          have hsz : v'.cells.size = k := by rw [← hb', ← hvs.length]; simp
          simp [Instr.storeAt, Instr.sureAddr, storeVar, sizeOf_run hk, hsz, hrun]
      · cases hc
    · cases hc

/-! ### Addresses -/
def fieldOf (P : Program) (s : TypeId) (i : Nat) : Option (Nat × Nat × TypeId) :=
  match P.underlying s with
  | some (.struct fs) => match fs[i]? with
    | some f => match szOf P f.type with
      | some n => some (f.offset, n, f.type)
      | none => none
    | none => none
  | _ => none

def fieldAddrM (P : Program) (s : TypeId) (i : Nat) : MV → Option MV
  | .p blk off => match fieldOf P s i with
    | some (o, n, _) => bif Nat.beq n 0 then none else some (.p blk (off + o))
    | none => none
  | _ => none

theorem fieldAddr_to {s : TypeId} {i : Nat} {v r : MV} {v' : Value} (h : MemR X base W0 M W) (hv : VR X v v') (hc : fieldAddrM P s i v = some r) : ToV P X base W0 (Instr.fieldAt s v' i) W r M := by
  cases v <;> simp only [fieldAddrM] at hc <;> first | cases hc | skip
  rename_i blk off
  cases hv with
  | p hρ =>
    rename_i n d z
    split at hc
    · rename_i o k ty hf
      unfold fieldOf at hf
      split at hf
      · rename_i fs hu
        split at hf
        · rename_i f hfi
          split at hf
          · rename_i k' hk
            simp only [Option.some.injEq, Prod.mk.injEq] at hf
            obtain ⟨rfl, rfl, rfl⟩ := hf
            cases hb : Nat.beq k' 0 with
            | true => rw [hb] at hc; cases hc
            | false =>
              rw [hb] at hc; simp only [cond_false, Option.some.injEq] at hc; subst hc
              have hne : ¬ k' = 0 := by intro e; subst e; simp at hb
              refine .pure h (v' := .pointer (some ⟨n, d + (off + f.offset), none⟩)) ?_ (.p hρ)
              simp [Instr.fieldAt, run_underlying hu, hfi, Instr.sureAddr, fieldPlace, sizeOf_run hk, hne, addr_add, Nat.add_assoc]
          · cases hf
        · cases hf
      · cases hf
    · cases hc

/-- A number for an index: not negative, below the bound. -/
def ixOf (len : Nat) : MV → Option Nat
  | .i _ (.ofNat n) => bif Nat.blt n len then some n else none
  | _ => none

theorem ixOf_sound {len n : Nat} {v : MV} {v' : Value} (hv : VR X v v') (hc : ixOf len v = some n) : ∃ k, v' = .int k (n : Int) ∧ n < len := by
  cases v <;> simp only [ixOf] at hc <;> first | cases hc | skip
  rename_i k x
  cases x with
  | negSucc x => simp at hc
  | ofNat x =>
    simp only at hc
    cases hb : Nat.blt x len with
    | false => rw [hb] at hc; cases hc
    | true =>
      rw [hb] at hc; simp only [cond_true, Option.some.injEq] at hc; subst hc
      cases hv
      exact ⟨k, rfl, by simpa using hb⟩

def indexAddrM (P : Program) (t : TypeId) (x ix : MV) : Option MV :=
  match x with
  | .sl blk off len _ _ _ => match P.underlying t with
    | some (.slice e) => match ixOf len ix, szOf P e with
      | some n, some s => some (.p blk (off + n * s))
      | _, _ => none
    | _ => none
  | .p blk off => match P.underlying t with
    | some (.array len e) => match ixOf len ix, szOf P e with
      | some n, some s => some (.p blk (off + n * s))
      | _, _ => none
    | _ => none
  | _ => none

theorem indexAddr_to {t : TypeId} {x ix r : MV} {x' ix' : Value} (h : MemR X base W0 M W) (hx : VR X x x') (hi : VR X ix ix') (hc : indexAddrM P t x ix = some r) : ToV P X base W0 (Instr.indexAt t x' ix') W r M := by
  cases x <;> simp only [indexAddrM] at hc <;> first | cases hc | skip
  · rename_i blk off
    cases hx with
    | p hρ =>
      rename_i n d z
      split at hc
      · rename_i len e hu
        split at hc
        · rename_i m s hm hs
          simp only [Option.some.injEq] at hc; subst hc
          obtain ⟨k, rfl, hlt⟩ := ixOf_sound hi hm
          refine .pure h (v' := .pointer (some ⟨n, d + (off + m * s), none⟩)) ?_ (.p hρ)
          simp [Instr.indexAt, asIntOf, run_underlying hu, Instr.sureAddr, hlt, sizeOf_run hs, addr_add, Nat.add_assoc]
        · cases hc
      · cases hc
  · rename_i blk off len cap sz ex
    cases hx with
    | sl hρ hcap he hl hz =>
      rename_i cap' n d z
      split at hc
      · rename_i e hu
        split at hc
        · rename_i m s hm hs
          simp only [Option.some.injEq] at hc; subst hc
          obtain ⟨k, rfl, hlt⟩ := ixOf_sound hi hm
          refine .pure h (v' := .pointer (some ⟨n, d + (off + m * s), none⟩)) ?_ (.p hρ)
          simp [Instr.indexAt, asIntOf, run_underlying hu, hlt, sizeOf_run hs, addr_add, Nat.add_assoc]
        · cases hc
      · cases hc

/-! ### Parts of values -/
def partM (P : Program) (t : TypeId) (cs : List MV) (off : Nat) : Option MV :=
  match aggOf P t with
  | some true => match szOf P t with
    | some n => bif Nat.ble (off + n) cs.length then some (.agg ((cs.drop off).take n)) else none
    | none => none
  | some false => cs[off]?
  | none => none

theorem part_run {t : TypeId} {cs : List MV} {cs' : List Value} {off : Nat} {r : MV} (hv : VRs X cs cs') (hc : partM P t cs off = some r) (W : World) : ∃ r', (part t ⟨cs'⟩ off).run P W = .ok r' W ∧ VR X r r' := by
  unfold partM at hc
  split at hc
  · rename_i ha
    split at hc
    · rename_i n hn
      cases hb : Nat.ble (off + n) cs.length with
      | false => rw [hb] at hc; cases hc
      | true =>
        rw [hb] at hc; simp only [cond_true, Option.some.injEq] at hc; subst hc
        refine ⟨.agg ⟨(cs'.drop off).take n⟩, ?_, .agg ((hv.drop off).take n)⟩
        simp only [part, Sem.run_bind, isAgg_run ha, Result.andThen_ok, if_true, sizeOf_run hn, Sem.run_pure]
        congr 2
        simp only [List.extract_toArray]
        congr 1
        rw [List.extract_eq_take_drop]
        congr 1
        omega
    · cases hc
  · rename_i ha
    obtain ⟨v', hv', hr⟩ := hv.get hc
    refine ⟨v', ?_, hr⟩
    have : (⟨cs'⟩ : Array Value)[off]? = some v' := by simpa using hv'
    simp [part, isAgg_run ha, this]
  · cases hc

def fieldM (P : Program) (t : TypeId) (i : Nat) : MV → Option MV
  | .agg cs => match fieldOf P t i with
    | some (o, _, ft) => partM P ft cs o
    | none => none
  | _ => none

theorem field_to {t : TypeId} {i : Nat} {v r : MV} {v' : Value} (h : MemR X base W0 M W) (hv : VR X v v') (hc : fieldM P t i v = some r) : ToV P X base W0 (Instr.field t v' i) W r M := by
  cases v <;> simp only [fieldM] at hc <;> first | cases hc | skip
  cases hv with
  | agg hvs =>
    split at hc
    · rename_i o k ty hf
      unfold fieldOf at hf
      split at hf
      · rename_i fs hu
        split at hf
        · rename_i f hfi
          split at hf
          · rename_i k' hk
            simp only [Option.some.injEq, Prod.mk.injEq] at hf
            obtain ⟨rfl, rfl, rfl⟩ := hf
            obtain ⟨r', hrun, hr⟩ := part_run hvs hc W
            exact .pure h (by simp [Instr.field, run_underlying hu, hfi, asAgg, hrun]) hr
          · cases hf
        · cases hf
      · cases hf
    · cases hc

def indexM (P : Program) (t : TypeId) (x ix : MV) : Option MV :=
  match x with
  | .s l => match P.underlying t with
    | some .string => match ixOf l.length ix with
      | some n => match l[n]? with
        | some b => some (.i .u8 b)
        | none => none
      | none => none
    | _ => none
  | .agg cs => match P.underlying t with
    | some (.array len e) => match ixOf len ix, szOf P e with
      | some n, some s => partM P e cs (n * s)
      | _, _ => none
    | _ => none
  | _ => none

theorem bs_getElem {l : List Nat} {n b : Nat} (h : l[n]? = some b) : (bs l)[n]? = some (UInt8.ofNat b) := by
  show (bs l).data[n]? = _
  simp [bs, h]

theorem bs_size (l : List Nat) : (bs l).size = l.length := by
  show (bs l).data.size = _
  simp [bs]

theorem index_to {t : TypeId} {x ix r : MV} {x' ix' : Value} (h : MemR X base W0 M W) (hx : VR X x x') (hi : VR X ix ix') (hc : indexM P t x ix = some r) : ToV P X base W0 (Instr.index t x' ix') W r M := by
  cases x <;> simp only [indexM] at hc <;> first | cases hc | skip
  · rename_i l
    cases hx with
    | s _ hlt =>
      split at hc
      · rename_i hu
        split at hc
        · rename_i n hn
          split at hc
          · rename_i b hb
            simp only [Option.some.injEq] at hc; subst hc
            obtain ⟨k, rfl, hlen⟩ := ixOf_sound hi hn
            refine .pure h (v' := .int .u8 b) ?_ (.i _ _)
            have hb256 : b < 256 := hlt b (List.mem_of_getElem? hb)
            have h0 : (0 : Int) ≤ (n : Int) := by omega
            simp [Instr.index, asIntOf, run_underlying hu, h0, bs_getElem hb]
            omega
          · cases hc
        · cases hc
      · cases hc
  · rename_i cs
    cases hx with
    | agg hvs =>
      split at hc
      · rename_i len e hu
        split at hc
        · rename_i m s hm hs
          obtain ⟨k, rfl, hlen⟩ := ixOf_sound hi hm
          obtain ⟨r', hrun, hr⟩ := part_run hvs hc W
          exact .pure h (by simp [Instr.index, asIntOf, run_underlying hu, hlen, sizeOf_run hs, hrun]) hr
        · cases hc
      · cases hc
end
end Go.Ev
