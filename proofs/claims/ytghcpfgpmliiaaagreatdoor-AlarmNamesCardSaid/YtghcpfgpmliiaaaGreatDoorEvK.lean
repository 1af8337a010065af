/- The evaluator: conversions, literals of structs, arrays and slices. -/
import Derived.Test.YtghcpfgpmliiaaaGreatDoorEvJ
namespace Go.Ev

section
variable {P : Program} {X : Cx} {base : Fr} {W0 W : World} {M : Mem}

/-! ### Literals -/
def setFrom : List MV → Nat → List MV → List MV
  | cs, _, [] => cs
  | cs, k, v :: r => setFrom (cs.set k v) (k + 1) r

def fillM (place : Nat → Option (Nat × Nat)) : List MV → List (Nat × MV) → Option (List MV)
  | cs, [] => some cs
  | cs, (i, v) :: r => match place i, v.cellsM with
    | some (off, size), some vs => bif Nat.beq vs.length size && Nat.ble (off + vs.length) cs.length then fillM place (setFrom cs off vs) r else none
    | _, _ => none

inductive PRs (X : Cx) : List (Nat × MV) → List (Nat × Value) → Prop
  | nil : PRs X [] []
  | cons {i : Nat} {v : MV} {v' : Value} {l : List (Nat × MV)} {l' : List (Nat × Value)} (h : VR X v v') (t : PRs X l l') : PRs X ((i, v) :: l) ((i, v') :: l')

theorem foldl_setFrom : ∀ (vs : List MV) (vs' : List Value) (cs : List MV) (cs' : Array Value) (off k : Nat), VRs X vs vs' → VRs X cs cs'.toList →
    VRs X (setFrom cs (off + k) vs) ((vs'.zipIdx k).foldl (fun (c : Array Value) (p : Value × Nat) => c.setIfInBounds (off + p.2) p.1) cs').toList ∧
    ((vs'.zipIdx k).foldl (fun (c : Array Value) (p : Value × Nat) => c.setIfInBounds (off + p.2) p.1) cs').size = cs'.size
  | [], vs', cs, cs', off, k, h, hc => by cases h; exact ⟨hc, rfl⟩
  | v :: vs, _, cs, cs', off, k, h, hc => by
    cases h with
    | cons h t =>
      rename_i v' vs'
      simp only [List.zipIdx_cons, List.foldl_cons, setFrom]
      have := foldl_setFrom vs vs' (cs.set (off + k) v) (cs'.setIfInBounds (off + k) v') off (k + 1) t (by rw [Array.toList_setIfInBounds]; exact hc.set h _)
      rw [Nat.add_assoc]
      refine ⟨this.1, by rw [this.2]; simp⟩

theorem fill_run {place : Nat → Option (Nat × Nat)} : ∀ (ps : List (Nat × MV)) (ps' : List (Nat × Value)) (cs r : List MV) (cs' : Array Value), PRs X ps ps' → VRs X cs cs'.toList → fillM place cs ps = some r →
    ∃ r', Instr.fill place cs' ps' = some r' ∧ VRs X r r'.toList
  | [], _, cs, r, cs', hp, hc, h => by
    cases hp
    simp only [fillM, Option.some.injEq] at h; subst h
    exact ⟨cs', rfl, hc⟩
  | (i, v) :: ps, _, cs, r, cs', hp, hc, h => by
    cases hp with
    | cons hv t =>
      rename_i v' ps'
      simp only [fillM] at h
      split at h
      · rename_i off size vs hpl hvs
        cases hq : (Nat.beq vs.length size && Nat.ble (off + vs.length) cs.length) <;> rw [hq] at h <;> simp only [cond_true, cond_false, reduceCtorEq] at h
        simp only [Bool.and_eq_true, Nat.beq_eq, Nat.ble_eq] at hq
        have hvv := hv.cells hvs
        have hl := hvv.length
        have hlc := hc.length
        have hsz : v'.cells.size = vs.length := by rw [← hl]; simp
        have hcs : cs'.size = cs.length := by rw [← hlc]; simp
        obtain ⟨f1, f2⟩ := foldl_setFrom vs v'.cells.toList cs cs' off 0 hvv hc
        obtain ⟨r', hr', hrr⟩ := fill_run ps ps' _ r _ t f1 h
        refine ⟨r', ?_, hrr⟩
        simp only [Instr.fill, hpl]
        have hcond : (decide (v'.cells.size ≠ size) || decide (off + v'.cells.size > cs'.size)) = false := by
          have h2 := hq.2
          simp only [hsz, hcs, hq.1] at h2 ⊢; simp; omega
        rw [if_neg (by simpa using hcond)]
        rw [← hr']
        congr 1
        rw [← Array.foldl_toList]
        simp [Array.toList_zipIdx]
      · cases h

/-- A struct's fields: where each lies, how many cells it has. -/
def placesM (P : Program) : List Field → Option (List (Nat × Nat))
  | [] => some []
  | f :: r => match szOf P f.type, placesM P r with
    | some n, some l => some ((f.offset, n) :: l)
    | _, _ => none

theorem places_run (W : World) : ∀ (fs : List Field) (l : List (Nat × Nat)), placesM P fs = some l → (fs.mapM (m := Sem) fun f => do pure (f.offset, ← sizeOf f.type)).run P W = .ok l W
  | [], l, h => by simp only [placesM, Option.some.injEq] at h; subst h; rfl
  | f :: r, l, h => by
    simp only [placesM] at h
    split at h
    · rename_i n l0 hn hl0
      simp only [Option.some.injEq] at h; subst h
      have ih := places_run W r l0 hl0
      simp only [List.mapM_cons, Sem.run_bind, sizeOf_run hn, Result.andThen_ok, Sem.run_pure, ih]
    · cases h

def partsM (ng : Nat) (tm : Tr MV) : List (Nat × Operand) → Option (List (Nat × MV))
  | [] => some []
  | (i, x) :: r => match ev ng tm x, partsM ng tm r with
    | some v, some l => some ((i, v) :: l)
    | _, _ => none

theorem parts_sound {ng n : Nat} {tm : Tr MV} {a : Act} (hg : GR ng X) (ht : TmR X n tm a.tmps) : ∀ {l : List (Nat × Operand)} {ps : List (Nat × MV)}, partsM ng tm l = some ps → PRs X ps (l.map fun (i, x) => (i, a.eval x))
  | [], ps, h => by simp only [partsM, Option.some.injEq] at h; subst h; exact .nil
  | (i, x) :: r, ps, h => by
    simp only [partsM] at h
    split at h
    · rename_i v l hv hl
      simp only [Option.some.injEq] at h; subst h
      exact .cons (ev_sound hg ht hv) (parts_sound hg ht hl)
    · cases h

def buildM (P : Program) (t : TypeId) (ps : List (Nat × MV)) : Option MV :=
  match zeroOf P t with
  | some z => match z.cellsM with
    | some zc => match P.underlying t with
      | some (.struct fs) => match placesM P fs.toList with
        | some pl => match fillM (fun i => pl[i]?) zc ps with
          | some cs => some (.agg cs)
          | none => none
        | none => none
      | some (.array _ e) => match szOf P e with
        | some s => match fillM (fun i => some (i * s, s)) zc ps with
          | some cs => some (.agg cs)
          | none => none
        | none => none
      | _ => none
    | none => none
  | none => none

theorem build_to {t : TypeId} {ps : List (Nat × MV)} {ps' : List (Nat × Value)} {r : MV} (h : MemR X base W0 M W) (hp : PRs X ps ps') (hc : buildM P t ps = some r) : ToV P X base W0 (Instr.build t ⟨ps'⟩) W r M := by
  unfold buildM at hc
  split at hc
  · rename_i z hz
    obtain ⟨zv, zl, hzr, hzv, hzc, hzs⟩ := zero_run hz
    rw [hzc] at hc
    simp only at hc
    have hzcells := (hzv X).cells hzc
    split at hc
    · rename_i fs hu
      split at hc
      · rename_i pl hpl
        split at hc
        · rename_i cs hfill
          simp only [Option.some.injEq] at hc; subst hc
          obtain ⟨r', hr', hrr⟩ := fill_run ps ps' _ _ zv.cells hp hzcells hfill
          refine .pure h (v' := .agg r') ?_ (by
            have := VR.agg hrr
            simpa using this)
          have hm : (fs.mapM (m := Sem) fun f => do pure (f.offset, ← sizeOf f.type)).run P W = .ok ⟨pl⟩ W := by
            rw [Array.mapM_eq_mapM_toList]
            simp only [Sem.run_map, places_run W fs.toList pl hpl, Result.andThen_ok]
          have hfun : (fun (i : Nat) => (⟨pl⟩ : Array (Nat × Nat))[i]?) = fun i => pl[i]? := by funext i; simp
          simp only [Instr.build, Sem.run_bind, hzr W, Result.andThen_ok, run_underlying hu, hm, hfun, hr', Sem.run_pure]
        · cases hc
      · cases hc
    · rename_i len e hu
      split at hc
      · rename_i s hs
        split at hc
        · rename_i cs hfill
          simp only [Option.some.injEq] at hc; subst hc
          obtain ⟨r', hr', hrr⟩ := fill_run ps ps' _ _ zv.cells hp hzcells hfill
          refine .pure h (v' := .agg r') ?_ (by
            have := VR.agg hrr
            simpa using this)
          simp only [Instr.build, Sem.run_bind, hzr W, Result.andThen_ok, run_underlying hu, sizeOf_run hs, hr', Sem.run_pure]
        · cases hc
      · cases hc
    · cases hc
  · cases hc

def buildSliceM (P : Program) (M : Mem) (t : TypeId) (len : Nat) (ps : List (Nat × MV)) : Option (MV × Mem) :=
  match P.underlying t with
  | some (.slice e) => match szOf P e, zeroOf P e with
    | some s, some z => match z.cellsM with
      | some zc => bif Nat.ble (len * s) 16777216 then (match fillM (fun i => some (i * s, s)) (repM zc (len * s)) ps with
        | some cs => match M.newRow e cs with
          | some (b, M') => some (.sl b 0 len len s true, M')
          | none => none
        | none => none) else none
      | none => none
    | _, _ => none
  | _ => none

theorem buildSlice_to {M' : Mem} {t : TypeId} {len : Nat} {ps : List (Nat × MV)} {ps' : List (Nat × Value)} {r : MV} (h : MemR X base W0 M W) (hp : PRs X ps ps') (hc : buildSliceM P M t len ps = some (r, M')) :
    ToV P X base W0 (Instr.buildSlice t len ⟨ps'⟩) W r M' := by
  unfold buildSliceM at hc
  split at hc
  · rename_i e hu
    split at hc
    · rename_i s z hs hz
      obtain ⟨zv, zl, hzr, hzv, hzc, hzs⟩ := zero_run hz
      rw [hzc] at hc
      simp only at hc
      rw [hs] at hzs
      have hzl : s = zl.length := by simpa using hzs
      cases hq : Nat.ble (len * s) 16777216 <;> rw [hq] at hc <;> simp only [cond_true, cond_false, reduceCtorEq] at hc
      have hq' : ¬ (len * s > 2 ^ 24) := by
        have : len * s ≤ 16777216 := by simpa using hq
        have e2 : (2 : Nat) ^ 24 = 16777216 := rfl
        rw [e2]; omega
      split at hc
      · rename_i cs hfill
        split at hc
        · rename_i b M1 hn
          simp only [Option.some.injEq, Prod.mk.injEq] at hc
          obtain ⟨rfl, rfl⟩ := hc
          have hvs := rep_vrs ((hzv X).cells hzc) (len * s) (fun e0 => by rw [← hzl] at e0; subst e0; simp)
          by_cases h0 : len * s = 0
          · obtain ⟨r', hr', hrr⟩ := fill_run ps ps' _ _ ((Array.range (len * s)).map (#[][· % (#[] : Array Value).size]!)) hp (by
              rw [h0]
              simp only [repM, List.range_zero, List.map_nil]
              have : ((Array.range 0).map (fun x => (#[] : Array Value)[x % (#[] : Array Value).size]!)).toList = [] := by simp
              rw [this]
              exact VRs.nil (X := X)) hfill
            obtain ⟨rfl, hle, hm, hρ⟩ := h.newRow hrr hn
            refine ⟨_, _, .slice (some ⟨W.heap.size, 0, none⟩) len len, hle, ?_, hm, .sl hρ (Nat.le_refl _) (fun _ => rfl) (Nat.le_refl _) (by simp)⟩
            simp only [Instr.buildSlice, Sem.run_bind, run_underlying hu, Result.andThen_ok, sizeOf_run hs, if_neg hq', if_pos h0, Sem.run_pure, hr', Go.newRow, run_newObj, World.alloc_eq]
          · obtain ⟨r', hr', hrr⟩ := fill_run ps ps' _ _ ((Array.range (len * s)).map (zv.cells[· % zv.cells.size]!)) hp hvs hfill
            obtain ⟨rfl, hle, hm, hρ⟩ := h.newRow hrr hn
            refine ⟨_, _, .slice (some ⟨W.heap.size, 0, none⟩) len len, hle, ?_, hm, .sl hρ (Nat.le_refl _) (fun _ => rfl) (Nat.le_refl _) (by simp)⟩
            simp only [Instr.buildSlice, Sem.run_bind, run_underlying hu, Result.andThen_ok, sizeOf_run hs, if_neg hq', if_neg h0, hzr W, Sem.run_pure, hr', Go.newRow, run_newObj, World.alloc_eq]
        · cases hc
      · cases hc
    · cases hc
  · cases hc
end
end Go.Ev
