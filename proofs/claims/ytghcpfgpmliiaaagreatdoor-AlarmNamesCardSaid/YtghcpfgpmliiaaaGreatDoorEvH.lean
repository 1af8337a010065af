/- The evaluator: slices of slices and strings, make, append, strings and bytes. -/
import Derived.Test.YtghcpfgpmliiaaaGreatDoorEvG
namespace Go.Ev

section
variable {P : Program} {X : Cx} {base : Fr} {W0 W : World} {M : Mem}

/-! ### Slice expressions -/
def boundM (y : Nat) : MV → Option Nat
  | .i _ (.ofNat n) => bif Nat.ble n y then some n else none
  | _ => none

theorem bound_run {y n : Nat} {v : MV} {v' : Value} (hv : VR X v v') (hc : boundM y v = some n) {y' : Nat} (hy : y ≤ y') (code : BoundsCode) (W : World) : (Instr.sliceBound v' y' code).run P W = .ok n W ∧ n ≤ y := by
  cases v <;> simp only [boundM] at hc <;> first | cases hc | skip
  rename_i k x
  cases x with
  | negSucc x => simp at hc
  | ofNat x =>
    simp only at hc
    cases hb : Nat.ble x y with
    | false => rw [hb] at hc; cases hc
    | true =>
      rw [hb] at hc; simp only [cond_true, Option.some.injEq] at hc; subst hc
      have hb' : x ≤ y := by simpa using hb
      cases hv
      have h1 : (x : Int) ≤ (y' : Int) := by omega
      have h0 : (0 : Int) ≤ (x : Int) := by omega
      refine ⟨?_, hb'⟩
      simp [Instr.sliceBound, asIntOf]
      omega

/-- low, high, and the bound of the capacity (if one is given). -/
def boundsM (len cap : Nat) (lo hi mx : Option MV) : Option (Nat × Nat × Option Nat) :=
  match mx with
  | none => match (match hi with | none => some len | some v => boundM cap v) with
    | some h => match (match lo with | none => some 0 | some v => boundM h v) with
      | some l => some (l, h, none)
      | none => none
    | none => none
  | some m => match boundM cap m, hi with
    | some m, some v => match boundM m v with
      | some h => match (match lo with | none => some 0 | some v => boundM h v) with
        | some l => some (l, h, some m)
        | none => none
      | none => none
    | _, _ => none

inductive VO (X : Cx) : Option MV → Option Value → Prop
  | none : VO X none none
  | some {v : MV} {v' : Value} (h : VR X v v') : VO X (some v) (some v')

theorem bounds_run {sl : Bool} {len cap cap' l h : Nat} {m : Option Nat} {lo hi mx : Option MV} {lo' hi' mx' : Option Value} (hl : VO X lo lo') (hh : VO X hi hi') (hm : VO X mx mx') (hlen : len ≤ cap) (hcap : cap ≤ cap')
    (hc : boundsM len cap lo hi mx = some (l, h, m)) (W : World) :
    (Instr.sliceBounds sl len cap' lo' hi' mx').run P W = .ok (l, h, m.getD cap') W ∧ l ≤ h ∧ h ≤ m.getD cap ∧ m.getD cap ≤ cap := by
  unfold boundsM at hc
  cases hm with
  | none =>
    simp only at hc
    cases hh with
    | none =>
      simp only at hc
      cases hl with
      | none =>
        simp only [Option.some.injEq, Prod.mk.injEq] at hc
        obtain ⟨rfl, rfl, rfl⟩ := hc
        exact ⟨by simp [Instr.sliceBounds], by omega, hlen, Nat.le_refl _⟩
      | some hv =>
        simp only at hc
        split at hc
        · rename_i x hx
          simp only [Option.some.injEq, Prod.mk.injEq] at hc
          obtain ⟨rfl, rfl, rfl⟩ := hc
          obtain ⟨h1, h2⟩ := bound_run (P := P) hv hx (Nat.le_refl _) .sliceB W
          exact ⟨by simp [Instr.sliceBounds, h1], h2, hlen, Nat.le_refl _⟩
        · cases hc
    | some hv =>
      simp only at hc
      split at hc
      · rename_i y hy
        obtain ⟨h1, h2⟩ := bound_run (P := P) hv hy hcap (if sl then .sliceAcap else .sliceAlen) W
        cases hl with
        | none =>
          simp only [Option.some.injEq, Prod.mk.injEq] at hc
          obtain ⟨rfl, rfl, rfl⟩ := hc
          exact ⟨by simp [Instr.sliceBounds, h1], by omega, h2, Nat.le_refl _⟩
        | some hv' =>
          simp only at hc
          split at hc
          · rename_i x hx
            simp only [Option.some.injEq, Prod.mk.injEq] at hc
            obtain ⟨rfl, rfl, rfl⟩ := hc
            obtain ⟨h3, h4⟩ := bound_run (P := P) hv' hx (Nat.le_refl _) .sliceB W
            exact ⟨by simp [Instr.sliceBounds, h1, h3], h4, h2, Nat.le_refl _⟩
          · cases hc
      · cases hc
  | some hmv =>
    rename_i m0 m0'
    cases hmm : boundM cap m0 with
    | none => simp [hmm] at hc
    | some mm =>
      cases hh with
      | none => simp [hmm] at hc
      | some hv =>
        simp only [hmm] at hc
        obtain ⟨hm1, hm2⟩ := bound_run (P := P) hmv hmm hcap (if sl then .slice3Acap else .slice3Alen) W
        split at hc
        · rename_i y hy
          obtain ⟨h1, h2⟩ := bound_run (P := P) hv hy (Nat.le_refl _) .slice3B W
          cases hl with
          | none =>
            simp only [Option.some.injEq, Prod.mk.injEq] at hc
            obtain ⟨rfl, rfl, rfl⟩ := hc
            exact ⟨by simp [Instr.sliceBounds, hm1, h1], by omega, h2, hm2⟩
          | some hv' =>
            simp only at hc
            split at hc
            · rename_i x hx
              simp only [Option.some.injEq, Prod.mk.injEq] at hc
              obtain ⟨rfl, rfl, rfl⟩ := hc
              obtain ⟨h3, h4⟩ := bound_run (P := P) hv' hx (Nat.le_refl _) .slice3C W
              exact ⟨by simp [Instr.sliceBounds, hm1, h1, h3], h4, h2, hm2⟩
            · cases hc
        · cases hc

def sliceM (P : Program) (t : TypeId) (x : MV) (lo hi mx : Option MV) : Option MV :=
  match x with
  | .s l => match P.underlying t, mx with
    | some .string, none => match boundsM l.length l.length lo hi none with
      | some (a, b, _) => some (.s ((l.drop a).take (b - a)))
      | none => none
    | _, _ => none
  | .nsl => match P.underlying t with
    | some (.slice e) => match boundsM 0 0 lo hi mx, szOf P e with
      | some _, some _ => some .nsl
      | _, _ => none
    | _ => none
  | .sl blk off len cap sz ex => match P.underlying t with
    | some (.slice e) => match boundsM len cap lo hi mx, szOf P e with
      | some (l, h, m), some s => bif Nat.beq s sz then (match m with
          | some m => bif Nat.beq m l then some (.sl blk off (h - l) (m - l) sz true) else some (.sl blk (off + l * sz) (h - l) (m - l) sz true)
          | none => bif ex then (bif Nat.beq cap l then some (.sl blk off (h - l) (cap - l) sz true) else some (.sl blk (off + l * sz) (h - l) (cap - l) sz true))
            else bif Nat.beq l 0 then some (.sl blk off (h - l) (cap - l) sz false) else bif Nat.blt l cap then some (.sl blk (off + l * sz) (h - l) (cap - l) sz false) else none) else none
      | _, _ => none
    | _ => none
  | .p blk off => match P.underlying t with
    | some (.array n e) => match boundsM n n lo hi mx, szOf P e with
      | some (l, h, m), some s => bif Nat.beq (m.getD n) l then some (.sl blk off (h - l) (m.getD n - l) s true) else some (.sl blk (off + l * s) (h - l) (m.getD n - l) s true)
      | _, _ => none
    | some (.pointer arr) => match P.underlying arr with
      | some (.array n e) => match boundsM n n lo hi mx, szOf P e with
        | some (l, h, m), some s => bif Nat.beq (m.getD n) l then some (.sl blk off (h - l) (m.getD n - l) s true) else some (.sl blk (off + l * s) (h - l) (m.getD n - l) s true)
        | _, _ => none
      | _ => none
    | _ => none
  | _ => none

theorem bs_extract (l : List Nat) (a b : Nat) : (bs l).extract a b = bs ((l.drop a).take (b - a)) := by
  apply ByteArray.ext
  rw [ByteArray.data_extract]
  unfold bs
  simp only [List.extract_toArray]
  congr 1
  rw [List.extract_eq_take_drop, List.map_take, List.map_drop]

theorem slice_to {t : TypeId} {x r : MV} {x' : Value} {lo hi mx : Option MV} {lo' hi' mx' : Option Value} (h : MemR X base W0 M W) (hx : VR X x x') (hl : VO X lo lo') (hh : VO X hi hi') (hm : VO X mx mx')
    (hc : sliceM P t x lo hi mx = some r) : ToV P X base W0 (Instr.sliceAt t x' lo' hi' mx') W r M := by
  cases x <;> simp only [sliceM] at hc <;> first | cases hc | skip
  · rename_i l
    cases hx with | s _ hlt =>
    split at hc
    · rename_i hu
      cases hm
      split at hc
      · rename_i a b m hb
        simp only [Option.some.injEq] at hc; subst hc
        obtain ⟨h1, h2, h3, h4⟩ := bounds_run (P := P) (sl := false) hl hh .none (Nat.le_refl _) (Nat.le_refl _) hb W
        refine .pure h (v' := .string (bs ((l.drop a).take (b - a)))) ?_ (.s _ fun y hy => hlt y (List.mem_of_mem_drop (List.mem_of_mem_take hy)))
        simp [Instr.sliceAt, Instr.slice, run_underlying hu, bs_size, h1, bs_extract]
      · cases hc
    · cases hc
  · rename_i blk off
    cases hx with | p hρ =>
    rename_i n d z
    split at hc
    · rename_i len e hu
      split at hc
      · rename_i l hh' m s hb hs
        obtain ⟨h1, h2, h3, h4⟩ := bounds_run (P := P) (sl := false) hl hh hm (Nat.le_refl _) (Nat.le_refl _) hb W
        cases hq : Nat.beq (m.getD len) l <;> rw [hq] at hc <;> simp only [cond_true, cond_false, Option.some.injEq] at hc <;> subst hc
        · have hne : ¬ m.getD len = l := by intro e; rw [e] at hq; simp at hq
          refine .pure h (v' := .slice (some ⟨n, d + (off + l * s), none⟩) (hh' - l) (m.getD len - l)) ?_ (.sl hρ (Nat.le_refl _) (fun _ => rfl) (by omega) (by simp))
          simp [Instr.sliceAt, run_underlying hu, Instr.sureAddr, h1, sizeOf_run hs, hne, addr_add, Nat.add_assoc]
        · have he : m.getD len = l := by simpa using hq
          refine .pure h (v' := .slice (some ⟨n, d + off, none⟩) (hh' - l) (m.getD len - l)) ?_ (.sl hρ (Nat.le_refl _) (fun _ => rfl) (by omega) (by simp))
          simp [Instr.sliceAt, run_underlying hu, Instr.sureAddr, h1, sizeOf_run hs, he]
      · cases hc
    · rename_i arr hu
      split at hc
      · rename_i len e hu2
        split at hc
        · rename_i l hh' m s hb hs
          obtain ⟨h1, h2, h3, h4⟩ := bounds_run (P := P) (sl := false) hl hh hm (Nat.le_refl _) (Nat.le_refl _) hb W
          cases hq : Nat.beq (m.getD len) l <;> rw [hq] at hc <;> simp only [cond_true, cond_false, Option.some.injEq] at hc <;> subst hc
          · have hne : ¬ m.getD len = l := by intro e; rw [e] at hq; simp at hq
            refine .pure h (v' := .slice (some ⟨n, d + (off + l * s), none⟩) (hh' - l) (m.getD len - l)) ?_ (.sl hρ (Nat.le_refl _) (fun _ => rfl) (by omega) (by simp))
            simp [Instr.sliceAt, Instr.slice, run_underlying hu, run_underlying hu2, asAddr, h1, sizeOf_run hs, hne, addr_add, Nat.add_assoc]
          · have he : m.getD len = l := by simpa using hq
            refine .pure h (v' := .slice (some ⟨n, d + off, none⟩) (hh' - l) (m.getD len - l)) ?_ (.sl hρ (Nat.le_refl _) (fun _ => rfl) (by omega) (by simp))
            simp [Instr.sliceAt, Instr.slice, run_underlying hu, run_underlying hu2, asAddr, h1, sizeOf_run hs, he]
        · cases hc
      · cases hc
    · cases hc
  · cases hx with | nsl =>
    split at hc
    · rename_i e hu
      split at hc
      · rename_i q s hb hs
        simp only [Option.some.injEq] at hc; subst hc
        obtain ⟨l, hh', m⟩ := q
        obtain ⟨h1, h2, h3, h4⟩ := bounds_run (P := P) (sl := true) hl hh hm (Nat.le_refl _) (Nat.le_refl _) hb W
        have e1 : m.getD 0 = 0 := by omega
        have e2 : hh' = 0 := by omega
        have e3 : l = 0 := by omega
        subst e2; subst e3
        rw [e1] at h1
        refine .pure h (v' := .slice none 0 0) ?_ .nsl
        simp [Instr.sliceAt, Instr.slice, run_underlying hu, h1, sizeOf_run hs]
      · cases hc
    · cases hc
  · rename_i blk off len cap sz ex
    cases hx with | sl hρ hcap he hlc hz =>
    rename_i cap' n d z
    split at hc
    · rename_i e hu
      split at hc
      · rename_i l hh' m s hb hs
        obtain ⟨h1, h2, h3, h4⟩ := bounds_run (P := P) (sl := true) hl hh hm hlc hcap hb W
        cases hq0 : Nat.beq s sz <;> rw [hq0] at hc <;> simp only [cond_true, cond_false, reduceCtorEq] at hc
        have hss : s = sz := by simpa using hq0
        subst hss
        cases m with
        | some m =>
          simp only [Option.getD_some] at h1 h3 h4 hc
          cases hq : Nat.beq m l <;> rw [hq] at hc <;> simp only [cond_true, cond_false, Option.some.injEq] at hc <;> subst hc
          · have hne : ¬ m = l := by intro e; rw [e] at hq; simp at hq
            refine .pure h (v' := .slice (some ⟨n, d + (off + l * s), none⟩) (hh' - l) (m - l)) ?_ (.sl hρ (Nat.le_refl _) (fun _ => rfl) (by omega) (by simp))
            simp [Instr.sliceAt, Instr.slice, run_underlying hu, h1, sizeOf_run hs, hne, addr_add, Nat.add_assoc]
          · have he' : m = l := by simpa using hq
            refine .pure h (v' := .slice (some ⟨n, d + off, none⟩) (hh' - l) (m - l)) ?_ (.sl hρ (Nat.le_refl _) (fun _ => rfl) (by omega) (by simp))
            simp [Instr.sliceAt, Instr.slice, run_underlying hu, h1, sizeOf_run hs, he']
        | none =>
          simp only [Option.getD_none] at h1 h3 h4 hc
          cases ex with
          | true =>
            have hce := he rfl
            simp only [cond_true] at hc
            cases hq : Nat.beq cap l <;> rw [hq] at hc <;> simp only [cond_true, cond_false, Option.some.injEq] at hc <;> subst hc
            · have hne : ¬ cap' = l := by intro e; rw [← hce, e] at hq; simp at hq
              refine .pure h (v' := .slice (some ⟨n, d + (off + l * s), none⟩) (hh' - l) (cap' - l)) ?_ (.sl hρ (by omega) (fun _ => by omega) (by omega) (by simp))
              simp [Instr.sliceAt, Instr.slice, run_underlying hu, h1, sizeOf_run hs, hne, addr_add, Nat.add_assoc]
            · have he' : l = cap' := by rw [hce]; symm; simpa using hq
              subst he'
              refine .pure h (v' := .slice (some ⟨n, d + off, none⟩) (hh' - l) (l - l)) ?_ (.sl hρ (by omega) (fun _ => by omega) (by omega) (by simp))
              simp [Instr.sliceAt, Instr.slice, run_underlying hu, h1, sizeOf_run hs]
          | false =>
            have hzz := hz rfl
            simp only [cond_false] at hc
            cases hq : Nat.beq l 0 <;> rw [hq] at hc <;> simp only [cond_true, cond_false, Option.some.injEq] at hc
            · cases hq2 : Nat.blt l cap <;> rw [hq2] at hc <;> simp only [cond_true, cond_false, Option.some.injEq, reduceCtorEq] at hc
              subst hc
              have hlt : l < cap := by simpa using hq2
              have hne : ¬ cap' = l := by omega
              refine .pure h (v' := .slice (some ⟨n, d + (off + l * s), none⟩) (hh' - l) (cap' - l)) ?_ (.sl hρ (by omega) (by simp) (by omega) (fun _ => ?_))
              · simp [Instr.sliceAt, Instr.slice, run_underlying hu, h1, sizeOf_run hs, hne, addr_add, Nat.add_assoc]
              · have : (cap' - l) * s + l * s = cap' * s := by rw [← Nat.add_mul]; congr 1; omega
                omega
            · subst hc
              have hl0 : l = 0 := by simpa using hq
              subst hl0
              refine .pure h (v' := .slice (some ⟨n, d + off, none⟩) (hh' - 0) (cap' - 0)) ?_ (.sl hρ (by omega) (by simp) (by omega) (fun _ => by simpa using hzz))
              simp only [Instr.sliceAt, Instr.slice, Sem.run_bind, run_underlying hu, h1, sizeOf_run hs, Result.andThen_ok, Sem.run_pure]
              congr 2
              split <;> simp [addr_add]
      · cases hc
    · cases hc
end
end Go.Ev
