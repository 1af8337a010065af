/- The evaluator's memory, and its relation to the model's. -/
import Derived.Test.YtghcpfgpmliiaaaGreatDoorEvA
namespace Go.Ev
open Go.RowKit (Below)

inductive MF : Type where
  | none
  | rng (lo hi : Nat)
  | strish

inductive MTg : Type where
  | fn (f : Fn) (cap : List MV)
  | collected (blk : Nat)

structure MD where
  t : MTg
  args : List MV

inductive MB : Type where
  | cells (l : List MV) (e : TypeId) (fz : MF) (wh : Bool)
  | map (es : List (MV × MV × Nat)) (clock : Nat)
  | siter (s : List Nat) (pos : Nat)
  | dfr (ds : Option (List MD))
  | loop (st : LoopState) (pending : Option Code) (fn : FuncId) (n : Nat) (tm : Tr MV) (params : List Tmp) (assign body : Code) (defers : Nat)

/-- A block whose type is not known. -/
def anyT : TypeId := 999999999

/-- How the model's frozen range stands to the evaluator's word. -/
def FZ (d z : Nat) : MF → Nat × Nat → Prop
  | .none, f => f.1 = f.2
  | .rng lo hi, f => lo < hi ∧ f = (d + lo, d + hi) ∧ d + hi ≤ z
  | .strish, f => f = (z, z + 1)

inductive TR (X : Cx) : MTg → Target → Prop
  | fn {f : Fn} {c : List MV} {c' : List Value} (h : VRs X c c') : TR X (.fn f c) (.fn f ⟨c'⟩)
  | collected {blk n d z : Nat} (h : X.ρ blk = some (n, d, z)) : TR X (.collected blk) (.collected n)

inductive DR (X : Cx) : MD → Deferred → Prop
  | mk {t : MTg} {t' : Target} {l : List MV} {l' : List Value} (h : TR X t t') (hl : VRs X l l') : DR X ⟨t, l⟩ ⟨t', ⟨l'⟩⟩

inductive DRs (X : Cx) : List MD → List Deferred → Prop
  | nil : DRs X [] []
  | cons {d : MD} {d' : Deferred} {l : List MD} {l' : List Deferred} (h : DR X d d') (t : DRs X l l') : DRs X (d :: l) (d' :: l')

inductive ERs (X : Cx) : List (MV × MV × Nat) → List MapEntry → Prop
  | nil : ERs X [] []
  | cons {k v : MV} {k' v' : Value} {n : Nat} {l : List (MV × MV × Nat)} {l' : List MapEntry} (hk : VR X k k') (hv : VR X v v') (t : ERs X l l') : ERs X ((k, v, n) :: l) (⟨k', v', n⟩ :: l')

/-- Temporaries: 'n' of them. -/
def TmR (X : Cx) (n : Nat) (tm : Tr MV) (t : Array Value) : Prop := t.size = n ∧ ∀ i, VR X ((tm.get i).getD (.tup [])) (t.getD i undef)

def OR (X : Cx) (d z : Nat) : MB → Obj → Prop
  | .cells l e fz wh, o => ∃ (c : List Value) (f : Nat × Nat) (e' : TypeId), o = .cells ⟨c⟩ e' f ∧ c.length = z ∧ d + l.length ≤ z ∧ VRs X l ((c.drop d).take l.length) ∧ FZ d z fz f ∧ ((wh = true → d = 0 ∧ z = l.length) ∧ (Nat.beq e anyT = false → e' = e))
  | .map es clock, o => d = 0 ∧ ∃ es', o = .map ⟨es'⟩ clock ∧ ERs X es es'
  | .siter s pos, o => d = 0 ∧ (∀ x ∈ s, x < 256) ∧ o = .stringIter (bs s) pos
  | .dfr none, o => d = 0 ∧ o = .deferred none
  | .dfr (some ds), o => d = 0 ∧ ∃ ds', o = .deferred (some ds') ∧ DRs X ds ds'
  | .loop st pending fn n tm params assign body defers, o => d = 0 ∧ ∃ t db dd dz, TmR X n tm t ∧ X.ρ defers = some (db, dd, dz) ∧ dd = 0 ∧
      o = .loop { state := st, pending := pending, fn := fn, tmps := t, params := ⟨params⟩, assign := assign, body := body, defers := db }

def BR (X : Cx) (W : World) (blk : Nat) (mb : MB) : Prop := ∃ n d z o, X.ρ blk = some (n, d, z) ∧ W.heap[n]? = some o ∧ OR X d z mb o

theorem DR.mono {X Y : Cx} (hl : X.Le Y) {d : MD} {d' : Deferred} (h : DR X d d') : DR Y d d' := by
  cases h with
  | mk h k => exact .mk (by cases h with | fn h => exact .fn (h.mono hl) | collected h => exact .collected (hl.1 _ _ h)) (k.mono hl)
theorem DRs.mono {X Y : Cx} (hl : X.Le Y) {d : List MD} {d' : List Deferred} (h : DRs X d d') : DRs Y d d' := by
  induction h with
  | nil => exact .nil
  | cons h _ ih => exact .cons (h.mono hl) ih
theorem ERs.mono {X Y : Cx} (hl : X.Le Y) {d : List (MV × MV × Nat)} {d' : List MapEntry} (h : ERs X d d') : ERs Y d d' := by
  induction h with
  | nil => exact .nil
  | cons h k _ ih => exact .cons (h.mono hl) (k.mono hl) ih
theorem TmR.mono {X Y : Cx} (hl : X.Le Y) {n : Nat} {tm : Tr MV} {t : Array Value} (h : TmR X n tm t) : TmR Y n tm t := ⟨h.1, fun i => (h.2 i).mono hl⟩

theorem OR.mono {X Y : Cx} (hl : X.Le Y) {d z : Nat} {mb : MB} {o : Obj} (h : OR X d z mb o) : OR Y d z mb o := by
  cases mb with
  | cells l e fz wh => obtain ⟨c, f, e', h1, h2, h3, h4, h5⟩ := h; exact ⟨c, f, e', h1, h2, h3, h4.mono hl, h5⟩
  | map es clock => obtain ⟨h0, es', h1, h2⟩ := h; exact ⟨h0, es', h1, h2.mono hl⟩
  | siter s pos => exact h
  | dfr ds => cases ds with
    | none => exact h
    | some ds => obtain ⟨h0, es', h1, h2⟩ := h; exact ⟨h0, es', h1, h2.mono hl⟩
  | loop st pending fn n tm params assign body defers =>
    obtain ⟨h0, t, db, dd, dz, h1, h2, h3, h4⟩ := h
    exact ⟨h0, t, db, dd, dz, h1.mono hl, hl.1 _ _ h2, h3, h4⟩

structure Mem where
  h : Tr MB
  next : Nat
  ro : Nat

def top : Nat := 8388607

/-- What was there stands, but for the blocks that may be written; the streams are as they were. -/
structure Kept (O : Nat → Prop) (w w' : World) : Prop where
  os : w'.os = w.os
  tape : w'.tape = w.tape
  output : w'.output = w.output
  size : w.heap.size ≤ w'.heap.size
  block : ∀ k, k < w.heap.size → ¬ O k → w'.heap[k]? = w.heap[k]?
theorem Kept.refl (O : Nat → Prop) (w : World) : Kept O w w := ⟨rfl, rfl, rfl, Nat.le_refl _, fun _ _ _ => rfl⟩
theorem Kept.drew {O : Nat → Prop} {a w : World} (h : Kept O a w) : Kept O a w.drew := ⟨h.os, h.tape, h.output, h.size, h.block⟩
theorem Kept.alloc {O : Nat → Prop} {a w : World} (h : Kept O a w) (o : Obj) : Kept O a (w.alloc o) :=
  ⟨h.os, h.tape, h.output, by rw [World.size_alloc]; exact Nat.le_succ_of_le h.size, fun k hk ho => (Below.heap_alloc _ _ _ (Nat.lt_of_lt_of_le hk h.size)).trans (h.block k hk ho)⟩
/-- No block that was there may be written: 'Below'. -/
theorem Kept.toBelow {w w' : World} (h : Kept (fun _ => False) w w') : Below w.heap.size w w' := ⟨h.os, h.tape, h.output, h.size, fun k hk => h.block k hk (fun x => x)⟩

/-- The blocks of the model's that were there and may be written; those that stay as they are. -/
structure Fr where
  own : Nat → Prop
  keep : Nat → Option Obj

/-- None of either. -/
def Fr.none : Fr := ⟨fun _ => False, fun _ => Option.none⟩

structure MemR (X : Cx) (base : Fr) (W0 : World) (M : Mem) (W : World) : Prop where
  live : ∀ b mb, M.h.get b = some mb → BR X W b mb
  inj : ∀ b1 b2 m1 m2, M.ro ≤ b2 → M.h.get b1 = some m1 → M.h.get b2 = some m2 → b1 ≠ b2 → ∀ x1 x2, X.ρ b1 = some x1 → X.ρ b2 = some x2 → x1.1 ≠ x2.1
  bound : ∀ b x, X.ρ b = some x → x.1 < W.heap.size
  fresh : ∀ b, M.next ≤ b → X.ρ b = none
  own : ∀ b x, M.ro ≤ b → X.ρ b = some x → base.own x.1 ∨ W0.heap.size ≤ x.1
  below : Kept base.own W0 W
  keep : ∀ n o, base.keep n = some o → W.heap[n]? = some o ∧ (∀ b x, M.ro ≤ b → X.ρ b = some x → x.1 ≠ n) ∧ ∀ b m x, M.h.get b = some m → X.ρ b = some x → x.1 ≠ n
  ro : M.ro ≤ M.next

theorem MemR.key {X : Cx} {base : Fr} {W0 W : World} {M : Mem} (h : MemR X base W0 M W) {b : Nat} {mb : MB} (hb : M.h.get b = some mb) : b < M.next := by
  obtain ⟨n, d, z, o, hρ, _⟩ := h.live b mb hb
  rcases Nat.lt_or_ge b M.next with h' | h'
  · exact h'
  · rw [h.fresh b h'] at hρ; cases hρ

/-! ### One cell -/
def Mem.cell (M : Mem) (blk off : Nat) : Option MV :=
  match M.h.get blk with
  | some (.cells l _ _ _) => l[off]?
  | _ => none

theorem MemR.cell {X : Cx} {base : Fr} {W0 W : World} {M : Mem} (h : MemR X base W0 M W) {blk off n d z : Nat} {v : MV} (hρ : X.ρ blk = some (n, d, z)) (hc : M.cell blk off = some v) :
    ∃ v', W.cell? ⟨n, d + off, none⟩ = some v' ∧ VR X v v' := by
  unfold Mem.cell at hc
  split at hc
  · rename_i l e fz wh hb
    obtain ⟨n', d', z', o, hρ', hW, c, f, e', ho, hlen, hle, hvs, hfz, hwh⟩ := h.live _ _ hb
    rw [hρ] at hρ'
    simp only [Option.some.injEq, Prod.mk.injEq] at hρ'
    obtain ⟨rfl, rfl, rfl⟩ := hρ'
    obtain ⟨v', hv', hvr⟩ := hvs.get hc
    refine ⟨v', ?_, hvr⟩
    have hoff : off < l.length := (List.getElem?_eq_some_iff.1 hc).1
    simp only [World.cell?, hW, ho]
    rw [List.getElem?_take_of_lt hoff, List.getElem?_drop] at hv'
    simpa using hv'
  · cases hc

/-- May the cell be written? -/
def MF.free : MF → Nat → Bool
  | .none, _ => true
  | .rng lo hi, j => Nat.blt j lo || Nat.ble hi j
  | .strish, _ => true

theorem FZ.free {d z : Nat} {fz : MF} {f : Nat × Nat} (h : FZ d z fz f) {j : Nat} (hj : d + j < z) (hf : fz.free j = true) : (f.1 ≤ d + j && d + j < f.2) = false := by
  cases fz with
  | none => simp only [FZ] at h; simp; omega
  | rng lo hi =>
    obtain ⟨h1, h2, h3⟩ := h
    subst h2
    simp only [MF.free, Bool.or_eq_true, Nat.blt_eq, Nat.ble_eq] at hf
    simp
    omega
  | strish => simp only [FZ] at h; subst h; simp; omega

/-- A value that takes one cell. -/
def MV.one : MV → Bool
  | .agg _ | .tup _ | .hid => false
  | _ => true

theorem VR.one {X : Cx} {v : MV} {v' : Value} (h : VR X v v') (ho : v.one = true) : v'.oneCell' = true := by
  cases h <;> simp_all [MV.one, Value.oneCell']

def Mem.setCell (M : Mem) (blk off : Nat) (v : MV) : Option Mem :=
  match M.h.get blk with
  | some (.cells l e fz wh) => bif Nat.blt off l.length && Nat.ble M.ro blk && fz.free off && Nat.blt blk top then some { M with h := Tr.set 23 M.h blk (some (.cells (l.set off v) e fz wh)) } else none
  | _ => none

theorem top_lt {b : Nat} (h : b < top) : b + 1 < 2 ^ 23 := by unfold top at h; omega

/-- The heap with one block replaced, and the model's with one block replaced. -/
theorem MemR.replace {X : Cx} {base : Fr} {W0 W : World} {M : Mem} (h : MemR X base W0 M W) {blk n d z : Nat} {mb mb' : MB} {o' : Obj}
    (hb : M.h.get blk = some mb) (hρ : X.ρ blk = some (n, d, z)) (hro : M.ro ≤ blk) (ht : blk < top) (hor : OR X d z mb' o') {W' : World}
    (hos : W'.os = W.os) (htp : W'.tape = W.tape) (hou : W'.output = W.output) (hsz : W'.heap.size = W.heap.size) (hn : W'.heap[n]? = some o') (hk : ∀ k, k ≠ n → W'.heap[k]? = W.heap[k]?) :
    MemR X base W0 { M with h := Tr.set 23 M.h blk (some mb') } W' := by
  have hg : ∀ j, (Tr.set 23 M.h blk (some mb')).get j = if j = blk then some mb' else M.h.get j := fun j => Tr.get_set _ _ _ _ _ (top_lt ht)
  have old : ∀ j m, (Tr.set 23 M.h blk (some mb')).get j = some m → ∃ m0, M.h.get j = some m0 := by
    intro j m hj
    rw [hg] at hj
    by_cases e : j = blk
    · subst e; exact ⟨_, hb⟩
    · rw [if_neg e] at hj; exact ⟨_, hj⟩
  constructor
  · intro j m hj
    rw [hg] at hj
    by_cases e : j = blk
    · subst e; simp only [if_true, Option.some.injEq] at hj; subst hj
      exact ⟨n, d, z, o', hρ, hn, hor⟩
    · rw [if_neg e] at hj
      obtain ⟨n1, d1, z1, o1, h1, h2, h3⟩ := h.live j m hj
      refine ⟨n1, d1, z1, o1, h1, ?_, h3⟩
      rw [hk n1 (h.inj j blk _ _ hro hj hb e _ _ h1 hρ)]; exact h2
  · intro b1 b2 m1 m2 hr h1 h2 hne
    obtain ⟨m1', h1'⟩ := old _ _ h1
    obtain ⟨m2', h2'⟩ := old _ _ h2
    exact h.inj b1 b2 _ _ hr h1' h2' hne
  · intro b x hx; rw [hsz]; exact h.bound b x hx
  · exact h.fresh
  · exact h.own
  · have hbn : base.own n ∨ W0.heap.size ≤ n := h.own _ _ hro hρ
    exact ⟨hos.trans h.below.os, htp.trans h.below.tape, hou.trans h.below.output, by rw [hsz]; exact h.below.size, fun k hk' ho => (hk k (by
      rintro rfl
      rcases hbn with h1 | h1
      · exact ho h1
      · omega)).trans (h.below.block k hk' ho)⟩
  · intro m o ho
    obtain ⟨h1, h2, h3⟩ := h.keep m o ho
    refine ⟨(hk m (fun e => h2 _ _ hro hρ e.symm)).trans h1, h2, fun b' m' x' hb' => ?_⟩
    obtain ⟨m0, hm0⟩ := old _ _ hb'
    exact h3 b' m0 x' hm0
  · exact h.ro

theorem MemR.setCell {X : Cx} {base : Fr} {W0 W : World} {M M' : Mem} (h : MemR X base W0 M W) {blk off n d z : Nat} {v : MV} {v' : Value} (hρ : X.ρ blk = some (n, d, z)) (hv : VR X v v')
    (hc : M.setCell blk off v = some M') :
    (∃ u, W.cell? ⟨n, d + off, none⟩ = some u) ∧ W.frozen? ⟨n, d + off, none⟩ = false ∧ MemR X base W0 M' (W.setCell ⟨n, d + off, none⟩ v') := by
  unfold Mem.setCell at hc
  split at hc
  · rename_i l e fz wh hb
    cases hcond : (Nat.blt off l.length && Nat.ble M.ro blk && fz.free off && Nat.blt blk top) with
    | false => rw [hcond] at hc; cases hc
    | true =>
      rw [hcond] at hc
      simp only [cond_true, Option.some.injEq] at hc
      subst hc
      simp only [Bool.and_eq_true, Nat.blt_eq, Nat.ble_eq] at hcond
      obtain ⟨⟨⟨hoff, hro⟩, hfree⟩, htop⟩ := hcond
      obtain ⟨n', d', z', o, hρ', hW, c, f, e', ho, hlen, hle, hvs, hfz, hwh⟩ := h.live _ _ hb
      rw [hρ] at hρ'
      simp only [Option.some.injEq, Prod.mk.injEq] at hρ'
      obtain ⟨rfl, rfl, rfl⟩ := hρ'
      subst ho
      have hdo : d + off < c.length := by omega
      refine ⟨⟨c[d + off]'hdo, by simp [World.cell?, hW, hdo]⟩, ?_, ?_⟩
      · simp only [World.frozen?, hW]; exact hfz.free (by omega) hfree
      · refine h.replace (o' := .cells ⟨c.set (d + off) v'⟩ e' f) hb hρ hro htop ?_ rfl rfl rfl (by simp [World.setCell]) ?_ ?_
        · refine ⟨c.set (d + off) v', f, e', rfl, by simpa using hlen, by simpa using hle, ?_, hfz, ⟨by simpa using hwh.1, hwh.2⟩⟩
          have h1 : ((c.set (d + off) v').drop d).take (l.set off v).length = ((c.drop d).take l.length).set off v' := by
            rw [List.length_set, List.drop_set, if_neg (by omega), show d + off - d = off by omega, List.take_set]
          rw [h1]
          exact hvs.set hv off
        · simp only [World.setCell, Array.getElem?_modify]
          simp [hW]
        · intro k hk
          simp only [World.setCell, Array.getElem?_modify]
          rw [if_neg (fun e => hk e.symm)]
  · cases hc

/-! ### A new block -/
theorem alloc_new (w : World) (o : Obj) : (w.alloc o).heap[w.heap.size]? = some o := by
  show (w.heap.push o)[w.heap.size]? = some o
  rw [Array.getElem?_push, if_pos rfl]

def Mem.new (M : Mem) (mb : MB) : Option (Nat × Mem) :=
  bif Nat.blt M.next top then some (M.next, { M with h := Tr.set 23 M.h M.next (some mb), next := M.next + 1 }) else none

def Cx.add (X : Cx) (blk : Nat) (x : Nat × Nat × Nat) : Cx := { X with ρ := fun b => if b = blk then some x else X.ρ b }

theorem Cx.add_le {X : Cx} {blk : Nat} {x : Nat × Nat × Nat} (h : X.ρ blk = none) : X.Le (X.add blk x) := by
  refine ⟨fun b y hy => ?_, fun _ _ h => h⟩
  simp only [Cx.add]
  by_cases e : b = blk
  · subst e; rw [h] at hy; cases hy
  · rw [if_neg e]; exact hy

theorem Cx.add_same (X : Cx) (blk : Nat) (x : Nat × Nat × Nat) : (X.add blk x).ρ blk = some x := by simp [Cx.add]
theorem Cx.add_ne (X : Cx) {blk b : Nat} (x : Nat × Nat × Nat) (h : b ≠ blk) : (X.add blk x).ρ b = X.ρ b := by simp [Cx.add, h]

theorem MemR.new {X : Cx} {base : Fr} {W0 W : World} {M M' : Mem} (h : MemR X base W0 M W) {mb : MB} {z blk : Nat} {o : Obj} (hc : M.new mb = some (blk, M')) (hor : OR (X.add blk (W.heap.size, 0, z)) 0 z mb o) :
    blk = M.next ∧ X.Le (X.add blk (W.heap.size, 0, z)) ∧ MemR (X.add blk (W.heap.size, 0, z)) base W0 M' (W.alloc o) := by
  unfold Mem.new at hc
  cases hcond : Nat.blt M.next top with
  | false => rw [hcond] at hc; cases hc
  | true =>
    rw [hcond] at hc
    simp only [cond_true, Option.some.injEq, Prod.mk.injEq] at hc
    obtain ⟨rfl, rfl⟩ := hc
    have ht : M.next < top := by simpa using hcond
    have hnone : X.ρ M.next = none := h.fresh _ (Nat.le_refl _)
    have hle : X.Le (X.add M.next (W.heap.size, 0, z)) := Cx.add_le hnone
    have hg : ∀ j, (Tr.set 23 M.h M.next (some mb)).get j = if j = M.next then some mb else M.h.get j := fun j => Tr.get_set _ _ _ _ _ (top_lt ht)
    refine ⟨rfl, hle, ?_⟩
    constructor
    · intro j m hj
      rw [hg] at hj
      by_cases e : j = M.next
      · subst e; simp only [if_true, Option.some.injEq] at hj; subst hj
        exact ⟨W.heap.size, 0, z, o, Cx.add_same _ _ _, alloc_new W o, hor⟩
      · rw [if_neg e] at hj
        obtain ⟨n1, d1, z1, o1, h1, h2, h3⟩ := h.live j m hj
        exact ⟨n1, d1, z1, o1, hle.1 _ _ h1, by rw [Below.heap_alloc _ _ _ (h.bound _ _ h1)]; exact h2, h3.mono hle⟩
    · intro b1 b2 m1 m2 hr h1 h2 hne x1 x2 e1 e2
      rw [hg] at h1 h2
      by_cases c1 : b1 = M.next
      · have c2 : b2 ≠ M.next := fun e => hne (c1.trans e.symm)
        rw [if_neg c2] at h2
        rw [c1, Cx.add_same] at e1
        rw [Cx.add_ne _ _ c2] at e2
        have := h.bound _ _ e2
        simp only [Option.some.injEq] at e1
        subst e1
        show W.heap.size ≠ x2.1
        omega
      · rw [if_neg c1] at h1
        rw [Cx.add_ne _ _ c1] at e1
        by_cases c2 : b2 = M.next
        · rw [c2, Cx.add_same] at e2
          have := h.bound _ _ e1
          simp only [Option.some.injEq] at e2
          subst e2
          show x1.1 ≠ W.heap.size
          omega
        · rw [if_neg c2] at h2
          rw [Cx.add_ne _ _ c2] at e2
          exact h.inj b1 b2 _ _ hr h1 h2 hne x1 x2 e1 e2
    · intro b x hx
      rw [World.size_alloc]
      by_cases e : b = M.next
      · subst e; rw [Cx.add_same] at hx; simp only [Option.some.injEq] at hx; subst hx; show W.heap.size < _; omega
      · rw [Cx.add_ne _ _ e] at hx; have := h.bound _ _ hx; omega
    · intro b hb
      have hb' : M.next + 1 ≤ b := hb
      rw [Cx.add_ne _ _ (by omega)]
      exact h.fresh b (by omega)
    · intro b x hb hx
      by_cases e : b = M.next
      · subst e; rw [Cx.add_same] at hx; simp only [Option.some.injEq] at hx; subst hx
        exact .inr h.below.size
      · rw [Cx.add_ne _ _ e] at hx; exact h.own b x hb hx
    · exact h.below.alloc _
    · intro m o' ho'
      obtain ⟨h1, h2, h3⟩ := h.keep m o' ho'
      have hm := (Array.getElem?_eq_some_iff.1 h1).1
      refine ⟨(Below.heap_alloc _ _ _ hm).trans h1, fun b x hb hx => ?_, fun b m' x hb hx => ?_⟩
      · by_cases e : b = M.next
        · subst e; rw [Cx.add_same] at hx; simp only [Option.some.injEq] at hx; subst hx
          show W.heap.size ≠ m
          omega
        · rw [Cx.add_ne _ _ e] at hx; exact h2 b x hb hx
      · rw [hg] at hb
        by_cases e : b = M.next
        · subst e; rw [Cx.add_same] at hx; simp only [Option.some.injEq] at hx; subst hx
          show W.heap.size ≠ m
          omega
        · rw [if_neg e] at hb; rw [Cx.add_ne _ _ e] at hx; exact h3 b m' x hb hx
    · have := h.ro; show M.ro ≤ M.next + 1; omega

end Go.Ev
