/- The evaluator's memory: many cells, blocks that are let go, append. -/
import Derived.Test.YtghcpfgpmliiaaaGreatDoorEvB
import Derived.Laws.IdiomCopy
import Derived.Laws.AppendOwn
namespace Go.Ev
open Go.RowKit (Below)

theorem addr_add (n k i : Nat) : (⟨n, k, none⟩ : Addr).add i = ⟨n, k + i, none⟩ := by
  unfold Addr.add; split <;> simp_all

/-! ### Many cells read -/
def Mem.cells (M : Mem) (blk off n : Nat) : Option (List MV) :=
  match M.h.get blk with
  | some (.cells l _ _ _) => bif Nat.ble (off + n) l.length then some ((l.drop off).take n) else none
  | _ => none

theorem MemR.cells {X : Cx} {base : Fr} {W0 W : World} {M : Mem} (h : MemR X base W0 M W) {blk off k n d z : Nat} {l : List MV} (hρ : X.ρ blk = some (n, d, z)) (hc : M.cells blk off k = some l) :
    ∃ l', VRs X l l' ∧ l.length = k ∧ ∀ P, (loadCells ⟨n, d + off, none⟩ k).run P W = .ok ⟨l'⟩ W := by
  unfold Mem.cells at hc
  split at hc
  · rename_i l0 e fz wh hb
    cases hcond : Nat.ble (off + k) l0.length with
    | false => rw [hcond] at hc; cases hc
    | true =>
      rw [hcond] at hc
      simp only [cond_true, Option.some.injEq] at hc
      subst hc
      have hcond' : off + k ≤ l0.length := by simpa using hcond
      obtain ⟨n', d', z', o, hρ', hW, c, f, e', ho, hlen, hle, hvs, hfz, hwh⟩ := h.live _ _ hb
      rw [hρ] at hρ'
      simp only [Option.some.injEq, Prod.mk.injEq] at hρ'
      obtain ⟨rfl, rfl, rfl⟩ := hρ'
      subst ho
      have hv := (hvs.drop off).take k
      have hl1 : ((l0.drop off).take k).length = k := by simp; omega
      refine ⟨_, hv, hl1, fun P => ?_⟩
      have hl2 : ((((c.drop d).take l0.length).drop off).take k).length = k := by rw [hv.length, hl1]
      have := run_loadCells_list (P := P) W ⟨n, d + off, none⟩ ((((c.drop d).take l0.length).drop off).take k) (fun j v hj => by
        have hjk : j < k := by
          rcases Nat.lt_or_ge j k with h' | h'
          · exact h'
          · rw [List.getElem?_eq_none (by omega)] at hj; cases hj
        rw [List.getElem?_take_of_lt hjk, List.getElem?_drop, List.getElem?_take_of_lt (by omega), List.getElem?_drop] at hj
        rw [addr_add]
        simp only [World.cell?, hW]
        simpa [Nat.add_assoc] using hj)
      rw [hl2] at this
      exact this
  · cases hc

/-! ### Many cells written -/
def Mem.setCells (M : Mem) (blk off : Nat) : List MV → Option Mem
  | [] => some M
  | v :: r => bif v.one then (match M.setCell blk off v with | some M1 => M1.setCells blk (off + 1) r | none => none) else none

theorem MemR.setCells {X : Cx} {base : Fr} {W0 : World} {blk n d z : Nat} (hρ : X.ρ blk = some (n, d, z)) (P : Program) : ∀ {l : List MV} {l' : List Value} {M M' : Mem} {W : World} (off o i : Nat),
    VRs X l l' → o + i = d + off → MemR X base W0 M W → M.setCells blk off l = some M' → ∃ W', (storeCells ⟨n, o, none⟩ l' i).run P W = .ok () W' ∧ MemR X base W0 M' W'
  | [], _, M, M', W, off, o, i, hv, ho, h, hc => by
    cases hv
    simp only [Mem.setCells, Option.some.injEq] at hc
    subst hc
    exact ⟨W, rfl, h⟩
  | v :: r, _, M, M', W, off, o, i, hv, ho, h, hc => by
    cases hv with
    | cons hv ht =>
      rename_i v' r'
      simp only [Mem.setCells] at hc
      cases hone : v.one with
      | false => rw [hone] at hc; cases hc
      | true =>
        rw [hone] at hc
        simp only [cond_true] at hc
        cases hs : M.setCell blk off v with
        | none => rw [hs] at hc; cases hc
        | some M1 =>
          rw [hs] at hc
          simp only at hc
          obtain ⟨⟨u, hu⟩, hf, h1⟩ := h.setCell hρ hv hs
          obtain ⟨W', hrun, h2⟩ := MemR.setCells hρ P (off + 1) o (i + 1) ht (by omega) h1 hc
          refine ⟨W', ?_, h2⟩
          have hst : (store ((⟨n, o, none⟩ : Addr).add i) v').run P W = .ok () (W.setCell ⟨n, d + off, none⟩ v') := by
            rw [addr_add, run_store P W _ v' _ (hv.one hone), ho, hu]
            simp [hf]
          simp only [storeCells, Sem.run_bind, hst, Result.andThen_ok, hrun]

/-! ### A block let go -/
def Mem.drop (M : Mem) (blk : Nat) : Mem := { M with h := Tr.set 23 M.h blk none }

theorem MemR.drop {X : Cx} {base : Fr} {W0 W : World} {M : Mem} (h : MemR X base W0 M W) {blk : Nat} (ht : blk < top) : MemR X base W0 (M.drop blk) W := by
  have hg : ∀ j m, (M.drop blk).h.get j = some m → j ≠ blk ∧ M.h.get j = some m := by
    intro j m hj
    rw [Mem.drop, Tr.get_set _ _ _ _ _ (top_lt ht)] at hj
    by_cases e : j = blk
    · rw [if_pos e] at hj; cases hj
    · rw [if_neg e] at hj; exact ⟨e, hj⟩
  exact ⟨fun b mb hb => h.live b mb (hg _ _ hb).2, fun b1 b2 m1 m2 hr h1 h2 => h.inj b1 b2 m1 m2 hr (hg _ _ h1).2 (hg _ _ h2).2, h.bound, h.fresh, h.own, h.below, fun n o ho => ⟨(h.keep n o ho).1, (h.keep n o ho).2.1, fun b m x hb => (h.keep n o ho).2.2 b m x (hg _ _ hb).2⟩, h.ro⟩

/-- A draw. -/
theorem MemR.drew {X : Cx} {base : Fr} {W0 W : World} {M : Mem} (h : MemR X base W0 M W) : MemR X base W0 M W.drew :=
  ⟨h.live, h.inj, h.bound, h.fresh, h.own, h.below.drew, h.keep, h.ro⟩

/-- A second name for a block that was let go: the new block of the evaluator's lies in the model's old one. -/
theorem MemR.again {X : Cx} {base : Fr} {W0 W : World} {M M' : Mem} (h : MemR X base W0 M W) {mb : MB} {blk n d z a dd : Nat} {o : Obj}
    (hρ : X.ρ a = some (n, dd, z)) (hro : M.ro ≤ a) (hW : W.heap[n]? = some o) (hdead : ∀ b m, M.h.get b = some m → ∀ x, X.ρ b = some x → x.1 ≠ n)
    (hc : M.new mb = some (blk, M')) (hor : OR (X.add blk (n, d, z)) d z mb o) :
    blk = M.next ∧ X.Le (X.add blk (n, d, z)) ∧ MemR (X.add blk (n, d, z)) base W0 M' W := by
  unfold Mem.new at hc
  cases hcond : Nat.blt M.next top with
  | false => rw [hcond] at hc; cases hc
  | true =>
    rw [hcond] at hc
    simp only [cond_true, Option.some.injEq, Prod.mk.injEq] at hc
    obtain ⟨rfl, rfl⟩ := hc
    have ht : M.next < top := by simpa using hcond
    have hnone : X.ρ M.next = none := h.fresh _ (Nat.le_refl _)
    have hle : X.Le (X.add M.next (n, d, z)) := Cx.add_le hnone
    have hg : ∀ j, (Tr.set 23 M.h M.next (some mb)).get j = if j = M.next then some mb else M.h.get j := fun j => Tr.get_set _ _ _ _ _ (top_lt ht)
    refine ⟨rfl, hle, ?_⟩
    constructor
    · intro j m hj
      rw [hg] at hj
      by_cases e : j = M.next
      · subst e; simp only [if_true, Option.some.injEq] at hj; subst hj
        exact ⟨n, d, z, o, Cx.add_same _ _ _, hW, hor⟩
      · rw [if_neg e] at hj
        obtain ⟨n1, d1, z1, o1, h1, h2, h3⟩ := h.live j m hj
        exact ⟨n1, d1, z1, o1, hle.1 _ _ h1, h2, h3.mono hle⟩
    · intro b1 b2 m1 m2 hr h1 h2 hne x1 x2 e1 e2
      rw [hg] at h1 h2
      by_cases c1 : b1 = M.next
      · have c2 : b2 ≠ M.next := fun e => hne (c1.trans e.symm)
        rw [if_neg c2] at h2
        rw [c1, Cx.add_same] at e1
        rw [Cx.add_ne _ _ c2] at e2
        simp only [Option.some.injEq] at e1
        subst e1
        exact fun e => hdead _ _ h2 _ e2 e.symm
      · rw [if_neg c1] at h1
        rw [Cx.add_ne _ _ c1] at e1
        by_cases c2 : b2 = M.next
        · rw [c2, Cx.add_same] at e2
          simp only [Option.some.injEq] at e2
          subst e2
          exact hdead _ _ h1 _ e1
        · rw [if_neg c2] at h2
          rw [Cx.add_ne _ _ c2] at e2
          exact h.inj b1 b2 _ _ hr h1 h2 hne x1 x2 e1 e2
    · intro b x hx
      by_cases e : b = M.next
      · subst e; rw [Cx.add_same] at hx; simp only [Option.some.injEq] at hx; subst hx; exact (h.bound _ _ hρ : n < _)
      · rw [Cx.add_ne _ _ e] at hx; exact h.bound _ _ hx
    · intro b hb
      have hb' : M.next + 1 ≤ b := hb
      rw [Cx.add_ne _ _ (by omega)]
      exact h.fresh b (by omega)
    · intro b x hb hx
      by_cases e : b = M.next
      · subst e; rw [Cx.add_same] at hx; simp only [Option.some.injEq] at hx; subst hx
        exact (h.own _ _ hro hρ : base.own n ∨ W0.heap.size ≤ n)
      · rw [Cx.add_ne _ _ e] at hx; exact h.own b x hb hx
    · exact h.below
    · intro m o' ho'
      obtain ⟨h1, h2, h3⟩ := h.keep m o' ho'
      refine ⟨h1, fun b x hb hx => ?_, fun b m' x hb hx => ?_⟩
      · by_cases e : b = M.next
        · subst e; rw [Cx.add_same] at hx; simp only [Option.some.injEq] at hx; subst hx
          exact (h2 _ _ hro hρ : n ≠ m)
        · rw [Cx.add_ne _ _ e] at hx; exact h2 b x hb hx
      · rw [hg] at hb
        by_cases e : b = M.next
        · subst e; rw [Cx.add_same] at hx; simp only [Option.some.injEq] at hx; subst hx
          exact (h2 _ _ hro hρ : n ≠ m)
        · rw [if_neg e] at hb; rw [Cx.add_ne _ _ e] at hx; exact h3 b m' x hb hx
    · have := h.ro; show M.ro ≤ M.next + 1; omega

/-- A model's block turned that no live block of the evaluator's stands for. -/
theorem MemR.turn {X : Cx} {base : Fr} {W0 W W' : World} {M : Mem} (h : MemR X base W0 M W) {n : Nat} (hn : base.own n ∨ W0.heap.size ≤ n) (hkp : ∀ o, base.keep n ≠ some o) (hdead : ∀ b m, M.h.get b = some m → ∀ x, X.ρ b = some x → x.1 ≠ n)
    (hos : W'.os = W.os) (htp : W'.tape = W.tape) (hou : W'.output = W.output) (hsz : W'.heap.size = W.heap.size) (hk : ∀ k, k ≠ n → W'.heap[k]? = W.heap[k]?) : MemR X base W0 M W' := by
  refine ⟨?_, h.inj, ?_, h.fresh, h.own, ?_, ?_, h.ro⟩
  · intro b mb hb
    obtain ⟨n1, d1, z1, o1, h1, h2, h3⟩ := h.live b mb hb
    exact ⟨n1, d1, z1, o1, h1, by rw [hk n1 (hdead _ _ hb _ h1)]; exact h2, h3⟩
  · intro b x hx; rw [hsz]; exact h.bound b x hx
  · exact ⟨hos.trans h.below.os, htp.trans h.below.tape, hou.trans h.below.output, by rw [hsz]; exact h.below.size, fun k hk' ho => (hk k (by
      rintro rfl
      rcases hn with h1 | h1
      · exact ho h1
      · omega)).trans (h.below.block k hk' ho)⟩
  · intro m o ho
    obtain ⟨h1, h2, h3⟩ := h.keep m o ho
    exact ⟨(hk m (fun e => hkp o (e ▸ ho))).trans h1, h2, h3⟩

end Go.Ev
