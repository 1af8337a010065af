/- The evaluator: conversions, assertions, iterators over strings, the plain builtins. -/
import Derived.Test.YtghcpfgpmliiaaaGreatDoorEvK
namespace Go.Ev

section
variable {P : Program} {X : Cx} {base : Fr} {W0 W : World} {M : Mem}

/-! ### Conversions -/
def byteOf : MV → Option Nat
  | .i .u8 (.ofNat n) => bif Nat.blt n 256 then some n else none
  | _ => none

def convM (P : Program) (M : Mem) (src dst : TypeId) (x : MV) : Option (MV × Mem) :=
  match P.underlying src, P.underlying dst, x with
  | some _, some (.int k), .i _ n => some (.i k (wrapF k n), M)
  | some _, some (.float k), .i _ n => some (.f k (k.nearest n), M)
  | some _, some (.int k), .f s b => match (s.decode b).toInt .zero with
    | some n => bif (!(ltI n k.min)) && (!(ltI k.max n)) then some (.i k n, M) else none
    | none => none
  | some _, some (.float k), .f s b => bif eqFK s k then some (.f k b, M) else none
  | some (.int _), some .string, .i _ n => some (.s ((Utf8.encode n).data.toList.map UInt8.toNat), M)
  | some .string, some .string, .s l => some (.s l, M)
  | some .string, some (.slice e), .s l => match P.underlying e with
    | some (.int .u8) => match M.new (.cells (l.map fun (x : Nat) => .i .u8 (x : Int)) e .strish false) with
      | some (b, M') => some (.sl b 0 l.length l.length 1 false, M')
      | none => none
    | _ => none
  | some (.slice e), some .string, .nsl => match P.underlying e with
    | some (.int .u8) => some (.s [], M)
    | _ => none
  | some (.slice e), some .string, .sl blk off len _ _ _ => match P.underlying e with
    | some (.int .u8) => match M.cells blk off len with
      | some cs => match mapO' byteOf cs with
        | some l => some (.s l, M)
        | none => none
      | none => none
    | _ => none
  | _, _, _ => none
where
  mapO' (g : MV → Option Nat) : List MV → Option (List Nat)
  | [] => some []
  | x :: r => match g x, mapO' g r with
    | some y, some ys => some (y :: ys)
    | _, _ => none

theorem byteOf_sound {v : MV} {v' : Value} {n : Nat} (hv : VR X v v') (h : byteOf v = some n) : v' = .int .u8 (n : Int) ∧ n < 256 := by
  unfold byteOf at h
  split at h
  · rename_i m
    cases hq : Nat.blt m 256 <;> rw [hq] at h <;> simp only [cond_true, cond_false, reduceCtorEq, Option.some.injEq] at h
    subst h
    cases hv
    exact ⟨rfl, by simpa using hq⟩
  · cases h

theorem bytes_back : ∀ {cs : List MV} {cs' : List Value} {l : List Nat}, VRs X cs cs' → convM.mapO' byteOf cs = some l → (∀ x ∈ l, x < 256) ∧ cs' = l.map fun (x : Nat) => .int .u8 (x : Int)
  | [], _, l, h, hc => by
    cases h
    simp only [convM.mapO', Option.some.injEq] at hc; subst hc
    exact ⟨by simp, rfl⟩
  | v :: cs, _, l, h, hc => by
    cases h with
    | cons h t =>
      simp only [convM.mapO'] at hc
      split at hc
      · rename_i y ys hy hys
        simp only [Option.some.injEq] at hc; subst hc
        obtain ⟨rfl, h1⟩ := byteOf_sound h hy
        obtain ⟨h2, rfl⟩ := bytes_back t hys
        refine ⟨?_, rfl⟩
        intro x hx
        rcases List.mem_cons.1 hx with e | e
        · subst e; exact h1
        · exact h2 x e
      · cases hc

theorem push_bs (l : List Nat) (x : Nat) : (bs l).push (UInt8.ofNat x) = bs (l ++ [x]) := by
  unfold bs
  apply ByteArray.ext
  simp [ByteArray.push]

theorem bytesToString_run (l : List Nat) (W : World) (a : Addr) (len cap : Nat) (hl : (loadCells a len).run P W = .ok ⟨l.map fun (x : Nat) => .int .u8 (x : Int)⟩ W) :
    (Conv.bytesToString (.slice (some a) len cap)).run P W = .ok (.string (bs l)) W := by
  simp only [Conv.bytesToString, Sem.run_bind, hl, Result.andThen_ok]
  rw [← Array.forIn_toList]
  have e0 : ByteArray.empty = bs [] := rfl
  rw [e0]
  suffices H : ∀ (m : List Nat) (s : List Nat), (forIn (m := Sem) (m.map fun (x : Nat) => Value.int .u8 (x : Int)) (bs s) fun c __s => do
      let .int .u8 n := c | do stuck "bytesToString: byte expected"; pure (ForInStep.yield __s)
      pure (ForInStep.yield (__s.push (UInt8.ofNat n.toNat)))).run P W = .ok (bs (s ++ m)) W by
    have := H l []
    simp only [List.nil_append] at this
    exact (congrArg (fun r => Result.andThen r fun a w' => Sem.run P (pure (Value.string a)) w') this).trans rfl
  intro m
  induction m with
  | nil => intro s; simp
  | cons x m ih =>
    intro s
    simp only [List.map_cons, List.forIn_cons, Sem.run_bind, Sem.run_pure, Result.andThen_ok, Int.toNat_natCast, push_bs]
    rw [ih]
    simp

set_option maxHeartbeats 800000 in
theorem conv_to {M' : Mem} {src dst : TypeId} {x r : MV} {x' : Value} (h : MemR X base W0 M W) (hx : VR X x x') (hc : convM P M src dst x = some (r, M')) : ToV P X base W0 (convert src dst x') W r M' := by
  unfold convM at hc
  split at hc
  · rename_i d k k2 n hs hd
    cases hx
    simp only [Option.some.injEq, Prod.mk.injEq] at hc
    obtain ⟨rfl, rfl⟩ := hc
    refine .pure h (v' := .int k (k.wrap n)) ?_ (by rw [wrapF_eq]; exact .i _ _)
    simp [convert, run_underlying hs, run_underlying hd, Conv.intToInt]
  · rename_i d k k2 n hs hd
    cases hx
    simp only [Option.some.injEq, Prod.mk.injEq] at hc
    obtain ⟨rfl, rfl⟩ := hc
    refine .pure h (v' := .float k (k.nearest n)) ?_ (.f _ _)
    simp [convert, run_underlying hs, run_underlying hd, Conv.intToFloat]
  · rename_i d k s b hs hd
    cases hx
    split at hc
    · rename_i n hn
      cases hq : ((!(ltI n k.min)) && (!(ltI k.max n))) <;> rw [hq] at hc <;> simp only [cond_true, cond_false, reduceCtorEq, Option.some.injEq, Prod.mk.injEq] at hc
      obtain ⟨rfl, rfl⟩ := hc
      simp only [ltI_eq, Bool.and_eq_true, Bool.not_eq_true', decide_eq_false_iff_not, Int.not_lt] at hq
      refine .pure h (v' := .int k n) ?_ (.i _ _)
      simp [convert, run_underlying hs, run_underlying hd, Conv.floatToInt, hn, hq.1, hq.2]
    · cases hc
  · rename_i d k s b hs hd
    cases hx
    cases hq : eqFK s k <;> rw [hq] at hc <;> simp only [cond_true, cond_false, reduceCtorEq, Option.some.injEq, Prod.mk.injEq] at hc
    obtain ⟨rfl, rfl⟩ := hc
    have := eqFK_eq hq; subst this
    refine .pure h (v' := .float s b) ?_ (.f _ _)
    simp [convert, run_underlying hs, run_underlying hd, Conv.floatToFloat]
  · rename_i k k2 n hs hd
    cases hx
    simp only [Option.some.injEq, Prod.mk.injEq] at hc
    obtain ⟨rfl, rfl⟩ := hc
    refine .pure h (v' := .string (bs ((Utf8.encode n).data.toList.map UInt8.toNat))) ?_ (.s _ (by intro y hy; obtain ⟨u, _, rfl⟩ := List.mem_map.1 hy; exact u.toNat_lt))
    rw [bs_toNat]
    simp [convert, run_underlying hs, run_underlying hd, Conv.intToString]
  · rename_i l hs hd
    cases hx with | s _ hlt =>
    simp only [Option.some.injEq, Prod.mk.injEq] at hc
    obtain ⟨rfl, rfl⟩ := hc
    refine .pure h (v' := .string (bs l)) ?_ (.s _ hlt)
    simp [convert, run_underlying hs, run_underlying hd]
  · rename_i e l hs hd
    cases hx with | s _ hlt =>
    split at hc
    · rename_i he
      split at hc
      · rename_i b M1 hn
        simp only [Option.some.injEq, Prod.mk.injEq] at hc
        obtain ⟨rfl, rfl⟩ := hc
        obtain ⟨cap, hcap⟩ : ∃ cap, cap = l.length + W.tape W.drawn (.appendCap l.length 0 e) % (2 ^ 63 - l.length) := ⟨_, rfl⟩
        have hge : l.length ≤ cap := by omega
        have hb : b = M.next := by
          unfold Mem.new at hn
          cases hq : Nat.blt M.next top <;> rw [hq] at hn
          · cases hn
          · simp only [cond_true, Option.some.injEq, Prod.mk.injEq] at hn; exact hn.1.symm
        subst hb
        have hd' := h.drew
        have hle : X.Le (X.add M.next (W.heap.size, 0, cap)) := Cx.add_le (h.fresh _ (Nat.le_refl _))
        let cs : List Value := ((bs l).data.toList.map fun b => .int .u8 b.toNat) ++ List.replicate (cap - l.length) (.int .u8 0)
        have hbl : ((bs l).data.toList.map fun b => Value.int .u8 b.toNat).length = l.length := by simp [bs]
        have hcl : cs.length = cap := by simp only [cs, List.length_append, hbl, List.length_replicate]; omega
        have hor : OR (X.add M.next (W.drew.heap.size, 0, cap)) 0 cap (.cells (l.map fun (x : Nat) => .i .u8 (x : Int)) e .strish false) (.cells ⟨cs⟩ e (cap, cap + 1)) := by
          refine ⟨cs, (cap, cap + 1), e, rfl, hcl, by simp; exact hge, ?_, rfl, by simp, fun _ => rfl⟩
          rw [List.drop_zero, List.length_map, ← hbl, List.take_left']
          · exact (bytes_vrs hlt).mono hle
          · rfl
        obtain ⟨_, _, hm⟩ := hd'.new (z := cap) hn hor
        refine ⟨_, _, .slice (some ⟨W.heap.size, 0, none⟩) l.length cap, hle, ?_, hm, .sl (Cx.add_same _ _ _) hge (by simp) (Nat.le_refl _) (fun _ => by simp)⟩
        have hfree : ∀ o, ((W.drew.alloc (.cells ⟨cs⟩ e)).freeze ⟨W.heap.size, cap, none⟩ 1) = W.drew.alloc (.cells ⟨cs⟩ e (cap, cap + 1)) ∨ o := by
          intro o; left
          simp only [World.freeze, World.alloc]
          simp
          apply Array.ext_getElem?
          intro j
          rw [Array.getElem?_modify, Array.getElem?_push, Array.getElem?_push]
          by_cases hj : j = W.heap.size
          · subst hj; simp
          · rw [if_neg (fun e0 => hj e0.symm)]
            simp [hj]
        have hfree' := (hfree False).resolve_right id
        have hsh : (W.drew.alloc (.cells ⟨cs⟩ e)).shape? W.heap.size = some (e, cap) := by
          have : (W.drew.alloc (.cells ⟨cs⟩ e)).heap[W.drew.heap.size]? = some (.cells ⟨cs⟩ e) := alloc_new W.drew _
          simp only [World.shape?]
          rw [show W.heap.size = W.drew.heap.size from rfl, this]
          simp [hcl]
        have harr : ((bs l).data.map (fun b => Value.int .u8 b.toNat) ++ Array.replicate (cap - l.length) (.int .u8 0) : Array Value) = ⟨cs⟩ := by
          apply Array.ext'
          simp [cs]
        simp only [convert, Sem.run_bind, run_underlying hs, run_underlying hd, run_underlying he, Result.andThen_ok, Conv.stringToBytes, run_choose, Question.forced, Question.cut, Bool.false_eq_true, if_false, World.drew_eq, bs_size, ← hcap, harr, Go.newRow, run_newObj,
          World.alloc_eq, Sem.run_pure, markStringish, run_shape, World.size_drew, hsh, run_freeze, hfree']
      · cases hc
    · cases hc
  · rename_i e hs hd
    cases hx
    split at hc
    · rename_i he
      simp only [Option.some.injEq, Prod.mk.injEq] at hc
      obtain ⟨rfl, rfl⟩ := hc
      refine .pure h (v' := .string (bs [])) ?_ (.s _ (by simp))
      simp [convert, run_underlying hs, run_underlying hd, run_underlying he, Conv.bytesToString]
      rfl
    · cases hc
  · rename_i e blk off len cap sz ex hs hd
    cases hx with | sl hρ hcap he0 hl hz =>
    rename_i cap' n d z
    split at hc
    · rename_i he
      split at hc
      · rename_i cs hcs
        split at hc
        · rename_i l hl2
          simp only [Option.some.injEq, Prod.mk.injEq] at hc
          obtain ⟨rfl, rfl⟩ := hc
          obtain ⟨cs', hvs, hlen, hrun⟩ := h.cells hρ hcs
          obtain ⟨h1, rfl⟩ := bytes_back hvs hl2
          refine .pure h (v' := .string (bs l)) ?_ (.s _ h1)
          have := bytesToString_run (P := P) l W ⟨n, d + off, none⟩ len cap' (hrun P)
          simp only [convert, Sem.run_bind, run_underlying hs, run_underlying hd, run_underlying he, Result.andThen_ok, this]
        · cases hc
      · cases hc
    · cases hc
  · cases hc
end
end Go.Ev
