/- The evaluator: make, append, copy; strings and bytes. -/
import Derived.Test.YtghcpfgpmliiaaaGreatDoorEvH
namespace Go.Ev

def over : List Value → Nat → List Value → List Value
  | c, _, [] => c
  | c, k, v :: r => over (c.set k v) (k + 1) r

theorem over_length : ∀ (vs c : List Value) (k : Nat), (over c k vs).length = c.length
  | [], _, _ => rfl
  | v :: r, c, k => by simp [over, over_length r]

theorem over_get : ∀ (vs c : List Value) (k j : Nat), k + vs.length ≤ c.length → (over c k vs)[j]? = if k ≤ j ∧ j < k + vs.length then vs[j - k]? else c[j]?
  | [], c, k, j, h => by
    rw [if_neg (by simp)]; rfl
  | v :: r, c, k, j, h => by
    simp only [List.length_cons] at h ⊢
    rw [over, over_get r (c.set k v) (k + 1) j (by simp; omega)]
    by_cases h1 : j = k
    · subst h1
      rw [if_neg (by omega), if_pos (by omega), Nat.sub_self, List.getElem?_set_self (by omega)]
      rfl
    · by_cases h2 : k ≤ j ∧ j < k + (r.length + 1)
      · rw [if_pos (by omega), if_pos h2]
        rw [show j - k = (j - (k + 1)) + 1 by omega, List.getElem?_cons_succ]
      · rw [if_neg (by omega), if_neg h2, List.getElem?_set_ne (by omega)]

theorem over_part (c vs : List Value) (d a : Nat) (h : d + a + vs.length ≤ c.length) : ((over c (d + a) vs).drop d).take (a + vs.length) = (c.drop d).take a ++ vs := by
  apply List.ext_getElem?
  intro j
  by_cases hj : j < a + vs.length
  · rw [List.getElem?_take_of_lt hj, List.getElem?_drop, over_get _ _ _ _ h]
    by_cases h1 : j < a
    · rw [if_neg (by omega), List.getElem?_append_left (by simp; omega), List.getElem?_take_of_lt h1, List.getElem?_drop]
    · rw [if_pos (by omega), List.getElem?_append_right (by simp; omega)]
      congr 1
      simp
      omega
  · rw [List.getElem?_eq_none (by simp; omega), List.getElem?_eq_none (by simp; omega)]

theorem setCells_heap (n : Nat) (e : TypeId) (f : Nat × Nat) : ∀ (vs c : List Value) (k : Nat) (W : World), W.heap[n]? = some (.cells ⟨c⟩ e f) →
    (W.setCells n k vs).heap[n]? = some (.cells ⟨over c k vs⟩ e f) ∧ (∀ j, j ≠ n → (W.setCells n k vs).heap[j]? = W.heap[j]?) ∧ (W.setCells n k vs).heap.size = W.heap.size ∧
    (W.setCells n k vs).os = W.os ∧ (W.setCells n k vs).tape = W.tape ∧ (W.setCells n k vs).output = W.output
  | [], c, k, W, h => ⟨h, fun _ _ => rfl, rfl, rfl, rfl, rfl⟩
  | v :: r, c, k, W, h => by
    have h1 : (W.setCell ⟨n, k, none⟩ v).heap[n]? = some (.cells ⟨c.set k v⟩ e f) := by
      simp only [World.setCell, Array.getElem?_modify]
      simp [h]
    obtain ⟨a1, a2, a3, a4, a5, a6⟩ := setCells_heap n e f r (c.set k v) (k + 1) _ h1
    simp only [World.setCells, over]
    refine ⟨a1, fun j hj => ?_, by rw [a3]; simp, a4, a5, a6⟩
    rw [a2 j hj]
    simp only [World.setCell, Array.getElem?_modify]
    rw [if_neg (fun e => hj e.symm)]

section
variable {P : Program} {X : Cx} {base : Fr} {W0 W : World} {M : Mem}

/-! ### make -/
/-- 'c' times the cells of a zero value. -/
def repM (zero : List MV) (n : Nat) : List MV := (List.range n).map fun i => zero.getD (i % zero.length) .hid

theorem rep_vrs {zero : List MV} {z : List Value} (h : VRs X zero z) (n : Nat) (hz : zero.length = 0 → n = 0) :
    VRs X (repM zero n) ((Array.range n).map ((⟨z⟩ : Array Value)[· % (⟨z⟩ : Array Value).size]!)).toList := by
  unfold repM
  rw [Array.toList_map, Array.toList_range]
  have hl := h.length
  have key : ∀ l : List Nat, (∀ i ∈ l, i < n) → VRs X (l.map fun i => zero.getD (i % zero.length) .hid) (l.map ((⟨z⟩ : Array Value)[· % (⟨z⟩ : Array Value).size]!)) := by
    intro l
    induction l with
    | nil => intro _; exact .nil
    | cons i l ih =>
      intro hi
      refine .cons ?_ (ih fun j hj => hi j (List.mem_cons_of_mem _ hj))
      have hin := hi i (by simp)
      have hpos : 0 < zero.length := by
        rcases Nat.eq_zero_or_pos zero.length with e | e
        · have := hz e; omega
        · exact e
      have hlt : i % zero.length < zero.length := Nat.mod_lt _ hpos
      have hg : zero[i % zero.length]? = some (zero[i % zero.length]'hlt) := List.getElem?_eq_getElem hlt
      obtain ⟨v', hv', hr⟩ := h.get hg
      have e1 : zero.getD (i % zero.length) .hid = zero[i % zero.length]'hlt := by simp [List.getD, hg]
      have e2 : (⟨z⟩ : Array Value)[i % (⟨z⟩ : Array Value).size]! = v' := by
        have : (⟨z⟩ : Array Value).size = zero.length := by simp [hl]
        rw [this]
        have hv2 : (⟨z⟩ : Array Value)[i % zero.length]? = some v' := by simpa using hv'
        simp [getElem!_def, hv2]
      show VR X (zero.getD (i % zero.length) .hid) ((⟨z⟩ : Array Value)[i % (⟨z⟩ : Array Value).size]!)
      rw [e1, e2]
      exact hr
  exact key _ fun i hi => List.mem_range.1 hi

def natOf : MV → Option Nat
  | .i _ (.ofNat n) => bif Nat.blt n 4294967296 then some n else none
  | _ => none
theorem natOf_sound {v : MV} {v' : Value} {n : Nat} (hv : VR X v v') (hc : natOf v = some n) : ∃ k, v' = .int k (n : Int) ∧ n < 4294967296 := by
  cases v <;> simp only [natOf] at hc <;> first | cases hc | skip
  rename_i k x
  cases x with
  | negSucc x => simp at hc
  | ofNat x =>
    simp only at hc
    cases hb : Nat.blt x 4294967296 with
    | false => rw [hb] at hc; cases hc
    | true =>
      rw [hb] at hc; simp only [cond_true, Option.some.injEq] at hc; subst hc
      cases hv
      exact ⟨k, rfl, by simpa using hb⟩

def makeSliceM (P : Program) (M : Mem) (t : TypeId) (len cap : MV) : Option (MV × Mem) :=
  match P.underlying t with
  | some (.slice e) => match natOf len, natOf cap, byOf P e, szOf P e, zeroOf P e with
    | some l, some c, some by_, some s, some z => match z.cellsM with
      | some zc => bif Nat.ble l c && Nat.ble (by_ * c) 281474976710656 && (Nat.blt 0 s || Nat.beq c 0) then (match M.newRow e (repM zc (c * s)) with
        | some (b, M') => some (.sl b 0 l c s true, M')
        | none => none) else none
      | none => none
    | _, _, _, _, _ => none
  | _ => none

theorem e48 : (2 : Int) ^ 48 = 281474976710656 := by kernel_rfl
theorem wrap_small {n : Nat} (h : n < 4294967296) : IntKind.i64.wrap (n : Int) = (n : Int) := by
  simp only [IntKind.wrap, IntKind.bits, IntKind.signed]; simp; omega

theorem makeSlice_to {M' : Mem} {t : TypeId} {len cap r : MV} {len' cap' : Value} (h : MemR X base W0 M W) (hl : VR X len len') (hcp : VR X cap cap') (hc : makeSliceM P M t len cap = some (r, M')) :
    ToV P X base W0 (Instr.makeSlice t len' cap') W r M' := by
  unfold makeSliceM at hc
  split at hc
  · rename_i e hu
    split at hc
    · rename_i l c by_ s z hln hcn hby hs hz
      obtain ⟨kl, rfl, hl4⟩ := natOf_sound hl hln
      obtain ⟨kc, rfl, hc4⟩ := natOf_sound hcp hcn
      obtain ⟨i, hi, hib⟩ := bytes_run hby W
      obtain ⟨zv, zl, hzr, hzv, hzc, hzs⟩ := zero_run hz
      rw [hzc] at hc
      simp only at hc
      rw [hs] at hzs
      have hzl : s = zl.length := by simpa using hzs
      cases hq : (Nat.ble l c && Nat.ble (by_ * c) 281474976710656 && (Nat.blt 0 s || Nat.beq c 0)) <;> rw [hq] at hc <;> simp only [cond_true, cond_false, reduceCtorEq] at hc
      simp only [Bool.and_eq_true, Bool.or_eq_true, Nat.ble_eq, Nat.blt_eq, Nat.beq_eq] at hq
      obtain ⟨⟨q1, q2⟩, q3⟩ := hq
      split at hc
      · rename_i b M1 hn
        simp only [Option.some.injEq, Prod.mk.injEq] at hc
        obtain ⟨rfl, rfl⟩ := hc
        have hvs := rep_vrs ((hzv X).cells hzc) (c * s) (fun e0 => by
          rw [← hzl] at e0
          subst e0; simp)
        obtain ⟨rfl, hle, hm, hρ⟩ := h.newRow hvs hn
        refine ⟨_, _, .slice (some ⟨W.heap.size, 0, none⟩) l c, hle, ?_, hm, .sl hρ (Nat.le_refl _) (fun _ => rfl) q1 (by simp)⟩
        have w1 := wrap_small hl4
        have w2 := wrap_small hc4
        have c1 : ¬ ((c : Int) < 0) := by omega
        have c2 : ¬ ((i.bytes : Int) * (c : Int) > 2 ^ 48) := by
          rw [hib]
          have : (by_ : Int) * (c : Int) ≤ 281474976710656 := by rw [← Int.natCast_mul]; exact Int.ofNat_le.2 q2
          rw [e48]; omega
        have c3 : ¬ ((l : Int) < 0) := by omega
        have c4 : ¬ ((l : Int) > (c : Int)) := by omega
        have hcond : ((decide ((c : Int) < 0) || decide ((i.bytes : Int) * (c : Int) > 2 ^ 48)) || decide ((l : Int) < 0) || decide ((l : Int) > (c : Int))) = false := by
          simp only [decide_eq_false c1, decide_eq_false c2, decide_eq_false c3, decide_eq_false c4]; rfl
        simp only [Instr.makeSlice, Sem.run_bind, run_underlying hu, Result.andThen_ok, asInt, asIntOf, Sem.run_pure, hi, w1, w2, hcond, Bool.false_eq_true, if_false, run_askRoom, sizeOf_run hs, Int.toNat_natCast]
        by_cases h0 : c * s = 0
        · have hr0 : Array.range 0 = #[] := rfl
          simp [h0, Go.newRow, hr0]
        · simp only [if_neg h0, Sem.run_bind, hzr W, Result.andThen_ok, Sem.run_pure, Go.newRow, run_newObj]
          rfl
      · cases hc
    · cases hc
  · cases hc
end
end Go.Ev
