/- The evaluator: append and copy. -/
import Derived.Test.YtghcpfgpmliiaaaGreatDoorEvI
namespace Go.Ev

theorem growBy_le (need : Nat) : ∀ (r c : Nat), Builtin.growBy need r c ≤ max c (need + (need + 768) / 4)
  | 0, c => by simp only [Builtin.growBy]; omega
  | r + 1, c => by
    simp only [Builtin.growBy]
    split
    · omega
    · have := growBy_le need r (c + (c + 768) / 4)
      omega

theorem nextslicecap_le {need c : Nat} (h : c < need) : Builtin.nextslicecap need c ≤ 2 * need + 192 := by
  unfold Builtin.nextslicecap
  split
  · omega
  · split
    · omega
    · have := growBy_le need 4 c; omega

section
variable {P : Program} {X : Cx} {base : Fr} {W0 W : World} {M : Mem}

/-- What is appended, or copied: how many elements, their cells. -/
def srcM (M : Mem) (sz : Nat) : MV → Option (Nat × List MV)
  | .nsl => some (0, [])
  | .sl blk off len _ s _ => bif Nat.beq s sz then (match M.cells blk off (len * sz) with
      | some l => some (len, l)
      | none => none) else none
  | .s l => bif Nat.beq sz 1 then some (l.length, l.map fun (x : Nat) => .i .u8 (x : Int)) else none
  | _ => none

theorem bytes_vrs {l : List Nat} (h : ∀ x ∈ l, x < 256) : VRs X (l.map fun (x : Nat) => .i .u8 (x : Int)) ((bs l).data.toList.map fun b => .int .u8 b.toNat) := by
  unfold bs
  simp only [List.map_map]
  induction l with
  | nil => exact .nil
  | cons x l ih =>
    have hx := h x (by simp)
    refine .cons ?_ (ih fun y hy => h y (List.mem_cons_of_mem _ hy))
    have : ((UInt8.ofNat x).toNat : Int) = (x : Int) := by simp; omega
    show VR X (.i .u8 (x : Int)) (.int .u8 ((UInt8.ofNat x).toNat : Int))
    rw [this]
    exact .i _ _

theorem src_run {sz n : Nat} {x : MV} {x' : Value} {l : List MV} (hx : VR X x x') (hc : srcM M sz x = some (n, l)) :
    l.length = n * sz ∧ ∀ W, MemR X base W0 M W → (Builtin.lenOf x').run P W = .ok n W ∧ ∃ l', VRs X l l' ∧ (Builtin.firstCells sz n x').run P W = .ok ⟨l'⟩ W := by
  cases x <;> simp only [srcM] at hc <;> first | (cases hc; done) | skip
  · rename_i s
    cases hx with | s _ hlt =>
    cases hq : Nat.beq sz 1 <;> rw [hq] at hc <;> simp only [cond_true, cond_false, reduceCtorEq, Option.some.injEq, Prod.mk.injEq] at hc
    obtain ⟨rfl, rfl⟩ := hc
    have h1 : sz = 1 := by simpa using hq
    subst h1
    refine ⟨by simp, fun W h => ⟨by simp [Builtin.lenOf, bs_size], _, bytes_vrs hlt, ?_⟩⟩
    have : (bs s).extract 0 s.length = bs s := by rw [bs_extract]; simp
    simp only [Builtin.firstCells, this, Sem.run_pure]
    congr 1
    apply Array.ext'
    simp
  · simp only [Option.some.injEq, Prod.mk.injEq] at hc
    obtain ⟨rfl, rfl⟩ := hc
    cases hx
    exact ⟨by simp, fun W h => ⟨by simp [Builtin.lenOf], [], .nil, by simp [Builtin.firstCells]⟩⟩
  · rename_i blk off len cap s ex
    cases hq : Nat.beq s sz <;> rw [hq] at hc <;> simp only [cond_true, cond_false, reduceCtorEq] at hc
    cases hx with | sl hρ hcap he hl hz =>
    split at hc
    · rename_i l0 hl0
      simp only [Option.some.injEq, Prod.mk.injEq] at hc
      obtain ⟨rfl, rfl⟩ := hc
      have hlen : l0.length = len * sz := by
        unfold Mem.cells at hl0
        split at hl0
        · rename_i lx e fz wh hb
          cases hq2 : Nat.ble (off + len * sz) lx.length <;> rw [hq2] at hl0 <;> simp only [cond_true, cond_false, reduceCtorEq, Option.some.injEq] at hl0
          subst hl0
          have : off + len * sz ≤ lx.length := by simpa using hq2
          simp; omega
        · cases hl0
      refine ⟨hlen, fun W h => ⟨by simp [Builtin.lenOf], ?_⟩⟩
      obtain ⟨l', hvs, _, hrun⟩ := h.cells hρ hl0
      exact ⟨l', hvs, by simp [Builtin.firstCells, hrun P]⟩
    · cases hc

def allOne : List MV → Bool
  | [] => true
  | v :: r => v.one && allOne r
theorem allOne_vrs : ∀ {l : List MV} {l' : List Value}, VRs X l l' → allOne l = true → ∀ v ∈ l', v.oneCell' = true
  | [], _, h, _ => by cases h; simp
  | _ :: _, _, h, ho => by
    cases h with
    | cons h t =>
      simp only [allOne, Bool.and_eq_true] at ho
      intro v hv
      rcases List.mem_cons.1 hv with e | e
      · subst e; exact h.one ho.1
      · exact allOne_vrs t ho.2 v e

/-- A new block for what has grown: behind a draw, larger than asked for. -/
def Mem.grown (M : Mem) (e : TypeId) (l : List MV) : Option (Nat × Mem) := M.new (.cells l e .none false)

/-- What the instruction asks of the types. -/
structure Elem (P : Program) (e : TypeId) (sz by_ : Nat) : Prop where
  hsz : szOf P e = some sz
  hby : byOf P e = some by_
  zero : ∃ z l, (∀ W, (zeroValue e).run P W = .ok z W) ∧ z.cells.toList.length = l ∧ l = sz

theorem elem_of {e : TypeId} {sz by_ : Nat} {z : MV} (h1 : szOf P e = some sz) (h2 : byOf P e = some by_) (h3 : zeroOf P e = some z) : Elem P e sz by_ := by
  obtain ⟨zv, zl, hzr, hzv, hzc, hzs⟩ := zero_run h3
  refine ⟨h1, h2, zv, zl.length, hzr, ?_, by rw [h1] at hzs; simpa using hzs.symm⟩
  have := ((hzv ⟨fun _ => none, fun _ => none⟩).cells hzc).length
  exact this

def notInt : TypeDesc → Bool
  | .slice _ | .string => true
  | _ => false

theorem notInt_spec {d : TypeDesc} (h : notInt d = true) : d = .string ∨ ∃ e, d = .slice e := by
  cases d <;> first | exact .inl rfl | exact .inr ⟨_, rfl⟩ | (simp [notInt] at h)

/-- The new row behind a growth. -/
theorem grow_to {M' : Mem} {e : TypeId} {sz by_ need cap n len : Nat} {bse : Option Addr} {x' : Value} {old new : List MV} {old' new' : List Value} {b : Nat} {at_ : Array TypeId} {sT xT : TypeId} {ty : TypeId} {xd : TypeDesc} (h : MemR X base W0 M W) (hE : Elem P e sz by_)
    (ha0 : at_[0]? = some sT) (ha1 : at_[1]? = some xT) (hu : P.underlying sT = some (.slice e)) (hxt : P.underlying xT = some xd) (hxd : notInt xd = true)
    (hlen : (Builtin.lenOf x').run P W = .ok n W) (hold : (Builtin.firstCells sz len (.slice bse len cap)).run P W.drew = .ok ⟨old'⟩ W.drew) (hnew : (Builtin.firstCells sz n x').run P W.drew = .ok ⟨new'⟩ W.drew)
    (hvo : VRs X old old') (hvn : VRs X new new') (hol : old.length + new.length = need * sz) (hneed : need = len + n) (hcap : cap < need) (hsmall : need < 4294967296) (hroom : (2 * need + 192) * by_ ≤ 281474976710656)
    (hc : M.grown e (old ++ new) = some (b, M')) :
    ToV P X base W0 (Builtin.append_ at_ ty #[.slice bse len cap, x']) W (.sl b 0 need need sz false) M' := by
  obtain ⟨hE1, hE2, z, zl, hz, hzl, hzs⟩ := hE
  obtain ⟨i, hi', hib⟩ : ∃ i, (∀ W, (typeInfo e).run P W = .ok i W) ∧ i.bytes = by_ := by
    unfold byOf at hE2
    split at hE2
    · rename_i j hj
      simp only [Option.some.injEq] at hE2
      exact ⟨j, fun W => by simp [typeInfo, hj], hE2⟩
    · cases hE2
  have hb : b = M.next := by
    unfold Mem.grown Mem.new at hc
    cases hq : Nat.blt M.next top <;> rw [hq] at hc
    · cases hc
    · simp only [cond_true, Option.some.injEq, Prod.mk.injEq] at hc; exact hc.1.symm
  subst hb
  obtain ⟨newCap, hnc⟩ : ∃ newCap, newCap = need + W.tape W.drawn (.appendCap need cap e) % (2 ^ 63 - need) := ⟨_, rfl⟩
  have hge : need ≤ newCap := by omega
  obtain ⟨rest, hrest⟩ : ∃ rest, rest = (Builtin.zeroCells z.cells (newCap - need)).toList := ⟨_, rfl⟩
  have hrl : rest.length = (newCap - need) * sz := by
    simp only [hrest, Builtin.zeroCells, Array.toList_map, Array.toList_range, List.length_map, List.length_range]
    rw [← hzs, ← hzl]; simp
  have hvl := (hvo.append hvn).length
  rw [List.length_append, List.length_append] at hvl
  have hz' : (old' ++ new' ++ rest).length = newCap * sz := by
    rw [List.length_append, List.length_append, hrl, hvl, hol]
    rw [← Nat.add_mul]; congr 1; omega
  have hd := h.drew
  have hle : X.Le (X.add M.next (W.heap.size, 0, newCap * sz)) := Cx.add_le (h.fresh _ (Nat.le_refl _))
  have hor : OR (X.add M.next (W.drew.heap.size, 0, newCap * sz)) 0 (newCap * sz) (.cells (old ++ new) e .none false) (.cells ⟨old' ++ new' ++ rest⟩ e) := by
    refine ⟨old' ++ new' ++ rest, (0, 0), e, rfl, hz', ?_, ?_, rfl, by simp, fun _ => rfl⟩
    · rw [List.length_append, hol, Nat.zero_add]; exact Nat.mul_le_mul_right _ hge
    · rw [List.drop_zero, List.length_append, show old.length + new.length = (old' ++ new').length by rw [List.length_append, hvl], List.take_left']
      · exact (hvo.append hvn).mono hle
      · rfl
  obtain ⟨_, _, hm⟩ := hd.new (z := newCap * sz) hc hor
  refine ⟨_, _, .slice (some ⟨W.heap.size, 0, none⟩) need newCap, hle, ?_, hm, .sl (Cx.add_same _ _ _) hge (by simp) (Nat.le_refl _) (fun _ => by simp)⟩
  have c1 : ¬ (((len + n : Nat) : Int) > IntKind.i64.max) := by
    have : IntKind.i64.max = 9223372036854775807 := by decide
    rw [this]; omega
  have c2 : ¬ (Builtin.nextslicecap (len + n) cap * i.bytes > 2 ^ 48) := by
    rw [hib, ← hneed]
    have h1 := nextslicecap_le hcap
    have h2 : Builtin.nextslicecap need cap * by_ ≤ (2 * need + 192) * by_ := Nat.mul_le_mul_right _ h1
    have e2 : (2 : Nat) ^ 48 = 281474976710656 := rfl
    rw [e2]; omega
  have hnr : ¬ (len + n ≤ cap) := by omega
  have harr : (⟨old'⟩ ++ ⟨new'⟩ ++ Builtin.zeroCells z.cells (newCap - need) : Array Value) = ⟨old' ++ new' ++ rest⟩ := by
    apply Array.ext'
    simp [hrest]
  subst hneed
  rcases notInt_spec hxd with rfl | ⟨e', rfl⟩
  all_goals
    simp only [Builtin.append_, ha0, ha1, List.getElem?_toArray, List.getElem?_cons_zero, List.getElem?_cons_succ, Sem.run_bind, run_underlying hu, run_underlying hxt, Result.andThen_ok, sizeOf_run hE1, Sem.run_pure, Bool.false_eq_true, if_false, hlen, if_neg hnr, hi', false_or]
    rw [if_neg (fun e0 => c1 e0.1)]
    simp only [Sem.run_bind, hi', Result.andThen_ok]
    rw [if_neg c2]
    simp only [Sem.run_bind, hi', Result.andThen_ok, run_choose, Question.forced, Question.cut, World.drew_eq, Bool.false_eq_true, if_false, ← hnc, run_askRoom, hold, Bool.not_false, if_true, hnew, hz, Sem.run_pure, Go.newRow, run_newObj, harr, World.alloc_eq]
    rfl

/-- Append where there is room in both worlds: what the model does. -/
theorem room_run {e : TypeId} {sz cap n len : Nat} {bse : Option Addr} {x' : Value} {new' : List Value} {at_ : Array TypeId} {sT xT : TypeId} {ty : TypeId} {xd : TypeDesc} (hE1 : szOf P e = some sz)
    (ha0 : at_[0]? = some sT) (ha1 : at_[1]? = some xT) (hu : P.underlying sT = some (.slice e)) (hxt : P.underlying xT = some xd) (hxd : notInt xd = true)
    (hlen : (Builtin.lenOf x').run P W = .ok n W) (hnew : (Builtin.firstCells sz n x').run P W = .ok ⟨new'⟩ W) (hr : len + n ≤ cap) {W' : World}
    (hst : match bse with | some a => (storeCells (a.add (len * sz)) new').run P W = .ok () W' | none => W' = W) :
    (Builtin.append_ at_ ty #[.slice bse len cap, x']).run P W = .ok (.slice bse (len + n) cap) W' := by
  rcases notInt_spec hxd with rfl | ⟨e', rfl⟩
  all_goals
    simp only [Builtin.append_, ha0, ha1, List.getElem?_toArray, List.getElem?_cons_zero, List.getElem?_cons_succ, Sem.run_bind, run_underlying hu, run_underlying hxt, Result.andThen_ok, sizeOf_run hE1, Sem.run_pure, Bool.false_eq_true, if_false, hlen, if_pos hr, Bool.not_false, if_true, hnew]
    cases bse with
    | none => simp only at hst; subst hst; rfl
    | some a => simp only [Sem.run_bind, hst, Result.andThen_ok, Sem.run_pure]

def freshFz : MF → Bool
  | .none => true
  | _ => false

def appendM (P : Program) (M : Mem) (at_ : Array TypeId) (s x : MV) : Option (MV × Mem) :=
  match at_[0]?, at_[1]? with
  | some sT, some xT => match P.underlying sT, P.underlying xT with
    | some (.slice e), some xd => bif notInt xd then (match szOf P e, byOf P e, zeroOf P e with
      | some sz, some by_, some _ => match srcM M sz x with
        | some (n, new) => match s with
          | .nsl => bif Nat.beq n 0 then some (.nsl, M) else
              bif Nat.blt n 4294967296 && Nat.ble ((2 * n + 192) * by_) 281474976710656 then (match M.grown e new with
                | some (b, M') => some (.sl b 0 n n sz false, M')
                | none => none) else none
          | .sl blk off len cap sz' ex => bif Nat.beq sz' sz then (bif Nat.ble (len + n) cap then (match M.setCells blk (off + len * sz) new with
                | some M' => some (.sl blk off (len + n) cap sz ex, M')
                | none => none)
              else (match M.cells blk off (len * sz) with
                | some old => bif Nat.blt (len + n) 4294967296 && Nat.ble ((2 * (len + n) + 192) * by_) 281474976710656 && allOne new then
                    (bif ex then (match M.grown e (old ++ new) with
                      | some (b, M') => some (.sl b 0 (len + n) (len + n) sz false, M')
                      | none => none)
                    else (match M.h.get blk with
                      | some (.cells _ e' fz _) => bif Nat.ble M.ro blk && Nat.blt blk top && freshFz fz && Nat.beq e e' then (match (M.drop blk).grown e (old ++ new) with
                        | some (b, M') => some (.sl b 0 (len + n) (len + n) sz false, M')
                        | none => none) else none
                      | _ => none)) else none
                | none => none)) else none
          | _ => none
        | none => none
      | _, _, _ => none) else none
    | _, _ => none
  | _, _ => none

theorem grown_next {M M' : Mem} {e : TypeId} {l : List MV} {b : Nat} (hc : M.grown e l = some (b, M')) : b = M.next := by
  unfold Mem.grown Mem.new at hc
  cases hq : Nat.blt M.next top <;> rw [hq] at hc
  · cases hc
  · simp only [cond_true, Option.some.injEq, Prod.mk.injEq] at hc; exact hc.1.symm

theorem cells_block {M : Mem} {blk off k : Nat} {l : List MV} (h : M.cells blk off k = some l) : ∃ lx e fz wh, M.h.get blk = some (.cells lx e fz wh) ∧ off + k ≤ lx.length ∧ l = (lx.drop off).take k := by
  unfold Mem.cells at h
  split at h
  · rename_i lx e fz wh hb
    cases hq : Nat.ble (off + k) lx.length <;> rw [hq] at h <;> simp only [cond_true, cond_false, reduceCtorEq, Option.some.injEq] at h
    exact ⟨lx, e, fz, wh, hb, by simpa using hq, h.symm⟩
  · cases h

set_option maxHeartbeats 1000000 in
theorem append_to {M' : Mem} {at_ : Array TypeId} {ty : TypeId} {s x r : MV} {s' x' : Value} (h : MemR X base W0 M W) (hs : VR X s s') (hx : VR X x x') (hc : appendM P M at_ s x = some (r, M')) :
    ToV P X base W0 (Builtin.append_ at_ ty #[s', x']) W r M' := by
  unfold appendM at hc
  split at hc
  · rename_i sT xT ha0 ha1
    split at hc
    · rename_i e xd hu hxt
      cases hxd : notInt xd <;> rw [hxd] at hc <;> simp only [cond_true, cond_false, reduceCtorEq] at hc
      split at hc
      · rename_i sz by_ z hsz hby hzz
        have hE := elem_of hsz hby hzz
        split at hc
        · rename_i n new hsrc
          obtain ⟨hnl, hrun⟩ := src_run (P := P) (base := base) (W0 := W0) hx hsrc
          obtain ⟨hlenW, new', hvn, hnew⟩ := hrun W h
          obtain ⟨_, new2, hvn2, hnew2⟩ := hrun W.drew h.drew
          split at hc
          · cases hs
            cases hq : Nat.beq n 0 <;> rw [hq] at hc <;> simp only [cond_true, cond_false] at hc
            · have hn0 : ¬ n = 0 := by intro e0; subst e0; simp at hq
              cases hq2 : (Nat.blt n 4294967296 && Nat.ble ((2 * n + 192) * by_) 281474976710656) <;> rw [hq2] at hc <;> simp only [cond_true, cond_false, reduceCtorEq] at hc
              simp only [Bool.and_eq_true, Nat.blt_eq, Nat.ble_eq] at hq2
              split at hc
              · rename_i b M1 hg
                simp only [Option.some.injEq, Prod.mk.injEq] at hc
                obtain ⟨rfl, rfl⟩ := hc
                exact grow_to (old := []) (old' := []) h hE ha0 ha1 hu hxt hxd hlenW (by simp [Builtin.firstCells]) hnew2 .nil hvn2 (by simpa using hnl) (by omega) (by omega) hq2.1 hq2.2 (by simpa using hg)
              · cases hc
            · have hn0 : n = 0 := by simpa using hq
              subst hn0
              simp only [Option.some.injEq, Prod.mk.injEq] at hc
              obtain ⟨rfl, rfl⟩ := hc
              have := room_run (P := P) (W := W) (W' := W) (bse := none) (len := 0) (cap := 0) (ty := ty) hsz ha0 ha1 hu hxt hxd hlenW hnew (Nat.le_refl _) rfl
              exact .pure h (by simpa using this) .nsl
          · rename_i blk off len cap sz' ex
            cases hs with | sl hρ hcap he hlc hz =>
            rename_i cap' nb d zz
            cases hq : Nat.beq sz' sz <;> rw [hq] at hc <;> simp only [cond_true, cond_false, reduceCtorEq] at hc
            have hsz' : sz' = sz := by simpa using hq
            subst hsz'
            cases hroom : Nat.ble (len + n) cap <;> rw [hroom] at hc <;> simp only [cond_true, cond_false] at hc
            · have hnr : cap < len + n := by
                rcases Nat.lt_or_ge cap (len + n) with e0 | e0
                · exact e0
                · have : Nat.ble (len + n) cap = true := by simpa using e0
                  rw [hroom] at this; cases this
              split at hc
              · rename_i old hold
                cases hq2 : (Nat.blt (len + n) 4294967296 && Nat.ble ((2 * (len + n) + 192) * by_) 281474976710656 && allOne new) <;> rw [hq2] at hc <;> simp only [cond_true, cond_false, reduceCtorEq] at hc
                simp only [Bool.and_eq_true, Nat.blt_eq, Nat.ble_eq] at hq2
                obtain ⟨⟨q1, q2⟩, q3⟩ := hq2
                obtain ⟨old', hvo, hol, horun⟩ := h.cells hρ hold
                obtain ⟨old2, hvo2, _, horun2⟩ := h.drew.cells hρ hold
                have hol' : old.length + new.length = (len + n) * sz' := by rw [hol, hnl, Nat.add_mul]
                cases ex with
                | true =>
                  have hce := he rfl
                  subst hce
                  simp only [cond_true] at hc
                  split at hc
                  · rename_i b M1 hg
                    simp only [Option.some.injEq, Prod.mk.injEq] at hc
                    obtain ⟨rfl, rfl⟩ := hc
                    exact grow_to h hE ha0 ha1 hu hxt hxd hlenW (by simp [Builtin.firstCells, horun2 P]) hnew2 hvo2 hvn2 hol' rfl hnr q1 q2 hg
                  · cases hc
                | false =>
                  have hzz' := hz rfl
                  simp only [cond_false] at hc
                  split at hc
                  · rename_i lx e' fz wh hblk
                    cases hq3 : (Nat.ble M.ro blk && Nat.blt blk top && freshFz fz && Nat.beq e e') <;> rw [hq3] at hc <;> simp only [cond_true, cond_false, reduceCtorEq] at hc
                    simp only [Bool.and_eq_true, Nat.blt_eq, Nat.ble_eq, Nat.beq_eq] at hq3
                    obtain ⟨⟨⟨q4, q5⟩, q6⟩, q7⟩ := hq3
                    subst q7
                    have hfz : fz = .none := by cases fz <;> simp_all [freshFz]
                    subst hfz
                    split at hc
                    · rename_i b M1 hg
                      simp only [Option.some.injEq, Prod.mk.injEq] at hc
                      obtain ⟨rfl, rfl⟩ := hc
                      have hdr := h.drop q5
                      by_cases hcase : len + n ≤ cap'
                      · -- there is room in the model's array
                        obtain ⟨nb', d', z', o, hρ', hW, c, f, e', ho, hlen, hle, hvs, hf, hwh⟩ := h.live _ _ hblk
                        rw [hρ] at hρ'
                        simp only [Option.some.injEq, Prod.mk.injEq] at hρ'
                        obtain ⟨rfl, rfl, rfl⟩ := hρ'
                        subst ho
                        have hf' : f.1 = f.2 := hf
                        have hnn : new'.length = n * sz' := by rw [hvn.length, hnl]
                        have hfit : d + off + len * sz' + new'.length ≤ c.length := by
                          rw [hnn, hlen]
                          have : (len + n) * sz' ≤ cap' * sz' := Nat.mul_le_mul_right _ hcase
                          rw [Nat.add_mul] at this
                          omega
                        obtain ⟨a1, a2, a3, a4, a5, a6⟩ := setCells_heap nb e' f new' c (d + off + len * sz') W hW
                        have hstore : (storeCells ⟨nb, d + off + len * sz', none⟩ new' 0).run P W = .ok () (W.setCells nb (d + off + len * sz' + 0) new') := by
                          refine run_storeCells_cells (P := P) nb (d + off + len * sz') new' 0 W (fun j hj => ?_) (fun j hj => ?_) (allOne_vrs hvn q3)
                          · simp only [World.cell?, hW]
                            simp
                            omega
                          · simp only [World.frozen?, hW]
                            simp
                            omega
                        have hrun2 := room_run (P := P) (W := W) (bse := some ⟨nb, d + off, none⟩) (ty := ty) hsz ha0 ha1 hu hxt hxd hlenW hnew hcase (W' := W.setCells nb (d + off + len * sz') new') (by simpa [addr_add] using hstore)
                        have hdead : ∀ b m, (M.drop blk).h.get b = some m → ∀ x, X.ρ b = some x → x.1 ≠ nb := by
                          intro b m hb x hx
                          rw [Mem.drop, Tr.get_set _ _ _ _ _ (top_lt q5)] at hb
                          by_cases e0 : b = blk
                          · rw [if_pos e0] at hb; cases hb
                          · rw [if_neg e0] at hb
                            exact h.inj b blk _ _ q4 hb hblk e0 x _ hx hρ
                        have hturn := hdr.turn (h.own _ _ q4 hρ) (fun o ho => (h.keep _ _ ho).2.1 _ _ q4 hρ rfl) hdead a4 a5 a6 a3 a2
                        have hor : OR (X.add b (nb, d + off, zz)) (d + off) zz (.cells (old ++ new) e .none false) (.cells ⟨over c (d + off + len * sz') new'⟩ e' f) := by
                          refine ⟨_, f, e', rfl, by rw [over_length]; exact hlen, ?_, ?_, hf', by simp, hwh.2⟩
                          · rw [List.length_append, hol']
                            have : (len + n) * sz' ≤ cap' * sz' := Nat.mul_le_mul_right _ hcase
                            omega
                          · have hbn : b = M.next := grown_next (M := M.drop blk) hg
                            have hle2 : X.Le (X.add b (nb, d + off, zz)) := Cx.add_le (by rw [hbn]; exact h.fresh _ (Nat.le_refl _))
                            rw [List.length_append, hol, show new.length = new'.length from hvn.length.symm, over_part c new' (d + off) (len * sz') hfit]
                            refine VRs.append ?_ (hvn.mono hle2)
                            obtain ⟨lx2, e2, fz2, wh2, hb2, hlx, hold2⟩ := cells_block hold
                            rw [hblk] at hb2
                            simp only [Option.some.injEq, MB.cells.injEq] at hb2
                            obtain ⟨rfl, _, _, _⟩ := hb2
                            have hv3 := (hvs.drop off).take (len * sz')
                            rw [← hold2] at hv3
                            have e3 : (((c.drop d).take lx.length).drop off).take (len * sz') = (c.drop (d + off)).take (len * sz') := by
                              rw [List.drop_take, List.drop_drop, List.take_take]
                              congr 1
                              omega
                            rw [e3] at hv3
                            exact hv3.mono hle2
                        obtain ⟨_, hle3, hm3⟩ := hturn.again (a := blk) (dd := d) hρ q4 a1 hdead hg hor
                        refine ⟨_, _, .slice (some ⟨nb, d + off, none⟩) (len + n) cap', hle3, hrun2, hm3, ?_⟩
                        have := VR.sl (X := X.add b (nb, d + off, zz)) (blk := b) (off := 0) (len := len + n) (cap := len + n) (cap' := cap') (sz := sz') (ex := false) (Cx.add_same _ _ _) hcase (by simp) (Nat.le_refl _) (fun _ => by simpa using hzz')
                        simpa using this
                      · -- there is none: a new array
                        have h2 : MemR X base W0 (M.drop blk) W := hdr
                        exact grow_to (M := M.drop blk) h2 hE ha0 ha1 hu hxt hxd hlenW (by simp [Builtin.firstCells, horun2 P]) hnew2 hvo2 hvn2 hol' rfl (by omega) q1 q2 hg
                    · cases hc
                  · cases hc
              · cases hc
            · have hr' : len + n ≤ cap := by simpa using hroom
              split at hc
              · rename_i M1 hset
                simp only [Option.some.injEq, Prod.mk.injEq] at hc
                obtain ⟨rfl, rfl⟩ := hc
                obtain ⟨W', hst, hm⟩ := MemR.setCells hρ P (off + len * sz') (d + off + len * sz') 0 hvn (by omega) h hset
                have hrun2 := room_run (P := P) (W := W) (W' := W') (bse := some ⟨nb, d + off, none⟩) (ty := ty) hsz ha0 ha1 hu hxt hxd hlenW hnew (len := len) (cap := cap') (by omega) (by simpa [addr_add] using hst)
                exact ⟨X, W', _, Cx.Le.refl X, hrun2, hm, .sl hρ hcap he hr' hz⟩
              · cases hc
          · cases hc
        · cases hc
      · cases hc
    · cases hc
  · cases hc

/-! ### copy -/
def copyM (P : Program) (M : Mem) (at_ : Array TypeId) (d s : MV) : Option (MV × Mem) :=
  match at_[0]? with
  | some dT => match P.underlying dT with
    | some (.slice e) => match szOf P e with
      | some sz => match d with
        | .nsl => match srcM M sz s with
          | some _ => some (.i .i64 0, M)
          | none => none
        | .sl blk off len _ sz' _ => bif Nat.beq sz' sz then (match s with
          | .nsl => some (.i .i64 0, M)
          | .sl b2 o2 l2 _ s2 _ => bif Nat.beq s2 sz then (match M.cells b2 o2 (Nat.min l2 len * sz) with
            | some cs => match M.setCells blk off cs with
              | some M' => some (.i .i64 (Nat.min l2 len : Int), M')
              | none => none
            | none => none) else none
          | .s l => bif Nat.beq sz 1 then (match M.setCells blk off ((l.take (Nat.min l.length len)).map fun (x : Nat) => .i .u8 (x : Int)) with
              | some M' => some (.i .i64 (Nat.min l.length len : Int), M')
              | none => none) else none
          | _ => none) else none
        | _ => none
      | none => none
    | _ => none
  | none => none

theorem copy_to {M' : Mem} {at_ : Array TypeId} {ty : TypeId} {s x r : MV} {s' x' : Value} (h : MemR X base W0 M W) (hs : VR X s s') (hx : VR X x x') (hc : copyM P M at_ s x = some (r, M')) :
    ToV P X base W0 (Builtin.copy_ at_ ty #[s', x']) W r M' := by
  unfold copyM at hc
  split at hc
  · rename_i dT ha0
    split at hc
    · rename_i e hu
      split at hc
      · rename_i sz hsz
        split at hc
        · cases hs
          split at hc
          · rename_i q hq
            simp only [Option.some.injEq, Prod.mk.injEq] at hc
            obtain ⟨rfl, rfl⟩ := hc
            obtain ⟨n, new⟩ := q
            obtain ⟨hnl, hrun⟩ := src_run (P := P) (base := base) (W0 := W0) hx hq
            obtain ⟨hlenW, new', hvn, hnew⟩ := hrun W h
            refine .pure h (v' := .int .i64 0) ?_ (.i _ _)
            have hm : Nat.min n 0 = 0 := Nat.min_zero n
            have hf : ∃ c, (Builtin.firstCells sz 0 x').run P W = .ok c W := by
              cases x' <;> simp only [Builtin.lenOf] at hlenW <;> first | (simp at hlenW; done) | skip
              · exact ⟨_, by simp only [Builtin.firstCells]; rfl⟩
              · rename_i a l c
                cases a with
                | none => exact ⟨_, by simp only [Builtin.firstCells]; rfl⟩
                | some a => exact ⟨#[], by simp [Builtin.firstCells, loadCells, loadCellsFrom]⟩
            obtain ⟨c, hf⟩ := hf
            simp [Builtin.copy_, ha0, run_underlying hu, hlenW, sizeOf_run hsz, hf, goInt]
          · cases hc
        · rename_i blk off len cap sz' ex
          cases hs with | sl hρ hcap he hlc hz =>
          rename_i cap' nb d zz
          cases hq : Nat.beq sz' sz <;> rw [hq] at hc <;> simp only [cond_true, cond_false, reduceCtorEq] at hc
          split at hc
          · cases hx
            simp only [Option.some.injEq, Prod.mk.injEq] at hc
            obtain ⟨rfl, rfl⟩ := hc
            refine .pure h (v' := .int .i64 0) ?_ (.i _ _)
            have hm : Nat.min 0 len = 0 := Nat.zero_min len
            simp [Builtin.copy_, ha0, run_underlying hu, Builtin.lenOf, sizeOf_run hsz, Builtin.firstCells, goInt, storeCells]
          · rename_i b2 o2 l2 c2 s2 ex2
            cases hx with | sl hρ2 hcap2 he2 hlc2 hz2 =>
            cases hq2 : Nat.beq s2 sz <;> rw [hq2] at hc <;> simp only [cond_true, cond_false, reduceCtorEq] at hc
            split at hc
            · rename_i cs hcs
              split at hc
              · rename_i M1 hset
                simp only [Option.some.injEq, Prod.mk.injEq] at hc
                obtain ⟨rfl, rfl⟩ := hc
                obtain ⟨cs', hvs, hlen, hrun⟩ := h.cells hρ2 hcs
                obtain ⟨W', hst, hm⟩ := MemR.setCells hρ P off (d + off) 0 hvs (by omega) h hset
                refine ⟨X, W', .int .i64 (Nat.min l2 len : Int), Cx.Le.refl X, ?_, hm, .i _ _⟩
                simp [Builtin.copy_, ha0, run_underlying hu, Builtin.lenOf, sizeOf_run hsz, Builtin.firstCells, goInt, hrun P, hst]
              · cases hc
            · cases hc
          · rename_i l
            cases hx with | s _ hlt =>
            cases hq2 : Nat.beq sz 1 <;> rw [hq2] at hc <;> simp only [cond_true, cond_false, reduceCtorEq] at hc
            split at hc
            · rename_i M1 hset
              simp only [Option.some.injEq, Prod.mk.injEq] at hc
              obtain ⟨rfl, rfl⟩ := hc
              have hb := bytes_vrs (X := X) (l := l.take (Nat.min l.length len)) fun y hy => hlt y (List.mem_of_mem_take hy)
              obtain ⟨W', hst, hm⟩ := MemR.setCells hρ P off (d + off) 0 hb (by omega) h hset
              refine ⟨X, W', .int .i64 (Nat.min l.length len : Int), Cx.Le.refl X, ?_, hm, .i _ _⟩
              have hex : ((bs l).extract 0 (Nat.min l.length len)).data.map (fun b => Value.int .u8 b.toNat) = ⟨(bs (l.take (Nat.min l.length len))).data.toList.map fun b => .int .u8 b.toNat⟩ := by
                rw [bs_extract]
                apply Array.ext'
                simp
              simp only [Builtin.copy_, ha0, List.getElem?_toArray, List.getElem?_cons_zero, List.getElem?_cons_succ, Sem.run_bind, run_underlying hu, Builtin.lenOf, Sem.run_pure, Result.andThen_ok, sizeOf_run hsz, Builtin.firstCells, bs_size, hex, hst, goInt]
            · cases hc
          · cases hc
        · cases hc
      · cases hc
    · cases hc
  · cases hc
end
end Go.Ev
