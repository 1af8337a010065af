/- The evaluator: arithmetic and comparisons. -/
import Derived.Test.YtghcpfgpmliiaaaGreatDoorEvE
namespace Go.Ev

/-! ### Integers -/
def inR : IntKind → Int → Bool
  | .i64, .ofNat m => Nat.blt m 9223372036854775808
  | .i64, .negSucc m => Nat.blt m 9223372036854775808
  | .i32, .ofNat m => Nat.blt m 2147483648
  | .i32, .negSucc m => Nat.blt m 2147483648
  | .u64, .ofNat m => Nat.blt m 18446744073709551616
  | .u32, .ofNat m => Nat.blt m 4294967296
  | .u8, .ofNat m => Nat.blt m 256
  | _, _ => false

def wrapF (k : IntKind) (n : Int) : Int := bif inR k n then n else k.wrap n

theorem wrapF_eq (k : IntKind) (n : Int) : wrapF k n = k.wrap n := by
  unfold wrapF
  cases h : inR k n with
  | false => rfl
  | true =>
    simp only [cond_true]
    cases k <;> cases n <;> simp [inR] at h <;> simp only [IntKind.wrap, IntKind.bits, IntKind.signed] <;> simp <;> omega

def ltI : Int → Int → Bool
  | .ofNat a, .ofNat b => Nat.blt a b
  | .ofNat _, .negSucc _ => false
  | .negSucc _, .ofNat _ => true
  | .negSucc a, .negSucc b => Nat.blt b a

theorem ltI_eq (a b : Int) : ltI a b = decide (a < b) := by
  cases a <;> cases b <;> simp only [ltI] <;> rw [Bool.eq_iff_iff] <;> simp <;> omega

def eqI : Int → Int → Bool
  | .ofNat a, .ofNat b => Nat.beq a b
  | .negSucc a, .negSucc b => Nat.beq a b
  | _, _ => false

theorem eqI_eq (a b : Int) : eqI a b = (a == b) := by
  cases a <;> cases b <;> simp only [eqI] <;> rw [Bool.eq_iff_iff] <;> simp <;> omega

def eqK : IntKind → IntKind → Bool
  | .i8, .i8 | .i16, .i16 | .i32, .i32 | .i64, .i64 | .u8, .u8 | .u16, .u16 | .u32, .u32 | .u64, .u64 => true
  | _, _ => false
theorem eqK_eq {a b : IntKind} (h : eqK a b = true) : a = b := by cases a <;> cases b <;> simp_all [eqK]

def intM (op : BinOp) (k : IntKind) (a b : Int) : Option MV :=
  match op with
  | .add => some (.i k (wrapF k (a + b)))
  | .sub => some (.i k (wrapF k (a - b)))
  | .mul => some (.i k (wrapF k (a * b)))
  | .quo => bif eqI b 0 then none else some (.i k (wrapF k (a.tdiv b)))
  | .rem => bif eqI b 0 then none else some (.i k (a.tmod b))
  | .and => some (.i k (k.wrap (BitVec.ofInt k.bits a &&& BitVec.ofInt k.bits b).toNat))
  | .or => some (.i k (k.wrap (BitVec.ofInt k.bits a ||| BitVec.ofInt k.bits b).toNat))
  | .xor => some (.i k (k.wrap (BitVec.ofInt k.bits a ^^^ BitVec.ofInt k.bits b).toNat))
  | .andNot => some (.i k (k.wrap (BitVec.ofInt k.bits a &&& ~~~(BitVec.ofInt k.bits b)).toNat))
  | .eql => some (.b (eqI a b))
  | .neq => some (.b (!(eqI a b)))
  | .lss => some (.b (ltI a b))
  | .leq => some (.b (!(ltI b a)))
  | .gtr => some (.b (ltI b a))
  | .geq => some (.b (!(ltI a b)))
  | _ => none

def isShift : BinOp → Bool
  | .shl | .shr => true
  | _ => false

def shiftM (op : BinOp) (k : IntKind) (a : Int) (b : Int) : Option MV :=
  match b with
  | .negSucc _ => none
  | .ofNat y => match op with
    | .shl => some (.i k (wrapF k (a * 2 ^ (min y k.bits))))
    | .shr => some (.i k (a.fdiv (2 ^ (min y k.bits))))
    | _ => none

section
variable {P : Program} {X : Cx} {W : World}

/-- The value runs in every world, to a value that the evaluator's stands for, and turns nothing. -/
def Calm (P : Program) (X : Cx) (s : Sem Value) (W : World) (v : MV) : Prop := ∃ v', s.run P W = .ok v' W ∧ VR X v v'

theorem shift_calm {op : BinOp} {k yk : IntKind} {a b : Int} {r : MV} (hc : shiftM op k a b = some r) : Calm P X (Op.shift op k a yk b) W r := by
  unfold shiftM at hc
  cases b with
  | negSucc b => cases hc
  | ofNat y =>
    have h0 : ¬ ((Int.ofNat y) < 0) := by simp
    cases op <;> simp only [Option.some.injEq, reduceCtorEq] at hc <;> subst hc
    · refine ⟨_, ?_, .i _ _⟩
      simp only [Op.shift, if_neg h0, wrapF_eq]; rfl
    · refine ⟨_, ?_, .i _ _⟩
      simp only [Op.shift, if_neg h0]; rfl

theorem intM_calm {op : BinOp} {t : TypeId} {k : IntKind} {a b : Int} {r : MV} (hs : isShift op = false) (hc : intM op k a b = some r) : Calm P X (binOp op t (.int k a) (.int k b)) W r := by
  unfold intM at hc
  have z : ∀ {b : Int}, eqI b 0 = false → ¬ b = 0 := fun hb => by rw [eqI_eq] at hb; simpa using hb
  cases op <;> simp only [isShift, reduceCtorEq] at hs <;> simp only [Option.some.injEq] at hc
  case quo =>
    cases hb : eqI b 0 <;> rw [hb] at hc <;> simp only [cond_true, cond_false, reduceCtorEq, Option.some.injEq] at hc
    subst hc
    exact ⟨.int k (k.wrap (a.tdiv b)), by simp [binOp, Op.intDiv, z hb], by rw [wrapF_eq]; exact .i _ _⟩
  case rem =>
    cases hb : eqI b 0 <;> rw [hb] at hc <;> simp only [cond_true, cond_false, reduceCtorEq, Option.some.injEq] at hc
    subst hc
    exact ⟨.int k (a.tmod b), by simp [binOp, Op.intDiv, z hb], .i _ _⟩
  all_goals subst hc
  case add => exact ⟨.int k (k.wrap (a + b)), by simp [binOp, Op.intArith], by rw [wrapF_eq]; exact .i _ _⟩
  case sub => exact ⟨.int k (k.wrap (a - b)), by simp [binOp, Op.intArith], by rw [wrapF_eq]; exact .i _ _⟩
  case mul => exact ⟨.int k (k.wrap (a * b)), by simp [binOp, Op.intArith], by rw [wrapF_eq]; exact .i _ _⟩
  case and => exact ⟨_, by simp only [binOp, ne_eq, not_true_eq_false, if_false, Op.intBits]; rfl, .i _ _⟩
  case or => exact ⟨_, by simp only [binOp, ne_eq, not_true_eq_false, if_false, Op.intBits]; rfl, .i _ _⟩
  case xor => exact ⟨_, by simp only [binOp, ne_eq, not_true_eq_false, if_false, Op.intBits]; rfl, .i _ _⟩
  case andNot => exact ⟨_, by simp only [binOp, ne_eq, not_true_eq_false, if_false, Op.intBits]; rfl, .i _ _⟩
  case eql => exact ⟨.bool (a == b), by simp [binOp, Op.intCmp], by rw [eqI_eq]; exact .b _⟩
  case neq => exact ⟨.bool (a != b), by simp [binOp, Op.intCmp], by rw [eqI_eq]; exact .b _⟩
  case lss => exact ⟨.bool (decide (a < b)), by simp [binOp, Op.intCmp], by rw [ltI_eq]; exact .b _⟩
  case leq => exact ⟨.bool (decide (a ≤ b)), by simp [binOp, Op.intCmp], by rw [ltI_eq, show (!decide (b < a)) = decide (a ≤ b) from by rw [Bool.eq_iff_iff]; simp]; exact .b _⟩
  case gtr => exact ⟨.bool (decide (a > b)), by simp [binOp, Op.intCmp], by rw [ltI_eq]; exact .b _⟩
  case geq => exact ⟨.bool (decide (a ≥ b)), by simp [binOp, Op.intCmp], by rw [ltI_eq, show (!decide (a < b)) = decide (a ≥ b) from by rw [Bool.eq_iff_iff]; simp]; exact .b _⟩
end

/-! ### Strings -/
def eqL : List Nat → List Nat → Bool
  | [], [] => true
  | a :: x, b :: y => bif Nat.beq a b then eqL x y else false
  | _, _ => false

def lessL : List Nat → List Nat → Bool
  | _, [] => false
  | [], _ :: _ => true
  | a :: x, b :: y => bif Nat.blt a b then true else bif Nat.beq a b then lessL x y else false

theorem bs_toList (l : List Nat) : (bs l).toList = l.map UInt8.ofNat := by unfold bs; rw [ByteArray.toList_mk]

theorem ofNat_inj {a b : Nat} (ha : a < 256) (hb : b < 256) (h : UInt8.ofNat a = UInt8.ofNat b) : a = b := by
  have := congrArg UInt8.toNat h
  simp at this
  omega

theorem eqL_eq : ∀ {a b : List Nat}, (∀ x ∈ a, x < 256) → (∀ x ∈ b, x < 256) → eqL a b = (a.map UInt8.ofNat == b.map UInt8.ofNat)
  | [], [], _, _ => by simp [eqL]
  | [], _ :: _, _, _ => by simp [eqL]
  | _ :: _, [], _, _ => by simp [eqL]
  | a :: x, b :: y, h, k => by
    have ih := eqL_eq (fun z hz => h z (List.mem_cons_of_mem _ hz)) (fun z hz => k z (List.mem_cons_of_mem _ hz))
    simp only [eqL, List.map_cons]
    cases hb : Nat.beq a b with
    | true =>
      have e : a = b := by simpa using hb
      subst e
      simp only [cond_true, ih]
      rw [Bool.eq_iff_iff]; simp
    | false =>
      simp only [cond_false]
      have hne : ¬ UInt8.ofNat a = UInt8.ofNat b := fun e => by
        have := ofNat_inj (h a (by simp)) (k b (by simp)) e
        subst this; simp at hb
      symm
      rw [Bool.eq_false_iff]
      simp [hne]

theorem lessL_eq : ∀ {a b : List Nat}, (∀ x ∈ a, x < 256) → (∀ x ∈ b, x < 256) → lessL a b = Op.bytesLess (a.map UInt8.ofNat) (b.map UInt8.ofNat)
  | [], [], _, _ => by simp [lessL, Op.bytesLess]
  | [], _ :: _, _, _ => by simp [lessL, Op.bytesLess]
  | _ :: _, [], _, _ => by simp [lessL, Op.bytesLess]
  | a :: x, b :: y, h, k => by
    have ih := lessL_eq (fun z hz => h z (List.mem_cons_of_mem _ hz)) (fun z hz => k z (List.mem_cons_of_mem _ hz))
    have ha := h a (by simp)
    have hb := k b (by simp)
    have e1 : (UInt8.ofNat a < UInt8.ofNat b) ↔ a < b := by
      rw [UInt8.lt_iff_toNat_lt]; simp; omega
    have e2 : (UInt8.ofNat a == UInt8.ofNat b) = Nat.beq a b := by
      rw [Bool.eq_iff_iff]; simp
      exact ⟨fun e => ofNat_inj ha hb e, fun e => by rw [e]⟩
    simp only [lessL, List.map_cons, Op.bytesLess, ih, e2]
    cases hlt : Nat.blt a b with
    | true =>
      have : a < b := by simpa using hlt
      simp [e1, this]
    | false =>
      have : ¬ a < b := fun e => by simp [show Nat.blt a b = true by simpa using e] at hlt
      simp only [cond_false]
      have d : decide (UInt8.ofNat a < UInt8.ofNat b) = false := by simp only [decide_eq_false_iff_not, e1]; exact this
      rw [d]
      cases Nat.beq a b <;> simp

def strM (op : BinOp) (a b : List Nat) : Option MV :=
  match op with
  | .add => bif Nat.blt (a.length + b.length) 4611686018427387904 then some (.s (a ++ b)) else none
  | .eql => some (.b (eqL a b))
  | .neq => some (.b (!(eqL a b)))
  | .lss => some (.b (lessL a b))
  | .leq => some (.b (lessL a b || eqL a b))
  | .gtr => some (.b (!(lessL a b || eqL a b)))
  | .geq => some (.b (!(lessL a b)))
  | _ => none

theorem bs_append (a b : List Nat) : bs a ++ bs b = bs (a ++ b) := by
  unfold bs
  apply ByteArray.ext
  simp

section
variable {P : Program} {X : Cx} {W : World}
theorem strM_calm {op : BinOp} {t : TypeId} {a b : List Nat} {r : MV} (ha : ∀ x ∈ a, x < 256) (hb : ∀ x ∈ b, x < 256) (hc : strM op a b = some r) : Calm P X (binOp op t (.string (bs a)) (.string (bs b))) W r := by
  unfold strM at hc
  cases op <;> simp only [Option.some.injEq, reduceCtorEq] at hc
  case add =>
    cases hq : Nat.blt (a.length + b.length) 4611686018427387904 <;> rw [hq] at hc <;> simp only [cond_true, cond_false, reduceCtorEq, Option.some.injEq] at hc
    subst hc
    have hq' : a.length + b.length < 4611686018427387904 := by simpa using hq
    have hn : ¬ (((((bs a).size + (bs b).size : Nat)) : Int) > IntKind.i64.max) := by
      rw [bs_size, bs_size]
      have : IntKind.i64.max = 9223372036854775807 := by decide
      rw [this]; omega
    refine ⟨.string (bs (a ++ b)), ?_, .s _ ?_⟩
    · simp only [binOp, Op.stringOp, if_neg hn, bs_append]; rfl
    · intro x hx
      rcases List.mem_append.1 hx with h | h
      · exact ha x h
      · exact hb x h
  all_goals subst hc
  all_goals (refine ⟨_, by simp only [binOp, Op.stringOp, bs_toList]; rfl, ?_⟩; simp only [eqL_eq ha hb, lessL_eq ha hb]; exact .b _)
end

/-! ### Floats -/
def eqFK : FloatKind → FloatKind → Bool
  | .f32, .f32 | .f64, .f64 => true
  | _, _ => false
theorem eqFK_eq {a b : FloatKind} (h : eqFK a b = true) : a = b := by cases a <;> cases b <;> simp_all [eqFK]

def fltM (op : BinOp) (k : FloatKind) (a b : Nat) : Option MV :=
  match op with
  | .add => (k.format.add a b).map (.f k)
  | .sub => (k.format.sub a b).map (.f k)
  | .mul => (k.format.mul a b).map (.f k)
  | .quo => (k.format.div a b).map (.f k)
  | .eql => some (.b (k.format.order a b == some .eq))
  | .neq => some (.b (k.format.order a b != some .eq))
  | .lss => some (.b (k.format.order a b == some .lt))
  | .leq => some (.b (k.format.order a b == some .lt || k.format.order a b == some .eq))
  | .gtr => some (.b (k.format.order a b == some .gt))
  | .geq => some (.b (k.format.order a b == some .gt || k.format.order a b == some .eq))
  | _ => none

section
variable {P : Program} {X : Cx} {W : World}
theorem fltM_calm {op : BinOp} {t : TypeId} {k : FloatKind} {a b : Nat} {r : MV} (hc : fltM op k a b = some r) : Calm P X (binOp op t (.float k a) (.float k b)) W r := by
  unfold fltM at hc
  cases op <;> simp only [Option.some.injEq, reduceCtorEq, Option.map_eq_some_iff] at hc
  case add => obtain ⟨x, hx, rfl⟩ := hc; exact ⟨.float k x, by simp [binOp, Op.floatArith, hx], .f _ _⟩
  case sub => obtain ⟨x, hx, rfl⟩ := hc; exact ⟨.float k x, by simp [binOp, Op.floatArith, hx], .f _ _⟩
  case mul => obtain ⟨x, hx, rfl⟩ := hc; exact ⟨.float k x, by simp [binOp, Op.floatArith, hx], .f _ _⟩
  case quo => obtain ⟨x, hx, rfl⟩ := hc; exact ⟨.float k x, by simp [binOp, Op.floatArith, hx], .f _ _⟩
  all_goals subst hc
  all_goals exact ⟨_, by simp only [binOp, ne_eq, not_true_eq_false, if_false, Op.floatCmp]; rfl, .b _⟩
end

/-! ### Equality of other values -/
def eqM (P : Program) : Nat → TypeId → MV → MV → Option Bool
  | 0, _, _, _ => none
  | d + 1, t, x, y =>
    match P.underlying t, x, y with
    | some .bool, .b a, .b b => some (a == b)
    | some (.int _), .i k a, .i k' b => bif eqK k k' then some (eqI a b) else none
    | some (.float _), .f k a, .f k' b => bif eqFK k k' then some (Op.floatEq k a b) else none
    | some .string, .s a, .s b => some (eqL a b)
    | some (.pointer _), .np, .np => some true
    | some (.pointer _), .np, .p _ _ => some false
    | some (.pointer _), .p _ _, .np => some false
    | some (.pointer e), .p a i, .p b j => match szOf P e with
      | some n => bif Nat.beq n 0 then none else bif Nat.beq a b then some (Nat.beq i j) else none
      | none => none
    | some (.interface _), .nif, .nif => some true
    | some (.interface _), .nif, .ifc _ _ => some false
    | some (.interface _), .ifc _ _, .nif => some false
    | some (.interface _), .ifc tx vx, .ifc ty vy => bif Nat.beq tx ty then (match P.info? tx with
        | some i => bif i.comparable then eqM P d tx vx vy else none
        | none => none) else some false
    | some (.struct fs), .agg xs, .agg ys => bif P.stoodInHeld t then none else fs.toList.foldr (fun f k => bif f.name == "_" then k else
        match partM P f.type xs f.offset, partM P f.type ys f.offset with
        | some a, some b => (match eqM P d f.type a b with
          | some true => k
          | r => r)
        | _, _ => none) (some true)
    | some (.slice _), .nsl, .nsl => some true
    | some (.slice _), .nsl, .sl _ _ _ _ _ _ => some false
    | some (.slice _), .sl _ _ _ _ _ _, .nsl => some false
    | some (.map _ _), .nm, .nm => some true
    | some (.map _ _), .nm, .m _ => some false
    | some (.map _ _), .m _, .nm => some false
    | some (.func _ _ _), .nfn, .nfn => some true
    | some (.func _ _ _), .nfn, .fn _ _ _ => some false
    | some (.func _ _ _), .fn _ _ _, .nfn => some false
    | _, _, _ => none

end Go.Ev
