/- The evaluator: forcing, constants, operands, types. -/
import Derived.Test.YtghcpfgpmliiaaaGreatDoorEvC
import Derived.Laws.Strings
import Derived.Laws.Entries
namespace Go.Ev

/-! ### Forcing (for the kernel's sake; each is its argument) -/
section
variable {β : Type}
def seqN (n : Nat) (k : Nat → β) : β := match n with | 0 => k 0 | m + 1 => k (m + 1)
theorem seqN_eq (n : Nat) (k : Nat → β) : seqN n k = k n := by cases n <;> rfl
def seqI (n : Int) (k : Int → β) : β := match n with | .ofNat m => seqN m fun m => k (.ofNat m) | .negSucc m => seqN m fun m => k (.negSucc m)
theorem seqI_eq (n : Int) (k : Int → β) : seqI n k = k n := by cases n <;> simp [seqI, seqN_eq]
def seqB (b : Bool) (k : Bool → β) : β := match b with | true => k true | false => k false
theorem seqB_eq (b : Bool) (k : Bool → β) : seqB b k = k b := by cases b <;> rfl
def seqL : List Nat → (List Nat → β) → β
  | [], k => k []
  | x :: r, k => seqN x fun x => seqL r fun r => k (x :: r)
theorem seqL_eq : ∀ (l : List Nat) (k : List Nat → β), seqL l k = k l
  | [], _ => rfl
  | x :: r, k => by simp only [seqL, seqN_eq, seqL_eq r]
def seqK (x : IntKind) (k : IntKind → β) : β :=
  match x with | .i8 => k .i8 | .i16 => k .i16 | .i32 => k .i32 | .i64 => k .i64 | .u8 => k .u8 | .u16 => k .u16 | .u32 => k .u32 | .u64 => k .u64
theorem seqK_eq (x : IntKind) (k : IntKind → β) : seqK x k = k x := by cases x <;> rfl
mutual
def MV.seq : MV → (MV → β) → β
  | .b x, k => seqB x fun x => k (.b x)
  | .i t n, k => seqK t fun t => seqI n fun n => k (.i t n)
  | .f t n, k => seqN n fun n => k (.f t n)
  | .c t n m, k => seqN n fun n => seqN m fun m => k (.c t n m)
  | .s l, k => seqL l fun l => k (.s l)
  | .np, k => k .np
  | .p a b, k => seqN a fun a => seqN b fun b => k (.p a b)
  | .nsl, k => k .nsl
  | .sl a b c d e f, k => seqN a fun a => seqN b fun b => seqN c fun c => seqN d fun d => seqN e fun e => seqB f fun f => k (.sl a b c d e f)
  | .nm, k => k .nm
  | .m a, k => seqN a fun a => k (.m a)
  | .fn f a b, k => MVs.seq a fun a => MVs.seq b fun b => k (.fn f a b)
  | .yl a, k => seqN a fun a => k (.yl a)
  | .nfn, k => k .nfn
  | .ifc t v, k => seqN t fun t => MV.seq v fun v => k (.ifc t v)
  | .nif, k => k .nif
  | .agg l, k => MVs.seq l fun l => k (.agg l)
  | .tup l, k => MVs.seq l fun l => k (.tup l)
  | .sym n, k => seqN n fun n => k (.sym n)
  | .hid, k => k .hid
def MVs.seq : List MV → (List MV → β) → β
  | [], k => k []
  | v :: r, k => MV.seq v fun v => MVs.seq r fun r => k (v :: r)
end
mutual
theorem MV.seq_eq : ∀ (v : MV) (k : MV → β), v.seq k = k v
  | .b x, k => by simp only [MV.seq, seqB_eq]
  | .i t n, k => by simp only [MV.seq, seqK_eq, seqI_eq]
  | .f t n, k => by simp only [MV.seq, seqN_eq]
  | .c t n m, k => by simp only [MV.seq, seqN_eq]
  | .s l, k => by simp only [MV.seq, seqL_eq]
  | .np, k => by simp only [MV.seq]
  | .p a b, k => by simp only [MV.seq, seqN_eq]
  | .nsl, k => by simp only [MV.seq]
  | .sl a b c d e f, k => by simp only [MV.seq, seqN_eq, seqB_eq]
  | .nm, k => by simp only [MV.seq]
  | .m a, k => by simp only [MV.seq, seqN_eq]
  | .fn f a b, k => by simp only [MV.seq, MVs.seq_eq a, MVs.seq_eq b]
  | .yl a, k => by simp only [MV.seq, seqN_eq]
  | .nfn, k => by simp only [MV.seq]
  | .ifc t v, k => by simp only [MV.seq, seqN_eq, MV.seq_eq v]
  | .nif, k => by simp only [MV.seq]
  | .agg l, k => by simp only [MV.seq, MVs.seq_eq l]
  | .tup l, k => by simp only [MV.seq, MVs.seq_eq l]
  | .sym n, k => by simp only [MV.seq, seqN_eq]
  | .hid, k => by simp only [MV.seq]
theorem MVs.seq_eq : ∀ (l : List MV) (k : List MV → β), MVs.seq l k = k l
  | [], k => by simp only [MVs.seq]
  | v :: r, k => by simp only [MVs.seq, MV.seq_eq v, MVs.seq_eq r]
end
end

/-! ### Constants -/
/-! ### The same, with arms that hold no variable of the outside: the kernel copies nothing when it unfolds them -/
section
variable {β : Type}
def seq1 : MV → (MV → β) → β
  | .b x => fun k => seqB x fun x => k (.b x)
  | .i t n => fun k => seqK t fun t => seqI n fun n => k (.i t n)
  | .f t n => fun k => seqN n fun n => k (.f t n)
  | .s l => fun k => seqL l fun l => k (.s l)
  | .p a b => fun k => seqN a fun a => seqN b fun b => k (.p a b)
  | .sl a b c d e f => fun k => seqN a fun a => seqN b fun b => seqN c fun c => seqN d fun d => seqN e fun e => seqB f fun f => k (.sl a b c d e f)
  | .m a => fun k => seqN a fun a => k (.m a)
  | .yl a => fun k => seqN a fun a => k (.yl a)
  | v => fun k => k v
theorem seq1_eq (v : MV) (k : MV → β) : seq1 v k = k v := by
  cases v <;> simp only [seq1, seqB_eq, seqK_eq, seqI_eq, seqN_eq, seqL_eq]
def seq1s : List MV → (List MV → β) → β
  | [] => fun k => k []
  | v :: r => fun k => seq1 v fun v => seq1s r fun r => k (v :: r)
theorem seq1s_eq : ∀ (l : List MV) (k : List MV → β), seq1s l k = k l
  | [], k => rfl
  | v :: r, k => by simp only [seq1s, seq1_eq, seq1s_eq r]
def seqV : MV → (MV → β) → β
  | .agg l => fun k => seq1s l fun l => k (.agg l)
  | .tup l => fun k => seq1s l fun l => k (.tup l)
  | .ifc t v => fun k => seqN t fun t => seq1 v fun v => k (.ifc t v)
  | .fn f a b => fun k => seq1s a fun a => seq1s b fun b => k (.fn f a b)
  | v => fun k => seq1 v k
theorem seqV_eq (v : MV) (k : MV → β) : seqV v k = k v := by
  cases v <;> simp only [seqV, seq1_eq, seq1s_eq, seqN_eq]

end

def mapO {α β : Type} (g : α → Option β) : List α → Option (List β)
  | [] => some []
  | x :: r => match g x, mapO g r with
    | some y, some ys => some (y :: ys)
    | _, _ => none

def ofV : Nat → Value → Option MV
  | 0, _ => none
  | _ + 1, .bool b => some (.b b)
  | _ + 1, .int k n => some (.i k n)
  | _ + 1, .float k n => some (.f k n)
  | _ + 1, .complex k n m => some (.c k n m)
  | _ + 1, .string s => some (.s (s.data.toList.map UInt8.toNat))
  | _ + 1, .pointer none => some .np
  | _ + 1, .slice none 0 0 => some .nsl
  | _ + 1, .map none => some .nm
  | n + 1, .func f a b => match mapO (ofV n) a.toList, mapO (ofV n) b.toList with
    | some a, some b => some (.fn f a b)
    | _, _ => none
  | _ + 1, .nilFunc => some .nfn
  | n + 1, .iface t v => (ofV n v).map (.ifc t)
  | _ + 1, .nilIface => some .nif
  | n + 1, .agg c => (mapO (ofV n) c.toList).map .agg
  | n + 1, .tuple c => (mapO (ofV n) c.toList).map .tup
  | _ + 1, _ => none

theorem VRs.of_mapO {X : Cx} {g : Value → Option MV} (hg : ∀ v m, g v = some m → VR X m v) : ∀ {l : List Value} {ms : List MV}, mapO g l = some ms → VRs X ms l
  | [], ms, h => by simp only [mapO, Option.some.injEq] at h; subst h; exact .nil
  | x :: r, ms, h => by
    simp only [mapO] at h
    split at h
    · rename_i y ys hy hys
      simp only [Option.some.injEq] at h; subst h
      exact .cons (hg _ _ hy) (VRs.of_mapO hg hys)
    · cases h

theorem bs_toNat (s : ByteArray) : bs (s.data.toList.map UInt8.toNat) = s := by
  unfold bs
  rw [List.map_map]
  have : (UInt8.ofNat ∘ UInt8.toNat) = id := by funext x; simp
  rw [this]
  simp

theorem ofV_sound {X : Cx} : ∀ (n : Nat) (v : Value) (m : MV), ofV n v = some m → VR X m v := by
  intro n
  induction n with
  | zero => intro v m h; simp [ofV] at h
  | succ n ih =>
    intro v m h
    cases v with
    | bool b => simp only [ofV, Option.some.injEq] at h; subst h; exact .b _
    | int k x => simp only [ofV, Option.some.injEq] at h; subst h; exact .i _ _
    | float k x => simp only [ofV, Option.some.injEq] at h; subst h; exact .f _ _
    | complex k x y => simp only [ofV, Option.some.injEq] at h; subst h; exact .c _ _ _
    | string s =>
      simp only [ofV, Option.some.injEq] at h; subst h
      have := VR.s (X := X) (s.data.toList.map UInt8.toNat) (by intro x hx; obtain ⟨y, _, rfl⟩ := List.mem_map.1 hx; exact y.toNat_lt)
      rwa [bs_toNat] at this
    | pointer a => cases a with
      | none => simp only [ofV, Option.some.injEq] at h; subst h; exact .np
      | some a => simp [ofV] at h
    | slice a l c =>
      cases a with
      | none =>
        cases l with
        | zero => cases c with
          | zero => simp only [ofV, Option.some.injEq] at h; subst h; exact .nsl
          | succ c => simp [ofV] at h
        | succ l => simp [ofV] at h
      | some a => simp [ofV] at h
    | map a => cases a with
      | none => simp only [ofV, Option.some.injEq] at h; subst h; exact .nm
      | some a => simp [ofV] at h
    | chan a => simp [ofV] at h
    | func f a b =>
      simp only [ofV] at h
      split at h
      · rename_i a' b' ha hb
        simp only [Option.some.injEq] at h; subst h
        exact .fn (VRs.of_mapO ih ha) (VRs.of_mapO ih hb)
      · cases h
    | nilFunc => simp only [ofV, Option.some.injEq] at h; subst h; exact .nfn
    | iface t v =>
      simp only [ofV, Option.map_eq_some_iff] at h
      obtain ⟨a, ha, rfl⟩ := h
      exact .ifc (ih _ _ ha)
    | nilIface => simp only [ofV, Option.some.injEq] at h; subst h; exact .nif
    | agg c =>
      simp only [ofV, Option.map_eq_some_iff] at h
      obtain ⟨a, ha, rfl⟩ := h
      exact .agg (VRs.of_mapO ih ha)
    | tuple c =>
      simp only [ofV, Option.map_eq_some_iff] at h
      obtain ⟨a, ha, rfl⟩ := h
      exact .tup (VRs.of_mapO ih ha)

/-! ### Operands -/
/-- A constant: the common kinds first. -/
def ofK : Value → Option MV
  | .int k n => some (.i k n)
  | .bool b => some (.b b)
  | .string s => some (.s (s.data.toList.map UInt8.toNat))
  | v => ofV 4 v
theorem ofK_eq (v : Value) : ofK v = ofV 4 v := by cases v <;> rfl

def undefM : MV := .tup []

def tmGet (tm : Tr MV) (t : Nat) : MV := match tm.get t with | some v => v | none => undefM

/-- 'ng': how many package-level variables there are. -/
def ev (ng : Nat) (tm : Tr MV) : Operand → Option MV
  | .tmp t => some (tmGet tm t)
  | .const v => ofK v
  | .global g => bif Nat.blt g ng then some (.p g 0) else none
  | .func f => some (.fn (.func f) [] [])

def evs (ng : Nat) (tm : Tr MV) (l : List Operand) : Option (List MV) := mapO (ev ng tm) l

/-- The evaluator's number of a package-level variable is the model's. -/
def GR (ng : Nat) (X : Cx) : Prop := ∀ g, g < ng → ∃ z, X.ρ g = some (g, 0, z)
theorem GR.mono {ng : Nat} {X Y : Cx} (hl : X.Le Y) (h : GR ng X) : GR ng Y := fun g hg => let ⟨z, hz⟩ := h g hg; ⟨z, hl.1 _ _ hz⟩

theorem TmR.getD {X : Cx} {n : Nat} {tm : Tr MV} {t : Array Value} (h : TmR X n tm t) (i : Nat) : VR X (tmGet tm i) (t.getD i undef) := by
  have := h.2 i
  unfold tmGet
  cases hg : tm.get i with
  | none => rw [hg] at this; exact this
  | some v => rw [hg] at this; exact this

theorem ev_sound {ng n : Nat} {X : Cx} {tm : Tr MV} {a : Act} (hg : GR ng X) (ht : TmR X n tm a.tmps) {x : Operand} {v : MV} (h : ev ng tm x = some v) : VR X v (a.eval x) := by
  cases x with
  | tmp t => simp only [ev, Option.some.injEq] at h; subst h; exact ht.getD t
  | const v => exact ofV_sound _ _ _ ((ofK_eq v).symm.trans h)
  | global g =>
    simp only [ev] at h
    cases hb : Nat.blt g ng with
    | false => rw [hb] at h; cases h
    | true =>
      rw [hb] at h; simp only [cond_true, Option.some.injEq] at h; subst h
      obtain ⟨z, hz⟩ := hg g (by simpa using hb)
      exact VR.p (X := X) (off := 0) hz
  | func f => simp only [ev, Option.some.injEq] at h; subst h; exact .fn .nil .nil

theorem evs_sound {ng n : Nat} {X : Cx} {tm : Tr MV} {a : Act} (hg : GR ng X) (ht : TmR X n tm a.tmps) : ∀ {l : List Operand} {vs : List MV}, evs ng tm l = some vs → VRs X vs (l.map a.eval)
  | [], vs, h => by simp only [evs, mapO, Option.some.injEq] at h; subst h; exact .nil
  | x :: r, vs, h => by
    simp only [evs, mapO] at h
    split at h
    · rename_i y ys hy hys
      simp only [Option.some.injEq] at h; subst h
      exact .cons (ev_sound hg ht hy) (evs_sound hg ht hys)
    · cases h

/-! ### Types -/
section
variable (P : Program)
def szOf (t : TypeId) : Option Nat := match P.info? t with | some i => some i.size | none => none
def byOf (t : TypeId) : Option Nat := match P.info? t with | some i => some i.bytes | none => none
def MV.cellsM : MV → Option (List MV)
  | .agg l => some l
  | .hid => none
  | v => some [v]
def zeroOf (t : TypeId) : Option MV :=
  match P.info? t with
  | some i => match i.zero with
    | some z => match ofV 6 z with
      | some m => match m.cellsM with
        | some l => bif Nat.beq l.length i.size then some m else none
        | none => none
      | none => none
    | none => none
  | none => none
def aggOf (t : TypeId) : Option Bool := match P.underlying t with | some (.struct _) | some (.array ..) => some true | some _ => some false | none => none
end

theorem VR.cells {X : Cx} {v : MV} {v' : Value} (h : VR X v v') {l : List MV} (hl : v.cellsM = some l) : VRs X l v'.cells.toList := by
  cases h with
  | agg h => simp only [MV.cellsM, Option.some.injEq] at hl; subst hl; exact h
  | hid => simp [MV.cellsM] at hl
  | sym h ho =>
    simp only [MV.cellsM, Option.some.injEq] at hl; subst hl
    cases v' <;> simp [Value.oneCell'] at ho <;> exact .cons (.sym h (by simp [Value.oneCell'])) .nil
  | b x => simp only [MV.cellsM, Option.some.injEq] at hl; subst hl; exact .cons (.b x) .nil
  | i k n => simp only [MV.cellsM, Option.some.injEq] at hl; subst hl; exact .cons (.i k n) .nil
  | f k n => simp only [MV.cellsM, Option.some.injEq] at hl; subst hl; exact .cons (.f k n) .nil
  | c k n m => simp only [MV.cellsM, Option.some.injEq] at hl; subst hl; exact .cons (.c k n m) .nil
  | s l h => simp only [MV.cellsM, Option.some.injEq] at hl; subst hl; exact .cons (.s l h) .nil
  | np => simp only [MV.cellsM, Option.some.injEq] at hl; subst hl; exact .cons .np .nil
  | p h => simp only [MV.cellsM, Option.some.injEq] at hl; subst hl; exact .cons (.p h) .nil
  | nsl => simp only [MV.cellsM, Option.some.injEq] at hl; subst hl; exact .cons .nsl .nil
  | sl h a b c d => simp only [MV.cellsM, Option.some.injEq] at hl; subst hl; exact .cons (.sl h a b c d) .nil
  | nm => simp only [MV.cellsM, Option.some.injEq] at hl; subst hl; exact .cons .nm .nil
  | m h => simp only [MV.cellsM, Option.some.injEq] at hl; subst hl; exact .cons (.m h) .nil
  | fn h k => simp only [MV.cellsM, Option.some.injEq] at hl; subst hl; exact .cons (.fn h k) .nil
  | yl h => simp only [MV.cellsM, Option.some.injEq] at hl; subst hl; exact .cons (.yl h) .nil
  | nfn => simp only [MV.cellsM, Option.some.injEq] at hl; subst hl; exact .cons .nfn .nil
  | ifc h => simp only [MV.cellsM, Option.some.injEq] at hl; subst hl; exact .cons (.ifc h) .nil
  | nif => simp only [MV.cellsM, Option.some.injEq] at hl; subst hl; exact .cons .nif .nil
  | tup h => simp only [MV.cellsM, Option.some.injEq] at hl; subst hl; exact .cons (.tup h) .nil

section
variable {P : Program}
theorem sizeOf_run {t : TypeId} {n : Nat} (h : szOf P t = some n) (W : World) : (sizeOf t).run P W = .ok n W := by
  unfold szOf at h
  split at h
  · rename_i i hi; simp only [Option.some.injEq] at h; subst h; simp [sizeOf, typeInfo, hi]
  · cases h
theorem bytes_run {t : TypeId} {n : Nat} (h : byOf P t = some n) (W : World) : ∃ i, (typeInfo t).run P W = .ok i W ∧ i.bytes = n := by
  unfold byOf at h
  split at h
  · rename_i i hi; simp only [Option.some.injEq] at h; exact ⟨i, by simp [typeInfo, hi], h⟩
  · cases h
theorem zero_run {t : TypeId} {m : MV} (h : zeroOf P t = some m) : ∃ z l, (∀ W, (zeroValue t).run P W = .ok z W) ∧ (∀ X, VR X m z) ∧ m.cellsM = some l ∧ szOf P t = some l.length := by
  unfold zeroOf at h
  split at h
  · rename_i i hi
    split at h
    · rename_i z hz
      split at h
      · rename_i m' hm
        split at h
        · rename_i l hl
          cases hb : Nat.beq l.length i.size with
          | false => rw [hb] at h; cases h
          | true =>
            rw [hb] at h; simp only [cond_true, Option.some.injEq] at h; subst h
            refine ⟨z, l, fun W => by simp [zeroValue, typeInfo, hi, hz], fun X => ofV_sound _ _ _ hm, hl, ?_⟩
            unfold szOf; rw [hi]; simp at hb; simp [hb]
        · cases h
      · cases h
    · cases h
  · cases h
theorem isAgg_run {t : TypeId} {b : Bool} (h : aggOf P t = some b) (W : World) : (isAgg t).run P W = .ok b W := by
  unfold aggOf at h
  split at h
  · rename_i fs hd; simp only [Option.some.injEq] at h; subst h; simp [isAgg, run_underlying hd]
  · rename_i fs hd; simp only [Option.some.injEq] at h; subst h; simp [isAgg, run_underlying hd]
  · rename_i d hd1 hd2 hd
    simp only [Option.some.injEq] at h; subst h
    cases d <;> simp_all [isAgg, run_underlying]
  · cases h
end
end Go.Ev
