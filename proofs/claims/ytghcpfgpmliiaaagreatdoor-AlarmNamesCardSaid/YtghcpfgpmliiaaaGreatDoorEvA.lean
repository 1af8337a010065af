/- The evaluator's ground: binary tries keyed by numbers, the evaluator's own values, their relation to the model's values. -/
import Derived.AtR
import Derived.OrdersIn
import Derived.Below
import Derived.KernelRfl
namespace Go.Ev

/-! ### Tries -/
inductive Tr (α : Type) : Type where
  | e
  | n (l : Tr α) (v : Option α) (r : Tr α)

def side (k : Nat) : Bool := Nat.beq (Nat.mod k 2) 0
def half (k : Nat) : Nat := Nat.div k 2

theorem side_half {k j : Nat} (h : side k = side j) (h' : half k = half j) : k = j := by
  unfold side at h; unfold half at h'
  have hk : k.div 2 = k / 2 := rfl
  have hj : j.div 2 = j / 2 := rfl
  have hk2 : k.mod 2 = k % 2 := rfl
  have hj2 : j.mod 2 = j % 2 := rfl
  rw [hk, hj] at h'
  rw [hk2, hj2] at h
  have a1 : k % 2 = 0 ∨ k % 2 = 1 := by omega
  have a2 : j % 2 = 0 ∨ j % 2 = 1 := by omega
  rcases a1 with a1 | a1 <;> rcases a2 with a2 | a2 <;> simp [a1, a2] at h <;> omega

theorem half_lt {k f : Nat} (h : k + 1 + 1 < 2 ^ (f + 1)) : half k + 1 < 2 ^ f := by
  show k / 2 + 1 < 2 ^ f
  have : 2 ^ (f + 1) = 2 ^ f * 2 := Nat.pow_succ ..
  omega

def Tr.get {α : Type} : Tr α → Nat → Option α
  | .e, _ => none
  | .n _ v _, 0 => v
  | .n l _ r, k + 1 => bif side k then l.get (half k) else r.get (half k)

/-- Lays 'v' at 'k' (fuel: the depth). -/
def Tr.set {α : Type} : Nat → Tr α → Nat → Option α → Tr α
  | 0, t, _, _ => t
  | _ + 1, .e, 0, v => .n .e v .e
  | _ + 1, .n l _ r, 0, v => .n l v r
  | f + 1, .e, k + 1, v => bif side k then .n (Tr.set f .e (half k) v) none .e else .n .e none (Tr.set f .e (half k) v)
  | f + 1, .n l u r, k + 1, v => bif side k then .n (Tr.set f l (half k) v) u r else .n l u (Tr.set f r (half k) v)

theorem Tr.get_e {α : Type} (k : Nat) : (Tr.e : Tr α).get k = none := by cases k <;> rfl

theorem Tr.get_n_succ {α : Type} (l r : Tr α) (v : Option α) (k : Nat) : (Tr.n l v r).get (k + 1) = bif side k then l.get (half k) else r.get (half k) := rfl

theorem Tr.get_set {α : Type} (v : Option α) : ∀ (f : Nat) (t : Tr α) (k j : Nat), k + 1 < 2 ^ f → (Tr.set f t k v).get j = if j = k then v else t.get j := by
  intro f
  induction f with
  | zero => intro t k j h; omega
  | succ f ih =>
    intro t k j h
    have key : ∀ (l r : Tr α) (u : Option α) (k' : Nat), k = k' + 1 →
        (bif side k' then Tr.n (Tr.set f l (half k') v) u r else Tr.n l u (Tr.set f r (half k') v)).get j = if j = k then v else (Tr.n l u r).get j := by
      intro l r u k' hk
      subst hk
      have hd := half_lt h
      cases j with
      | zero => cases side k' <;> simp [Tr.get]
      | succ j =>
        cases hs : side k' <;> simp only [cond_true, cond_false, Tr.get_n_succ] <;> cases hs' : side j <;> simp only [cond_true, cond_false]
        · rw [ih _ _ _ hd]
          by_cases e : half j = half k'
          · have := side_half (hs'.trans hs.symm) e; simp [this]
          · have hne : ¬ j + 1 = k' + 1 := by intro h0; have : j = k' := by omega
                                              subst this; exact e rfl
            rw [if_neg e, if_neg hne]
        · have hne : ¬ j + 1 = k' + 1 := by intro h0; have : j = k' := by omega
                                            subst this; rw [hs] at hs'; cases hs'
          rw [if_neg hne]
        · have hne : ¬ j + 1 = k' + 1 := by intro h0; have : j = k' := by omega
                                            subst this; rw [hs] at hs'; cases hs'
          rw [if_neg hne]
        · rw [ih _ _ _ hd]
          by_cases e : half j = half k'
          · have := side_half (hs'.trans hs.symm) e; simp [this]
          · have hne : ¬ j + 1 = k' + 1 := by intro h0; have : j = k' := by omega
                                              subst this; exact e rfl
            rw [if_neg e, if_neg hne]
    cases k with
    | zero =>
      cases t with
      | e => cases j with
        | zero => simp [Tr.set, Tr.get]
        | succ j => simp only [Tr.set, Tr.get_n_succ, Tr.get_e]; simp
      | n l u r => cases j with
        | zero => simp [Tr.set, Tr.get]
        | succ j => simp [Tr.set, Tr.get_n_succ]
    | succ k' =>
      cases t with
      | e =>
        have := key .e .e none k' rfl
        simp only [Tr.set]
        rw [this]
        have e0 : (Tr.n .e none .e : Tr α).get j = (Tr.e : Tr α).get j := by
          cases j with
          | zero => rfl
          | succ j => simp [Tr.get_n_succ, Tr.get_e]
        rw [e0]
      | n l u r => exact key l r u k' rfl

/-! ### The evaluator's values -/
inductive MV : Type where
  | b (x : Bool)
  | i (k : IntKind) (n : Int)
  | f (k : FloatKind) (bits : Nat)
  | c (k : FloatKind) (re im : Nat)
  | s (l : List Nat)
  | np
  | p (blk off : Nat)
  | nsl
  | sl (blk off len cap sz : Nat) (exact : Bool)
  | nm
  | m (blk : Nat)
  | fn (f : Fn) (first captured : List MV)
  | yl (blk : Nat)
  | nfn
  | ifc (t : TypeId) (v : MV)
  | nif
  | agg (l : List MV)
  | tup (l : List MV)
  | sym (k : Nat)
  | hid

/-- A string's bytes out of numbers. -/
def bs (l : List Nat) : ByteArray := ⟨(l.map UInt8.ofNat).toArray⟩

/-- What is known of the evaluator's block numbers: the model's block, the shift, how many cells it has there; and of the names of unknown values. -/
structure Cx where
  ρ : Nat → Option (Nat × Nat × Nat)
  env : Nat → Option Value

def Cx.Le (X Y : Cx) : Prop := (∀ b x, X.ρ b = some x → Y.ρ b = some x) ∧ ∀ k v, X.env k = some v → Y.env k = some v
theorem Cx.Le.refl (X : Cx) : X.Le X := ⟨fun _ _ h => h, fun _ _ h => h⟩
theorem Cx.Le.trans {X Y Z : Cx} (h : X.Le Y) (k : Y.Le Z) : X.Le Z := ⟨fun b x e => k.1 b x (h.1 b x e), fun b x e => k.2 b x (h.2 b x e)⟩

mutual
inductive VR (X : Cx) : MV → Value → Prop
  | b (x : Bool) : VR X (.b x) (.bool x)
  | i (k : IntKind) (n : Int) : VR X (.i k n) (.int k n)
  | f (k : FloatKind) (n : Nat) : VR X (.f k n) (.float k n)
  | c (k : FloatKind) (n m : Nat) : VR X (.c k n m) (.complex k n m)
  | s (l : List Nat) (h : ∀ x ∈ l, x < 256) : VR X (.s l) (.string (bs l))
  | np : VR X .np (.pointer none)
  | p {blk off n d z : Nat} (h : X.ρ blk = some (n, d, z)) : VR X (.p blk off) (.pointer (some ⟨n, d + off, none⟩))
  | nsl : VR X .nsl (.slice none 0 0)
  | sl {blk off len cap cap' sz n d z : Nat} {ex : Bool} (h : X.ρ blk = some (n, d, z)) (hc : cap ≤ cap') (he : ex = true → cap' = cap) (hl : len ≤ cap) (hz : ex = false → d + off + cap' * sz ≤ z) :
      VR X (.sl blk off len cap sz ex) (.slice (some ⟨n, d + off, none⟩) len cap')
  | nm : VR X .nm (.map none)
  | m {blk n d z : Nat} (h : X.ρ blk = some (n, d, z)) : VR X (.m blk) (.map (some n))
  | fn {f : Fn} {a b : List MV} {a' b' : List Value} (ha : VRs X a a') (hb : VRs X b b') : VR X (.fn f a b) (.func f ⟨a'⟩ ⟨b'⟩)
  | yl {blk n d z : Nat} (h : X.ρ blk = some (n, d, z)) : VR X (.yl blk) (.func (.yield n) ⟨[]⟩ ⟨[]⟩)
  | nfn : VR X .nfn .nilFunc
  | ifc {t : TypeId} {v : MV} {v' : Value} (h : VR X v v') : VR X (.ifc t v) (.iface t v')
  | nif : VR X .nif .nilIface
  | agg {l : List MV} {l' : List Value} (h : VRs X l l') : VR X (.agg l) (.agg ⟨l'⟩)
  | tup {l : List MV} {l' : List Value} (h : VRs X l l') : VR X (.tup l) (.tuple ⟨l'⟩)
  | sym {k : Nat} {v : Value} (h : X.env k = some v) (ho : v.oneCell' = true) : VR X (.sym k) v
  | hid (v : Value) : VR X .hid v
inductive VRs (X : Cx) : List MV → List Value → Prop
  | nil : VRs X [] []
  | cons {v : MV} {v' : Value} {l : List MV} {l' : List Value} (h : VR X v v') (t : VRs X l l') : VRs X (v :: l) (v' :: l')
end

mutual
theorem VR.mono {X Y : Cx} (hl : X.Le Y) : ∀ {v : MV} {v' : Value}, VR X v v' → VR Y v v'
  | _, _, .b x => .b x
  | _, _, .i k n => .i k n
  | _, _, .f k n => .f k n
  | _, _, .c k n m => .c k n m
  | _, _, .s l h => .s l h
  | _, _, .np => .np
  | _, _, .p h => .p (hl.1 _ _ h)
  | _, _, .nsl => .nsl
  | _, _, .sl h a b c d => .sl (hl.1 _ _ h) a b c d
  | _, _, .nm => .nm
  | _, _, .m h => .m (hl.1 _ _ h)
  | _, _, .fn a b => .fn (VRs.mono hl a) (VRs.mono hl b)
  | _, _, .yl h => .yl (hl.1 _ _ h)
  | _, _, .nfn => .nfn
  | _, _, .ifc h => .ifc (VR.mono hl h)
  | _, _, .nif => .nif
  | _, _, .agg h => .agg (VRs.mono hl h)
  | _, _, .tup h => .tup (VRs.mono hl h)
  | _, _, .sym h o => .sym (hl.2 _ _ h) o
  | _, _, .hid v => .hid v
theorem VRs.mono {X Y : Cx} (hl : X.Le Y) : ∀ {l : List MV} {l' : List Value}, VRs X l l' → VRs Y l l'
  | _, _, .nil => .nil
  | _, _, .cons h t => .cons (VR.mono hl h) (VRs.mono hl t)
end

theorem VRs.length {X : Cx} {l : List MV} {l' : List Value} (h : VRs X l l') : l'.length = l.length := by
  induction l generalizing l' with
  | nil => cases h; rfl
  | cons v l ih => cases h with | cons h t => simp [ih t]

theorem VRs.get {X : Cx} {l : List MV} {l' : List Value} (h : VRs X l l') {i : Nat} {v : MV} (hi : l[i]? = some v) : ∃ v', l'[i]? = some v' ∧ VR X v v' := by
  induction l generalizing l' i with
  | nil => simp at hi
  | cons u l ih =>
    cases h with
    | cons h t =>
      cases i with
      | zero => simp at hi; subst hi; exact ⟨_, rfl, h⟩
      | succ i => simp at hi; simpa using ih t hi

theorem VRs.append {X : Cx} {l m : List MV} {l' m' : List Value} (h : VRs X l l') (k : VRs X m m') : VRs X (l ++ m) (l' ++ m') := by
  induction l generalizing l' with
  | nil => cases h; exact k
  | cons u l ih => cases h with | cons h t => exact .cons h (ih t)

theorem VRs.set {X : Cx} {l : List MV} {l' : List Value} (h : VRs X l l') {v : MV} {v' : Value} (hv : VR X v v') (i : Nat) : VRs X (l.set i v) (l'.set i v') := by
  induction l generalizing l' i with
  | nil => cases h; exact .nil
  | cons u l ih =>
    cases h with
    | cons h t =>
      cases i with
      | zero => exact .cons hv t
      | succ i => exact .cons h (ih t i)

theorem VRs.of_get {X : Cx} {l : List MV} {l' : List Value} (hlen : l'.length = l.length) (h : ∀ (i : Nat) (v : MV) (v' : Value), l[i]? = some v → l'[i]? = some v' → VR X v v') : VRs X l l' := by
  induction l generalizing l' with
  | nil => cases l' with
    | nil => exact .nil
    | cons => simp at hlen
  | cons v l ih =>
    cases l' with
    | nil => simp at hlen
    | cons v' l' =>
      refine .cons (h 0 v v' rfl rfl) (ih (by simpa using hlen) fun i a b ha hb => h (i + 1) a b (by simpa using ha) (by simpa using hb))

theorem VRs.drop {X : Cx} {l : List MV} {l' : List Value} (h : VRs X l l') (n : Nat) : VRs X (l.drop n) (l'.drop n) := by
  induction n generalizing l l' with
  | zero => exact h
  | succ n ih =>
    cases h with
    | nil => exact .nil
    | cons _ t => exact ih t

theorem VRs.take {X : Cx} {l : List MV} {l' : List Value} (h : VRs X l l') (n : Nat) : VRs X (l.take n) (l'.take n) := by
  induction n generalizing l l' with
  | zero => exact .nil
  | succ n ih =>
    cases h with
    | nil => exact .nil
    | cons h t => exact .cons h (ih t)

end Go.Ev
