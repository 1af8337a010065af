/- The evaluator: what the listed variables hold, out of a row's condition. -/
import Derived.Test.YtghcpfgpmliiaaaGreatDoorEvS
import Derived.Lib.LaidTab
import Derived.OpenShut
import Derived.ChangeArms
namespace Go.Ev
open Go.RowKit (Below)

def LayR (X : Cx) (M : Mem) (w : World) : Prop :=
  (∀ b mb, M.h.get b = some mb → BR X w b mb) ∧ (∀ b x, X.ρ b = some x → x.1 < w.heap.size) ∧ (∀ b, M.next ≤ b → X.ρ b = none)

def Good (w : World) (ps : List MemPlace) : Prop := ∀ b off, MemPlace.cell b off ∈ ps → ∃ c t, w.heap[b]? = some (.cells c t (0, 0))

abbrev tr (P : Program) (w : World) (fuel : Nat) (t : TypeId) (cs : List Value) : Option (DataW Unit × List MemPlace) := DataW.trod (fun _ => ()) P w 0 (fun _ => true) false fuel t cs

section
variable {P : Program} {w : World}

theorem new_lay {X : Cx} {M M' : Mem} {l : List MV} {b n d z : Nat} {c : List Value} {e' : TypeId} (h : LayR X M w) (hn : M.new (.cells l anyT .none false) = some (b, M')) (hw : w.heap[n]? = some (.cells ⟨c⟩ e' (0, 0)))
    (hz : c.length = z) (hle : d + l.length ≤ z) (hv : VRs X l ((c.drop d).take l.length)) : ∃ X', X.Le X' ∧ LayR X' M' w ∧ X'.ρ b = some (n, d, z) := by
  unfold Mem.new at hn
  cases hcond : Nat.blt M.next top with
  | false => rw [hcond] at hn; cases hn
  | true =>
    rw [hcond] at hn
    simp only [cond_true, Option.some.injEq, Prod.mk.injEq] at hn
    obtain ⟨rfl, rfl⟩ := hn
    have ht : M.next < top := by simpa using hcond
    have hnone : X.ρ M.next = none := h.2.2 _ (Nat.le_refl _)
    have hl : X.Le (X.add M.next (n, d, z)) := Cx.add_le hnone
    refine ⟨X.add M.next (n, d, z), hl, ⟨?_, ?_, ?_⟩, Cx.add_same _ _ _⟩
    · intro j m hj
      rw [Tr.get_set _ _ _ _ _ (top_lt ht)] at hj
      by_cases e : j = M.next
      · subst e; simp only [if_true, Option.some.injEq] at hj; subst hj
        exact ⟨n, d, z, _, Cx.add_same _ _ _, hw, c, (0, 0), e', rfl, hz, hle, hv.mono hl, rfl, by simp, by simp [anyT]⟩
      · rw [if_neg e] at hj
        obtain ⟨n1, d1, z1, o1, h1, h2, h3⟩ := h.1 j m hj
        exact ⟨n1, d1, z1, o1, hl.1 _ _ h1, h2, h3.mono hl⟩
    · intro j x hx
      by_cases e : j = M.next
      · subst e; rw [Cx.add_same] at hx; simp only [Option.some.injEq] at hx; subst hx
        exact (Array.getElem?_eq_some_iff.1 hw).1
      · rw [Cx.add_ne _ _ e] at hx; exact h.2.1 j x hx
    · intro j hj
      have hj' : M.next + 1 ≤ j := hj
      rw [Cx.add_ne _ _ (by omega)]
      exact h.2.2 j (by omega)

theorem cells_run {a : Addr} {n : Nat} {c ci : List Value} {e : TypeId} {f : Nat × Nat} (hb : w.heap[a.block]? = some (.cells ⟨c⟩ e f)) (h : w.cells? 0 a n = some ci) :
    ci = (c.drop a.off).take n ∧ ci.length = n ∧ (0 < n → a.spot = none ∧ a.off + n ≤ c.length) := by
  unfold World.cells? at h
  rw [if_pos (Nat.zero_le _)] at h
  have hlen : ci.length = n := by simpa using Lib.mapM_length h
  have hat : ∀ i, i < n → ∃ b, ci[i]? = some b ∧ w.cell? (a.add i) = some b := fun i hi => Lib.mapM_at h i i (by simp [hi])
  have hcell : ∀ i, i < n → ci[i]? = c[a.off + i]? ∧ ∃ b, c[a.off + i]? = some b := by
    intro i hi
    obtain ⟨b, h1, h2⟩ := hat i hi
    have : c[a.off + i]? = some b := by
      unfold Addr.add at h2
      by_cases e0 : i = 0
      · subst e0
        simp only [if_true] at h2
        unfold World.cell? at h2
        rw [hb] at h2
        simp only at h2
        split at h2
        · cases h2
        · simpa using h2
      · rw [if_neg e0] at h2
        unfold World.cell? at h2
        simp only [hb] at h2
        simpa using h2
    exact ⟨by rw [h1, this], b, this⟩
  refine ⟨?_, hlen, fun hn => ⟨?_, ?_⟩⟩
  · apply List.ext_getElem?
    intro i
    by_cases hi : i < n
    · rw [(hcell i hi).1, List.getElem?_take_of_lt hi, List.getElem?_drop]
    · rw [List.getElem?_eq_none (by omega), List.getElem?_eq_none (by simp; omega)]
  · obtain ⟨b, _, h2⟩ := hat 0 hn
    unfold Addr.add at h2
    simp only [if_true] at h2
    unfold World.cell? at h2
    rw [hb] at h2
    simp only at h2
    split at h2
    · cases h2
    · rename_i hs; simpa using hs
  · obtain ⟨_, b, hb'⟩ := hcell (n - 1) (by omega)
    have := (List.getElem?_eq_some_iff.1 hb').1
    omega

theorem bs_list (s : ByteArray) : bs (s.data.toList.map UInt8.toNat) = s := bs_toNat s

theorem bs_lt (l : List UInt8) : ∀ x ∈ l.map UInt8.toNat, x < 256 := by
  intro x hx
  obtain ⟨y, _, rfl⟩ := List.mem_map.1 hx
  exact y.toNat_lt

/-- A literal, nil, an interface: one cell. -/
theorem trod_float {fuel : Nat} {t : TypeId} {cs : List Value} {k : FloatKind} {x : DataW Unit × List MemPlace} (ht : P.underlying t = some (.float k)) (h : tr P w fuel t cs = some x) : ∃ b, cs = [.float k b] ∧ x = (.lit (.float k b), []) := by
  cases fuel with
  | zero => simp [tr, DataW.trod] at h
  | succ n =>
    unfold tr DataW.trod at h
    rw [ht] at h
    split at h <;> simp_all

theorem lay_lit {fuel : Nat} {t : TypeId} {cs : List Value} {l : Lit} {ps : List MemPlace} {v : MV} {X : Cx} (hf : flatLit (P.underlying t) = true) (h : tr P w fuel t cs = some (.lit l, ps)) (hm : litM l = some v) : VRs X [v] cs := by
  unfold flatLit at hf
  split at hf
  · rename_i ht
    obtain ⟨b, rfl, hx⟩ := DataW.trod_bool ht h
    simp only [Prod.mk.injEq, DataW.lit.injEq] at hx
    obtain ⟨rfl, _⟩ := hx
    simp only [litM, Option.some.injEq] at hm; subst hm
    exact .cons (.b _) .nil
  · rename_i k ht
    obtain ⟨b, rfl, hx, _⟩ := DataW.trod_int ht h
    simp only [Prod.mk.injEq, DataW.lit.injEq] at hx
    obtain ⟨rfl, _⟩ := hx
    simp only [litM, Option.some.injEq] at hm; subst hm
    exact .cons (.i _ _) .nil
  · rename_i k ht
    obtain ⟨b, rfl, hx⟩ := trod_float ht h
    simp only [Prod.mk.injEq, DataW.lit.injEq] at hx
    obtain ⟨rfl, _⟩ := hx
    simp only [litM, Option.some.injEq] at hm; subst hm
    exact .cons (.f _ _) .nil
  · rename_i ht
    obtain ⟨s, rfl, hx, _⟩ := DataW.trod_string ht h
    simp only [Prod.mk.injEq, DataW.lit.injEq] at hx
    obtain ⟨rfl, _⟩ := hx
    simp only [litM, Option.some.injEq] at hm; subst hm
    have := VR.s (X := X) (s.data.toList.map UInt8.toNat) (bs_lt _)
    rw [bs_list] at this
    exact .cons this .nil
  · cases hf

theorem lay_nil {fuel : Nat} {t : TypeId} {cs : List Value} {ps : List MemPlace} {v : MV} {X : Cx} (h : tr P w fuel t cs = some (.nil, ps)) (hm : nilOf (P.underlying t) = some v) : VRs X [v] cs := by
  unfold nilOf at hm
  split at hm
  · rename_i e ht
    simp only [Option.some.injEq] at hm; subst hm
    rcases DataW.trod_pointer ht h with ⟨rfl, _⟩ | ⟨a, cs', y, n, _, _, hx, _⟩
    · exact .cons .np .nil
    · simp at hx
  · rename_i e ht
    simp only [Option.some.injEq] at hm; subst hm
    rcases DataW.trod_slice ht h with ⟨rfl, _⟩ | ⟨a, len, cap, el, rs, n, _, _, hx, _⟩
    · exact .cons .nsl .nil
    · simp at hx
  · cases hm

theorem lay_iface {fuel : Nat} {t : TypeId} {cs : List Value} {nm : String} {d : DataW Unit} {ps : List MemPlace} {X : Cx} (hi : isIface (P.underlying t) = true) (h : tr P w fuel t cs = some (.iface nm d, ps)) : VRs X [.hid] cs := by
  have : ∃ v, cs = [v] := by
    unfold isIface at hi
    split at hi
    · rename_i m ht
      cases fuel with
      | zero => simp [tr, DataW.trod] at h
      | succ n =>
        unfold tr DataW.trod at h
        rw [ht] at h
        split at h <;> simp_all
    · cases hi
  obtain ⟨v, rfl⟩ := this
  exact .cons (.hid _) .nil

def total (P : Program) (ts : List TypeId) : Nat := (ts.map P.cellsOf).sum

/-- One datum. -/
def LaySound (P : Program) (w : World) (n : Nat) : Prop := ∀ (t : TypeId) (d : DataW Unit) (M M' : Mem) (l : List MV) (fuel : Nat) (cs : List Value) (ps : List MemPlace) (X : Cx),
  layV P n t d M = some (l, M') → tr P w fuel t cs = some (d, ps) → Good w ps → LayR X M w → ∃ X', X.Le X' ∧ LayR X' M' w ∧ VRs X' l cs

theorem fields_sound {n : Nat} (ih : LaySound P w n) (cs : List Value) : ∀ (ts : List TypeId) (ds : List (DataW Unit)) (off : Nat) (M M' : Mem) (l : List MV) (X : Cx), fieldsW (layV P n) ts ds M = some (l, M') →
    (∀ i t d, ts[i]? = some t → ds[i]? = some d → ∃ fuel p, tr P w fuel t ((cs.drop (off + total P (ts.take i))).take (P.cellsOf t)) = some (d, p) ∧ Good w p) → LayR X M w →
    ∃ X', X.Le X' ∧ LayR X' M' w ∧ VRs X' l ((cs.drop off).take (total P ts))
  | [], [], off, M, M', l, X, h, _, hl => by
    simp only [fieldsW, Option.some.injEq, Prod.mk.injEq] at h
    obtain ⟨rfl, rfl⟩ := h
    exact ⟨X, Cx.Le.refl X, hl, by simp [total]; exact .nil⟩
  | [], _ :: _, off, M, M', l, X, h, _, hl => by simp [fieldsW] at h
  | _ :: _, [], off, M, M', l, X, h, _, hl => by simp [fieldsW] at h
  | t :: ts, d :: ds, off, M, M', l, X, h, hr, hl => by
    simp only [fieldsW] at h
    split at h
    · rename_i a M1 h1
      split at h
      · rename_i b M2 h2
        simp only [Option.some.injEq, Prod.mk.injEq] at h
        obtain ⟨rfl, rfl⟩ := h
        obtain ⟨fuel, p, hp, hg⟩ := hr 0 t d rfl rfl
        simp only [List.take_zero, total, List.map_nil, List.sum_nil, Nat.add_zero] at hp
        obtain ⟨X1, hle1, hl1, hv1⟩ := ih t d M M1 a fuel _ p X h1 hp hg hl
        obtain ⟨X2, hle2, hl2, hv2⟩ := fields_sound ih cs ts ds (off + P.cellsOf t) M1 M2 b X1 h2 (fun i t' d' ht hd => by
          have := hr (i + 1) t' d' ht hd
          simpa [total, Nat.add_assoc] using this) hl1
        refine ⟨X2, hle1.trans hle2, hl2, ?_⟩
        have e : (cs.drop off).take (total P (t :: ts)) = (cs.drop off).take (P.cellsOf t) ++ (cs.drop (off + P.cellsOf t)).take (total P ts) := by
          have : total P (t :: ts) = P.cellsOf t + total P ts := by simp [total]
          rw [this, List.take_add, List.drop_drop]
        rw [e]
        exact (hv1.mono hle2).append hv2
      · cases h
    · cases h

theorem Good.sub {ps qs : List MemPlace} (h : Good w ps) (hs : ∀ x ∈ qs, x ∈ ps) : Good w qs := fun b off hb => h b off (hs _ hb)

theorem contig_at : ∀ (fs : List Field) (o z : Nat), contigB P fs o z = true → o + total P (fs.map (·.type)) = z ∧ ∀ i f, fs[i]? = some f → f.offset = o + total P ((fs.map (·.type)).take i)
  | [], o, z, h => by
    simp only [contigB] at h
    exact ⟨by simpa [total] using Nat.eq_of_beq_eq_true h, by simp⟩
  | f :: r, o, z, h => by
    simp only [contigB, Bool.and_eq_true] at h
    obtain ⟨h1, h2⟩ := h
    obtain ⟨h3, h4⟩ := contig_at r _ z h2
    have h3' : o + P.cellsOf f.type + total P (r.map (·.type)) = z := h3
    refine ⟨by simp only [List.map_cons, total, List.sum_cons]; simp only [total] at h3'; omega, fun i g hg => ?_⟩
    cases i with
    | zero => simp only [List.getElem?_cons_zero, Option.some.injEq] at hg; subst hg; simpa [total] using Nat.eq_of_beq_eq_true h1
    | succ i =>
      simp only [List.getElem?_cons_succ] at hg
      have := h4 i g hg
      rw [this]
      show o + P.cellsOf f.type + _ = _
      simp [total, Nat.add_assoc]

theorem total_rep (t : TypeId) (ds : List (DataW Unit)) : total P (List.replicate ds.length t) = ds.length * P.cellsOf t := by
  simp [total, List.sum_replicate_nat]

theorem total_rep_take (t : TypeId) (ds : List (DataW Unit)) (i : Nat) (hi : i ≤ ds.length) : total P ((List.replicate ds.length t).take i) = i * P.cellsOf t := by
  rw [List.take_replicate, Nat.min_eq_left hi]
  simp [total, List.sum_replicate_nat]

theorem mem_flat {xs : List (DataW Unit × List MemPlace)} {i : Nat} {x : DataW Unit × List MemPlace} (h : xs[i]? = some x) : ∀ q ∈ x.2, q ∈ xs.flatMap (·.2) := fun q hq =>
  List.mem_flatMap.2 ⟨x, List.mem_of_getElem? h, hq⟩

theorem addr_eta {a : Addr} (h : a.spot = none) : a = ⟨a.block, a.off + 0, none⟩ := by
  obtain ⟨b, o, s⟩ := a
  simp only at h
  subst h
  rfl

theorem lay_sound : ∀ n, LaySound P w n := by
  intro n
  induction n with
  | zero => intro t d M M' l fuel cs ps X h; cases h
  | succ n ih =>
    intro t d M M' l fuel cs ps X h hr hg hl
    replace h : layOne P (layV P n) t d M = some (l, M') := h
    unfold layOne at h
    split at h
    · rename_i lit
      cases hf : flatLit (P.underlying t) <;> rw [hf] at h <;> simp only [cond_true, cond_false, reduceCtorEq] at h
      split at h
      · rename_i v hv
        simp only [Option.some.injEq, Prod.mk.injEq] at h
        obtain ⟨rfl, rfl⟩ := h
        exact ⟨X, Cx.Le.refl X, hl, lay_lit hf hr hv⟩
      · cases h
    · split at h
      · rename_i v hv
        simp only [Option.some.injEq, Prod.mk.injEq] at h
        obtain ⟨rfl, rfl⟩ := h
        exact ⟨X, Cx.Le.refl X, hl, lay_nil hr hv⟩
      · cases h
    · rename_i es
      split at h
      · rename_i et ht
        rw [seqN_eq] at h
        cases hb : (Nat.blt 0 (P.cellsOf et) && Nat.blt 0 es.length) <;> rw [hb] at h <;> simp only [cond_true, cond_false, reduceCtorEq] at h
        simp only [Bool.and_eq_true, Nat.blt_eq] at hb
        obtain ⟨hs0, he0⟩ := hb
        split at h
        · rename_i cl M1 h1
          split at h
          · rename_i b M2 h2
            simp only [Option.some.injEq, Prod.mk.injEq] at h
            obtain ⟨rfl, rfl⟩ := h
            rcases DataW.trod_slice ht hr with ⟨_, hx⟩ | ⟨a, len, cap, elems, rest, m, rfl, rfl, hx, _, hlc, hcm, hel, hat, hsp, _⟩
            · simp at hx
            · simp only [Prod.mk.injEq, DataW.slice.injEq] at hx
              obtain ⟨⟨hes, hrs⟩, hps⟩ := hx
              have hrest : rest = [] := by simpa using hrs.symm
              subst hrest
              obtain ⟨hrl, _⟩ := hsp rfl
              simp only [List.length_nil] at hrl
              have hcl : cap = len := by omega
              subst hcl
              have hesl : es.length = cap := by rw [hes, List.length_map, hel]
              simp only [List.length_nil, Nat.add_zero, List.append_nil] at hps
              have hpos : 0 < elems.length * P.cellsOf et := Nat.mul_pos (by omega) hs0
              obtain ⟨⟨c⟩, e', hblk⟩ := hg a.block a.off (by
                rw [hps]
                refine List.mem_append_left _ ?_
                unfold MemPlace.row
                exact List.mem_map.2 ⟨0, List.mem_range.2 hpos, by simp⟩)
              have piece : ∀ i, i < cap → ∃ x, elems[i]? = some x ∧ tr P w m et ((c.drop (a.off + i * P.cellsOf et)).take (P.cellsOf et)) = some x ∧ (i = 0 → a.spot = none) ∧ a.off + i * P.cellsOf et + P.cellsOf et ≤ c.length := by
                intro i hi
                have h3 := hat i hi
                obtain ⟨x, hx⟩ : ∃ x, elems[i]? = some x := ⟨elems[i]'(by omega), List.getElem?_eq_getElem (by omega)⟩
                rw [hx] at h3
                obtain ⟨ci, hci, hci2⟩ := Option.bind_eq_some_iff.1 h3
                have hab : (a.add (i * P.cellsOf et)).block = a.block := by unfold Addr.add; split <;> rfl
                have hao : (a.add (i * P.cellsOf et)).off = a.off + i * P.cellsOf et := by
                  unfold Addr.add
                  by_cases e0 : i * P.cellsOf et = 0
                  · rw [if_pos e0, e0]; rfl
                  · rw [if_neg e0]
                obtain ⟨g1, g2, g3⟩ := cells_run (a := a.add (i * P.cellsOf et)) (by rw [hab]; exact hblk) hci
                rw [hao] at g1 g3
                refine ⟨x, hx, by rw [← g1]; exact hci2, fun hi0 => ?_, (g3 hs0).2⟩
                have := (g3 hs0).1
                subst hi0
                simpa [Addr.add] using this
              obtain ⟨X1, hle1, hl1, hv1⟩ := fields_sound ih c (List.replicate es.length et) es a.off M M1 cl X h1 (fun i t' d' ht' hd' => by
                have hi : i < es.length := (List.getElem?_eq_some_iff.1 hd').1
                obtain ⟨x, hx, hx2, _, _⟩ := piece i (by omega)
                have ht2 : t' = et := by simpa [hi] using ht'.symm
                subst ht2
                rw [total_rep_take _ _ _ (by omega)]
                have hdx : d' = x.1 := by
                  rw [hes, List.getElem?_map, hx] at hd'
                  simpa using hd'.symm
                refine ⟨m, x.2, by rw [hx2, hdx], hg.sub fun q hq => ?_⟩
                rw [hps]
                exact List.mem_append_right _ (mem_flat hx q hq)) hl
              rw [total_rep] at hv1
              obtain ⟨_, _, _, _, hfit⟩ := piece (cap - 1) (by omega)
              obtain ⟨_, _, _, hsp0, _⟩ := piece 0 (by omega)
              have hfit' : a.off + cap * P.cellsOf et ≤ c.length := by
                obtain ⟨k, rfl⟩ : ∃ k, cap = k + 1 := ⟨cap - 1, by omega⟩
                simp only [Nat.add_sub_cancel, Nat.add_mul, Nat.one_mul] at hfit ⊢
                omega
              have hll : cl.length = cap * P.cellsOf et := by
                have := hv1.length
                rw [hesl] at this
                rw [← this, List.length_take, List.length_drop]
                omega
              obtain ⟨X2, hle2, hl2, hρ⟩ := new_lay hl1 h2 hblk rfl (d := a.off) (by rw [hll]; exact hfit') (by rw [hll, ← hesl]; exact hv1)
              refine ⟨X2, hle1.trans hle2, hl2, .cons ?_ .nil⟩
              have haddr : a = ⟨a.block, a.off + 0, none⟩ := addr_eta (hsp0 rfl)
              rw [haddr, hesl]
              exact .sl hρ (Nat.le_refl _) (fun _ => rfl) (Nat.le_refl _) (fun hh => by cases hh)
          · cases h
        · cases h
      · cases h
    · rename_i ds
      split at h
      · rename_i fs ht
        cases hb : contigB P fs.toList 0 (P.cellsOf t) <;> rw [hb] at h <;> simp only [cond_true, cond_false, reduceCtorEq] at h
        obtain ⟨htot, hoff⟩ := contig_at _ _ _ hb
        obtain ⟨xs, m, rfl, hx, hcl, hxl, hat⟩ := DataW.trod_struct ht hr
        simp only [Prod.mk.injEq, DataW.agg.injEq] at hx
        obtain ⟨hds, hps⟩ := hx
        obtain ⟨X1, hle1, hl1, hv1⟩ := fields_sound ih cs (fs.toList.map (·.type)) ds 0 M M' l X h (fun i t' d' ht' hd' => by
          rw [List.getElem?_map] at ht'
          obtain ⟨f, hf, rfl⟩ := Option.map_eq_some_iff.1 ht'
          have h3 := hat i f (by simpa using hf)
          rw [hds, List.getElem?_map] at hd'
          obtain ⟨x, hx, rfl⟩ := Option.map_eq_some_iff.1 hd'
          rw [hx, hoff i f hf] at h3
          exact ⟨m, x.2, h3, hg.sub fun q hq => by rw [hps]; exact mem_flat hx q hq⟩) hl
        refine ⟨X1, hle1, hl1, ?_⟩
        have : total P (fs.toList.map (·.type)) = cs.length := by omega
        rw [this, List.drop_zero, List.take_length] at hv1
        exact hv1
      · rename_i k et ht
        rw [seqN_eq] at h
        cases hb : Nat.beq (P.cellsOf t) (Nat.mul k (P.cellsOf et)) <;> rw [hb] at h <;> simp only [cond_true, cond_false, reduceCtorEq] at h
        have hct : P.cellsOf t = k * P.cellsOf et := Nat.eq_of_beq_eq_true hb
        obtain ⟨xs, m, rfl, hx, hcl, hxl, hat⟩ := DataW.trod_array ht hr
        simp only [Prod.mk.injEq, DataW.agg.injEq] at hx
        obtain ⟨hds, hps⟩ := hx
        have hdl : ds.length = k := by rw [hds, List.length_map, hxl]
        obtain ⟨X1, hle1, hl1, hv1⟩ := fields_sound ih cs (List.replicate ds.length et) ds 0 M M' l X h (fun i t' d' ht' hd' => by
          have hi : i < ds.length := (List.getElem?_eq_some_iff.1 hd').1
          have ht2 : t' = et := by simpa [hi] using ht'.symm
          subst ht2
          have h3 := hat i (by omega)
          rw [total_rep_take _ _ _ (by omega), Nat.zero_add]
          rw [hds, List.getElem?_map] at hd'
          obtain ⟨x, hx, rfl⟩ := Option.map_eq_some_iff.1 hd'
          rw [hx] at h3
          exact ⟨m, x.2, h3, hg.sub fun q hq => by rw [hps]; exact mem_flat hx q hq⟩) hl
        refine ⟨X1, hle1, hl1, ?_⟩
        rw [total_rep, hdl, ← hct, ← hcl, List.drop_zero, List.take_length] at hv1
        exact hv1
      · cases h
    · cases hi : isIface (P.underlying t) <;> rw [hi] at h <;> simp only [cond_true, cond_false, reduceCtorEq] at h
      simp only [Option.some.injEq, Prod.mk.injEq] at h
      obtain ⟨rfl, rfl⟩ := h
      exact ⟨X, Cx.Le.refl X, hl, lay_iface hi hr⟩
    · cases h

/-- The list of a row and the evaluator's list: the same variables. -/
inductive SameL (P : Program) : List (String × DataW Unit) → List (Nat × TypeId × DataW Unit) → Prop
  | nil : SameL P [] []
  | cons {n : String} {d : DataW Unit} {g : Nat} {t : TypeId} {r : List (String × DataW Unit)} {r' : List (Nat × TypeId × DataW Unit)} (hg : P.globalNamed n = some g) (ht : (P.globals[g]?).map (·.type) = some t) (h : SameL P r r') : SameL P ((n, d) :: r) ((g, t, d) :: r')

theorem same_sizes : ∀ {a : List (String × DataW Unit)} {l : List (Nat × TypeId × DataW Unit)} {ps : List MemPlace}, SameL P a l → DataW.LaidVars P w a ps → ∀ x ∈ l, x.1 < w.heap.size
  | _, _, ps, .nil, _, x, hx => by cases hx
  | _, _, ps, .cons hg ht h, hv, x, hx => by
    obtain ⟨g', t', cs, fuel, p, q, hg', ht', hvar, hd, hrest, he⟩ := hv
    rcases List.mem_cons.1 hx with e | e
    · subst e
      rw [hg] at hg'
      obtain rfl := Option.some.inj hg'
      simp only [World.var?, hg, Option.bind_some] at hvar
      split at hvar
      · rename_i hh; exact (Array.getElem?_eq_some_iff.1 hh).1
      · cases hvar
    · exact same_sizes h hrest x e

theorem layVars_sound {X0 : Cx} (hX0 : ∀ g, (∃ x, X0.ρ g = some x) → ∃ z, X0.ρ g = some (g, 0, z) ∧ ∀ c t f, w.heap[g]? = some (.cells c t f) → z = c.size) : ∀ {a : List (String × DataW Unit)} {l : List (Nat × TypeId × DataW Unit)} {ps : List MemPlace} {M M' : Mem} {X : Cx}, SameL P a l → DataW.LaidVars P w a ps → Good w ps →
    (∀ x ∈ l, ∃ y, X0.ρ x.1 = some y) → X0.Le X → layVars P l M = some M' → LayR X M w → ∃ X', X.Le X' ∧ LayR X' M' w
  | _, _, ps, M, M', X, .nil, _, _, _, _, h, hl => by
    simp only [layVars, Option.some.injEq] at h; subst h
    exact ⟨X, Cx.Le.refl X, hl⟩
  | _, _, ps, M, M', X, @SameL.cons _ _ _ g' t' _ _ hg ht hs, hv, hgood, hin, hx0, h, hl => by
    obtain ⟨g2, t2, cs, fuel, p, q, hg', ht', hvar, hd, hrest, he⟩ := hv
    rw [hg] at hg'
    have eg : g2 = g' := (Option.some.inj hg').symm
    subst g2
    rw [ht] at ht'
    have et : t2 = t' := (Option.some.inj ht').symm
    subst t2
    simp only [layVars] at h
    split at h
    · rename_i cl M1 h1
      cases hb : (Nat.blt 0 cl.length && Nat.blt g' top) <;> rw [hb] at h <;> simp only [cond_true, cond_false, reduceCtorEq] at h
      simp only [Bool.and_eq_true, Nat.blt_eq] at hb
      obtain ⟨hb0, hb1⟩ := hb
      subst he
      have hgp : Good w p := hgood.sub fun x hx => by simp [hx]
      obtain ⟨X1, hle1, hl1, hv1⟩ := lay_sound 20 _ _ _ _ _ _ _ _ X h1 hd hgp hl
      obtain ⟨y, hy⟩ := hin _ (List.mem_cons_self)
      obtain ⟨z, hz, hzc⟩ := hX0 g' ⟨y, hy⟩
      have hρ := (hx0.trans hle1).1 _ _ hz
      have hcl : cl.length = cs.toList.length := hv1.length.symm
      have hheap : ∃ t0, w.heap[g']? = some (.cells cs t0 (0, 0)) := by
        obtain ⟨c1, t1, hh⟩ := hgood g' 0 (by
          refine List.mem_append_left _ (List.mem_append_left _ ?_)
          unfold MemPlace.row
          exact List.mem_map.2 ⟨0, List.mem_range.2 (by rw [← Array.length_toList]; omega), by simp⟩)
        simp only [World.var?, hg, Option.bind_some, hh, Option.some.injEq] at hvar
        subst hvar
        exact ⟨t1, hh⟩
      obtain ⟨t0, hheap⟩ := hheap
      have hzs : z = cs.size := hzc _ _ _ hheap
      have hl2 : LayR X1 { M1 with h := Tr.set 23 M1.h g' (some (.cells cl anyT .none false)) } w := by
        refine ⟨fun j m hj => ?_, hl1.2.1, hl1.2.2⟩
        rw [Tr.get_set _ _ _ _ _ (top_lt hb1)] at hj
        by_cases e : j = g'
        · subst e; simp only [if_true, Option.some.injEq] at hj; subst hj
          refine ⟨j, 0, z, _, hρ, hheap, cs.toList, (0, 0), t0, rfl, by rw [hzs]; simp, by rw [hzs, Nat.zero_add, hcl]; simp, ?_, rfl, by simp, by simp [anyT]⟩
          rw [List.drop_zero, hcl, List.take_length]
          exact hv1
        · rw [if_neg e] at hj; exact hl1.1 j m hj
      obtain ⟨X2, hle2, hl3⟩ := layVars_sound hX0 hs hrest (hgood.sub fun x hx => by simp [hx]) (fun x hx => hin x (List.mem_cons_of_mem _ hx)) (hx0.trans hle1) h hl2
      exact ⟨X2, hle1.trans hle2, hl3⟩
    · cases h

/-- THE START: what a row's condition gives the evaluator. -/
theorem start_sound {a : List (String × DataW Unit)} {l : List (Nat × TypeId × DataW Unit)} {ng : Nat} {M : Mem} {W : World} (h : laidMet P a W) (hs : SameL P a l) (hl : (l.all fun x => Nat.blt x.1 ng) = true) (hn : (l.any fun x => Nat.beq (x.1 + 1) ng) = true)
    (hc : startM P ng l = some M) : ∃ X, GR ng X ∧ MemR X Fr.none W M W := by
  obtain ⟨ps, hv, _, hps⟩ := h
  have hgood : Good W ps := fun b off hb => (hps b off hb).1
  have hsz := same_sizes hs hv
  obtain ⟨x, hx, hx1⟩ := List.any_eq_true.1 hn
  have hng : ng ≤ W.heap.size := by
    have := hsz x hx
    have := Nat.eq_of_beq_eq_true hx1
    omega
  let X0 : Cx := { ρ := fun g => if g < ng then some (g, 0, match W.heap[g]? with | some (.cells c _ _) => c.size | _ => 0) else none, env := fun _ => none }
  have h0 : LayR X0 ⟨.e, ng, 0⟩ W := by
    refine ⟨fun b mb hb => by simp [Tr.get_e] at hb, fun b x hx => ?_, fun b hb => ?_⟩
    · simp only [X0] at hx
      split at hx
      · simp only [Option.some.injEq] at hx; subst hx; show b < _; omega
      · cases hx
    · have hb' : ng ≤ b := hb
      simp only [X0]; rw [if_neg (by omega)]
  unfold startM at hc
  split at hc
  · rename_i M1 hM
    simp only [Option.some.injEq] at hc; subst hc
    obtain ⟨X, hle, hL⟩ := layVars_sound (X0 := X0) (fun g ⟨x, hx⟩ => by
        simp only [X0] at hx
        split at hx
        · rename_i hgn
          refine ⟨_, by simp only [X0]; rw [if_pos hgn], fun c t f hh => by rw [hh]⟩
        · cases hx) hs hv hgood (fun x hx => ⟨_, by simp only [X0]; rw [if_pos (by simpa using List.all_eq_true.1 hl x hx)]⟩) (Cx.Le.refl X0) hM h0
    refine ⟨X, fun g hg => ⟨_, hle.1 g _ (by simp only [X0]; rw [if_pos hg])⟩, hL.1, ?_, hL.2.1, hL.2.2, ?_, Kept.refl _ _, (fun n o ho => by cases ho), Nat.le_refl _⟩
    · intro b1 b2 m1 m2 hr _ h2
      exfalso
      obtain ⟨n, d, z, o, h3, _⟩ := hL.1 b2 m2 h2
      rw [hL.2.2 b2 hr] at h3; cases h3
    · intro b x hb hx
      rw [hL.2.2 b hb] at hx; cases hx
  · cases hc
end
end Go.Ev
