/- The functions without a Go body that the law comes to. -/
import Derived.Test.YtfcpdkcnggfljaaGreatDoorSEvRunA
import Derived.Laws.Externs
namespace Go.Proofs.YtfcpdkcnggfljaaGreatDoor
open Go Go.Ev Go.Proofs

theorem ext_at {f : FuncId} {fn : Func} {e : Array Value → Sem Value} {x : Ext} (hx : x.fn = e) (hf : Tryz.prog.funcs[f]? = some fn) (hname : (fn.name == "runtime.NumGoroutine") = false)
    (hb : fn.body.isNone = true) (hn : Extern.findNext fn = none) (he : Extern.find fn = some e) : ExtOk Tryz.prog f x := by
  intro args W
  rw [hx]
  exact run_callFunc_extern hf hname hb hn he args W

theorem ext_ok : ∀ f x, theEnv.ext f = some x → ExtOk Tryz.prog f x := by
  intro f x h
  have h' : extOf f = some x := h
  unfold extOf at h'
  cases h1 : Nat.beq f 65 <;> rw [h1] at h' <;> simp only [cond_true, cond_false, Option.some.injEq] at h'
  · cases h2 : Nat.beq f 145 <;> rw [h2] at h' <;> simp only [cond_true, cond_false, Option.some.injEq] at h'
    · cases h3 : Nat.beq f 88 <;> rw [h3] at h' <;> simp only [cond_true, cond_false, Option.some.injEq] at h'
      · cases h4 : Nat.beq f 176 <;> rw [h4] at h' <;> simp only [cond_true, cond_false, Option.some.injEq] at h'
        · cases h5 : Nat.beq f 77 <;> rw [h5] at h' <;> simp only [cond_true, cond_false, Option.some.injEq] at h'
          · cases h6 : Nat.beq f 123 <;> rw [h6] at h' <;> simp only [cond_true, cond_false, Option.some.injEq] at h'
            · cases h7 : Nat.beq f 63 <;> rw [h7] at h' <;> simp only [cond_true, cond_false, Option.some.injEq, reduceCtorEq] at h'
              subst h'; obtain rfl := Nat.eq_of_beq_eq_true h7
              exact ext_at (fn := Tryz.f63) (e := Extern.AbiNoEscape.same) rfl (by kernel_rfl) (by kernel_rfl) (by kernel_rfl) (by kernel_rfl) (by kernel_rfl)
            · subst h'; obtain rfl := Nat.eq_of_beq_eq_true h6
              exact ext_at (fn := Tryz.f123) (e := Extern.BytealgCount.count) rfl (by kernel_rfl) (by kernel_rfl) (by kernel_rfl) (by kernel_rfl) (by kernel_rfl)
          · subst h'; obtain rfl := Nat.eq_of_beq_eq_true h5
            exact ext_at (fn := Tryz.f77) (e := Extern.BytealgIndexByte.indexByte) rfl (by kernel_rfl) (by kernel_rfl) (by kernel_rfl) (by kernel_rfl) (by kernel_rfl)
        · subst h'; obtain rfl := Nat.eq_of_beq_eq_true h4
          exact ext_at (fn := Tryz.f176) (e := Extern.MathFloatBits.float64frombits) rfl (by kernel_rfl) (by kernel_rfl) (by kernel_rfl) (by kernel_rfl) (by kernel_rfl)
      · subst h'; obtain rfl := Nat.eq_of_beq_eq_true h3
        exact ext_at (fn := Tryz.f88) (e := Extern.MathFloatBits.float64frombits) rfl (by kernel_rfl) (by kernel_rfl) (by kernel_rfl) (by kernel_rfl) (by kernel_rfl)
    · subst h'; obtain rfl := Nat.eq_of_beq_eq_true h2
      exact ext_at (fn := Tryz.f145) (e := Extern.MathFloatBits.float64bits) rfl (by kernel_rfl) (by kernel_rfl) (by kernel_rfl) (by kernel_rfl) (by kernel_rfl)
  · subst h'; obtain rfl := Nat.eq_of_beq_eq_true h1
    exact ext_at (fn := Tryz.f65) (e := Extern.MathFloatBits.float64bits) rfl (by kernel_rfl) (by kernel_rfl) (by kernel_rfl) (by kernel_rfl) (by kernel_rfl)


end Go.Proofs.YtfcpdkcnggfljaaGreatDoor
