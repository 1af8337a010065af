/- The functions without a Go body that the law comes to. -/
import Derived.Test.YtghcpfgpmliiaaaGreatDoorSEvRunA
import Derived.Laws.Externs
namespace Go.Proofs.YtghcpfgpmliiaaaGreatDoor
open Go Go.Ev Go.Proofs

theorem ext_at {f : FuncId} {fn : Func} {e : Array Value → Sem Value} {x : Ext} (hx : x.fn = e) (hf : Tryz.prog.funcs[f]? = some fn) (hname : (fn.name == "runtime.NumGoroutine") = false)
    (hb : fn.body.isNone = true) (hn : Extern.findNext fn = none) (he : Extern.find fn = some e) : ExtOk Tryz.prog f x := by
  intro args W
  rw [hx]
  exact run_callFunc_extern hf hname hb hn he args W

theorem ext_ok_81 : ExtOk Tryz.prog 81 (.plain Extern.MathFloatBits.float64bits) := ext_at (fn := Tryz.f81) (e := Extern.MathFloatBits.float64bits) rfl (by kernel_rfl) (by kernel_rfl) (by kernel_rfl) (by kernel_rfl) (by kernel_rfl)
theorem ext_ok_109 : ExtOk Tryz.prog 109 (.plain (Extern.MathBitsCarry.rows.getD 0 default).2) := ext_at (fn := Tryz.f109) (e := (Extern.MathBitsCarry.rows.getD 0 default).2) rfl (by kernel_rfl) (by kernel_rfl) (by kernel_rfl) (by kernel_rfl) (by kernel_rfl)
theorem ext_ok_112 : ExtOk Tryz.prog 112 (.plain Extern.BytealgCompare.compare) := ext_at (fn := Tryz.f112) (e := Extern.BytealgCompare.compare) rfl (by kernel_rfl) (by kernel_rfl) (by kernel_rfl) (by kernel_rfl) (by kernel_rfl)
theorem ext_ok_122 : ExtOk Tryz.prog 122 (.plain Extern.MathFloatBits.float64frombits) := ext_at (fn := Tryz.f122) (e := Extern.MathFloatBits.float64frombits) rfl (by kernel_rfl) (by kernel_rfl) (by kernel_rfl) (by kernel_rfl) (by kernel_rfl)
theorem ext_ok_123 : ExtOk Tryz.prog 123 (.plain Extern.BytealgIndexByte.indexByte) := ext_at (fn := Tryz.f123) (e := Extern.BytealgIndexByte.indexByte) rfl (by kernel_rfl) (by kernel_rfl) (by kernel_rfl) (by kernel_rfl) (by kernel_rfl)
theorem ext_ok_178 : ExtOk Tryz.prog 178 (.plain Extern.MathFloatBits.float64frombits) := ext_at (fn := Tryz.f178) (e := Extern.MathFloatBits.float64frombits) rfl (by kernel_rfl) (by kernel_rfl) (by kernel_rfl) (by kernel_rfl) (by kernel_rfl)
theorem ext_ok_184 : ExtOk Tryz.prog 184 (.plain Extern.BytealgCount.count) := ext_at (fn := Tryz.f184) (e := Extern.BytealgCount.count) rfl (by kernel_rfl) (by kernel_rfl) (by kernel_rfl) (by kernel_rfl) (by kernel_rfl)
theorem ext_ok_211 : ExtOk Tryz.prog 211 (.plain Extern.MathFloatBits.float64bits) := ext_at (fn := Tryz.f211) (e := Extern.MathFloatBits.float64bits) rfl (by kernel_rfl) (by kernel_rfl) (by kernel_rfl) (by kernel_rfl) (by kernel_rfl)
theorem ext_ok_221 : ExtOk Tryz.prog 221 (.same) := ext_at (fn := Tryz.f221) (e := Extern.AbiNoEscape.same) rfl (by kernel_rfl) (by kernel_rfl) (by kernel_rfl) (by kernel_rfl) (by kernel_rfl)
theorem ext_ok_300 : ExtOk Tryz.prog 300 (.plain (Extern.MathBitsCarry.rows.getD 1 default).2) := ext_at (fn := Tryz.f300) (e := (Extern.MathBitsCarry.rows.getD 1 default).2) rfl (by kernel_rfl) (by kernel_rfl) (by kernel_rfl) (by kernel_rfl) (by kernel_rfl)

theorem ext_step {f n : Nat} {x y : Ext} {r : Option Ext} (h : (bif Nat.beq f n then some x else r) = some y) (hx : ExtOk Tryz.prog n x) (hr : r = some y → ExtOk Tryz.prog f y) : ExtOk Tryz.prog f y := by
  cases hq : Nat.beq f n with
  | true => rw [hq] at h; simp only [cond_true, Option.some.injEq] at h; subst h; obtain rfl := Nat.eq_of_beq_eq_true hq; exact hx
  | false => rw [hq] at h; exact hr h

theorem ext_ok : ∀ f x, theEnv.ext f = some x → ExtOk Tryz.prog f x := by
  intro f x h
  have h0 : extOf f = some x := h
  unfold extOf at h0
  refine ext_step h0 ext_ok_81 fun h1 => ?_
  refine ext_step h1 ext_ok_109 fun h2 => ?_
  refine ext_step h2 ext_ok_112 fun h3 => ?_
  refine ext_step h3 ext_ok_122 fun h4 => ?_
  refine ext_step h4 ext_ok_123 fun h5 => ?_
  refine ext_step h5 ext_ok_178 fun h6 => ?_
  refine ext_step h6 ext_ok_184 fun h7 => ?_
  refine ext_step h7 ext_ok_211 fun h8 => ?_
  refine ext_step h8 ext_ok_221 fun h9 => ?_
  refine ext_step h9 ext_ok_300 fun h10 => ?_
  cases h10
end Go.Proofs.YtghcpfgpmliiaaaGreatDoor
