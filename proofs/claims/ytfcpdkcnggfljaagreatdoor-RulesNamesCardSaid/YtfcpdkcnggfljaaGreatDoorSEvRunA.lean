/- The law 'gnomonlaw22.RulesNames': what the evaluator is given. -/
import Derived.Test.YtfcpdkcnggfljaaGreatDoorEvT
import Derived.Test.YtfcpdkcnggfljaaGreatDoorRows
namespace Go.Proofs.YtfcpdkcnggfljaaGreatDoor
open Go Go.Ev Go.Proofs

def lvars : List (Nat × TypeId × DataW Unit) := [(8, 222, Rows.laid_math_bits_deBruijn32tab), (9, 237, Rows.laid_math_bits_deBruijn64tab), (10, 259, Rows.laid_internal_strconv_float32info), (11, 259, Rows.laid_internal_strconv_float64info), (5, 4, Rows.laid_internal_strconv_optimize), (13, 298, Rows.laid_internal_strconv_powtab), (14, 306, Rows.laid_internal_strconv_float64pow10), (12, 304, Rows.laid_internal_strconv_float32pow10), (1, 169, Rows.laid_internal_strconv_uint64pow10), (7, 236, Rows.laid_unicode_utf8_acceptRanges), (4, 74, Rows.laid_strconv_ErrRange), (3, 74, Rows.laid_strconv_ErrSyntax), (16, 314, Rows.laid_internal_strconv_leftcheats), (15, 310, Rows.laid_internal_strconv_pow10Tab), (6, 201, Rows.laid_unicode_utf8_first)]

def extOf (f : Nat) : Option Ext :=
  bif Nat.beq f 65 then some (.plain Extern.MathFloatBits.float64bits)
  else bif Nat.beq f 145 then some (.plain Extern.MathFloatBits.float64bits)
  else bif Nat.beq f 88 then some (.plain Extern.MathFloatBits.float64frombits)
  else bif Nat.beq f 176 then some (.plain Extern.MathFloatBits.float64frombits)
  else bif Nat.beq f 77 then some (.plain Extern.BytealgIndexByte.indexByte)
  else bif Nat.beq f 123 then some (.plain Extern.BytealgCount.count)
  else bif Nat.beq f 63 then some .same
  else none

def theEnv : Env := ⟨17, extOf⟩

theorem mixed : Tryz.prog.follows .mixedOrders = true := by kernel_rfl

noncomputable def runsTrue : Bool :=
  match startM Tryz.prog 17 lvars with
  | some M => match callK Tryz.prog theEnv 100000 3 [] M with
    | some (.b b, _) => b
    | _ => false
  | none => false


end Go.Proofs.YtfcpdkcnggfljaaGreatDoor
