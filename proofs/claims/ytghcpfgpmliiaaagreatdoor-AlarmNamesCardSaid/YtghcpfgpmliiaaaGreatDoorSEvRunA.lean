/- The law 'AlarmNames': what the evaluator is given. -/
import Derived.Test.YtghcpfgpmliiaaaGreatDoorEvT
import Derived.Test.YtghcpfgpmliiaaaGreatDoorRows
namespace Go.Proofs.YtghcpfgpmliiaaaGreatDoor
open Go Go.Ev Go.Proofs

def lvars : List (Nat × TypeId × DataW Unit) := [(14, 311, Rows.laid_math_bits_deBruijn32tab), (15, 336, Rows.laid_math_bits_deBruijn64tab), (4, 259, Rows.laid_internal_strconv_float32info), (6, 259, Rows.laid_internal_strconv_float64info), (5, 4, Rows.laid_internal_strconv_optimize), (9, 305, Rows.laid_internal_strconv_powtab), (10, 159, Rows.laid_internal_strconv_float64pow10), (8, 294, Rows.laid_internal_strconv_float32pow10), (7, 287, Rows.laid_internal_strconv_uint64pow10), (12, 324, Rows.laid_unicode_utf8_acceptRanges), (3, 189, Rows.laid_strconv_ErrRange), (2, 189, Rows.laid_strconv_ErrSyntax), (16, 339, Rows.laid_internal_strconv_leftcheats), (13, 328, Rows.laid_internal_strconv_pow10Tab), (11, 321, Rows.laid_unicode_utf8_first)]

def extOf (f : Nat) : Option Ext :=
  bif Nat.beq f 81 then some (.plain Extern.MathFloatBits.float64bits)
  else bif Nat.beq f 109 then some (.plain (Extern.MathBitsCarry.rows.getD 0 default).2)
  else bif Nat.beq f 112 then some (.plain Extern.BytealgCompare.compare)
  else bif Nat.beq f 122 then some (.plain Extern.MathFloatBits.float64frombits)
  else bif Nat.beq f 123 then some (.plain Extern.BytealgIndexByte.indexByte)
  else bif Nat.beq f 178 then some (.plain Extern.MathFloatBits.float64frombits)
  else bif Nat.beq f 184 then some (.plain Extern.BytealgCount.count)
  else bif Nat.beq f 211 then some (.plain Extern.MathFloatBits.float64bits)
  else bif Nat.beq f 221 then some (.same)
  else bif Nat.beq f 300 then some (.plain (Extern.MathBitsCarry.rows.getD 1 default).2)
  else none

def theEnv : Env := { ng := 17, ext := extOf }

theorem mixed : Tryz.prog.follows .mixedOrders = true := by kernel_rfl

noncomputable def runsTrue : Bool :=
  match startM Tryz.prog 17 lvars with
  | some M => match callX Tryz.prog theEnv 1000000 3 [] M with
    | some (.ret (.b b), _) => b
    | _ => false
  | none => false
end Go.Proofs.YtghcpfgpmliiaaaGreatDoor
