/-
  NARROWER THAN 'FOR EVERY INPUT', by the rows' own cells (each row's printed sentence says how): NorthGaps: laid · NorthFirstError: laid · NorthJoins: laid · NorthAbsent: laid · NorthResults: laid · NorthEnds: laid · SouthGaps: laid · SouthFirst: laid · SouthPostfix: laid · SouthParts: laid · SouthForm: laid.
  DERIVED. THE GIVEN ROWS OF THIS SEAT. 11 by the template 'for every input the law returns true; each argument reads behind the call as it read before'; 0 by the template 'total and deterministic' (their statements: YtlhgflnmdmifaaaDoorTotals.lean).
  GIVEN WITH THE SEED: the statements are not yours to turn. If you find one false, say at which input.
  Laid BY PROGRAM, IN A SANDBOX (cutbox-rows.mjs): the forced cells as the released guide's own fill.sh prints them over the translation f1c320b08ca36493… (all of the seat's roots in one cut). By AI agents, Wed Nov 11 2026. No macro, syntax, notation, axiom, sorry.
-/
import Derived.Test.YtlhgflnmdmifaaaDoorChecked
import GoSem.Claim
import GoSem.ClaimJoined
import GoSem.ClaimMapViews
import Derived.JoinedTies
import Derived.KernelRfl
namespace Go.Proofs.YtlhgflnmdmifaaaDoor
/- THE CELL 'sum', in the pinned program and in every row, IS THE sha256 OF THE DUMP (.gsa) THAT YtlhgflnmdmifaaaDoorProg.lean LOADS. Nothing in Lean hashes anything: it is a label: what it is worth is what the hold of that sum in a sandbox is worth. -/
noncomputable def Tryd.pinned : Pinned := { name := "ytlhgflnmdmifaaadoor", sum := "f1c320b08ca36493d5d4cdef9eb1b1a25638728ff34f9040bf47a088fa132d85", checked := Tryd.checked }
namespace Rows
def none {H : Type} : Left H := { results := [], args := [] }

/- WHAT THE LISTED PACKAGE-LEVEL VARIABLES READ AS WHEN THE CALL BEGINS. Each datum BY PROGRAM (the guide's laid-datum.mjs) off the statement by which the dump's own 'gosem.cut.vars' lays the variable. In a bare row this is a premise. The card (YtlhgflnmdmifaaaDoorCards.lean) ties it to the program's text. -/
def laid_math_bits_deBruijn32tab {H : Type} : DataW H := .agg [.lit (.int .u8 0), .lit (.int .u8 1), .lit (.int .u8 28), .lit (.int .u8 2), .lit (.int .u8 29), .lit (.int .u8 14), .lit (.int .u8 24), .lit (.int .u8 3), .lit (.int .u8 30), .lit (.int .u8 22), .lit (.int .u8 20), .lit (.int .u8 15), .lit (.int .u8 25), .lit (.int .u8 17), .lit (.int .u8 4), .lit (.int .u8 8), .lit (.int .u8 31), .lit (.int .u8 27), .lit (.int .u8 13), .lit (.int .u8 23), .lit (.int .u8 21), .lit (.int .u8 19), .lit (.int .u8 16), .lit (.int .u8 7), .lit (.int .u8 26), .lit (.int .u8 12), .lit (.int .u8 18), .lit (.int .u8 6), .lit (.int .u8 11), .lit (.int .u8 5), .lit (.int .u8 10), .lit (.int .u8 9)]
def laid_math_bits_deBruijn64tab {H : Type} : DataW H := .agg [.lit (.int .u8 0), .lit (.int .u8 1), .lit (.int .u8 56), .lit (.int .u8 2), .lit (.int .u8 57), .lit (.int .u8 49), .lit (.int .u8 28), .lit (.int .u8 3), .lit (.int .u8 61), .lit (.int .u8 58), .lit (.int .u8 42), .lit (.int .u8 50), .lit (.int .u8 38), .lit (.int .u8 29), .lit (.int .u8 17), .lit (.int .u8 4), .lit (.int .u8 62), .lit (.int .u8 47), .lit (.int .u8 59), .lit (.int .u8 36), .lit (.int .u8 45), .lit (.int .u8 43), .lit (.int .u8 51), .lit (.int .u8 22), .lit (.int .u8 53), .lit (.int .u8 39), .lit (.int .u8 33), .lit (.int .u8 30), .lit (.int .u8 24), .lit (.int .u8 18), .lit (.int .u8 12), .lit (.int .u8 5), .lit (.int .u8 63), .lit (.int .u8 55), .lit (.int .u8 48), .lit (.int .u8 27), .lit (.int .u8 60), .lit (.int .u8 41), .lit (.int .u8 37), .lit (.int .u8 16), .lit (.int .u8 46), .lit (.int .u8 35), .lit (.int .u8 44), .lit (.int .u8 21), .lit (.int .u8 52), .lit (.int .u8 32), .lit (.int .u8 23), .lit (.int .u8 11), .lit (.int .u8 54), .lit (.int .u8 26), .lit (.int .u8 40), .lit (.int .u8 15), .lit (.int .u8 34), .lit (.int .u8 20), .lit (.int .u8 31), .lit (.int .u8 10), .lit (.int .u8 25), .lit (.int .u8 14), .lit (.int .u8 19), .lit (.int .u8 9), .lit (.int .u8 13), .lit (.int .u8 8), .lit (.int .u8 7), .lit (.int .u8 6)]
def laid_internal_strconv_uint64pow10 {H : Type} : DataW H := .agg [.lit (.int .u64 1), .lit (.int .u64 10), .lit (.int .u64 100), .lit (.int .u64 1000), .lit (.int .u64 10000), .lit (.int .u64 100000), .lit (.int .u64 1000000), .lit (.int .u64 10000000), .lit (.int .u64 100000000), .lit (.int .u64 1000000000), .lit (.int .u64 10000000000), .lit (.int .u64 100000000000), .lit (.int .u64 1000000000000), .lit (.int .u64 10000000000000), .lit (.int .u64 100000000000000), .lit (.int .u64 1000000000000000), .lit (.int .u64 10000000000000000), .lit (.int .u64 100000000000000000), .lit (.int .u64 1000000000000000000), .lit (.int .u64 10000000000000000000)]
def laid_strconv_ErrRange {H : Type} : DataW H := .iface "*errors.errorString" (.ptr (.agg [.lit (.string [118, 97, 108, 117, 101, 32, 111, 117, 116, 32, 111, 102, 32, 114, 97, 110, 103, 101])]))
def laid_strconv_ErrSyntax {H : Type} : DataW H := .iface "*errors.errorString" (.ptr (.agg [.lit (.string [105, 110, 118, 97, 108, 105, 100, 32, 115, 121, 110, 116, 97, 120])]))

/-- 'pandectlaw08.NorthGaps': WHATEVER THE INPUT: true; the input reads as it did. -/
def northGapsSpec : ChangeSpec := { name := "northGaps", fn := fun _ => fun
  | [d] => { results := [.lit (.bool true)], args := [d] }
  | _ => none }
def northGapsRow : OpenClaim := { program := "ytlhgflnmdmifaaadoor", sum := "f1c320b08ca36493d5d4cdef9eb1b1a25638728ff34f9040bf47a088fa132d85", func := "pandect/pandectlaw08.NorthGaps", spec := "northGaps", inPlace := ["internal/bytealg.IndexByteString", "internal/bytealg.IndexString"], unfollowed := true, recurses := true, named := ["strconv.ErrSyntax", "strconv.ErrRange", "internal/strconv.uint64pow10", "math/bits.deBruijn32tab", "math/bits.deBruijn64tab", "internal/bytealg.MaxLen"], apart := false, laid := [("math/bits.deBruijn32tab", laid_math_bits_deBruijn32tab), ("math/bits.deBruijn64tab", laid_math_bits_deBruijn64tab), ("internal/strconv.uint64pow10", laid_internal_strconv_uint64pow10), ("strconv.ErrRange", laid_strconv_ErrRange), ("strconv.ErrSyntax", laid_strconv_ErrSyntax)] }
def NorthGapsSaid : Prop := northGapsRow.holds Tryd.pinned (OpenSpec.ofChange northGapsSpec)

/-- ITS FALSE NEIGHBOUR: 'it returns false'. Refute it at one input. -/
def northGapsWrong : ChangeSpec := { name := "northGaps", fn := fun _ => fun
  | [d] => { results := [.lit (.bool false)], args := [d] }
  | _ => none }
def NorthGapsWrongFalsely : Prop := northGapsRow.holds Tryd.pinned (OpenSpec.ofChange northGapsWrong)

/-- 'pandectlaw08.NorthFirstError': WHATEVER THE INPUT: true; the input reads as it did. -/
def northFirstErrorSpec : ChangeSpec := { name := "northFirstError", fn := fun _ => fun
  | [d1, d2] => { results := [.lit (.bool true)], args := [d1, d2] }
  | _ => none }
def northFirstErrorRow : OpenClaim := { program := "ytlhgflnmdmifaaadoor", sum := "f1c320b08ca36493d5d4cdef9eb1b1a25638728ff34f9040bf47a088fa132d85", func := "pandect/pandectlaw08.NorthFirstError", spec := "northFirstError", inPlace := ["internal/bytealg.IndexByteString", "internal/bytealg.IndexString"], unfollowed := true, recurses := true, named := ["strconv.ErrSyntax", "strconv.ErrRange", "internal/strconv.uint64pow10", "math/bits.deBruijn32tab", "math/bits.deBruijn64tab", "internal/bytealg.MaxLen"], apart := false, laid := [("math/bits.deBruijn32tab", laid_math_bits_deBruijn32tab), ("math/bits.deBruijn64tab", laid_math_bits_deBruijn64tab), ("internal/strconv.uint64pow10", laid_internal_strconv_uint64pow10), ("strconv.ErrRange", laid_strconv_ErrRange), ("strconv.ErrSyntax", laid_strconv_ErrSyntax)] }
def NorthFirstErrorSaid : Prop := northFirstErrorRow.holds Tryd.pinned (OpenSpec.ofChange northFirstErrorSpec)

/-- ITS FALSE NEIGHBOUR: 'it returns false'. Refute it at one input. -/
def northFirstErrorWrong : ChangeSpec := { name := "northFirstError", fn := fun _ => fun
  | [d1, d2] => { results := [.lit (.bool false)], args := [d1, d2] }
  | _ => none }
def NorthFirstErrorWrongFalsely : Prop := northFirstErrorRow.holds Tryd.pinned (OpenSpec.ofChange northFirstErrorWrong)

/-- 'pandectlaw08.NorthJoins': WHATEVER THE INPUT: true; the input reads as it did. -/
def northJoinsSpec : ChangeSpec := { name := "northJoins", fn := fun _ => fun
  | [d1, d2, d3] => { results := [.lit (.bool true)], args := [d1, d2, d3] }
  | _ => none }
def northJoinsRow : OpenClaim := { program := "ytlhgflnmdmifaaadoor", sum := "f1c320b08ca36493d5d4cdef9eb1b1a25638728ff34f9040bf47a088fa132d85", func := "pandect/pandectlaw08.NorthJoins", spec := "northJoins", inPlace := ["internal/bytealg.IndexByteString", "internal/bytealg.IndexString"], unfollowed := true, recurses := true, named := ["strconv.ErrSyntax", "strconv.ErrRange", "internal/strconv.uint64pow10", "math/bits.deBruijn32tab", "math/bits.deBruijn64tab", "internal/bytealg.MaxLen"], apart := false, laid := [("math/bits.deBruijn32tab", laid_math_bits_deBruijn32tab), ("math/bits.deBruijn64tab", laid_math_bits_deBruijn64tab), ("internal/strconv.uint64pow10", laid_internal_strconv_uint64pow10), ("strconv.ErrRange", laid_strconv_ErrRange), ("strconv.ErrSyntax", laid_strconv_ErrSyntax)] }
def NorthJoinsSaid : Prop := northJoinsRow.holds Tryd.pinned (OpenSpec.ofChange northJoinsSpec)

/-- ITS FALSE NEIGHBOUR: 'it returns false'. Refute it at one input. -/
def northJoinsWrong : ChangeSpec := { name := "northJoins", fn := fun _ => fun
  | [d1, d2, d3] => { results := [.lit (.bool false)], args := [d1, d2, d3] }
  | _ => none }
def NorthJoinsWrongFalsely : Prop := northJoinsRow.holds Tryd.pinned (OpenSpec.ofChange northJoinsWrong)

/-- 'pandectlaw08.NorthAbsent': WHATEVER THE INPUT: true; the input reads as it did. -/
def northAbsentSpec : ChangeSpec := { name := "northAbsent", fn := fun _ => fun
  | [d1, d2, d3, d4] => { results := [.lit (.bool true)], args := [d1, d2, d3, d4] }
  | _ => none }
def northAbsentRow : OpenClaim := { program := "ytlhgflnmdmifaaadoor", sum := "f1c320b08ca36493d5d4cdef9eb1b1a25638728ff34f9040bf47a088fa132d85", func := "pandect/pandectlaw08.NorthAbsent", spec := "northAbsent", inPlace := ["internal/bytealg.IndexByteString", "internal/bytealg.IndexString"], unfollowed := true, recurses := true, named := ["strconv.ErrSyntax", "strconv.ErrRange", "internal/strconv.uint64pow10", "math/bits.deBruijn32tab", "math/bits.deBruijn64tab", "internal/bytealg.MaxLen"], apart := false, laid := [("math/bits.deBruijn32tab", laid_math_bits_deBruijn32tab), ("math/bits.deBruijn64tab", laid_math_bits_deBruijn64tab), ("internal/strconv.uint64pow10", laid_internal_strconv_uint64pow10), ("strconv.ErrRange", laid_strconv_ErrRange), ("strconv.ErrSyntax", laid_strconv_ErrSyntax)] }
def NorthAbsentSaid : Prop := northAbsentRow.holds Tryd.pinned (OpenSpec.ofChange northAbsentSpec)

/-- ITS FALSE NEIGHBOUR: 'it returns false'. Refute it at one input. -/
def northAbsentWrong : ChangeSpec := { name := "northAbsent", fn := fun _ => fun
  | [d1, d2, d3, d4] => { results := [.lit (.bool false)], args := [d1, d2, d3, d4] }
  | _ => none }
def NorthAbsentWrongFalsely : Prop := northAbsentRow.holds Tryd.pinned (OpenSpec.ofChange northAbsentWrong)

/-- 'pandectlaw08.NorthResults': WHATEVER THE INPUT: true; the input reads as it did. -/
def northResultsSpec : ChangeSpec := { name := "northResults", fn := fun _ => fun
  | [d] => { results := [.lit (.bool true)], args := [d] }
  | _ => none }
def northResultsRow : OpenClaim := { program := "ytlhgflnmdmifaaadoor", sum := "f1c320b08ca36493d5d4cdef9eb1b1a25638728ff34f9040bf47a088fa132d85", func := "pandect/pandectlaw08.NorthResults", spec := "northResults", inPlace := ["internal/bytealg.IndexByteString", "internal/bytealg.IndexString"], unfollowed := true, recurses := true, named := ["strconv.ErrSyntax", "strconv.ErrRange", "internal/strconv.uint64pow10", "math/bits.deBruijn32tab", "math/bits.deBruijn64tab", "internal/bytealg.MaxLen"], apart := false, laid := [("math/bits.deBruijn32tab", laid_math_bits_deBruijn32tab), ("math/bits.deBruijn64tab", laid_math_bits_deBruijn64tab), ("internal/strconv.uint64pow10", laid_internal_strconv_uint64pow10), ("strconv.ErrRange", laid_strconv_ErrRange), ("strconv.ErrSyntax", laid_strconv_ErrSyntax)] }
def NorthResultsSaid : Prop := northResultsRow.holds Tryd.pinned (OpenSpec.ofChange northResultsSpec)

/-- ITS FALSE NEIGHBOUR: 'it returns false'. Refute it at one input. -/
def northResultsWrong : ChangeSpec := { name := "northResults", fn := fun _ => fun
  | [d] => { results := [.lit (.bool false)], args := [d] }
  | _ => none }
def NorthResultsWrongFalsely : Prop := northResultsRow.holds Tryd.pinned (OpenSpec.ofChange northResultsWrong)

/-- 'pandectlaw08.NorthEnds': WHATEVER THE INPUT: true; the input reads as it did. -/
def northEndsSpec : ChangeSpec := { name := "northEnds", fn := fun _ => fun
  | [d1, d2] => { results := [.lit (.bool true)], args := [d1, d2] }
  | _ => none }
def northEndsRow : OpenClaim := { program := "ytlhgflnmdmifaaadoor", sum := "f1c320b08ca36493d5d4cdef9eb1b1a25638728ff34f9040bf47a088fa132d85", func := "pandect/pandectlaw08.NorthEnds", spec := "northEnds", inPlace := ["internal/bytealg.IndexByteString", "internal/bytealg.IndexString"], unfollowed := true, recurses := true, named := ["strconv.ErrSyntax", "strconv.ErrRange", "internal/strconv.uint64pow10", "math/bits.deBruijn32tab", "math/bits.deBruijn64tab", "internal/bytealg.MaxLen"], apart := false, laid := [("math/bits.deBruijn32tab", laid_math_bits_deBruijn32tab), ("math/bits.deBruijn64tab", laid_math_bits_deBruijn64tab), ("internal/strconv.uint64pow10", laid_internal_strconv_uint64pow10), ("strconv.ErrRange", laid_strconv_ErrRange), ("strconv.ErrSyntax", laid_strconv_ErrSyntax)] }
def NorthEndsSaid : Prop := northEndsRow.holds Tryd.pinned (OpenSpec.ofChange northEndsSpec)

/-- ITS FALSE NEIGHBOUR: 'it returns false'. Refute it at one input. -/
def northEndsWrong : ChangeSpec := { name := "northEnds", fn := fun _ => fun
  | [d1, d2] => { results := [.lit (.bool false)], args := [d1, d2] }
  | _ => none }
def NorthEndsWrongFalsely : Prop := northEndsRow.holds Tryd.pinned (OpenSpec.ofChange northEndsWrong)

/-- 'pandectlaw09.SouthGaps': WHATEVER THE INPUT: true; the input reads as it did. -/
def southGapsSpec : ChangeSpec := { name := "southGaps", fn := fun _ => fun
  | [d] => { results := [.lit (.bool true)], args := [d] }
  | _ => none }
def southGapsRow : OpenClaim := { program := "ytlhgflnmdmifaaadoor", sum := "f1c320b08ca36493d5d4cdef9eb1b1a25638728ff34f9040bf47a088fa132d85", func := "pandect/pandectlaw09.SouthGaps", spec := "southGaps", inPlace := ["internal/bytealg.IndexByteString", "internal/bytealg.IndexString"], unfollowed := true, recurses := true, named := ["strconv.ErrSyntax", "strconv.ErrRange", "internal/strconv.uint64pow10", "math/bits.deBruijn32tab", "math/bits.deBruijn64tab", "internal/bytealg.MaxLen"], apart := false, laid := [("math/bits.deBruijn32tab", laid_math_bits_deBruijn32tab), ("math/bits.deBruijn64tab", laid_math_bits_deBruijn64tab), ("internal/strconv.uint64pow10", laid_internal_strconv_uint64pow10), ("strconv.ErrRange", laid_strconv_ErrRange), ("strconv.ErrSyntax", laid_strconv_ErrSyntax)] }
def SouthGapsSaid : Prop := southGapsRow.holds Tryd.pinned (OpenSpec.ofChange southGapsSpec)

/-- ITS FALSE NEIGHBOUR: 'it returns false'. Refute it at one input. -/
def southGapsWrong : ChangeSpec := { name := "southGaps", fn := fun _ => fun
  | [d] => { results := [.lit (.bool false)], args := [d] }
  | _ => none }
def SouthGapsWrongFalsely : Prop := southGapsRow.holds Tryd.pinned (OpenSpec.ofChange southGapsWrong)

/-- 'pandectlaw09.SouthFirst': WHATEVER THE INPUT: true; the input reads as it did. -/
def southFirstSpec : ChangeSpec := { name := "southFirst", fn := fun _ => fun
  | [d1, d2] => { results := [.lit (.bool true)], args := [d1, d2] }
  | _ => none }
def southFirstRow : OpenClaim := { program := "ytlhgflnmdmifaaadoor", sum := "f1c320b08ca36493d5d4cdef9eb1b1a25638728ff34f9040bf47a088fa132d85", func := "pandect/pandectlaw09.SouthFirst", spec := "southFirst", inPlace := ["internal/bytealg.IndexByteString", "internal/bytealg.IndexString"], unfollowed := true, recurses := true, named := ["strconv.ErrSyntax", "strconv.ErrRange", "internal/strconv.uint64pow10", "math/bits.deBruijn32tab", "math/bits.deBruijn64tab", "internal/bytealg.MaxLen"], apart := false, laid := [("math/bits.deBruijn32tab", laid_math_bits_deBruijn32tab), ("math/bits.deBruijn64tab", laid_math_bits_deBruijn64tab), ("internal/strconv.uint64pow10", laid_internal_strconv_uint64pow10), ("strconv.ErrRange", laid_strconv_ErrRange), ("strconv.ErrSyntax", laid_strconv_ErrSyntax)] }
def SouthFirstSaid : Prop := southFirstRow.holds Tryd.pinned (OpenSpec.ofChange southFirstSpec)

/-- ITS FALSE NEIGHBOUR: 'it returns false'. Refute it at one input. -/
def southFirstWrong : ChangeSpec := { name := "southFirst", fn := fun _ => fun
  | [d1, d2] => { results := [.lit (.bool false)], args := [d1, d2] }
  | _ => none }
def SouthFirstWrongFalsely : Prop := southFirstRow.holds Tryd.pinned (OpenSpec.ofChange southFirstWrong)

/-- 'pandectlaw09.SouthPostfix': WHATEVER THE INPUT: true; the input reads as it did. -/
def southPostfixSpec : ChangeSpec := { name := "southPostfix", fn := fun _ => fun
  | [d1, d2] => { results := [.lit (.bool true)], args := [d1, d2] }
  | _ => none }
def southPostfixRow : OpenClaim := { program := "ytlhgflnmdmifaaadoor", sum := "f1c320b08ca36493d5d4cdef9eb1b1a25638728ff34f9040bf47a088fa132d85", func := "pandect/pandectlaw09.SouthPostfix", spec := "southPostfix", inPlace := ["internal/bytealg.IndexByteString", "internal/bytealg.IndexString"], unfollowed := true, recurses := true, named := ["strconv.ErrSyntax", "strconv.ErrRange", "internal/strconv.uint64pow10", "math/bits.deBruijn32tab", "math/bits.deBruijn64tab", "internal/bytealg.MaxLen"], apart := false, laid := [("math/bits.deBruijn32tab", laid_math_bits_deBruijn32tab), ("math/bits.deBruijn64tab", laid_math_bits_deBruijn64tab), ("internal/strconv.uint64pow10", laid_internal_strconv_uint64pow10), ("strconv.ErrRange", laid_strconv_ErrRange), ("strconv.ErrSyntax", laid_strconv_ErrSyntax)] }
def SouthPostfixSaid : Prop := southPostfixRow.holds Tryd.pinned (OpenSpec.ofChange southPostfixSpec)

/-- ITS FALSE NEIGHBOUR: 'it returns false'. Refute it at one input. -/
def southPostfixWrong : ChangeSpec := { name := "southPostfix", fn := fun _ => fun
  | [d1, d2] => { results := [.lit (.bool false)], args := [d1, d2] }
  | _ => none }
def SouthPostfixWrongFalsely : Prop := southPostfixRow.holds Tryd.pinned (OpenSpec.ofChange southPostfixWrong)

/-- 'pandectlaw09.SouthParts': WHATEVER THE INPUT: true; the input reads as it did. -/
def southPartsSpec : ChangeSpec := { name := "southParts", fn := fun _ => fun
  | [d1, d2, d3, d4, d5] => { results := [.lit (.bool true)], args := [d1, d2, d3, d4, d5] }
  | _ => none }
def southPartsRow : OpenClaim := { program := "ytlhgflnmdmifaaadoor", sum := "f1c320b08ca36493d5d4cdef9eb1b1a25638728ff34f9040bf47a088fa132d85", func := "pandect/pandectlaw09.SouthParts", spec := "southParts", inPlace := ["internal/bytealg.IndexByteString", "internal/bytealg.IndexString"], unfollowed := true, recurses := true, named := ["strconv.ErrSyntax", "strconv.ErrRange", "internal/strconv.uint64pow10", "math/bits.deBruijn32tab", "math/bits.deBruijn64tab", "internal/bytealg.MaxLen"], apart := false, laid := [("math/bits.deBruijn32tab", laid_math_bits_deBruijn32tab), ("math/bits.deBruijn64tab", laid_math_bits_deBruijn64tab), ("internal/strconv.uint64pow10", laid_internal_strconv_uint64pow10), ("strconv.ErrRange", laid_strconv_ErrRange), ("strconv.ErrSyntax", laid_strconv_ErrSyntax)] }
def SouthPartsSaid : Prop := southPartsRow.holds Tryd.pinned (OpenSpec.ofChange southPartsSpec)

/-- ITS FALSE NEIGHBOUR: 'it returns false'. Refute it at one input. -/
def southPartsWrong : ChangeSpec := { name := "southParts", fn := fun _ => fun
  | [d1, d2, d3, d4, d5] => { results := [.lit (.bool false)], args := [d1, d2, d3, d4, d5] }
  | _ => none }
def SouthPartsWrongFalsely : Prop := southPartsRow.holds Tryd.pinned (OpenSpec.ofChange southPartsWrong)

/-- 'pandectlaw09.SouthForm': WHATEVER THE INPUT: true; the input reads as it did. -/
def southFormSpec : ChangeSpec := { name := "southForm", fn := fun _ => fun
  | [d] => { results := [.lit (.bool true)], args := [d] }
  | _ => none }
def southFormRow : OpenClaim := { program := "ytlhgflnmdmifaaadoor", sum := "f1c320b08ca36493d5d4cdef9eb1b1a25638728ff34f9040bf47a088fa132d85", func := "pandect/pandectlaw09.SouthForm", spec := "southForm", inPlace := ["internal/bytealg.IndexByteString", "internal/bytealg.IndexString"], unfollowed := true, recurses := true, named := ["strconv.ErrSyntax", "strconv.ErrRange", "internal/strconv.uint64pow10", "math/bits.deBruijn32tab", "math/bits.deBruijn64tab", "internal/bytealg.MaxLen"], apart := false, laid := [("math/bits.deBruijn32tab", laid_math_bits_deBruijn32tab), ("math/bits.deBruijn64tab", laid_math_bits_deBruijn64tab), ("internal/strconv.uint64pow10", laid_internal_strconv_uint64pow10), ("strconv.ErrRange", laid_strconv_ErrRange), ("strconv.ErrSyntax", laid_strconv_ErrSyntax)] }
def SouthFormSaid : Prop := southFormRow.holds Tryd.pinned (OpenSpec.ofChange southFormSpec)

/-- ITS FALSE NEIGHBOUR: 'it returns false'. Refute it at one input. -/
def southFormWrong : ChangeSpec := { name := "southForm", fn := fun _ => fun
  | [d] => { results := [.lit (.bool false)], args := [d] }
  | _ => none }
def SouthFormWrongFalsely : Prop := southFormRow.holds Tryd.pinned (OpenSpec.ofChange southFormWrong)

/- THE SECOND FORM. 'bulk': how many values and letters a reading holds, each counted each time it is reached (what is shared counts as often as it is met; a slice's spare places count too). A statement '..UptoSaid' is the law's where the arguments, and the package variables that the reading takes, are together of bulk at most 1048576: NARROWER than '..Said'. Prove '..Said' where nothing that the law and all that it calls make is longer than what came in: it says more and counts as full. Else prove '..UptoSaid'. A law counts once. -/
mutual
def uptoBulk {H : Type} : DataW H → Nat
  | .lit (.string bytes) => bytes.length + 1
  | .lit _ => 1
  | .nil => 1
  | .ptr d => uptoBulk d + 1
  | .slice elems spare => uptoBulkAll elems + uptoBulkAll spare + 1
  | .agg parts => uptoBulkAll parts + 1
  | .iface _ d => uptoBulk d + 1
  | .map entries => uptoBulkEntries entries + 1
  | .held _ => 1
def uptoBulkAll {H : Type} : List (DataW H) → Nat
  | [] => 0
  | d :: r => uptoBulk d + uptoBulkAll r
def uptoBulkEntries {H : Type} : List (Lit × DataW H) → Nat
  | [] => 0
  | x :: r => uptoBulkEntry x + uptoBulkEntries r
def uptoBulkEntry {H : Type} : Lit × DataW H → Nat
  | (.string bytes, d) => bytes.length + uptoBulk d + 1
  | (_, d) => uptoBulk d + 1
 end
def uptoSmall : (H : Type) → List (DataW H) → Bool := fun _ ds => decide (uptoBulkAll ds ≤ 1048576)
def OpenSpec.upto (s : _root_.Go.ChangeSpec) : _root_.Go.OpenSpec := { _root_.Go.OpenSpec.ofChange s with cond := some uptoSmall }

/-- 'pandectlaw08.NorthGaps', WHERE WHAT IT READS IS OF BULK AT MOST 1048576: true; the input reads as it did. -/
def northGapsUptoRow : OpenClaim := { program := "ytlhgflnmdmifaaadoor", sum := "f1c320b08ca36493d5d4cdef9eb1b1a25638728ff34f9040bf47a088fa132d85", func := "pandect/pandectlaw08.NorthGaps", spec := "northGaps", inPlace := ["internal/bytealg.IndexByteString", "internal/bytealg.IndexString"], unfollowed := true, recurses := true, named := ["strconv.ErrSyntax", "strconv.ErrRange", "internal/strconv.uint64pow10", "math/bits.deBruijn32tab", "math/bits.deBruijn64tab", "internal/bytealg.MaxLen"], apart := false, laid := [("math/bits.deBruijn32tab", laid_math_bits_deBruijn32tab), ("math/bits.deBruijn64tab", laid_math_bits_deBruijn64tab), ("internal/strconv.uint64pow10", laid_internal_strconv_uint64pow10), ("strconv.ErrRange", laid_strconv_ErrRange), ("strconv.ErrSyntax", laid_strconv_ErrSyntax)], narrowed := true }
def NorthGapsUptoSaid : Prop := northGapsUptoRow.holds Tryd.pinned (OpenSpec.upto northGapsSpec)

/-- 'pandectlaw08.NorthFirstError', WHERE WHAT IT READS IS OF BULK AT MOST 1048576: true; the input reads as it did. -/
def northFirstErrorUptoRow : OpenClaim := { program := "ytlhgflnmdmifaaadoor", sum := "f1c320b08ca36493d5d4cdef9eb1b1a25638728ff34f9040bf47a088fa132d85", func := "pandect/pandectlaw08.NorthFirstError", spec := "northFirstError", inPlace := ["internal/bytealg.IndexByteString", "internal/bytealg.IndexString"], unfollowed := true, recurses := true, named := ["strconv.ErrSyntax", "strconv.ErrRange", "internal/strconv.uint64pow10", "math/bits.deBruijn32tab", "math/bits.deBruijn64tab", "internal/bytealg.MaxLen"], apart := false, laid := [("math/bits.deBruijn32tab", laid_math_bits_deBruijn32tab), ("math/bits.deBruijn64tab", laid_math_bits_deBruijn64tab), ("internal/strconv.uint64pow10", laid_internal_strconv_uint64pow10), ("strconv.ErrRange", laid_strconv_ErrRange), ("strconv.ErrSyntax", laid_strconv_ErrSyntax)], narrowed := true }
def NorthFirstErrorUptoSaid : Prop := northFirstErrorUptoRow.holds Tryd.pinned (OpenSpec.upto northFirstErrorSpec)

/-- 'pandectlaw08.NorthJoins', WHERE WHAT IT READS IS OF BULK AT MOST 1048576: true; the input reads as it did. -/
def northJoinsUptoRow : OpenClaim := { program := "ytlhgflnmdmifaaadoor", sum := "f1c320b08ca36493d5d4cdef9eb1b1a25638728ff34f9040bf47a088fa132d85", func := "pandect/pandectlaw08.NorthJoins", spec := "northJoins", inPlace := ["internal/bytealg.IndexByteString", "internal/bytealg.IndexString"], unfollowed := true, recurses := true, named := ["strconv.ErrSyntax", "strconv.ErrRange", "internal/strconv.uint64pow10", "math/bits.deBruijn32tab", "math/bits.deBruijn64tab", "internal/bytealg.MaxLen"], apart := false, laid := [("math/bits.deBruijn32tab", laid_math_bits_deBruijn32tab), ("math/bits.deBruijn64tab", laid_math_bits_deBruijn64tab), ("internal/strconv.uint64pow10", laid_internal_strconv_uint64pow10), ("strconv.ErrRange", laid_strconv_ErrRange), ("strconv.ErrSyntax", laid_strconv_ErrSyntax)], narrowed := true }
def NorthJoinsUptoSaid : Prop := northJoinsUptoRow.holds Tryd.pinned (OpenSpec.upto northJoinsSpec)

/-- 'pandectlaw08.NorthAbsent', WHERE WHAT IT READS IS OF BULK AT MOST 1048576: true; the input reads as it did. -/
def northAbsentUptoRow : OpenClaim := { program := "ytlhgflnmdmifaaadoor", sum := "f1c320b08ca36493d5d4cdef9eb1b1a25638728ff34f9040bf47a088fa132d85", func := "pandect/pandectlaw08.NorthAbsent", spec := "northAbsent", inPlace := ["internal/bytealg.IndexByteString", "internal/bytealg.IndexString"], unfollowed := true, recurses := true, named := ["strconv.ErrSyntax", "strconv.ErrRange", "internal/strconv.uint64pow10", "math/bits.deBruijn32tab", "math/bits.deBruijn64tab", "internal/bytealg.MaxLen"], apart := false, laid := [("math/bits.deBruijn32tab", laid_math_bits_deBruijn32tab), ("math/bits.deBruijn64tab", laid_math_bits_deBruijn64tab), ("internal/strconv.uint64pow10", laid_internal_strconv_uint64pow10), ("strconv.ErrRange", laid_strconv_ErrRange), ("strconv.ErrSyntax", laid_strconv_ErrSyntax)], narrowed := true }
def NorthAbsentUptoSaid : Prop := northAbsentUptoRow.holds Tryd.pinned (OpenSpec.upto northAbsentSpec)

/-- 'pandectlaw08.NorthResults', WHERE WHAT IT READS IS OF BULK AT MOST 1048576: true; the input reads as it did. -/
def northResultsUptoRow : OpenClaim := { program := "ytlhgflnmdmifaaadoor", sum := "f1c320b08ca36493d5d4cdef9eb1b1a25638728ff34f9040bf47a088fa132d85", func := "pandect/pandectlaw08.NorthResults", spec := "northResults", inPlace := ["internal/bytealg.IndexByteString", "internal/bytealg.IndexString"], unfollowed := true, recurses := true, named := ["strconv.ErrSyntax", "strconv.ErrRange", "internal/strconv.uint64pow10", "math/bits.deBruijn32tab", "math/bits.deBruijn64tab", "internal/bytealg.MaxLen"], apart := false, laid := [("math/bits.deBruijn32tab", laid_math_bits_deBruijn32tab), ("math/bits.deBruijn64tab", laid_math_bits_deBruijn64tab), ("internal/strconv.uint64pow10", laid_internal_strconv_uint64pow10), ("strconv.ErrRange", laid_strconv_ErrRange), ("strconv.ErrSyntax", laid_strconv_ErrSyntax)], narrowed := true }
def NorthResultsUptoSaid : Prop := northResultsUptoRow.holds Tryd.pinned (OpenSpec.upto northResultsSpec)

/-- 'pandectlaw08.NorthEnds', WHERE WHAT IT READS IS OF BULK AT MOST 1048576: true; the input reads as it did. -/
def northEndsUptoRow : OpenClaim := { program := "ytlhgflnmdmifaaadoor", sum := "f1c320b08ca36493d5d4cdef9eb1b1a25638728ff34f9040bf47a088fa132d85", func := "pandect/pandectlaw08.NorthEnds", spec := "northEnds", inPlace := ["internal/bytealg.IndexByteString", "internal/bytealg.IndexString"], unfollowed := true, recurses := true, named := ["strconv.ErrSyntax", "strconv.ErrRange", "internal/strconv.uint64pow10", "math/bits.deBruijn32tab", "math/bits.deBruijn64tab", "internal/bytealg.MaxLen"], apart := false, laid := [("math/bits.deBruijn32tab", laid_math_bits_deBruijn32tab), ("math/bits.deBruijn64tab", laid_math_bits_deBruijn64tab), ("internal/strconv.uint64pow10", laid_internal_strconv_uint64pow10), ("strconv.ErrRange", laid_strconv_ErrRange), ("strconv.ErrSyntax", laid_strconv_ErrSyntax)], narrowed := true }
def NorthEndsUptoSaid : Prop := northEndsUptoRow.holds Tryd.pinned (OpenSpec.upto northEndsSpec)

/-- 'pandectlaw09.SouthGaps', WHERE WHAT IT READS IS OF BULK AT MOST 1048576: true; the input reads as it did. -/
def southGapsUptoRow : OpenClaim := { program := "ytlhgflnmdmifaaadoor", sum := "f1c320b08ca36493d5d4cdef9eb1b1a25638728ff34f9040bf47a088fa132d85", func := "pandect/pandectlaw09.SouthGaps", spec := "southGaps", inPlace := ["internal/bytealg.IndexByteString", "internal/bytealg.IndexString"], unfollowed := true, recurses := true, named := ["strconv.ErrSyntax", "strconv.ErrRange", "internal/strconv.uint64pow10", "math/bits.deBruijn32tab", "math/bits.deBruijn64tab", "internal/bytealg.MaxLen"], apart := false, laid := [("math/bits.deBruijn32tab", laid_math_bits_deBruijn32tab), ("math/bits.deBruijn64tab", laid_math_bits_deBruijn64tab), ("internal/strconv.uint64pow10", laid_internal_strconv_uint64pow10), ("strconv.ErrRange", laid_strconv_ErrRange), ("strconv.ErrSyntax", laid_strconv_ErrSyntax)], narrowed := true }
def SouthGapsUptoSaid : Prop := southGapsUptoRow.holds Tryd.pinned (OpenSpec.upto southGapsSpec)

/-- 'pandectlaw09.SouthFirst', WHERE WHAT IT READS IS OF BULK AT MOST 1048576: true; the input reads as it did. -/
def southFirstUptoRow : OpenClaim := { program := "ytlhgflnmdmifaaadoor", sum := "f1c320b08ca36493d5d4cdef9eb1b1a25638728ff34f9040bf47a088fa132d85", func := "pandect/pandectlaw09.SouthFirst", spec := "southFirst", inPlace := ["internal/bytealg.IndexByteString", "internal/bytealg.IndexString"], unfollowed := true, recurses := true, named := ["strconv.ErrSyntax", "strconv.ErrRange", "internal/strconv.uint64pow10", "math/bits.deBruijn32tab", "math/bits.deBruijn64tab", "internal/bytealg.MaxLen"], apart := false, laid := [("math/bits.deBruijn32tab", laid_math_bits_deBruijn32tab), ("math/bits.deBruijn64tab", laid_math_bits_deBruijn64tab), ("internal/strconv.uint64pow10", laid_internal_strconv_uint64pow10), ("strconv.ErrRange", laid_strconv_ErrRange), ("strconv.ErrSyntax", laid_strconv_ErrSyntax)], narrowed := true }
def SouthFirstUptoSaid : Prop := southFirstUptoRow.holds Tryd.pinned (OpenSpec.upto southFirstSpec)

/-- 'pandectlaw09.SouthPostfix', WHERE WHAT IT READS IS OF BULK AT MOST 1048576: true; the input reads as it did. -/
def southPostfixUptoRow : OpenClaim := { program := "ytlhgflnmdmifaaadoor", sum := "f1c320b08ca36493d5d4cdef9eb1b1a25638728ff34f9040bf47a088fa132d85", func := "pandect/pandectlaw09.SouthPostfix", spec := "southPostfix", inPlace := ["internal/bytealg.IndexByteString", "internal/bytealg.IndexString"], unfollowed := true, recurses := true, named := ["strconv.ErrSyntax", "strconv.ErrRange", "internal/strconv.uint64pow10", "math/bits.deBruijn32tab", "math/bits.deBruijn64tab", "internal/bytealg.MaxLen"], apart := false, laid := [("math/bits.deBruijn32tab", laid_math_bits_deBruijn32tab), ("math/bits.deBruijn64tab", laid_math_bits_deBruijn64tab), ("internal/strconv.uint64pow10", laid_internal_strconv_uint64pow10), ("strconv.ErrRange", laid_strconv_ErrRange), ("strconv.ErrSyntax", laid_strconv_ErrSyntax)], narrowed := true }
def SouthPostfixUptoSaid : Prop := southPostfixUptoRow.holds Tryd.pinned (OpenSpec.upto southPostfixSpec)

/-- 'pandectlaw09.SouthParts', WHERE WHAT IT READS IS OF BULK AT MOST 1048576: true; the input reads as it did. -/
def southPartsUptoRow : OpenClaim := { program := "ytlhgflnmdmifaaadoor", sum := "f1c320b08ca36493d5d4cdef9eb1b1a25638728ff34f9040bf47a088fa132d85", func := "pandect/pandectlaw09.SouthParts", spec := "southParts", inPlace := ["internal/bytealg.IndexByteString", "internal/bytealg.IndexString"], unfollowed := true, recurses := true, named := ["strconv.ErrSyntax", "strconv.ErrRange", "internal/strconv.uint64pow10", "math/bits.deBruijn32tab", "math/bits.deBruijn64tab", "internal/bytealg.MaxLen"], apart := false, laid := [("math/bits.deBruijn32tab", laid_math_bits_deBruijn32tab), ("math/bits.deBruijn64tab", laid_math_bits_deBruijn64tab), ("internal/strconv.uint64pow10", laid_internal_strconv_uint64pow10), ("strconv.ErrRange", laid_strconv_ErrRange), ("strconv.ErrSyntax", laid_strconv_ErrSyntax)], narrowed := true }
def SouthPartsUptoSaid : Prop := southPartsUptoRow.holds Tryd.pinned (OpenSpec.upto southPartsSpec)

/-- 'pandectlaw09.SouthForm', WHERE WHAT IT READS IS OF BULK AT MOST 1048576: true; the input reads as it did. -/
def southFormUptoRow : OpenClaim := { program := "ytlhgflnmdmifaaadoor", sum := "f1c320b08ca36493d5d4cdef9eb1b1a25638728ff34f9040bf47a088fa132d85", func := "pandect/pandectlaw09.SouthForm", spec := "southForm", inPlace := ["internal/bytealg.IndexByteString", "internal/bytealg.IndexString"], unfollowed := true, recurses := true, named := ["strconv.ErrSyntax", "strconv.ErrRange", "internal/strconv.uint64pow10", "math/bits.deBruijn32tab", "math/bits.deBruijn64tab", "internal/bytealg.MaxLen"], apart := false, laid := [("math/bits.deBruijn32tab", laid_math_bits_deBruijn32tab), ("math/bits.deBruijn64tab", laid_math_bits_deBruijn64tab), ("internal/strconv.uint64pow10", laid_internal_strconv_uint64pow10), ("strconv.ErrRange", laid_strconv_ErrRange), ("strconv.ErrSyntax", laid_strconv_ErrSyntax)], narrowed := true }
def SouthFormUptoSaid : Prop := southFormUptoRow.holds Tryd.pinned (OpenSpec.upto southFormSpec)

end Rows
end Go.Proofs.YtlhgflnmdmifaaaDoor
