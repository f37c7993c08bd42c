/-
  NARROWER THAN 'FOR EVERY INPUT', by the rows' own cells (each row's printed sentence says how): FnProofRest: laid · FnProofRestIs: laid · FnProofSum: laid · FnExactProofDiffer: laid · FnExactProofSum: laid · FnProofEither: laid · FnExactProofDifferIs: laid · FnExactProofSumIs: laid · FnExactProofRestIs: laid · FnProofDifferIs: laid · FnProofSumIs: laid · FnProofDiffer: laid.
  DERIVED. THE GIVEN ROWS OF THIS SEAT. 12 by the template 'for every input the law returns true; each argument reads behind the call as it read before'; 0 by the template 'total and deterministic' (their statements: YtinjblbfaijhdaaDoorTotals.lean).
  GIVEN WITH THE SEED: the statements are not yours to turn. If you find one false, say at which input.
  Laid BY PROGRAM, IN A SANDBOX (cutbox-rows.mjs): the forced cells as the released guide's own fill.sh prints them over the translation bcc6298b5e801d01… (all of the seat's roots in one cut). By AI agents, Wed Nov 11 2026. No macro, syntax, notation, axiom, sorry.
-/
import Derived.Test.YtinjblbfaijhdaaDoorChecked
import GoSem.PinnedTables
import GoSem.Claim
import GoSem.ClaimJoined
import GoSem.ClaimMapViews
import Derived.JoinedTies
import Derived.KernelRfl
namespace Go.Proofs.YtinjblbfaijhdaaDoor
/- THE CELL 'sum', in the pinned program and in every row, IS THE sha256 OF THE DUMP (.gsa) THAT YtinjblbfaijhdaaDoorProg.lean LOADS. Nothing in Lean hashes anything: it is a label: what it is worth is what the hold of that sum in a sandbox is worth. -/
noncomputable def Tryd.pinned : Pinned := { name := "ytinjblbfaijhdaadoor", sum := "bcc6298b5e801d0134c7ac8646e10950224b3ceda3858afb8ed79db4fd85c85c", checked := Tryd.checked }
namespace Rows
def none {H : Type} : Left H := { results := [], args := [] }

/- WHAT THE LISTED PACKAGE-LEVEL VARIABLES READ AS WHEN THE CALL BEGINS. Each datum BY PROGRAM (the guide's laid-datum.mjs) off the statement by which the dump's own 'gosem.cut.vars' lays the variable. In a bare row this is a premise. The card (YtinjblbfaijhdaaDoorCards.lean) ties it to the program's text. -/
def laid_math_bits_deBruijn32tab {H : Type} : DataW H := .agg [.lit (.int .u8 0), .lit (.int .u8 1), .lit (.int .u8 28), .lit (.int .u8 2), .lit (.int .u8 29), .lit (.int .u8 14), .lit (.int .u8 24), .lit (.int .u8 3), .lit (.int .u8 30), .lit (.int .u8 22), .lit (.int .u8 20), .lit (.int .u8 15), .lit (.int .u8 25), .lit (.int .u8 17), .lit (.int .u8 4), .lit (.int .u8 8), .lit (.int .u8 31), .lit (.int .u8 27), .lit (.int .u8 13), .lit (.int .u8 23), .lit (.int .u8 21), .lit (.int .u8 19), .lit (.int .u8 16), .lit (.int .u8 7), .lit (.int .u8 26), .lit (.int .u8 12), .lit (.int .u8 18), .lit (.int .u8 6), .lit (.int .u8 11), .lit (.int .u8 5), .lit (.int .u8 10), .lit (.int .u8 9)]
def laid_math_bits_deBruijn64tab {H : Type} : DataW H := .agg [.lit (.int .u8 0), .lit (.int .u8 1), .lit (.int .u8 56), .lit (.int .u8 2), .lit (.int .u8 57), .lit (.int .u8 49), .lit (.int .u8 28), .lit (.int .u8 3), .lit (.int .u8 61), .lit (.int .u8 58), .lit (.int .u8 42), .lit (.int .u8 50), .lit (.int .u8 38), .lit (.int .u8 29), .lit (.int .u8 17), .lit (.int .u8 4), .lit (.int .u8 62), .lit (.int .u8 47), .lit (.int .u8 59), .lit (.int .u8 36), .lit (.int .u8 45), .lit (.int .u8 43), .lit (.int .u8 51), .lit (.int .u8 22), .lit (.int .u8 53), .lit (.int .u8 39), .lit (.int .u8 33), .lit (.int .u8 30), .lit (.int .u8 24), .lit (.int .u8 18), .lit (.int .u8 12), .lit (.int .u8 5), .lit (.int .u8 63), .lit (.int .u8 55), .lit (.int .u8 48), .lit (.int .u8 27), .lit (.int .u8 60), .lit (.int .u8 41), .lit (.int .u8 37), .lit (.int .u8 16), .lit (.int .u8 46), .lit (.int .u8 35), .lit (.int .u8 44), .lit (.int .u8 21), .lit (.int .u8 52), .lit (.int .u8 32), .lit (.int .u8 23), .lit (.int .u8 11), .lit (.int .u8 54), .lit (.int .u8 26), .lit (.int .u8 40), .lit (.int .u8 15), .lit (.int .u8 34), .lit (.int .u8 20), .lit (.int .u8 31), .lit (.int .u8 10), .lit (.int .u8 25), .lit (.int .u8 14), .lit (.int .u8 19), .lit (.int .u8 9), .lit (.int .u8 13), .lit (.int .u8 8), .lit (.int .u8 7), .lit (.int .u8 6)]
def laid_internal_strconv_uint64pow10 {H : Type} : DataW H := .agg [.lit (.int .u64 1), .lit (.int .u64 10), .lit (.int .u64 100), .lit (.int .u64 1000), .lit (.int .u64 10000), .lit (.int .u64 100000), .lit (.int .u64 1000000), .lit (.int .u64 10000000), .lit (.int .u64 100000000), .lit (.int .u64 1000000000), .lit (.int .u64 10000000000), .lit (.int .u64 100000000000), .lit (.int .u64 1000000000000), .lit (.int .u64 10000000000000), .lit (.int .u64 100000000000000), .lit (.int .u64 1000000000000000), .lit (.int .u64 10000000000000000), .lit (.int .u64 100000000000000000), .lit (.int .u64 1000000000000000000), .lit (.int .u64 10000000000000000000)]
def laid_unicode_utf8_acceptRanges {H : Type} : DataW H := .agg [.agg [.lit (.int .u8 128), .lit (.int .u8 191)], .agg [.lit (.int .u8 160), .lit (.int .u8 191)], .agg [.lit (.int .u8 128), .lit (.int .u8 159)], .agg [.lit (.int .u8 144), .lit (.int .u8 191)], .agg [.lit (.int .u8 128), .lit (.int .u8 143)], .agg [.lit (.int .u8 0), .lit (.int .u8 0)], .agg [.lit (.int .u8 0), .lit (.int .u8 0)], .agg [.lit (.int .u8 0), .lit (.int .u8 0)], .agg [.lit (.int .u8 0), .lit (.int .u8 0)], .agg [.lit (.int .u8 0), .lit (.int .u8 0)], .agg [.lit (.int .u8 0), .lit (.int .u8 0)], .agg [.lit (.int .u8 0), .lit (.int .u8 0)], .agg [.lit (.int .u8 0), .lit (.int .u8 0)], .agg [.lit (.int .u8 0), .lit (.int .u8 0)], .agg [.lit (.int .u8 0), .lit (.int .u8 0)], .agg [.lit (.int .u8 0), .lit (.int .u8 0)]]
def laid_strconv_ErrRange {H : Type} : DataW H := .iface "*errors.errorString" (.ptr (.agg [.lit (.string [118, 97, 108, 117, 101, 32, 111, 117, 116, 32, 111, 102, 32, 114, 97, 110, 103, 101])]))
def laid_strconv_ErrSyntax {H : Type} : DataW H := .iface "*errors.errorString" (.ptr (.agg [.lit (.string [105, 110, 118, 97, 108, 105, 100, 32, 115, 121, 110, 116, 97, 120])]))
/-- One of Go's own tables, pinned by name: the form's constant. -/
def laid_unicode_utf8_first : DataW Unit := Go.Pinned.utf8First

/-- 'laws.FnProofRest': WHATEVER THE INPUT: true; the input reads as it did. -/
def fnProofRestSpec : ChangeSpec := { name := "fnProofRest", fn := fun _ => fun
  | [d] => { results := [.lit (.bool true)], args := [d] }
  | _ => none }
def fnProofRestRow : OpenClaim := { program := "ytinjblbfaijhdaadoor", sum := "bcc6298b5e801d0134c7ac8646e10950224b3ceda3858afb8ed79db4fd85c85c", func := "loop.example/oneletter/laws.FnProofRest", spec := "fnProofRest", inPlace := ["internal/bytealg.IndexByteString", "internal/bytealg.IndexString", "internal/bytealg.CountString"], unfollowed := true, recurses := true, named := ["internal/bytealg.MaxLen", "internal/strconv.uint64pow10", "math/bits.deBruijn32tab", "math/bits.deBruijn64tab", "unicode/utf8.first", "unicode/utf8.acceptRanges", "strconv.ErrSyntax", "strconv.ErrRange"], apart := false, laid := [("math/bits.deBruijn32tab", laid_math_bits_deBruijn32tab), ("math/bits.deBruijn64tab", laid_math_bits_deBruijn64tab), ("internal/strconv.uint64pow10", laid_internal_strconv_uint64pow10), ("unicode/utf8.acceptRanges", laid_unicode_utf8_acceptRanges), ("strconv.ErrRange", laid_strconv_ErrRange), ("strconv.ErrSyntax", laid_strconv_ErrSyntax), ("unicode/utf8.first", laid_unicode_utf8_first)] }
def FnProofRestSaid : Prop := fnProofRestRow.holds Tryd.pinned (OpenSpec.ofChange fnProofRestSpec)

/-- ITS FALSE NEIGHBOUR: 'it returns false'. Refute it at one input. -/
def fnProofRestWrong : ChangeSpec := { name := "fnProofRest", fn := fun _ => fun
  | [d] => { results := [.lit (.bool false)], args := [d] }
  | _ => none }
def FnProofRestWrongFalsely : Prop := fnProofRestRow.holds Tryd.pinned (OpenSpec.ofChange fnProofRestWrong)

/-- 'laws.FnProofRestIs': WHATEVER THE INPUT: true; the input reads as it did. -/
def fnProofRestIsSpec : ChangeSpec := { name := "fnProofRestIs", fn := fun _ => fun
  | [d] => { results := [.lit (.bool true)], args := [d] }
  | _ => none }
def fnProofRestIsRow : OpenClaim := { program := "ytinjblbfaijhdaadoor", sum := "bcc6298b5e801d0134c7ac8646e10950224b3ceda3858afb8ed79db4fd85c85c", func := "loop.example/oneletter/laws.FnProofRestIs", spec := "fnProofRestIs", inPlace := ["internal/bytealg.IndexByteString", "internal/bytealg.IndexString", "internal/bytealg.CountString"], unfollowed := true, recurses := true, named := ["internal/bytealg.MaxLen", "unicode/utf8.first", "unicode/utf8.acceptRanges", "strconv.ErrSyntax", "strconv.ErrRange", "internal/strconv.uint64pow10", "math/bits.deBruijn32tab", "math/bits.deBruijn64tab"], apart := false, laid := [("math/bits.deBruijn32tab", laid_math_bits_deBruijn32tab), ("math/bits.deBruijn64tab", laid_math_bits_deBruijn64tab), ("internal/strconv.uint64pow10", laid_internal_strconv_uint64pow10), ("unicode/utf8.acceptRanges", laid_unicode_utf8_acceptRanges), ("strconv.ErrRange", laid_strconv_ErrRange), ("strconv.ErrSyntax", laid_strconv_ErrSyntax), ("unicode/utf8.first", laid_unicode_utf8_first)] }
def FnProofRestIsSaid : Prop := fnProofRestIsRow.holds Tryd.pinned (OpenSpec.ofChange fnProofRestIsSpec)

/-- ITS FALSE NEIGHBOUR: 'it returns false'. Refute it at one input. -/
def fnProofRestIsWrong : ChangeSpec := { name := "fnProofRestIs", fn := fun _ => fun
  | [d] => { results := [.lit (.bool false)], args := [d] }
  | _ => none }
def FnProofRestIsWrongFalsely : Prop := fnProofRestIsRow.holds Tryd.pinned (OpenSpec.ofChange fnProofRestIsWrong)

/-- 'laws.FnProofSum': WHATEVER THE INPUT: true; the input reads as it did. -/
def fnProofSumSpec : ChangeSpec := { name := "fnProofSum", fn := fun _ => fun
  | [d] => { results := [.lit (.bool true)], args := [d] }
  | _ => none }
def fnProofSumRow : OpenClaim := { program := "ytinjblbfaijhdaadoor", sum := "bcc6298b5e801d0134c7ac8646e10950224b3ceda3858afb8ed79db4fd85c85c", func := "loop.example/oneletter/laws.FnProofSum", spec := "fnProofSum", inPlace := ["internal/bytealg.IndexByteString", "internal/bytealg.IndexString", "internal/bytealg.CountString"], recurses := true, named := ["internal/bytealg.MaxLen", "internal/strconv.uint64pow10", "math/bits.deBruijn32tab", "math/bits.deBruijn64tab", "unicode/utf8.first", "unicode/utf8.acceptRanges", "strconv.ErrSyntax", "strconv.ErrRange"], apart := false, laid := [("math/bits.deBruijn32tab", laid_math_bits_deBruijn32tab), ("math/bits.deBruijn64tab", laid_math_bits_deBruijn64tab), ("internal/strconv.uint64pow10", laid_internal_strconv_uint64pow10), ("unicode/utf8.acceptRanges", laid_unicode_utf8_acceptRanges), ("strconv.ErrRange", laid_strconv_ErrRange), ("strconv.ErrSyntax", laid_strconv_ErrSyntax), ("unicode/utf8.first", laid_unicode_utf8_first)] }
def FnProofSumSaid : Prop := fnProofSumRow.holds Tryd.pinned (OpenSpec.ofChange fnProofSumSpec)

/-- ITS FALSE NEIGHBOUR: 'it returns false'. Refute it at one input. -/
def fnProofSumWrong : ChangeSpec := { name := "fnProofSum", fn := fun _ => fun
  | [d] => { results := [.lit (.bool false)], args := [d] }
  | _ => none }
def FnProofSumWrongFalsely : Prop := fnProofSumRow.holds Tryd.pinned (OpenSpec.ofChange fnProofSumWrong)

/-- 'laws.FnExactProofDiffer': WHATEVER THE INPUT: true; the input reads as it did. -/
def fnExactProofDifferSpec : ChangeSpec := { name := "fnExactProofDiffer", fn := fun _ => fun
  | [d1, d2] => { results := [.lit (.bool true)], args := [d1, d2] }
  | _ => none }
def fnExactProofDifferRow : OpenClaim := { program := "ytinjblbfaijhdaadoor", sum := "bcc6298b5e801d0134c7ac8646e10950224b3ceda3858afb8ed79db4fd85c85c", func := "loop.example/oneletter/laws.FnExactProofDiffer", spec := "fnExactProofDiffer", inPlace := ["internal/bytealg.IndexByteString", "internal/bytealg.IndexString"], recurses := true, named := ["internal/bytealg.MaxLen", "internal/strconv.uint64pow10", "math/bits.deBruijn32tab", "math/bits.deBruijn64tab"], apart := false, laid := [("math/bits.deBruijn32tab", laid_math_bits_deBruijn32tab), ("math/bits.deBruijn64tab", laid_math_bits_deBruijn64tab), ("internal/strconv.uint64pow10", laid_internal_strconv_uint64pow10)] }
def FnExactProofDifferSaid : Prop := fnExactProofDifferRow.holds Tryd.pinned (OpenSpec.ofChange fnExactProofDifferSpec)

/-- ITS FALSE NEIGHBOUR: 'it returns false'. Refute it at one input. -/
def fnExactProofDifferWrong : ChangeSpec := { name := "fnExactProofDiffer", fn := fun _ => fun
  | [d1, d2] => { results := [.lit (.bool false)], args := [d1, d2] }
  | _ => none }
def FnExactProofDifferWrongFalsely : Prop := fnExactProofDifferRow.holds Tryd.pinned (OpenSpec.ofChange fnExactProofDifferWrong)

/-- 'laws.FnExactProofSum': WHATEVER THE INPUT: true; the input reads as it did. -/
def fnExactProofSumSpec : ChangeSpec := { name := "fnExactProofSum", fn := fun _ => fun
  | [d1, d2] => { results := [.lit (.bool true)], args := [d1, d2] }
  | _ => none }
def fnExactProofSumRow : OpenClaim := { program := "ytinjblbfaijhdaadoor", sum := "bcc6298b5e801d0134c7ac8646e10950224b3ceda3858afb8ed79db4fd85c85c", func := "loop.example/oneletter/laws.FnExactProofSum", spec := "fnExactProofSum", inPlace := ["internal/bytealg.IndexByteString", "internal/bytealg.IndexString"], recurses := true, named := ["internal/bytealg.MaxLen", "internal/strconv.uint64pow10", "math/bits.deBruijn32tab", "math/bits.deBruijn64tab"], apart := false, laid := [("math/bits.deBruijn32tab", laid_math_bits_deBruijn32tab), ("math/bits.deBruijn64tab", laid_math_bits_deBruijn64tab), ("internal/strconv.uint64pow10", laid_internal_strconv_uint64pow10)] }
def FnExactProofSumSaid : Prop := fnExactProofSumRow.holds Tryd.pinned (OpenSpec.ofChange fnExactProofSumSpec)

/-- ITS FALSE NEIGHBOUR: 'it returns false'. Refute it at one input. -/
def fnExactProofSumWrong : ChangeSpec := { name := "fnExactProofSum", fn := fun _ => fun
  | [d1, d2] => { results := [.lit (.bool false)], args := [d1, d2] }
  | _ => none }
def FnExactProofSumWrongFalsely : Prop := fnExactProofSumRow.holds Tryd.pinned (OpenSpec.ofChange fnExactProofSumWrong)

/-- 'laws.FnProofEither': WHATEVER THE INPUT: true; the input reads as it did. -/
def fnProofEitherSpec : ChangeSpec := { name := "fnProofEither", fn := fun _ => fun
  | [d] => { results := [.lit (.bool true)], args := [d] }
  | _ => none }
def fnProofEitherRow : OpenClaim := { program := "ytinjblbfaijhdaadoor", sum := "bcc6298b5e801d0134c7ac8646e10950224b3ceda3858afb8ed79db4fd85c85c", func := "loop.example/oneletter/laws.FnProofEither", spec := "fnProofEither", inPlace := ["internal/bytealg.IndexByteString", "internal/bytealg.IndexString"], recurses := true, named := ["internal/bytealg.MaxLen", "internal/strconv.uint64pow10", "math/bits.deBruijn32tab", "math/bits.deBruijn64tab"], apart := false, laid := [("math/bits.deBruijn32tab", laid_math_bits_deBruijn32tab), ("math/bits.deBruijn64tab", laid_math_bits_deBruijn64tab), ("internal/strconv.uint64pow10", laid_internal_strconv_uint64pow10)] }
def FnProofEitherSaid : Prop := fnProofEitherRow.holds Tryd.pinned (OpenSpec.ofChange fnProofEitherSpec)

/-- ITS FALSE NEIGHBOUR: 'it returns false'. Refute it at one input. -/
def fnProofEitherWrong : ChangeSpec := { name := "fnProofEither", fn := fun _ => fun
  | [d] => { results := [.lit (.bool false)], args := [d] }
  | _ => none }
def FnProofEitherWrongFalsely : Prop := fnProofEitherRow.holds Tryd.pinned (OpenSpec.ofChange fnProofEitherWrong)

/-- 'laws.FnExactProofDifferIs': WHATEVER THE INPUT: true; the input reads as it did. -/
def fnExactProofDifferIsSpec : ChangeSpec := { name := "fnExactProofDifferIs", fn := fun _ => fun
  | [d1, d2, d3] => { results := [.lit (.bool true)], args := [d1, d2, d3] }
  | _ => none }
def fnExactProofDifferIsRow : OpenClaim := { program := "ytinjblbfaijhdaadoor", sum := "bcc6298b5e801d0134c7ac8646e10950224b3ceda3858afb8ed79db4fd85c85c", func := "loop.example/oneletter/laws.FnExactProofDifferIs", spec := "fnExactProofDifferIs", inPlace := ["internal/bytealg.IndexByteString", "internal/bytealg.IndexString", "internal/bytealg.CountString"], recurses := true, named := ["internal/bytealg.MaxLen", "unicode/utf8.first", "unicode/utf8.acceptRanges", "strconv.ErrSyntax", "strconv.ErrRange", "internal/strconv.uint64pow10", "math/bits.deBruijn32tab", "math/bits.deBruijn64tab"], apart := false, laid := [("math/bits.deBruijn32tab", laid_math_bits_deBruijn32tab), ("math/bits.deBruijn64tab", laid_math_bits_deBruijn64tab), ("internal/strconv.uint64pow10", laid_internal_strconv_uint64pow10), ("unicode/utf8.acceptRanges", laid_unicode_utf8_acceptRanges), ("strconv.ErrRange", laid_strconv_ErrRange), ("strconv.ErrSyntax", laid_strconv_ErrSyntax), ("unicode/utf8.first", laid_unicode_utf8_first)] }
def FnExactProofDifferIsSaid : Prop := fnExactProofDifferIsRow.holds Tryd.pinned (OpenSpec.ofChange fnExactProofDifferIsSpec)

/-- ITS FALSE NEIGHBOUR: 'it returns false'. Refute it at one input. -/
def fnExactProofDifferIsWrong : ChangeSpec := { name := "fnExactProofDifferIs", fn := fun _ => fun
  | [d1, d2, d3] => { results := [.lit (.bool false)], args := [d1, d2, d3] }
  | _ => none }
def FnExactProofDifferIsWrongFalsely : Prop := fnExactProofDifferIsRow.holds Tryd.pinned (OpenSpec.ofChange fnExactProofDifferIsWrong)

/-- 'laws.FnExactProofSumIs': WHATEVER THE INPUT: true; the input reads as it did. -/
def fnExactProofSumIsSpec : ChangeSpec := { name := "fnExactProofSumIs", fn := fun _ => fun
  | [d1, d2, d3] => { results := [.lit (.bool true)], args := [d1, d2, d3] }
  | _ => none }
def fnExactProofSumIsRow : OpenClaim := { program := "ytinjblbfaijhdaadoor", sum := "bcc6298b5e801d0134c7ac8646e10950224b3ceda3858afb8ed79db4fd85c85c", func := "loop.example/oneletter/laws.FnExactProofSumIs", spec := "fnExactProofSumIs", inPlace := ["internal/bytealg.IndexByteString", "internal/bytealg.IndexString", "internal/bytealg.CountString"], recurses := true, named := ["internal/bytealg.MaxLen", "unicode/utf8.first", "unicode/utf8.acceptRanges", "strconv.ErrSyntax", "strconv.ErrRange", "internal/strconv.uint64pow10", "math/bits.deBruijn32tab", "math/bits.deBruijn64tab"], apart := false, laid := [("math/bits.deBruijn32tab", laid_math_bits_deBruijn32tab), ("math/bits.deBruijn64tab", laid_math_bits_deBruijn64tab), ("internal/strconv.uint64pow10", laid_internal_strconv_uint64pow10), ("unicode/utf8.acceptRanges", laid_unicode_utf8_acceptRanges), ("strconv.ErrRange", laid_strconv_ErrRange), ("strconv.ErrSyntax", laid_strconv_ErrSyntax), ("unicode/utf8.first", laid_unicode_utf8_first)] }
def FnExactProofSumIsSaid : Prop := fnExactProofSumIsRow.holds Tryd.pinned (OpenSpec.ofChange fnExactProofSumIsSpec)

/-- ITS FALSE NEIGHBOUR: 'it returns false'. Refute it at one input. -/
def fnExactProofSumIsWrong : ChangeSpec := { name := "fnExactProofSumIs", fn := fun _ => fun
  | [d1, d2, d3] => { results := [.lit (.bool false)], args := [d1, d2, d3] }
  | _ => none }
def FnExactProofSumIsWrongFalsely : Prop := fnExactProofSumIsRow.holds Tryd.pinned (OpenSpec.ofChange fnExactProofSumIsWrong)

/-- 'laws.FnExactProofRestIs': WHATEVER THE INPUT: true; the input reads as it did. -/
def fnExactProofRestIsSpec : ChangeSpec := { name := "fnExactProofRestIs", fn := fun _ => fun
  | [d1, d2, d3] => { results := [.lit (.bool true)], args := [d1, d2, d3] }
  | _ => none }
def fnExactProofRestIsRow : OpenClaim := { program := "ytinjblbfaijhdaadoor", sum := "bcc6298b5e801d0134c7ac8646e10950224b3ceda3858afb8ed79db4fd85c85c", func := "loop.example/oneletter/laws.FnExactProofRestIs", spec := "fnExactProofRestIs", inPlace := ["internal/bytealg.IndexByteString", "internal/bytealg.IndexString", "internal/bytealg.CountString"], unfollowed := true, recurses := true, named := ["internal/bytealg.MaxLen", "unicode/utf8.first", "unicode/utf8.acceptRanges", "strconv.ErrSyntax", "strconv.ErrRange", "internal/strconv.uint64pow10", "math/bits.deBruijn32tab", "math/bits.deBruijn64tab"], apart := false, laid := [("math/bits.deBruijn32tab", laid_math_bits_deBruijn32tab), ("math/bits.deBruijn64tab", laid_math_bits_deBruijn64tab), ("internal/strconv.uint64pow10", laid_internal_strconv_uint64pow10), ("unicode/utf8.acceptRanges", laid_unicode_utf8_acceptRanges), ("strconv.ErrRange", laid_strconv_ErrRange), ("strconv.ErrSyntax", laid_strconv_ErrSyntax), ("unicode/utf8.first", laid_unicode_utf8_first)] }
def FnExactProofRestIsSaid : Prop := fnExactProofRestIsRow.holds Tryd.pinned (OpenSpec.ofChange fnExactProofRestIsSpec)

/-- ITS FALSE NEIGHBOUR: 'it returns false'. Refute it at one input. -/
def fnExactProofRestIsWrong : ChangeSpec := { name := "fnExactProofRestIs", fn := fun _ => fun
  | [d1, d2, d3] => { results := [.lit (.bool false)], args := [d1, d2, d3] }
  | _ => none }
def FnExactProofRestIsWrongFalsely : Prop := fnExactProofRestIsRow.holds Tryd.pinned (OpenSpec.ofChange fnExactProofRestIsWrong)

/-- 'laws.FnProofDifferIs': WHATEVER THE INPUT: true; the input reads as it did. -/
def fnProofDifferIsSpec : ChangeSpec := { name := "fnProofDifferIs", fn := fun _ => fun
  | [d] => { results := [.lit (.bool true)], args := [d] }
  | _ => none }
def fnProofDifferIsRow : OpenClaim := { program := "ytinjblbfaijhdaadoor", sum := "bcc6298b5e801d0134c7ac8646e10950224b3ceda3858afb8ed79db4fd85c85c", func := "loop.example/oneletter/laws.FnProofDifferIs", spec := "fnProofDifferIs", inPlace := ["internal/bytealg.IndexByteString", "internal/bytealg.IndexString", "internal/bytealg.CountString", "internal/abi.NoEscape"], recurses := true, named := ["internal/bytealg.MaxLen", "unicode/utf8.first", "unicode/utf8.acceptRanges", "strconv.ErrSyntax", "strconv.ErrRange", "internal/strconv.uint64pow10", "math/bits.deBruijn32tab", "math/bits.deBruijn64tab"], apart := false, laid := [("math/bits.deBruijn32tab", laid_math_bits_deBruijn32tab), ("math/bits.deBruijn64tab", laid_math_bits_deBruijn64tab), ("internal/strconv.uint64pow10", laid_internal_strconv_uint64pow10), ("unicode/utf8.acceptRanges", laid_unicode_utf8_acceptRanges), ("strconv.ErrRange", laid_strconv_ErrRange), ("strconv.ErrSyntax", laid_strconv_ErrSyntax), ("unicode/utf8.first", laid_unicode_utf8_first)] }
def FnProofDifferIsSaid : Prop := fnProofDifferIsRow.holds Tryd.pinned (OpenSpec.ofChange fnProofDifferIsSpec)

/-- ITS FALSE NEIGHBOUR: 'it returns false'. Refute it at one input. -/
def fnProofDifferIsWrong : ChangeSpec := { name := "fnProofDifferIs", fn := fun _ => fun
  | [d] => { results := [.lit (.bool false)], args := [d] }
  | _ => none }
def FnProofDifferIsWrongFalsely : Prop := fnProofDifferIsRow.holds Tryd.pinned (OpenSpec.ofChange fnProofDifferIsWrong)

/-- 'laws.FnProofSumIs': WHATEVER THE INPUT: true; the input reads as it did. -/
def fnProofSumIsSpec : ChangeSpec := { name := "fnProofSumIs", fn := fun _ => fun
  | [d] => { results := [.lit (.bool true)], args := [d] }
  | _ => none }
def fnProofSumIsRow : OpenClaim := { program := "ytinjblbfaijhdaadoor", sum := "bcc6298b5e801d0134c7ac8646e10950224b3ceda3858afb8ed79db4fd85c85c", func := "loop.example/oneletter/laws.FnProofSumIs", spec := "fnProofSumIs", inPlace := ["internal/bytealg.IndexByteString", "internal/bytealg.IndexString", "internal/bytealg.CountString"], unfollowed := true, recurses := true, named := ["internal/bytealg.MaxLen", "unicode/utf8.first", "unicode/utf8.acceptRanges", "strconv.ErrSyntax", "strconv.ErrRange", "internal/strconv.uint64pow10", "math/bits.deBruijn32tab", "math/bits.deBruijn64tab"], apart := false, laid := [("math/bits.deBruijn32tab", laid_math_bits_deBruijn32tab), ("math/bits.deBruijn64tab", laid_math_bits_deBruijn64tab), ("internal/strconv.uint64pow10", laid_internal_strconv_uint64pow10), ("unicode/utf8.acceptRanges", laid_unicode_utf8_acceptRanges), ("strconv.ErrRange", laid_strconv_ErrRange), ("strconv.ErrSyntax", laid_strconv_ErrSyntax), ("unicode/utf8.first", laid_unicode_utf8_first)] }
def FnProofSumIsSaid : Prop := fnProofSumIsRow.holds Tryd.pinned (OpenSpec.ofChange fnProofSumIsSpec)

/-- ITS FALSE NEIGHBOUR: 'it returns false'. Refute it at one input. -/
def fnProofSumIsWrong : ChangeSpec := { name := "fnProofSumIs", fn := fun _ => fun
  | [d] => { results := [.lit (.bool false)], args := [d] }
  | _ => none }
def FnProofSumIsWrongFalsely : Prop := fnProofSumIsRow.holds Tryd.pinned (OpenSpec.ofChange fnProofSumIsWrong)

/-- 'laws.FnProofDiffer': WHATEVER THE INPUT: true; the input reads as it did. -/
def fnProofDifferSpec : ChangeSpec := { name := "fnProofDiffer", fn := fun _ => fun
  | [d] => { results := [.lit (.bool true)], args := [d] }
  | _ => none }
def fnProofDifferRow : OpenClaim := { program := "ytinjblbfaijhdaadoor", sum := "bcc6298b5e801d0134c7ac8646e10950224b3ceda3858afb8ed79db4fd85c85c", func := "loop.example/oneletter/laws.FnProofDiffer", spec := "fnProofDiffer", inPlace := ["internal/bytealg.IndexByteString", "internal/bytealg.IndexString", "internal/abi.NoEscape", "internal/bytealg.CountString"], recurses := true, named := ["internal/bytealg.MaxLen", "internal/strconv.uint64pow10", "math/bits.deBruijn32tab", "math/bits.deBruijn64tab", "unicode/utf8.first", "unicode/utf8.acceptRanges", "strconv.ErrSyntax", "strconv.ErrRange"], apart := false, laid := [("math/bits.deBruijn32tab", laid_math_bits_deBruijn32tab), ("math/bits.deBruijn64tab", laid_math_bits_deBruijn64tab), ("internal/strconv.uint64pow10", laid_internal_strconv_uint64pow10), ("unicode/utf8.acceptRanges", laid_unicode_utf8_acceptRanges), ("strconv.ErrRange", laid_strconv_ErrRange), ("strconv.ErrSyntax", laid_strconv_ErrSyntax), ("unicode/utf8.first", laid_unicode_utf8_first)] }
def FnProofDifferSaid : Prop := fnProofDifferRow.holds Tryd.pinned (OpenSpec.ofChange fnProofDifferSpec)

/-- ITS FALSE NEIGHBOUR: 'it returns false'. Refute it at one input. -/
def fnProofDifferWrong : ChangeSpec := { name := "fnProofDiffer", fn := fun _ => fun
  | [d] => { results := [.lit (.bool false)], args := [d] }
  | _ => none }
def FnProofDifferWrongFalsely : Prop := fnProofDifferRow.holds Tryd.pinned (OpenSpec.ofChange fnProofDifferWrong)

/- THE SECOND FORM. 'bulk': how many values and letters a reading holds, each counted each time it is reached (what is shared counts as often as it is met; a slice's spare places count too). A statement '..UptoSaid' is the law's where the arguments, and the package variables that the reading takes, are together of bulk at most 1048576: NARROWER than '..Said'. Prove '..Said' where nothing that the law and all that it calls make is longer than what came in: it says more and counts as full. Else prove '..UptoSaid'. A law counts once. -/
mutual
def uptoBulk {H : Type} : DataW H → Nat
  | .lit (.string bytes) => bytes.length + 1
  | .lit _ => 1
  | .nil => 1
  | .ptr d => uptoBulk d + 1
  | .slice elems spare => uptoBulkAll elems + uptoBulkAll spare + 1
  | .agg parts => uptoBulkAll parts + 1
  | .iface _ d => uptoBulk d + 1
  | .map entries => uptoBulkEntries entries + 1
  | .held _ => 1
def uptoBulkAll {H : Type} : List (DataW H) → Nat
  | [] => 0
  | d :: r => uptoBulk d + uptoBulkAll r
def uptoBulkEntries {H : Type} : List (Lit × DataW H) → Nat
  | [] => 0
  | x :: r => uptoBulkEntry x + uptoBulkEntries r
def uptoBulkEntry {H : Type} : Lit × DataW H → Nat
  | (.string bytes, d) => bytes.length + uptoBulk d + 1
  | (_, d) => uptoBulk d + 1
 end
def uptoSmall : (H : Type) → List (DataW H) → Bool := fun _ ds => decide (uptoBulkAll ds ≤ 1048576)
def OpenSpec.upto (s : _root_.Go.ChangeSpec) : _root_.Go.OpenSpec := { _root_.Go.OpenSpec.ofChange s with cond := some uptoSmall }

/-- 'laws.FnProofRest', WHERE WHAT IT READS IS OF BULK AT MOST 1048576: true; the input reads as it did. -/
def fnProofRestUptoRow : OpenClaim := { program := "ytinjblbfaijhdaadoor", sum := "bcc6298b5e801d0134c7ac8646e10950224b3ceda3858afb8ed79db4fd85c85c", func := "loop.example/oneletter/laws.FnProofRest", spec := "fnProofRest", inPlace := ["internal/bytealg.IndexByteString", "internal/bytealg.IndexString", "internal/bytealg.CountString"], unfollowed := true, recurses := true, named := ["internal/bytealg.MaxLen", "internal/strconv.uint64pow10", "math/bits.deBruijn32tab", "math/bits.deBruijn64tab", "unicode/utf8.first", "unicode/utf8.acceptRanges", "strconv.ErrSyntax", "strconv.ErrRange"], apart := false, laid := [("math/bits.deBruijn32tab", laid_math_bits_deBruijn32tab), ("math/bits.deBruijn64tab", laid_math_bits_deBruijn64tab), ("internal/strconv.uint64pow10", laid_internal_strconv_uint64pow10), ("unicode/utf8.acceptRanges", laid_unicode_utf8_acceptRanges), ("strconv.ErrRange", laid_strconv_ErrRange), ("strconv.ErrSyntax", laid_strconv_ErrSyntax), ("unicode/utf8.first", laid_unicode_utf8_first)], narrowed := true }
def FnProofRestUptoSaid : Prop := fnProofRestUptoRow.holds Tryd.pinned (OpenSpec.upto fnProofRestSpec)

/-- 'laws.FnProofRestIs', WHERE WHAT IT READS IS OF BULK AT MOST 1048576: true; the input reads as it did. -/
def fnProofRestIsUptoRow : OpenClaim := { program := "ytinjblbfaijhdaadoor", sum := "bcc6298b5e801d0134c7ac8646e10950224b3ceda3858afb8ed79db4fd85c85c", func := "loop.example/oneletter/laws.FnProofRestIs", spec := "fnProofRestIs", inPlace := ["internal/bytealg.IndexByteString", "internal/bytealg.IndexString", "internal/bytealg.CountString"], unfollowed := true, recurses := true, named := ["internal/bytealg.MaxLen", "unicode/utf8.first", "unicode/utf8.acceptRanges", "strconv.ErrSyntax", "strconv.ErrRange", "internal/strconv.uint64pow10", "math/bits.deBruijn32tab", "math/bits.deBruijn64tab"], apart := false, laid := [("math/bits.deBruijn32tab", laid_math_bits_deBruijn32tab), ("math/bits.deBruijn64tab", laid_math_bits_deBruijn64tab), ("internal/strconv.uint64pow10", laid_internal_strconv_uint64pow10), ("unicode/utf8.acceptRanges", laid_unicode_utf8_acceptRanges), ("strconv.ErrRange", laid_strconv_ErrRange), ("strconv.ErrSyntax", laid_strconv_ErrSyntax), ("unicode/utf8.first", laid_unicode_utf8_first)], narrowed := true }
def FnProofRestIsUptoSaid : Prop := fnProofRestIsUptoRow.holds Tryd.pinned (OpenSpec.upto fnProofRestIsSpec)

/-- 'laws.FnProofSum', WHERE WHAT IT READS IS OF BULK AT MOST 1048576: true; the input reads as it did. -/
def fnProofSumUptoRow : OpenClaim := { program := "ytinjblbfaijhdaadoor", sum := "bcc6298b5e801d0134c7ac8646e10950224b3ceda3858afb8ed79db4fd85c85c", func := "loop.example/oneletter/laws.FnProofSum", spec := "fnProofSum", inPlace := ["internal/bytealg.IndexByteString", "internal/bytealg.IndexString", "internal/bytealg.CountString"], recurses := true, named := ["internal/bytealg.MaxLen", "internal/strconv.uint64pow10", "math/bits.deBruijn32tab", "math/bits.deBruijn64tab", "unicode/utf8.first", "unicode/utf8.acceptRanges", "strconv.ErrSyntax", "strconv.ErrRange"], apart := false, laid := [("math/bits.deBruijn32tab", laid_math_bits_deBruijn32tab), ("math/bits.deBruijn64tab", laid_math_bits_deBruijn64tab), ("internal/strconv.uint64pow10", laid_internal_strconv_uint64pow10), ("unicode/utf8.acceptRanges", laid_unicode_utf8_acceptRanges), ("strconv.ErrRange", laid_strconv_ErrRange), ("strconv.ErrSyntax", laid_strconv_ErrSyntax), ("unicode/utf8.first", laid_unicode_utf8_first)], narrowed := true }
def FnProofSumUptoSaid : Prop := fnProofSumUptoRow.holds Tryd.pinned (OpenSpec.upto fnProofSumSpec)

/-- 'laws.FnExactProofDiffer', WHERE WHAT IT READS IS OF BULK AT MOST 1048576: true; the input reads as it did. -/
def fnExactProofDifferUptoRow : OpenClaim := { program := "ytinjblbfaijhdaadoor", sum := "bcc6298b5e801d0134c7ac8646e10950224b3ceda3858afb8ed79db4fd85c85c", func := "loop.example/oneletter/laws.FnExactProofDiffer", spec := "fnExactProofDiffer", inPlace := ["internal/bytealg.IndexByteString", "internal/bytealg.IndexString"], recurses := true, named := ["internal/bytealg.MaxLen", "internal/strconv.uint64pow10", "math/bits.deBruijn32tab", "math/bits.deBruijn64tab"], apart := false, laid := [("math/bits.deBruijn32tab", laid_math_bits_deBruijn32tab), ("math/bits.deBruijn64tab", laid_math_bits_deBruijn64tab), ("internal/strconv.uint64pow10", laid_internal_strconv_uint64pow10)], narrowed := true }
def FnExactProofDifferUptoSaid : Prop := fnExactProofDifferUptoRow.holds Tryd.pinned (OpenSpec.upto fnExactProofDifferSpec)

/-- 'laws.FnExactProofSum', WHERE WHAT IT READS IS OF BULK AT MOST 1048576: true; the input reads as it did. -/
def fnExactProofSumUptoRow : OpenClaim := { program := "ytinjblbfaijhdaadoor", sum := "bcc6298b5e801d0134c7ac8646e10950224b3ceda3858afb8ed79db4fd85c85c", func := "loop.example/oneletter/laws.FnExactProofSum", spec := "fnExactProofSum", inPlace := ["internal/bytealg.IndexByteString", "internal/bytealg.IndexString"], recurses := true, named := ["internal/bytealg.MaxLen", "internal/strconv.uint64pow10", "math/bits.deBruijn32tab", "math/bits.deBruijn64tab"], apart := false, laid := [("math/bits.deBruijn32tab", laid_math_bits_deBruijn32tab), ("math/bits.deBruijn64tab", laid_math_bits_deBruijn64tab), ("internal/strconv.uint64pow10", laid_internal_strconv_uint64pow10)], narrowed := true }
def FnExactProofSumUptoSaid : Prop := fnExactProofSumUptoRow.holds Tryd.pinned (OpenSpec.upto fnExactProofSumSpec)

/-- 'laws.FnProofEither', WHERE WHAT IT READS IS OF BULK AT MOST 1048576: true; the input reads as it did. -/
def fnProofEitherUptoRow : OpenClaim := { program := "ytinjblbfaijhdaadoor", sum := "bcc6298b5e801d0134c7ac8646e10950224b3ceda3858afb8ed79db4fd85c85c", func := "loop.example/oneletter/laws.FnProofEither", spec := "fnProofEither", inPlace := ["internal/bytealg.IndexByteString", "internal/bytealg.IndexString"], recurses := true, named := ["internal/bytealg.MaxLen", "internal/strconv.uint64pow10", "math/bits.deBruijn32tab", "math/bits.deBruijn64tab"], apart := false, laid := [("math/bits.deBruijn32tab", laid_math_bits_deBruijn32tab), ("math/bits.deBruijn64tab", laid_math_bits_deBruijn64tab), ("internal/strconv.uint64pow10", laid_internal_strconv_uint64pow10)], narrowed := true }
def FnProofEitherUptoSaid : Prop := fnProofEitherUptoRow.holds Tryd.pinned (OpenSpec.upto fnProofEitherSpec)

/-- 'laws.FnExactProofDifferIs', WHERE WHAT IT READS IS OF BULK AT MOST 1048576: true; the input reads as it did. -/
def fnExactProofDifferIsUptoRow : OpenClaim := { program := "ytinjblbfaijhdaadoor", sum := "bcc6298b5e801d0134c7ac8646e10950224b3ceda3858afb8ed79db4fd85c85c", func := "loop.example/oneletter/laws.FnExactProofDifferIs", spec := "fnExactProofDifferIs", inPlace := ["internal/bytealg.IndexByteString", "internal/bytealg.IndexString", "internal/bytealg.CountString"], recurses := true, named := ["internal/bytealg.MaxLen", "unicode/utf8.first", "unicode/utf8.acceptRanges", "strconv.ErrSyntax", "strconv.ErrRange", "internal/strconv.uint64pow10", "math/bits.deBruijn32tab", "math/bits.deBruijn64tab"], apart := false, laid := [("math/bits.deBruijn32tab", laid_math_bits_deBruijn32tab), ("math/bits.deBruijn64tab", laid_math_bits_deBruijn64tab), ("internal/strconv.uint64pow10", laid_internal_strconv_uint64pow10), ("unicode/utf8.acceptRanges", laid_unicode_utf8_acceptRanges), ("strconv.ErrRange", laid_strconv_ErrRange), ("strconv.ErrSyntax", laid_strconv_ErrSyntax), ("unicode/utf8.first", laid_unicode_utf8_first)], narrowed := true }
def FnExactProofDifferIsUptoSaid : Prop := fnExactProofDifferIsUptoRow.holds Tryd.pinned (OpenSpec.upto fnExactProofDifferIsSpec)

/-- 'laws.FnExactProofSumIs', WHERE WHAT IT READS IS OF BULK AT MOST 1048576: true; the input reads as it did. -/
def fnExactProofSumIsUptoRow : OpenClaim := { program := "ytinjblbfaijhdaadoor", sum := "bcc6298b5e801d0134c7ac8646e10950224b3ceda3858afb8ed79db4fd85c85c", func := "loop.example/oneletter/laws.FnExactProofSumIs", spec := "fnExactProofSumIs", inPlace := ["internal/bytealg.IndexByteString", "internal/bytealg.IndexString", "internal/bytealg.CountString"], recurses := true, named := ["internal/bytealg.MaxLen", "unicode/utf8.first", "unicode/utf8.acceptRanges", "strconv.ErrSyntax", "strconv.ErrRange", "internal/strconv.uint64pow10", "math/bits.deBruijn32tab", "math/bits.deBruijn64tab"], apart := false, laid := [("math/bits.deBruijn32tab", laid_math_bits_deBruijn32tab), ("math/bits.deBruijn64tab", laid_math_bits_deBruijn64tab), ("internal/strconv.uint64pow10", laid_internal_strconv_uint64pow10), ("unicode/utf8.acceptRanges", laid_unicode_utf8_acceptRanges), ("strconv.ErrRange", laid_strconv_ErrRange), ("strconv.ErrSyntax", laid_strconv_ErrSyntax), ("unicode/utf8.first", laid_unicode_utf8_first)], narrowed := true }
def FnExactProofSumIsUptoSaid : Prop := fnExactProofSumIsUptoRow.holds Tryd.pinned (OpenSpec.upto fnExactProofSumIsSpec)

/-- 'laws.FnExactProofRestIs', WHERE WHAT IT READS IS OF BULK AT MOST 1048576: true; the input reads as it did. -/
def fnExactProofRestIsUptoRow : OpenClaim := { program := "ytinjblbfaijhdaadoor", sum := "bcc6298b5e801d0134c7ac8646e10950224b3ceda3858afb8ed79db4fd85c85c", func := "loop.example/oneletter/laws.FnExactProofRestIs", spec := "fnExactProofRestIs", inPlace := ["internal/bytealg.IndexByteString", "internal/bytealg.IndexString", "internal/bytealg.CountString"], unfollowed := true, recurses := true, named := ["internal/bytealg.MaxLen", "unicode/utf8.first", "unicode/utf8.acceptRanges", "strconv.ErrSyntax", "strconv.ErrRange", "internal/strconv.uint64pow10", "math/bits.deBruijn32tab", "math/bits.deBruijn64tab"], apart := false, laid := [("math/bits.deBruijn32tab", laid_math_bits_deBruijn32tab), ("math/bits.deBruijn64tab", laid_math_bits_deBruijn64tab), ("internal/strconv.uint64pow10", laid_internal_strconv_uint64pow10), ("unicode/utf8.acceptRanges", laid_unicode_utf8_acceptRanges), ("strconv.ErrRange", laid_strconv_ErrRange), ("strconv.ErrSyntax", laid_strconv_ErrSyntax), ("unicode/utf8.first", laid_unicode_utf8_first)], narrowed := true }
def FnExactProofRestIsUptoSaid : Prop := fnExactProofRestIsUptoRow.holds Tryd.pinned (OpenSpec.upto fnExactProofRestIsSpec)

/-- 'laws.FnProofDifferIs', WHERE WHAT IT READS IS OF BULK AT MOST 1048576: true; the input reads as it did. -/
def fnProofDifferIsUptoRow : OpenClaim := { program := "ytinjblbfaijhdaadoor", sum := "bcc6298b5e801d0134c7ac8646e10950224b3ceda3858afb8ed79db4fd85c85c", func := "loop.example/oneletter/laws.FnProofDifferIs", spec := "fnProofDifferIs", inPlace := ["internal/bytealg.IndexByteString", "internal/bytealg.IndexString", "internal/bytealg.CountString", "internal/abi.NoEscape"], recurses := true, named := ["internal/bytealg.MaxLen", "unicode/utf8.first", "unicode/utf8.acceptRanges", "strconv.ErrSyntax", "strconv.ErrRange", "internal/strconv.uint64pow10", "math/bits.deBruijn32tab", "math/bits.deBruijn64tab"], apart := false, laid := [("math/bits.deBruijn32tab", laid_math_bits_deBruijn32tab), ("math/bits.deBruijn64tab", laid_math_bits_deBruijn64tab), ("internal/strconv.uint64pow10", laid_internal_strconv_uint64pow10), ("unicode/utf8.acceptRanges", laid_unicode_utf8_acceptRanges), ("strconv.ErrRange", laid_strconv_ErrRange), ("strconv.ErrSyntax", laid_strconv_ErrSyntax), ("unicode/utf8.first", laid_unicode_utf8_first)], narrowed := true }
def FnProofDifferIsUptoSaid : Prop := fnProofDifferIsUptoRow.holds Tryd.pinned (OpenSpec.upto fnProofDifferIsSpec)

/-- 'laws.FnProofSumIs', WHERE WHAT IT READS IS OF BULK AT MOST 1048576: true; the input reads as it did. -/
def fnProofSumIsUptoRow : OpenClaim := { program := "ytinjblbfaijhdaadoor", sum := "bcc6298b5e801d0134c7ac8646e10950224b3ceda3858afb8ed79db4fd85c85c", func := "loop.example/oneletter/laws.FnProofSumIs", spec := "fnProofSumIs", inPlace := ["internal/bytealg.IndexByteString", "internal/bytealg.IndexString", "internal/bytealg.CountString"], unfollowed := true, recurses := true, named := ["internal/bytealg.MaxLen", "unicode/utf8.first", "unicode/utf8.acceptRanges", "strconv.ErrSyntax", "strconv.ErrRange", "internal/strconv.uint64pow10", "math/bits.deBruijn32tab", "math/bits.deBruijn64tab"], apart := false, laid := [("math/bits.deBruijn32tab", laid_math_bits_deBruijn32tab), ("math/bits.deBruijn64tab", laid_math_bits_deBruijn64tab), ("internal/strconv.uint64pow10", laid_internal_strconv_uint64pow10), ("unicode/utf8.acceptRanges", laid_unicode_utf8_acceptRanges), ("strconv.ErrRange", laid_strconv_ErrRange), ("strconv.ErrSyntax", laid_strconv_ErrSyntax), ("unicode/utf8.first", laid_unicode_utf8_first)], narrowed := true }
def FnProofSumIsUptoSaid : Prop := fnProofSumIsUptoRow.holds Tryd.pinned (OpenSpec.upto fnProofSumIsSpec)

/-- 'laws.FnProofDiffer', WHERE WHAT IT READS IS OF BULK AT MOST 1048576: true; the input reads as it did. -/
def fnProofDifferUptoRow : OpenClaim := { program := "ytinjblbfaijhdaadoor", sum := "bcc6298b5e801d0134c7ac8646e10950224b3ceda3858afb8ed79db4fd85c85c", func := "loop.example/oneletter/laws.FnProofDiffer", spec := "fnProofDiffer", inPlace := ["internal/bytealg.IndexByteString", "internal/bytealg.IndexString", "internal/abi.NoEscape", "internal/bytealg.CountString"], recurses := true, named := ["internal/bytealg.MaxLen", "internal/strconv.uint64pow10", "math/bits.deBruijn32tab", "math/bits.deBruijn64tab", "unicode/utf8.first", "unicode/utf8.acceptRanges", "strconv.ErrSyntax", "strconv.ErrRange"], apart := false, laid := [("math/bits.deBruijn32tab", laid_math_bits_deBruijn32tab), ("math/bits.deBruijn64tab", laid_math_bits_deBruijn64tab), ("internal/strconv.uint64pow10", laid_internal_strconv_uint64pow10), ("unicode/utf8.acceptRanges", laid_unicode_utf8_acceptRanges), ("strconv.ErrRange", laid_strconv_ErrRange), ("strconv.ErrSyntax", laid_strconv_ErrSyntax), ("unicode/utf8.first", laid_unicode_utf8_first)], narrowed := true }
def FnProofDifferUptoSaid : Prop := fnProofDifferUptoRow.holds Tryd.pinned (OpenSpec.upto fnProofDifferSpec)

end Rows
end Go.Proofs.YtinjblbfaijhdaaDoor
