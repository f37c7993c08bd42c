/-
  No cell of these rows narrows 'for every input' (looked for: loops, veiled, ifaces, maps, wideKeys, modest, calm, conditions, laid).
  DERIVED. THE GIVEN ROWS OF THIS SEAT. 9 by the template 'for every input the law returns true; each argument reads behind the call as it read before'; 0 by the template 'total and deterministic' (their statements: YtbepcaghlekbaaaTotals.lean).
  GIVEN WITH THE SEED: the statements are not yours to turn. If you find one false, say at which input.
  Laid BY PROGRAM, IN A SANDBOX (cutbox-rows.mjs): the forced cells as the released guide's own fill.sh prints them over the translation 5a7c83fac11c858f… (all of the seat's roots in one cut). By AI agents, Wed Nov 11 2026. No macro, syntax, notation, axiom, sorry.
-/
import Derived.Test.YtbepcaghlekbaaaChecked
import GoSem.Claim
import GoSem.ClaimJoined
import GoSem.ClaimMapViews
import Derived.JoinedTies
import Derived.KernelRfl
namespace Go.Proofs.Ytbepcaghlekbaaa
/- THE CELL 'sum', in the pinned program and in every row, IS THE sha256 OF THE DUMP (.gsa) THAT YtbepcaghlekbaaaProg.lean LOADS. Nothing in Lean hashes anything: it is a label: what it is worth is what the hold of that sum in a sandbox is worth. -/
noncomputable def Try.pinned : Pinned := { name := "ytbepcaghlekbaaa", sum := "5a7c83fac11c858fbf7eb2a99a221616fa85773c7bb309f56f67881d89448df5", checked := Try.checked }
namespace Rows
def none {H : Type} : Left H := { results := [], args := [] }

/-- 'laws.FnWaysTwo': WHATEVER THE INPUT: true; the input reads as it did. -/
def fnWaysTwoSpec : ChangeSpec := { name := "fnWaysTwo", fn := fun _ => fun
  | [d] => { results := [.lit (.bool true)], args := [d] }
  | _ => none }
def fnWaysTwoRow : OpenClaim := { program := "ytbepcaghlekbaaa", sum := "5a7c83fac11c858fbf7eb2a99a221616fa85773c7bb309f56f67881d89448df5", func := "loop.example/oneletter/laws.FnWaysTwo", spec := "fnWaysTwo", inPlace := ["internal/bytealg.IndexByteString", "internal/bytealg.IndexString"], recurses := true, named := ["internal/bytealg.MaxLen"], apart := false }
def FnWaysTwoSaid : Prop := fnWaysTwoRow.holds Try.pinned (OpenSpec.ofChange fnWaysTwoSpec)

/-- ITS FALSE NEIGHBOUR: 'it returns false'. Refute it at one input. -/
def fnWaysTwoWrong : ChangeSpec := { name := "fnWaysTwo", fn := fun _ => fun
  | [d] => { results := [.lit (.bool false)], args := [d] }
  | _ => none }
def FnWaysTwoWrongFalsely : Prop := fnWaysTwoRow.holds Try.pinned (OpenSpec.ofChange fnWaysTwoWrong)

/-- 'laws.FnSolveTwo': WHATEVER THE INPUT: true; the input reads as it did. -/
def fnSolveTwoSpec : ChangeSpec := { name := "fnSolveTwo", fn := fun _ => fun
  | [d] => { results := [.lit (.bool true)], args := [d] }
  | _ => none }
def fnSolveTwoRow : OpenClaim := { program := "ytbepcaghlekbaaa", sum := "5a7c83fac11c858fbf7eb2a99a221616fa85773c7bb309f56f67881d89448df5", func := "loop.example/oneletter/laws.FnSolveTwo", spec := "fnSolveTwo", inPlace := ["internal/bytealg.IndexByteString", "internal/bytealg.IndexString"], recurses := true, named := ["internal/bytealg.MaxLen"], apart := false }
def FnSolveTwoSaid : Prop := fnSolveTwoRow.holds Try.pinned (OpenSpec.ofChange fnSolveTwoSpec)

/-- ITS FALSE NEIGHBOUR: 'it returns false'. Refute it at one input. -/
def fnSolveTwoWrong : ChangeSpec := { name := "fnSolveTwo", fn := fun _ => fun
  | [d] => { results := [.lit (.bool false)], args := [d] }
  | _ => none }
def FnSolveTwoWrongFalsely : Prop := fnSolveTwoRow.holds Try.pinned (OpenSpec.ofChange fnSolveTwoWrong)

/-- 'laws.FnWaysBack': WHATEVER THE INPUT: true; the input reads as it did. -/
def fnWaysBackSpec : ChangeSpec := { name := "fnWaysBack", fn := fun _ => fun
  | [d] => { results := [.lit (.bool true)], args := [d] }
  | _ => none }
def fnWaysBackRow : OpenClaim := { program := "ytbepcaghlekbaaa", sum := "5a7c83fac11c858fbf7eb2a99a221616fa85773c7bb309f56f67881d89448df5", func := "loop.example/oneletter/laws.FnWaysBack", spec := "fnWaysBack", inPlace := ["internal/bytealg.IndexByteString", "internal/bytealg.IndexString"], recurses := true, named := ["internal/bytealg.MaxLen"], apart := false }
def FnWaysBackSaid : Prop := fnWaysBackRow.holds Try.pinned (OpenSpec.ofChange fnWaysBackSpec)

/-- ITS FALSE NEIGHBOUR: 'it returns false'. Refute it at one input. -/
def fnWaysBackWrong : ChangeSpec := { name := "fnWaysBack", fn := fun _ => fun
  | [d] => { results := [.lit (.bool false)], args := [d] }
  | _ => none }
def FnWaysBackWrongFalsely : Prop := fnWaysBackRow.holds Try.pinned (OpenSpec.ofChange fnWaysBackWrong)

/-- 'laws.FnWaysPart': WHATEVER THE INPUT: true; the input reads as it did. -/
def fnWaysPartSpec : ChangeSpec := { name := "fnWaysPart", fn := fun _ => fun
  | [d] => { results := [.lit (.bool true)], args := [d] }
  | _ => none }
def fnWaysPartRow : OpenClaim := { program := "ytbepcaghlekbaaa", sum := "5a7c83fac11c858fbf7eb2a99a221616fa85773c7bb309f56f67881d89448df5", func := "loop.example/oneletter/laws.FnWaysPart", spec := "fnWaysPart", inPlace := ["internal/bytealg.IndexByteString", "internal/bytealg.IndexString"], recurses := true, named := ["internal/bytealg.MaxLen"], apart := false }
def FnWaysPartSaid : Prop := fnWaysPartRow.holds Try.pinned (OpenSpec.ofChange fnWaysPartSpec)

/-- ITS FALSE NEIGHBOUR: 'it returns false'. Refute it at one input. -/
def fnWaysPartWrong : ChangeSpec := { name := "fnWaysPart", fn := fun _ => fun
  | [d] => { results := [.lit (.bool false)], args := [d] }
  | _ => none }
def FnWaysPartWrongFalsely : Prop := fnWaysPartRow.holds Try.pinned (OpenSpec.ofChange fnWaysPartWrong)

/-- 'laws.FnWaysBags': WHATEVER THE INPUT: true; the input reads as it did. -/
def fnWaysBagsSpec : ChangeSpec := { name := "fnWaysBags", fn := fun _ => fun
  | [d] => { results := [.lit (.bool true)], args := [d] }
  | _ => none }
def fnWaysBagsRow : OpenClaim := { program := "ytbepcaghlekbaaa", sum := "5a7c83fac11c858fbf7eb2a99a221616fa85773c7bb309f56f67881d89448df5", func := "loop.example/oneletter/laws.FnWaysBags", spec := "fnWaysBags", inPlace := ["internal/bytealg.IndexByteString", "internal/bytealg.IndexString"], recurses := true, named := ["internal/bytealg.MaxLen"], apart := false }
def FnWaysBagsSaid : Prop := fnWaysBagsRow.holds Try.pinned (OpenSpec.ofChange fnWaysBagsSpec)

/-- ITS FALSE NEIGHBOUR: 'it returns false'. Refute it at one input. -/
def fnWaysBagsWrong : ChangeSpec := { name := "fnWaysBags", fn := fun _ => fun
  | [d] => { results := [.lit (.bool false)], args := [d] }
  | _ => none }
def FnWaysBagsWrongFalsely : Prop := fnWaysBagsRow.holds Try.pinned (OpenSpec.ofChange fnWaysBagsWrong)

/-- 'laws.FnWaysMany': WHATEVER THE INPUT: true; the input reads as it did. -/
def fnWaysManySpec : ChangeSpec := { name := "fnWaysMany", fn := fun _ => fun
  | [d] => { results := [.lit (.bool true)], args := [d] }
  | _ => none }
def fnWaysManyRow : OpenClaim := { program := "ytbepcaghlekbaaa", sum := "5a7c83fac11c858fbf7eb2a99a221616fa85773c7bb309f56f67881d89448df5", func := "loop.example/oneletter/laws.FnWaysMany", spec := "fnWaysMany", inPlace := ["internal/bytealg.IndexByteString", "internal/bytealg.IndexString"], recurses := true, named := ["internal/bytealg.MaxLen"], apart := false }
def FnWaysManySaid : Prop := fnWaysManyRow.holds Try.pinned (OpenSpec.ofChange fnWaysManySpec)

/-- ITS FALSE NEIGHBOUR: 'it returns false'. Refute it at one input. -/
def fnWaysManyWrong : ChangeSpec := { name := "fnWaysMany", fn := fun _ => fun
  | [d] => { results := [.lit (.bool false)], args := [d] }
  | _ => none }
def FnWaysManyWrongFalsely : Prop := fnWaysManyRow.holds Try.pinned (OpenSpec.ofChange fnWaysManyWrong)

/-- 'laws.FnWaysFew': WHATEVER THE INPUT: true; the input reads as it did. -/
def fnWaysFewSpec : ChangeSpec := { name := "fnWaysFew", fn := fun _ => fun
  | [d] => { results := [.lit (.bool true)], args := [d] }
  | _ => none }
def fnWaysFewRow : OpenClaim := { program := "ytbepcaghlekbaaa", sum := "5a7c83fac11c858fbf7eb2a99a221616fa85773c7bb309f56f67881d89448df5", func := "loop.example/oneletter/laws.FnWaysFew", spec := "fnWaysFew", inPlace := ["internal/bytealg.IndexByteString", "internal/bytealg.IndexString"], recurses := true, named := ["internal/bytealg.MaxLen"], apart := false }
def FnWaysFewSaid : Prop := fnWaysFewRow.holds Try.pinned (OpenSpec.ofChange fnWaysFewSpec)

/-- ITS FALSE NEIGHBOUR: 'it returns false'. Refute it at one input. -/
def fnWaysFewWrong : ChangeSpec := { name := "fnWaysFew", fn := fun _ => fun
  | [d] => { results := [.lit (.bool false)], args := [d] }
  | _ => none }
def FnWaysFewWrongFalsely : Prop := fnWaysFewRow.holds Try.pinned (OpenSpec.ofChange fnWaysFewWrong)

/-- 'laws.FnWaysFirst': WHATEVER THE INPUT: true; the input reads as it did. -/
def fnWaysFirstSpec : ChangeSpec := { name := "fnWaysFirst", fn := fun _ => fun
  | [d] => { results := [.lit (.bool true)], args := [d] }
  | _ => none }
def fnWaysFirstRow : OpenClaim := { program := "ytbepcaghlekbaaa", sum := "5a7c83fac11c858fbf7eb2a99a221616fa85773c7bb309f56f67881d89448df5", func := "loop.example/oneletter/laws.FnWaysFirst", spec := "fnWaysFirst", inPlace := ["internal/bytealg.IndexByteString", "internal/bytealg.IndexString"], recurses := true, named := ["internal/bytealg.MaxLen"], apart := false }
def FnWaysFirstSaid : Prop := fnWaysFirstRow.holds Try.pinned (OpenSpec.ofChange fnWaysFirstSpec)

/-- ITS FALSE NEIGHBOUR: 'it returns false'. Refute it at one input. -/
def fnWaysFirstWrong : ChangeSpec := { name := "fnWaysFirst", fn := fun _ => fun
  | [d] => { results := [.lit (.bool false)], args := [d] }
  | _ => none }
def FnWaysFirstWrongFalsely : Prop := fnWaysFirstRow.holds Try.pinned (OpenSpec.ofChange fnWaysFirstWrong)

/-- 'laws.FnWaysOdd': WHATEVER THE INPUT: true; the input reads as it did. -/
def fnWaysOddSpec : ChangeSpec := { name := "fnWaysOdd", fn := fun _ => fun
  | [d] => { results := [.lit (.bool true)], args := [d] }
  | _ => none }
def fnWaysOddRow : OpenClaim := { program := "ytbepcaghlekbaaa", sum := "5a7c83fac11c858fbf7eb2a99a221616fa85773c7bb309f56f67881d89448df5", func := "loop.example/oneletter/laws.FnWaysOdd", spec := "fnWaysOdd", inPlace := ["internal/bytealg.IndexByteString", "internal/bytealg.IndexString"], recurses := true, named := ["internal/bytealg.MaxLen"], apart := false }
def FnWaysOddSaid : Prop := fnWaysOddRow.holds Try.pinned (OpenSpec.ofChange fnWaysOddSpec)

/-- ITS FALSE NEIGHBOUR: 'it returns false'. Refute it at one input. -/
def fnWaysOddWrong : ChangeSpec := { name := "fnWaysOdd", fn := fun _ => fun
  | [d] => { results := [.lit (.bool false)], args := [d] }
  | _ => none }
def FnWaysOddWrongFalsely : Prop := fnWaysOddRow.holds Try.pinned (OpenSpec.ofChange fnWaysOddWrong)

/- THE SECOND FORM. 'bulk': how many values and letters a reading holds, each counted each time it is reached (what is shared counts as often as it is met; a slice's spare places count too). A statement '..UptoSaid' is the law's where the arguments, and the package variables that the reading takes, are together of bulk at most 1048576: NARROWER than '..Said'. Prove '..Said' where nothing that the law and all that it calls make is longer than what came in: it says more and counts as full. Else prove '..UptoSaid'. A law counts once. -/
mutual
def uptoBulk {H : Type} : DataW H → Nat
  | .lit (.string bytes) => bytes.length + 1
  | .lit _ => 1
  | .nil => 1
  | .ptr d => uptoBulk d + 1
  | .slice elems spare => uptoBulkAll elems + uptoBulkAll spare + 1
  | .agg parts => uptoBulkAll parts + 1
  | .iface _ d => uptoBulk d + 1
  | .map entries => uptoBulkEntries entries + 1
  | .held _ => 1
def uptoBulkAll {H : Type} : List (DataW H) → Nat
  | [] => 0
  | d :: r => uptoBulk d + uptoBulkAll r
def uptoBulkEntries {H : Type} : List (Lit × DataW H) → Nat
  | [] => 0
  | x :: r => uptoBulkEntry x + uptoBulkEntries r
def uptoBulkEntry {H : Type} : Lit × DataW H → Nat
  | (.string bytes, d) => bytes.length + uptoBulk d + 1
  | (_, d) => uptoBulk d + 1
 end
def uptoSmall : (H : Type) → List (DataW H) → Bool := fun _ ds => decide (uptoBulkAll ds ≤ 1048576)
def OpenSpec.upto (s : _root_.Go.ChangeSpec) : _root_.Go.OpenSpec := { _root_.Go.OpenSpec.ofChange s with cond := some uptoSmall }

/-- 'laws.FnWaysTwo', WHERE WHAT IT READS IS OF BULK AT MOST 1048576: true; the input reads as it did. -/
def fnWaysTwoUptoRow : OpenClaim := { program := "ytbepcaghlekbaaa", sum := "5a7c83fac11c858fbf7eb2a99a221616fa85773c7bb309f56f67881d89448df5", func := "loop.example/oneletter/laws.FnWaysTwo", spec := "fnWaysTwo", inPlace := ["internal/bytealg.IndexByteString", "internal/bytealg.IndexString"], recurses := true, named := ["internal/bytealg.MaxLen"], apart := false, narrowed := true }
def FnWaysTwoUptoSaid : Prop := fnWaysTwoUptoRow.holds Try.pinned (OpenSpec.upto fnWaysTwoSpec)

/-- 'laws.FnSolveTwo', WHERE WHAT IT READS IS OF BULK AT MOST 1048576: true; the input reads as it did. -/
def fnSolveTwoUptoRow : OpenClaim := { program := "ytbepcaghlekbaaa", sum := "5a7c83fac11c858fbf7eb2a99a221616fa85773c7bb309f56f67881d89448df5", func := "loop.example/oneletter/laws.FnSolveTwo", spec := "fnSolveTwo", inPlace := ["internal/bytealg.IndexByteString", "internal/bytealg.IndexString"], recurses := true, named := ["internal/bytealg.MaxLen"], apart := false, narrowed := true }
def FnSolveTwoUptoSaid : Prop := fnSolveTwoUptoRow.holds Try.pinned (OpenSpec.upto fnSolveTwoSpec)

/-- 'laws.FnWaysBack', WHERE WHAT IT READS IS OF BULK AT MOST 1048576: true; the input reads as it did. -/
def fnWaysBackUptoRow : OpenClaim := { program := "ytbepcaghlekbaaa", sum := "5a7c83fac11c858fbf7eb2a99a221616fa85773c7bb309f56f67881d89448df5", func := "loop.example/oneletter/laws.FnWaysBack", spec := "fnWaysBack", inPlace := ["internal/bytealg.IndexByteString", "internal/bytealg.IndexString"], recurses := true, named := ["internal/bytealg.MaxLen"], apart := false, narrowed := true }
def FnWaysBackUptoSaid : Prop := fnWaysBackUptoRow.holds Try.pinned (OpenSpec.upto fnWaysBackSpec)

/-- 'laws.FnWaysPart', WHERE WHAT IT READS IS OF BULK AT MOST 1048576: true; the input reads as it did. -/
def fnWaysPartUptoRow : OpenClaim := { program := "ytbepcaghlekbaaa", sum := "5a7c83fac11c858fbf7eb2a99a221616fa85773c7bb309f56f67881d89448df5", func := "loop.example/oneletter/laws.FnWaysPart", spec := "fnWaysPart", inPlace := ["internal/bytealg.IndexByteString", "internal/bytealg.IndexString"], recurses := true, named := ["internal/bytealg.MaxLen"], apart := false, narrowed := true }
def FnWaysPartUptoSaid : Prop := fnWaysPartUptoRow.holds Try.pinned (OpenSpec.upto fnWaysPartSpec)

/-- 'laws.FnWaysBags', WHERE WHAT IT READS IS OF BULK AT MOST 1048576: true; the input reads as it did. -/
def fnWaysBagsUptoRow : OpenClaim := { program := "ytbepcaghlekbaaa", sum := "5a7c83fac11c858fbf7eb2a99a221616fa85773c7bb309f56f67881d89448df5", func := "loop.example/oneletter/laws.FnWaysBags", spec := "fnWaysBags", inPlace := ["internal/bytealg.IndexByteString", "internal/bytealg.IndexString"], recurses := true, named := ["internal/bytealg.MaxLen"], apart := false, narrowed := true }
def FnWaysBagsUptoSaid : Prop := fnWaysBagsUptoRow.holds Try.pinned (OpenSpec.upto fnWaysBagsSpec)

/-- 'laws.FnWaysMany', WHERE WHAT IT READS IS OF BULK AT MOST 1048576: true; the input reads as it did. -/
def fnWaysManyUptoRow : OpenClaim := { program := "ytbepcaghlekbaaa", sum := "5a7c83fac11c858fbf7eb2a99a221616fa85773c7bb309f56f67881d89448df5", func := "loop.example/oneletter/laws.FnWaysMany", spec := "fnWaysMany", inPlace := ["internal/bytealg.IndexByteString", "internal/bytealg.IndexString"], recurses := true, named := ["internal/bytealg.MaxLen"], apart := false, narrowed := true }
def FnWaysManyUptoSaid : Prop := fnWaysManyUptoRow.holds Try.pinned (OpenSpec.upto fnWaysManySpec)

/-- 'laws.FnWaysFew', WHERE WHAT IT READS IS OF BULK AT MOST 1048576: true; the input reads as it did. -/
def fnWaysFewUptoRow : OpenClaim := { program := "ytbepcaghlekbaaa", sum := "5a7c83fac11c858fbf7eb2a99a221616fa85773c7bb309f56f67881d89448df5", func := "loop.example/oneletter/laws.FnWaysFew", spec := "fnWaysFew", inPlace := ["internal/bytealg.IndexByteString", "internal/bytealg.IndexString"], recurses := true, named := ["internal/bytealg.MaxLen"], apart := false, narrowed := true }
def FnWaysFewUptoSaid : Prop := fnWaysFewUptoRow.holds Try.pinned (OpenSpec.upto fnWaysFewSpec)

/-- 'laws.FnWaysFirst', WHERE WHAT IT READS IS OF BULK AT MOST 1048576: true; the input reads as it did. -/
def fnWaysFirstUptoRow : OpenClaim := { program := "ytbepcaghlekbaaa", sum := "5a7c83fac11c858fbf7eb2a99a221616fa85773c7bb309f56f67881d89448df5", func := "loop.example/oneletter/laws.FnWaysFirst", spec := "fnWaysFirst", inPlace := ["internal/bytealg.IndexByteString", "internal/bytealg.IndexString"], recurses := true, named := ["internal/bytealg.MaxLen"], apart := false, narrowed := true }
def FnWaysFirstUptoSaid : Prop := fnWaysFirstUptoRow.holds Try.pinned (OpenSpec.upto fnWaysFirstSpec)

/-- 'laws.FnWaysOdd', WHERE WHAT IT READS IS OF BULK AT MOST 1048576: true; the input reads as it did. -/
def fnWaysOddUptoRow : OpenClaim := { program := "ytbepcaghlekbaaa", sum := "5a7c83fac11c858fbf7eb2a99a221616fa85773c7bb309f56f67881d89448df5", func := "loop.example/oneletter/laws.FnWaysOdd", spec := "fnWaysOdd", inPlace := ["internal/bytealg.IndexByteString", "internal/bytealg.IndexString"], recurses := true, named := ["internal/bytealg.MaxLen"], apart := false, narrowed := true }
def FnWaysOddUptoSaid : Prop := fnWaysOddUptoRow.holds Try.pinned (OpenSpec.upto fnWaysOddSpec)

end Rows
end Go.Proofs.Ytbepcaghlekbaaa
