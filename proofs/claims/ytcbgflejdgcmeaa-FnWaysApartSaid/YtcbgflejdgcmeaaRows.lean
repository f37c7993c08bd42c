/-
  No cell of these rows narrows 'for every input' (looked for: loops, veiled, ifaces, maps, wideKeys, modest, calm, conditions, laid).
  DERIVED. THE GIVEN ROWS OF THIS SEAT. 22 by the template 'for every input the law returns true; each argument reads behind the call as it read before'; 0 by the template 'total and deterministic' (their statements: YtcbgflejdgcmeaaTotals.lean).
  GIVEN WITH THE SEED: the statements are not yours to turn. If you find one false, say at which input.
  Laid BY PROGRAM, IN A SANDBOX (cutbox-rows.mjs): the forced cells as the released guide's own fill.sh prints them over the translation 29893c8968ff9c4b… (all of the seat's roots in one cut). By AI agents, Wed Nov 11 2026. No macro, syntax, notation, axiom, sorry.
-/
import Derived.Test.YtcbgflejdgcmeaaChecked
import GoSem.Claim
import GoSem.ClaimJoined
import GoSem.ClaimMapViews
import Derived.JoinedTies
import Derived.KernelRfl
namespace Go.Proofs.Ytcbgflejdgcmeaa
/- THE CELL 'sum', in the pinned program and in every row, IS THE sha256 OF THE DUMP (.gsa) THAT YtcbgflejdgcmeaaProg.lean LOADS. Nothing in Lean hashes anything: it is a label: what it is worth is what the hold of that sum in a sandbox is worth. -/
noncomputable def Try.pinned : Pinned := { name := "ytcbgflejdgcmeaa", sum := "29893c8968ff9c4be5b5defd99fd8045031bc9f74a7b5d2b3d98ce7662776b5a", checked := Try.checked }
namespace Rows
def none {H : Type} : Left H := { results := [], args := [] }

/-- 'laws.FnExactSolveHas': WHATEVER THE INPUT: true; the input reads as it did. -/
def fnExactSolveHasSpec : ChangeSpec := { name := "fnExactSolveHas", fn := fun _ => fun
  | [d1, d2, d3] => { results := [.lit (.bool true)], args := [d1, d2, d3] }
  | _ => none }
def fnExactSolveHasRow : OpenClaim := { program := "ytcbgflejdgcmeaa", sum := "29893c8968ff9c4be5b5defd99fd8045031bc9f74a7b5d2b3d98ce7662776b5a", func := "loop.example/oneletter/laws.FnExactSolveHas", spec := "fnExactSolveHas", inPlace := ["internal/bytealg.IndexByteString", "internal/bytealg.IndexString"], recurses := true, named := ["internal/bytealg.MaxLen"], apart := false }
def FnExactSolveHasSaid : Prop := fnExactSolveHasRow.holds Try.pinned (OpenSpec.ofChange fnExactSolveHasSpec)

/-- ITS FALSE NEIGHBOUR: 'it returns false'. Refute it at one input. -/
def fnExactSolveHasWrong : ChangeSpec := { name := "fnExactSolveHas", fn := fun _ => fun
  | [d1, d2, d3] => { results := [.lit (.bool false)], args := [d1, d2, d3] }
  | _ => none }
def FnExactSolveHasWrongFalsely : Prop := fnExactSolveHasRow.holds Try.pinned (OpenSpec.ofChange fnExactSolveHasWrong)

/-- 'laws.FnExactWaysApart': WHATEVER THE INPUT: true; the input reads as it did. -/
def fnExactWaysApartSpec : ChangeSpec := { name := "fnExactWaysApart", fn := fun _ => fun
  | [d1, d2] => { results := [.lit (.bool true)], args := [d1, d2] }
  | _ => none }
def fnExactWaysApartRow : OpenClaim := { program := "ytcbgflejdgcmeaa", sum := "29893c8968ff9c4be5b5defd99fd8045031bc9f74a7b5d2b3d98ce7662776b5a", func := "loop.example/oneletter/laws.FnExactWaysApart", spec := "fnExactWaysApart", inPlace := ["internal/bytealg.IndexByteString", "internal/bytealg.IndexString"], recurses := true, named := ["internal/bytealg.MaxLen"], apart := false }
def FnExactWaysApartSaid : Prop := fnExactWaysApartRow.holds Try.pinned (OpenSpec.ofChange fnExactWaysApartSpec)

/-- ITS FALSE NEIGHBOUR: 'it returns false'. Refute it at one input. -/
def fnExactWaysApartWrong : ChangeSpec := { name := "fnExactWaysApart", fn := fun _ => fun
  | [d1, d2] => { results := [.lit (.bool false)], args := [d1, d2] }
  | _ => none }
def FnExactWaysApartWrongFalsely : Prop := fnExactWaysApartRow.holds Try.pinned (OpenSpec.ofChange fnExactWaysApartWrong)

/-- 'laws.FnExactWaysBags': WHATEVER THE INPUT: true; the input reads as it did. -/
def fnExactWaysBagsSpec : ChangeSpec := { name := "fnExactWaysBags", fn := fun _ => fun
  | [d1, d2] => { results := [.lit (.bool true)], args := [d1, d2] }
  | _ => none }
def fnExactWaysBagsRow : OpenClaim := { program := "ytcbgflejdgcmeaa", sum := "29893c8968ff9c4be5b5defd99fd8045031bc9f74a7b5d2b3d98ce7662776b5a", func := "loop.example/oneletter/laws.FnExactWaysBags", spec := "fnExactWaysBags", inPlace := ["internal/bytealg.IndexByteString", "internal/bytealg.IndexString"], recurses := true, named := ["internal/bytealg.MaxLen"], apart := false }
def FnExactWaysBagsSaid : Prop := fnExactWaysBagsRow.holds Try.pinned (OpenSpec.ofChange fnExactWaysBagsSpec)

/-- ITS FALSE NEIGHBOUR: 'it returns false'. Refute it at one input. -/
def fnExactWaysBagsWrong : ChangeSpec := { name := "fnExactWaysBags", fn := fun _ => fun
  | [d1, d2] => { results := [.lit (.bool false)], args := [d1, d2] }
  | _ => none }
def FnExactWaysBagsWrongFalsely : Prop := fnExactWaysBagsRow.holds Try.pinned (OpenSpec.ofChange fnExactWaysBagsWrong)

/-- 'laws.FnExactSolveIs': WHATEVER THE INPUT: true; the input reads as it did. -/
def fnExactSolveIsSpec : ChangeSpec := { name := "fnExactSolveIs", fn := fun _ => fun
  | [d1, d2, d3] => { results := [.lit (.bool true)], args := [d1, d2, d3] }
  | _ => none }
def fnExactSolveIsRow : OpenClaim := { program := "ytcbgflejdgcmeaa", sum := "29893c8968ff9c4be5b5defd99fd8045031bc9f74a7b5d2b3d98ce7662776b5a", func := "loop.example/oneletter/laws.FnExactSolveIs", spec := "fnExactSolveIs", inPlace := ["internal/bytealg.IndexByteString", "internal/bytealg.IndexString"], recurses := true, named := ["internal/bytealg.MaxLen"], apart := false }
def FnExactSolveIsSaid : Prop := fnExactSolveIsRow.holds Try.pinned (OpenSpec.ofChange fnExactSolveIsSpec)

/-- ITS FALSE NEIGHBOUR: 'it returns false'. Refute it at one input. -/
def fnExactSolveIsWrong : ChangeSpec := { name := "fnExactSolveIs", fn := fun _ => fun
  | [d1, d2, d3] => { results := [.lit (.bool false)], args := [d1, d2, d3] }
  | _ => none }
def FnExactSolveIsWrongFalsely : Prop := fnExactSolveIsRow.holds Try.pinned (OpenSpec.ofChange fnExactSolveIsWrong)

/-- 'laws.FnExactWaysFew': WHATEVER THE INPUT: true; the input reads as it did. -/
def fnExactWaysFewSpec : ChangeSpec := { name := "fnExactWaysFew", fn := fun _ => fun
  | [d1, d2] => { results := [.lit (.bool true)], args := [d1, d2] }
  | _ => none }
def fnExactWaysFewRow : OpenClaim := { program := "ytcbgflejdgcmeaa", sum := "29893c8968ff9c4be5b5defd99fd8045031bc9f74a7b5d2b3d98ce7662776b5a", func := "loop.example/oneletter/laws.FnExactWaysFew", spec := "fnExactWaysFew", inPlace := ["internal/bytealg.IndexByteString", "internal/bytealg.IndexString"], recurses := true, named := ["internal/bytealg.MaxLen"], apart := false }
def FnExactWaysFewSaid : Prop := fnExactWaysFewRow.holds Try.pinned (OpenSpec.ofChange fnExactWaysFewSpec)

/-- ITS FALSE NEIGHBOUR: 'it returns false'. Refute it at one input. -/
def fnExactWaysFewWrong : ChangeSpec := { name := "fnExactWaysFew", fn := fun _ => fun
  | [d1, d2] => { results := [.lit (.bool false)], args := [d1, d2] }
  | _ => none }
def FnExactWaysFewWrongFalsely : Prop := fnExactWaysFewRow.holds Try.pinned (OpenSpec.ofChange fnExactWaysFewWrong)

/-- 'laws.FnExactSolveTwo': WHATEVER THE INPUT: true; the input reads as it did. -/
def fnExactSolveTwoSpec : ChangeSpec := { name := "fnExactSolveTwo", fn := fun _ => fun
  | [d1, d2, d3] => { results := [.lit (.bool true)], args := [d1, d2, d3] }
  | _ => none }
def fnExactSolveTwoRow : OpenClaim := { program := "ytcbgflejdgcmeaa", sum := "29893c8968ff9c4be5b5defd99fd8045031bc9f74a7b5d2b3d98ce7662776b5a", func := "loop.example/oneletter/laws.FnExactSolveTwo", spec := "fnExactSolveTwo", inPlace := ["internal/bytealg.IndexByteString", "internal/bytealg.IndexString"], recurses := true, named := ["internal/bytealg.MaxLen"], apart := false }
def FnExactSolveTwoSaid : Prop := fnExactSolveTwoRow.holds Try.pinned (OpenSpec.ofChange fnExactSolveTwoSpec)

/-- ITS FALSE NEIGHBOUR: 'it returns false'. Refute it at one input. -/
def fnExactSolveTwoWrong : ChangeSpec := { name := "fnExactSolveTwo", fn := fun _ => fun
  | [d1, d2, d3] => { results := [.lit (.bool false)], args := [d1, d2, d3] }
  | _ => none }
def FnExactSolveTwoWrongFalsely : Prop := fnExactSolveTwoRow.holds Try.pinned (OpenSpec.ofChange fnExactSolveTwoWrong)

/-- 'laws.FnExactSolveOne': WHATEVER THE INPUT: true; the input reads as it did. -/
def fnExactSolveOneSpec : ChangeSpec := { name := "fnExactSolveOne", fn := fun _ => fun
  | [d1, d2] => { results := [.lit (.bool true)], args := [d1, d2] }
  | _ => none }
def fnExactSolveOneRow : OpenClaim := { program := "ytcbgflejdgcmeaa", sum := "29893c8968ff9c4be5b5defd99fd8045031bc9f74a7b5d2b3d98ce7662776b5a", func := "loop.example/oneletter/laws.FnExactSolveOne", spec := "fnExactSolveOne", inPlace := ["internal/bytealg.IndexByteString", "internal/bytealg.IndexString"], recurses := true, named := ["internal/bytealg.MaxLen"], apart := false }
def FnExactSolveOneSaid : Prop := fnExactSolveOneRow.holds Try.pinned (OpenSpec.ofChange fnExactSolveOneSpec)

/-- ITS FALSE NEIGHBOUR: 'it returns false'. Refute it at one input. -/
def fnExactSolveOneWrong : ChangeSpec := { name := "fnExactSolveOne", fn := fun _ => fun
  | [d1, d2] => { results := [.lit (.bool false)], args := [d1, d2] }
  | _ => none }
def FnExactSolveOneWrongFalsely : Prop := fnExactSolveOneRow.holds Try.pinned (OpenSpec.ofChange fnExactSolveOneWrong)

/-- 'laws.FnExactWaysMany': WHATEVER THE INPUT: true; the input reads as it did. -/
def fnExactWaysManySpec : ChangeSpec := { name := "fnExactWaysMany", fn := fun _ => fun
  | [d1, d2] => { results := [.lit (.bool true)], args := [d1, d2] }
  | _ => none }
def fnExactWaysManyRow : OpenClaim := { program := "ytcbgflejdgcmeaa", sum := "29893c8968ff9c4be5b5defd99fd8045031bc9f74a7b5d2b3d98ce7662776b5a", func := "loop.example/oneletter/laws.FnExactWaysMany", spec := "fnExactWaysMany", inPlace := ["internal/bytealg.IndexByteString", "internal/bytealg.IndexString"], recurses := true, named := ["internal/bytealg.MaxLen"], apart := false }
def FnExactWaysManySaid : Prop := fnExactWaysManyRow.holds Try.pinned (OpenSpec.ofChange fnExactWaysManySpec)

/-- ITS FALSE NEIGHBOUR: 'it returns false'. Refute it at one input. -/
def fnExactWaysManyWrong : ChangeSpec := { name := "fnExactWaysMany", fn := fun _ => fun
  | [d1, d2] => { results := [.lit (.bool false)], args := [d1, d2] }
  | _ => none }
def FnExactWaysManyWrongFalsely : Prop := fnExactWaysManyRow.holds Try.pinned (OpenSpec.ofChange fnExactWaysManyWrong)

/-- 'laws.FnExactWaysBack': WHATEVER THE INPUT: true; the input reads as it did. -/
def fnExactWaysBackSpec : ChangeSpec := { name := "fnExactWaysBack", fn := fun _ => fun
  | [d1, d2] => { results := [.lit (.bool true)], args := [d1, d2] }
  | _ => none }
def fnExactWaysBackRow : OpenClaim := { program := "ytcbgflejdgcmeaa", sum := "29893c8968ff9c4be5b5defd99fd8045031bc9f74a7b5d2b3d98ce7662776b5a", func := "loop.example/oneletter/laws.FnExactWaysBack", spec := "fnExactWaysBack", inPlace := ["internal/bytealg.IndexByteString", "internal/bytealg.IndexString"], recurses := true, named := ["internal/bytealg.MaxLen"], apart := false }
def FnExactWaysBackSaid : Prop := fnExactWaysBackRow.holds Try.pinned (OpenSpec.ofChange fnExactWaysBackSpec)

/-- ITS FALSE NEIGHBOUR: 'it returns false'. Refute it at one input. -/
def fnExactWaysBackWrong : ChangeSpec := { name := "fnExactWaysBack", fn := fun _ => fun
  | [d1, d2] => { results := [.lit (.bool false)], args := [d1, d2] }
  | _ => none }
def FnExactWaysBackWrongFalsely : Prop := fnExactWaysBackRow.holds Try.pinned (OpenSpec.ofChange fnExactWaysBackWrong)

/-- 'laws.FnExactWaysPart': WHATEVER THE INPUT: true; the input reads as it did. -/
def fnExactWaysPartSpec : ChangeSpec := { name := "fnExactWaysPart", fn := fun _ => fun
  | [d1, d2, d3] => { results := [.lit (.bool true)], args := [d1, d2, d3] }
  | _ => none }
def fnExactWaysPartRow : OpenClaim := { program := "ytcbgflejdgcmeaa", sum := "29893c8968ff9c4be5b5defd99fd8045031bc9f74a7b5d2b3d98ce7662776b5a", func := "loop.example/oneletter/laws.FnExactWaysPart", spec := "fnExactWaysPart", inPlace := ["internal/bytealg.IndexByteString", "internal/bytealg.IndexString"], recurses := true, named := ["internal/bytealg.MaxLen"], apart := false }
def FnExactWaysPartSaid : Prop := fnExactWaysPartRow.holds Try.pinned (OpenSpec.ofChange fnExactWaysPartSpec)

/-- ITS FALSE NEIGHBOUR: 'it returns false'. Refute it at one input. -/
def fnExactWaysPartWrong : ChangeSpec := { name := "fnExactWaysPart", fn := fun _ => fun
  | [d1, d2, d3] => { results := [.lit (.bool false)], args := [d1, d2, d3] }
  | _ => none }
def FnExactWaysPartWrongFalsely : Prop := fnExactWaysPartRow.holds Try.pinned (OpenSpec.ofChange fnExactWaysPartWrong)

/-- 'laws.FnExactWaysOdd': WHATEVER THE INPUT: true; the input reads as it did. -/
def fnExactWaysOddSpec : ChangeSpec := { name := "fnExactWaysOdd", fn := fun _ => fun
  | [d1, d2] => { results := [.lit (.bool true)], args := [d1, d2] }
  | _ => none }
def fnExactWaysOddRow : OpenClaim := { program := "ytcbgflejdgcmeaa", sum := "29893c8968ff9c4be5b5defd99fd8045031bc9f74a7b5d2b3d98ce7662776b5a", func := "loop.example/oneletter/laws.FnExactWaysOdd", spec := "fnExactWaysOdd", inPlace := ["internal/bytealg.IndexByteString", "internal/bytealg.IndexString"], recurses := true, named := ["internal/bytealg.MaxLen"], apart := false }
def FnExactWaysOddSaid : Prop := fnExactWaysOddRow.holds Try.pinned (OpenSpec.ofChange fnExactWaysOddSpec)

/-- ITS FALSE NEIGHBOUR: 'it returns false'. Refute it at one input. -/
def fnExactWaysOddWrong : ChangeSpec := { name := "fnExactWaysOdd", fn := fun _ => fun
  | [d1, d2] => { results := [.lit (.bool false)], args := [d1, d2] }
  | _ => none }
def FnExactWaysOddWrongFalsely : Prop := fnExactWaysOddRow.holds Try.pinned (OpenSpec.ofChange fnExactWaysOddWrong)

/-- 'laws.FnExactWaysFirst': WHATEVER THE INPUT: true; the input reads as it did. -/
def fnExactWaysFirstSpec : ChangeSpec := { name := "fnExactWaysFirst", fn := fun _ => fun
  | [d1, d2] => { results := [.lit (.bool true)], args := [d1, d2] }
  | _ => none }
def fnExactWaysFirstRow : OpenClaim := { program := "ytcbgflejdgcmeaa", sum := "29893c8968ff9c4be5b5defd99fd8045031bc9f74a7b5d2b3d98ce7662776b5a", func := "loop.example/oneletter/laws.FnExactWaysFirst", spec := "fnExactWaysFirst", inPlace := ["internal/bytealg.IndexByteString", "internal/bytealg.IndexString"], recurses := true, named := ["internal/bytealg.MaxLen"], apart := false }
def FnExactWaysFirstSaid : Prop := fnExactWaysFirstRow.holds Try.pinned (OpenSpec.ofChange fnExactWaysFirstSpec)

/-- ITS FALSE NEIGHBOUR: 'it returns false'. Refute it at one input. -/
def fnExactWaysFirstWrong : ChangeSpec := { name := "fnExactWaysFirst", fn := fun _ => fun
  | [d1, d2] => { results := [.lit (.bool false)], args := [d1, d2] }
  | _ => none }
def FnExactWaysFirstWrongFalsely : Prop := fnExactWaysFirstRow.holds Try.pinned (OpenSpec.ofChange fnExactWaysFirstWrong)

/-- 'laws.FnWaysApart': WHATEVER THE INPUT: true; the input reads as it did. -/
def fnWaysApartSpec : ChangeSpec := { name := "fnWaysApart", fn := fun _ => fun
  | [d] => { results := [.lit (.bool true)], args := [d] }
  | _ => none }
def fnWaysApartRow : OpenClaim := { program := "ytcbgflejdgcmeaa", sum := "29893c8968ff9c4be5b5defd99fd8045031bc9f74a7b5d2b3d98ce7662776b5a", func := "loop.example/oneletter/laws.FnWaysApart", spec := "fnWaysApart", inPlace := ["internal/bytealg.IndexByteString", "internal/bytealg.IndexString"], recurses := true, named := ["internal/bytealg.MaxLen"], apart := false }
def FnWaysApartSaid : Prop := fnWaysApartRow.holds Try.pinned (OpenSpec.ofChange fnWaysApartSpec)

/-- ITS FALSE NEIGHBOUR: 'it returns false'. Refute it at one input. -/
def fnWaysApartWrong : ChangeSpec := { name := "fnWaysApart", fn := fun _ => fun
  | [d] => { results := [.lit (.bool false)], args := [d] }
  | _ => none }
def FnWaysApartWrongFalsely : Prop := fnWaysApartRow.holds Try.pinned (OpenSpec.ofChange fnWaysApartWrong)

/-- 'laws.FnWaysTwo': WHATEVER THE INPUT: true; the input reads as it did. -/
def fnWaysTwoSpec : ChangeSpec := { name := "fnWaysTwo", fn := fun _ => fun
  | [d] => { results := [.lit (.bool true)], args := [d] }
  | _ => none }
def fnWaysTwoRow : OpenClaim := { program := "ytcbgflejdgcmeaa", sum := "29893c8968ff9c4be5b5defd99fd8045031bc9f74a7b5d2b3d98ce7662776b5a", func := "loop.example/oneletter/laws.FnWaysTwo", spec := "fnWaysTwo", inPlace := ["internal/bytealg.IndexByteString", "internal/bytealg.IndexString"], recurses := true, named := ["internal/bytealg.MaxLen"], apart := false }
def FnWaysTwoSaid : Prop := fnWaysTwoRow.holds Try.pinned (OpenSpec.ofChange fnWaysTwoSpec)

/-- ITS FALSE NEIGHBOUR: 'it returns false'. Refute it at one input. -/
def fnWaysTwoWrong : ChangeSpec := { name := "fnWaysTwo", fn := fun _ => fun
  | [d] => { results := [.lit (.bool false)], args := [d] }
  | _ => none }
def FnWaysTwoWrongFalsely : Prop := fnWaysTwoRow.holds Try.pinned (OpenSpec.ofChange fnWaysTwoWrong)

/-- 'laws.FnSolveTwo': WHATEVER THE INPUT: true; the input reads as it did. -/
def fnSolveTwoSpec : ChangeSpec := { name := "fnSolveTwo", fn := fun _ => fun
  | [d] => { results := [.lit (.bool true)], args := [d] }
  | _ => none }
def fnSolveTwoRow : OpenClaim := { program := "ytcbgflejdgcmeaa", sum := "29893c8968ff9c4be5b5defd99fd8045031bc9f74a7b5d2b3d98ce7662776b5a", func := "loop.example/oneletter/laws.FnSolveTwo", spec := "fnSolveTwo", inPlace := ["internal/bytealg.IndexByteString", "internal/bytealg.IndexString"], recurses := true, named := ["internal/bytealg.MaxLen"], apart := false }
def FnSolveTwoSaid : Prop := fnSolveTwoRow.holds Try.pinned (OpenSpec.ofChange fnSolveTwoSpec)

/-- ITS FALSE NEIGHBOUR: 'it returns false'. Refute it at one input. -/
def fnSolveTwoWrong : ChangeSpec := { name := "fnSolveTwo", fn := fun _ => fun
  | [d] => { results := [.lit (.bool false)], args := [d] }
  | _ => none }
def FnSolveTwoWrongFalsely : Prop := fnSolveTwoRow.holds Try.pinned (OpenSpec.ofChange fnSolveTwoWrong)

/-- 'laws.FnWaysBack': WHATEVER THE INPUT: true; the input reads as it did. -/
def fnWaysBackSpec : ChangeSpec := { name := "fnWaysBack", fn := fun _ => fun
  | [d] => { results := [.lit (.bool true)], args := [d] }
  | _ => none }
def fnWaysBackRow : OpenClaim := { program := "ytcbgflejdgcmeaa", sum := "29893c8968ff9c4be5b5defd99fd8045031bc9f74a7b5d2b3d98ce7662776b5a", func := "loop.example/oneletter/laws.FnWaysBack", spec := "fnWaysBack", inPlace := ["internal/bytealg.IndexByteString", "internal/bytealg.IndexString"], recurses := true, named := ["internal/bytealg.MaxLen"], apart := false }
def FnWaysBackSaid : Prop := fnWaysBackRow.holds Try.pinned (OpenSpec.ofChange fnWaysBackSpec)

/-- ITS FALSE NEIGHBOUR: 'it returns false'. Refute it at one input. -/
def fnWaysBackWrong : ChangeSpec := { name := "fnWaysBack", fn := fun _ => fun
  | [d] => { results := [.lit (.bool false)], args := [d] }
  | _ => none }
def FnWaysBackWrongFalsely : Prop := fnWaysBackRow.holds Try.pinned (OpenSpec.ofChange fnWaysBackWrong)

/-- 'laws.FnWaysPart': WHATEVER THE INPUT: true; the input reads as it did. -/
def fnWaysPartSpec : ChangeSpec := { name := "fnWaysPart", fn := fun _ => fun
  | [d] => { results := [.lit (.bool true)], args := [d] }
  | _ => none }
def fnWaysPartRow : OpenClaim := { program := "ytcbgflejdgcmeaa", sum := "29893c8968ff9c4be5b5defd99fd8045031bc9f74a7b5d2b3d98ce7662776b5a", func := "loop.example/oneletter/laws.FnWaysPart", spec := "fnWaysPart", inPlace := ["internal/bytealg.IndexByteString", "internal/bytealg.IndexString"], recurses := true, named := ["internal/bytealg.MaxLen"], apart := false }
def FnWaysPartSaid : Prop := fnWaysPartRow.holds Try.pinned (OpenSpec.ofChange fnWaysPartSpec)

/-- ITS FALSE NEIGHBOUR: 'it returns false'. Refute it at one input. -/
def fnWaysPartWrong : ChangeSpec := { name := "fnWaysPart", fn := fun _ => fun
  | [d] => { results := [.lit (.bool false)], args := [d] }
  | _ => none }
def FnWaysPartWrongFalsely : Prop := fnWaysPartRow.holds Try.pinned (OpenSpec.ofChange fnWaysPartWrong)

/-- 'laws.FnWaysBags': WHATEVER THE INPUT: true; the input reads as it did. -/
def fnWaysBagsSpec : ChangeSpec := { name := "fnWaysBags", fn := fun _ => fun
  | [d] => { results := [.lit (.bool true)], args := [d] }
  | _ => none }
def fnWaysBagsRow : OpenClaim := { program := "ytcbgflejdgcmeaa", sum := "29893c8968ff9c4be5b5defd99fd8045031bc9f74a7b5d2b3d98ce7662776b5a", func := "loop.example/oneletter/laws.FnWaysBags", spec := "fnWaysBags", inPlace := ["internal/bytealg.IndexByteString", "internal/bytealg.IndexString"], recurses := true, named := ["internal/bytealg.MaxLen"], apart := false }
def FnWaysBagsSaid : Prop := fnWaysBagsRow.holds Try.pinned (OpenSpec.ofChange fnWaysBagsSpec)

/-- ITS FALSE NEIGHBOUR: 'it returns false'. Refute it at one input. -/
def fnWaysBagsWrong : ChangeSpec := { name := "fnWaysBags", fn := fun _ => fun
  | [d] => { results := [.lit (.bool false)], args := [d] }
  | _ => none }
def FnWaysBagsWrongFalsely : Prop := fnWaysBagsRow.holds Try.pinned (OpenSpec.ofChange fnWaysBagsWrong)

/-- 'laws.FnWaysMany': WHATEVER THE INPUT: true; the input reads as it did. -/
def fnWaysManySpec : ChangeSpec := { name := "fnWaysMany", fn := fun _ => fun
  | [d] => { results := [.lit (.bool true)], args := [d] }
  | _ => none }
def fnWaysManyRow : OpenClaim := { program := "ytcbgflejdgcmeaa", sum := "29893c8968ff9c4be5b5defd99fd8045031bc9f74a7b5d2b3d98ce7662776b5a", func := "loop.example/oneletter/laws.FnWaysMany", spec := "fnWaysMany", inPlace := ["internal/bytealg.IndexByteString", "internal/bytealg.IndexString"], recurses := true, named := ["internal/bytealg.MaxLen"], apart := false }
def FnWaysManySaid : Prop := fnWaysManyRow.holds Try.pinned (OpenSpec.ofChange fnWaysManySpec)

/-- ITS FALSE NEIGHBOUR: 'it returns false'. Refute it at one input. -/
def fnWaysManyWrong : ChangeSpec := { name := "fnWaysMany", fn := fun _ => fun
  | [d] => { results := [.lit (.bool false)], args := [d] }
  | _ => none }
def FnWaysManyWrongFalsely : Prop := fnWaysManyRow.holds Try.pinned (OpenSpec.ofChange fnWaysManyWrong)

/-- 'laws.FnWaysFew': WHATEVER THE INPUT: true; the input reads as it did. -/
def fnWaysFewSpec : ChangeSpec := { name := "fnWaysFew", fn := fun _ => fun
  | [d] => { results := [.lit (.bool true)], args := [d] }
  | _ => none }
def fnWaysFewRow : OpenClaim := { program := "ytcbgflejdgcmeaa", sum := "29893c8968ff9c4be5b5defd99fd8045031bc9f74a7b5d2b3d98ce7662776b5a", func := "loop.example/oneletter/laws.FnWaysFew", spec := "fnWaysFew", inPlace := ["internal/bytealg.IndexByteString", "internal/bytealg.IndexString"], recurses := true, named := ["internal/bytealg.MaxLen"], apart := false }
def FnWaysFewSaid : Prop := fnWaysFewRow.holds Try.pinned (OpenSpec.ofChange fnWaysFewSpec)

/-- ITS FALSE NEIGHBOUR: 'it returns false'. Refute it at one input. -/
def fnWaysFewWrong : ChangeSpec := { name := "fnWaysFew", fn := fun _ => fun
  | [d] => { results := [.lit (.bool false)], args := [d] }
  | _ => none }
def FnWaysFewWrongFalsely : Prop := fnWaysFewRow.holds Try.pinned (OpenSpec.ofChange fnWaysFewWrong)

/-- 'laws.FnWaysFirst': WHATEVER THE INPUT: true; the input reads as it did. -/
def fnWaysFirstSpec : ChangeSpec := { name := "fnWaysFirst", fn := fun _ => fun
  | [d] => { results := [.lit (.bool true)], args := [d] }
  | _ => none }
def fnWaysFirstRow : OpenClaim := { program := "ytcbgflejdgcmeaa", sum := "29893c8968ff9c4be5b5defd99fd8045031bc9f74a7b5d2b3d98ce7662776b5a", func := "loop.example/oneletter/laws.FnWaysFirst", spec := "fnWaysFirst", inPlace := ["internal/bytealg.IndexByteString", "internal/bytealg.IndexString"], recurses := true, named := ["internal/bytealg.MaxLen"], apart := false }
def FnWaysFirstSaid : Prop := fnWaysFirstRow.holds Try.pinned (OpenSpec.ofChange fnWaysFirstSpec)

/-- ITS FALSE NEIGHBOUR: 'it returns false'. Refute it at one input. -/
def fnWaysFirstWrong : ChangeSpec := { name := "fnWaysFirst", fn := fun _ => fun
  | [d] => { results := [.lit (.bool false)], args := [d] }
  | _ => none }
def FnWaysFirstWrongFalsely : Prop := fnWaysFirstRow.holds Try.pinned (OpenSpec.ofChange fnWaysFirstWrong)

/-- 'laws.FnWaysOdd': WHATEVER THE INPUT: true; the input reads as it did. -/
def fnWaysOddSpec : ChangeSpec := { name := "fnWaysOdd", fn := fun _ => fun
  | [d] => { results := [.lit (.bool true)], args := [d] }
  | _ => none }
def fnWaysOddRow : OpenClaim := { program := "ytcbgflejdgcmeaa", sum := "29893c8968ff9c4be5b5defd99fd8045031bc9f74a7b5d2b3d98ce7662776b5a", func := "loop.example/oneletter/laws.FnWaysOdd", spec := "fnWaysOdd", inPlace := ["internal/bytealg.IndexByteString", "internal/bytealg.IndexString"], recurses := true, named := ["internal/bytealg.MaxLen"], apart := false }
def FnWaysOddSaid : Prop := fnWaysOddRow.holds Try.pinned (OpenSpec.ofChange fnWaysOddSpec)

/-- ITS FALSE NEIGHBOUR: 'it returns false'. Refute it at one input. -/
def fnWaysOddWrong : ChangeSpec := { name := "fnWaysOdd", fn := fun _ => fun
  | [d] => { results := [.lit (.bool false)], args := [d] }
  | _ => none }
def FnWaysOddWrongFalsely : Prop := fnWaysOddRow.holds Try.pinned (OpenSpec.ofChange fnWaysOddWrong)

/- THE SECOND FORM. 'bulk': how many values and letters a reading holds, each counted each time it is reached (what is shared counts as often as it is met; a slice's spare places count too). A statement '..UptoSaid' is the law's where the arguments, and the package variables that the reading takes, are together of bulk at most 1048576: NARROWER than '..Said'. Prove '..Said' where nothing that the law and all that it calls make is longer than what came in: it says more and counts as full. Else prove '..UptoSaid'. A law counts once. -/
mutual
def uptoBulk {H : Type} : DataW H → Nat
  | .lit (.string bytes) => bytes.length + 1
  | .lit _ => 1
  | .nil => 1
  | .ptr d => uptoBulk d + 1
  | .slice elems spare => uptoBulkAll elems + uptoBulkAll spare + 1
  | .agg parts => uptoBulkAll parts + 1
  | .iface _ d => uptoBulk d + 1
  | .map entries => uptoBulkEntries entries + 1
  | .held _ => 1
def uptoBulkAll {H : Type} : List (DataW H) → Nat
  | [] => 0
  | d :: r => uptoBulk d + uptoBulkAll r
def uptoBulkEntries {H : Type} : List (Lit × DataW H) → Nat
  | [] => 0
  | x :: r => uptoBulkEntry x + uptoBulkEntries r
def uptoBulkEntry {H : Type} : Lit × DataW H → Nat
  | (.string bytes, d) => bytes.length + uptoBulk d + 1
  | (_, d) => uptoBulk d + 1
 end
def uptoSmall : (H : Type) → List (DataW H) → Bool := fun _ ds => decide (uptoBulkAll ds ≤ 1048576)
def OpenSpec.upto (s : _root_.Go.ChangeSpec) : _root_.Go.OpenSpec := { _root_.Go.OpenSpec.ofChange s with cond := some uptoSmall }

/-- 'laws.FnExactSolveHas', WHERE WHAT IT READS IS OF BULK AT MOST 1048576: true; the input reads as it did. -/
def fnExactSolveHasUptoRow : OpenClaim := { program := "ytcbgflejdgcmeaa", sum := "29893c8968ff9c4be5b5defd99fd8045031bc9f74a7b5d2b3d98ce7662776b5a", func := "loop.example/oneletter/laws.FnExactSolveHas", spec := "fnExactSolveHas", inPlace := ["internal/bytealg.IndexByteString", "internal/bytealg.IndexString"], recurses := true, named := ["internal/bytealg.MaxLen"], apart := false, narrowed := true }
def FnExactSolveHasUptoSaid : Prop := fnExactSolveHasUptoRow.holds Try.pinned (OpenSpec.upto fnExactSolveHasSpec)

/-- 'laws.FnExactWaysApart', WHERE WHAT IT READS IS OF BULK AT MOST 1048576: true; the input reads as it did. -/
def fnExactWaysApartUptoRow : OpenClaim := { program := "ytcbgflejdgcmeaa", sum := "29893c8968ff9c4be5b5defd99fd8045031bc9f74a7b5d2b3d98ce7662776b5a", func := "loop.example/oneletter/laws.FnExactWaysApart", spec := "fnExactWaysApart", inPlace := ["internal/bytealg.IndexByteString", "internal/bytealg.IndexString"], recurses := true, named := ["internal/bytealg.MaxLen"], apart := false, narrowed := true }
def FnExactWaysApartUptoSaid : Prop := fnExactWaysApartUptoRow.holds Try.pinned (OpenSpec.upto fnExactWaysApartSpec)

/-- 'laws.FnExactWaysBags', WHERE WHAT IT READS IS OF BULK AT MOST 1048576: true; the input reads as it did. -/
def fnExactWaysBagsUptoRow : OpenClaim := { program := "ytcbgflejdgcmeaa", sum := "29893c8968ff9c4be5b5defd99fd8045031bc9f74a7b5d2b3d98ce7662776b5a", func := "loop.example/oneletter/laws.FnExactWaysBags", spec := "fnExactWaysBags", inPlace := ["internal/bytealg.IndexByteString", "internal/bytealg.IndexString"], recurses := true, named := ["internal/bytealg.MaxLen"], apart := false, narrowed := true }
def FnExactWaysBagsUptoSaid : Prop := fnExactWaysBagsUptoRow.holds Try.pinned (OpenSpec.upto fnExactWaysBagsSpec)

/-- 'laws.FnExactSolveIs', WHERE WHAT IT READS IS OF BULK AT MOST 1048576: true; the input reads as it did. -/
def fnExactSolveIsUptoRow : OpenClaim := { program := "ytcbgflejdgcmeaa", sum := "29893c8968ff9c4be5b5defd99fd8045031bc9f74a7b5d2b3d98ce7662776b5a", func := "loop.example/oneletter/laws.FnExactSolveIs", spec := "fnExactSolveIs", inPlace := ["internal/bytealg.IndexByteString", "internal/bytealg.IndexString"], recurses := true, named := ["internal/bytealg.MaxLen"], apart := false, narrowed := true }
def FnExactSolveIsUptoSaid : Prop := fnExactSolveIsUptoRow.holds Try.pinned (OpenSpec.upto fnExactSolveIsSpec)

/-- 'laws.FnExactWaysFew', WHERE WHAT IT READS IS OF BULK AT MOST 1048576: true; the input reads as it did. -/
def fnExactWaysFewUptoRow : OpenClaim := { program := "ytcbgflejdgcmeaa", sum := "29893c8968ff9c4be5b5defd99fd8045031bc9f74a7b5d2b3d98ce7662776b5a", func := "loop.example/oneletter/laws.FnExactWaysFew", spec := "fnExactWaysFew", inPlace := ["internal/bytealg.IndexByteString", "internal/bytealg.IndexString"], recurses := true, named := ["internal/bytealg.MaxLen"], apart := false, narrowed := true }
def FnExactWaysFewUptoSaid : Prop := fnExactWaysFewUptoRow.holds Try.pinned (OpenSpec.upto fnExactWaysFewSpec)

/-- 'laws.FnExactSolveTwo', WHERE WHAT IT READS IS OF BULK AT MOST 1048576: true; the input reads as it did. -/
def fnExactSolveTwoUptoRow : OpenClaim := { program := "ytcbgflejdgcmeaa", sum := "29893c8968ff9c4be5b5defd99fd8045031bc9f74a7b5d2b3d98ce7662776b5a", func := "loop.example/oneletter/laws.FnExactSolveTwo", spec := "fnExactSolveTwo", inPlace := ["internal/bytealg.IndexByteString", "internal/bytealg.IndexString"], recurses := true, named := ["internal/bytealg.MaxLen"], apart := false, narrowed := true }
def FnExactSolveTwoUptoSaid : Prop := fnExactSolveTwoUptoRow.holds Try.pinned (OpenSpec.upto fnExactSolveTwoSpec)

/-- 'laws.FnExactSolveOne', WHERE WHAT IT READS IS OF BULK AT MOST 1048576: true; the input reads as it did. -/
def fnExactSolveOneUptoRow : OpenClaim := { program := "ytcbgflejdgcmeaa", sum := "29893c8968ff9c4be5b5defd99fd8045031bc9f74a7b5d2b3d98ce7662776b5a", func := "loop.example/oneletter/laws.FnExactSolveOne", spec := "fnExactSolveOne", inPlace := ["internal/bytealg.IndexByteString", "internal/bytealg.IndexString"], recurses := true, named := ["internal/bytealg.MaxLen"], apart := false, narrowed := true }
def FnExactSolveOneUptoSaid : Prop := fnExactSolveOneUptoRow.holds Try.pinned (OpenSpec.upto fnExactSolveOneSpec)

/-- 'laws.FnExactWaysMany', WHERE WHAT IT READS IS OF BULK AT MOST 1048576: true; the input reads as it did. -/
def fnExactWaysManyUptoRow : OpenClaim := { program := "ytcbgflejdgcmeaa", sum := "29893c8968ff9c4be5b5defd99fd8045031bc9f74a7b5d2b3d98ce7662776b5a", func := "loop.example/oneletter/laws.FnExactWaysMany", spec := "fnExactWaysMany", inPlace := ["internal/bytealg.IndexByteString", "internal/bytealg.IndexString"], recurses := true, named := ["internal/bytealg.MaxLen"], apart := false, narrowed := true }
def FnExactWaysManyUptoSaid : Prop := fnExactWaysManyUptoRow.holds Try.pinned (OpenSpec.upto fnExactWaysManySpec)

/-- 'laws.FnExactWaysBack', WHERE WHAT IT READS IS OF BULK AT MOST 1048576: true; the input reads as it did. -/
def fnExactWaysBackUptoRow : OpenClaim := { program := "ytcbgflejdgcmeaa", sum := "29893c8968ff9c4be5b5defd99fd8045031bc9f74a7b5d2b3d98ce7662776b5a", func := "loop.example/oneletter/laws.FnExactWaysBack", spec := "fnExactWaysBack", inPlace := ["internal/bytealg.IndexByteString", "internal/bytealg.IndexString"], recurses := true, named := ["internal/bytealg.MaxLen"], apart := false, narrowed := true }
def FnExactWaysBackUptoSaid : Prop := fnExactWaysBackUptoRow.holds Try.pinned (OpenSpec.upto fnExactWaysBackSpec)

/-- 'laws.FnExactWaysPart', WHERE WHAT IT READS IS OF BULK AT MOST 1048576: true; the input reads as it did. -/
def fnExactWaysPartUptoRow : OpenClaim := { program := "ytcbgflejdgcmeaa", sum := "29893c8968ff9c4be5b5defd99fd8045031bc9f74a7b5d2b3d98ce7662776b5a", func := "loop.example/oneletter/laws.FnExactWaysPart", spec := "fnExactWaysPart", inPlace := ["internal/bytealg.IndexByteString", "internal/bytealg.IndexString"], recurses := true, named := ["internal/bytealg.MaxLen"], apart := false, narrowed := true }
def FnExactWaysPartUptoSaid : Prop := fnExactWaysPartUptoRow.holds Try.pinned (OpenSpec.upto fnExactWaysPartSpec)

/-- 'laws.FnExactWaysOdd', WHERE WHAT IT READS IS OF BULK AT MOST 1048576: true; the input reads as it did. -/
def fnExactWaysOddUptoRow : OpenClaim := { program := "ytcbgflejdgcmeaa", sum := "29893c8968ff9c4be5b5defd99fd8045031bc9f74a7b5d2b3d98ce7662776b5a", func := "loop.example/oneletter/laws.FnExactWaysOdd", spec := "fnExactWaysOdd", inPlace := ["internal/bytealg.IndexByteString", "internal/bytealg.IndexString"], recurses := true, named := ["internal/bytealg.MaxLen"], apart := false, narrowed := true }
def FnExactWaysOddUptoSaid : Prop := fnExactWaysOddUptoRow.holds Try.pinned (OpenSpec.upto fnExactWaysOddSpec)

/-- 'laws.FnExactWaysFirst', WHERE WHAT IT READS IS OF BULK AT MOST 1048576: true; the input reads as it did. -/
def fnExactWaysFirstUptoRow : OpenClaim := { program := "ytcbgflejdgcmeaa", sum := "29893c8968ff9c4be5b5defd99fd8045031bc9f74a7b5d2b3d98ce7662776b5a", func := "loop.example/oneletter/laws.FnExactWaysFirst", spec := "fnExactWaysFirst", inPlace := ["internal/bytealg.IndexByteString", "internal/bytealg.IndexString"], recurses := true, named := ["internal/bytealg.MaxLen"], apart := false, narrowed := true }
def FnExactWaysFirstUptoSaid : Prop := fnExactWaysFirstUptoRow.holds Try.pinned (OpenSpec.upto fnExactWaysFirstSpec)

/-- 'laws.FnWaysApart', WHERE WHAT IT READS IS OF BULK AT MOST 1048576: true; the input reads as it did. -/
def fnWaysApartUptoRow : OpenClaim := { program := "ytcbgflejdgcmeaa", sum := "29893c8968ff9c4be5b5defd99fd8045031bc9f74a7b5d2b3d98ce7662776b5a", func := "loop.example/oneletter/laws.FnWaysApart", spec := "fnWaysApart", inPlace := ["internal/bytealg.IndexByteString", "internal/bytealg.IndexString"], recurses := true, named := ["internal/bytealg.MaxLen"], apart := false, narrowed := true }
def FnWaysApartUptoSaid : Prop := fnWaysApartUptoRow.holds Try.pinned (OpenSpec.upto fnWaysApartSpec)

/-- 'laws.FnWaysTwo', WHERE WHAT IT READS IS OF BULK AT MOST 1048576: true; the input reads as it did. -/
def fnWaysTwoUptoRow : OpenClaim := { program := "ytcbgflejdgcmeaa", sum := "29893c8968ff9c4be5b5defd99fd8045031bc9f74a7b5d2b3d98ce7662776b5a", func := "loop.example/oneletter/laws.FnWaysTwo", spec := "fnWaysTwo", inPlace := ["internal/bytealg.IndexByteString", "internal/bytealg.IndexString"], recurses := true, named := ["internal/bytealg.MaxLen"], apart := false, narrowed := true }
def FnWaysTwoUptoSaid : Prop := fnWaysTwoUptoRow.holds Try.pinned (OpenSpec.upto fnWaysTwoSpec)

/-- 'laws.FnSolveTwo', WHERE WHAT IT READS IS OF BULK AT MOST 1048576: true; the input reads as it did. -/
def fnSolveTwoUptoRow : OpenClaim := { program := "ytcbgflejdgcmeaa", sum := "29893c8968ff9c4be5b5defd99fd8045031bc9f74a7b5d2b3d98ce7662776b5a", func := "loop.example/oneletter/laws.FnSolveTwo", spec := "fnSolveTwo", inPlace := ["internal/bytealg.IndexByteString", "internal/bytealg.IndexString"], recurses := true, named := ["internal/bytealg.MaxLen"], apart := false, narrowed := true }
def FnSolveTwoUptoSaid : Prop := fnSolveTwoUptoRow.holds Try.pinned (OpenSpec.upto fnSolveTwoSpec)

/-- 'laws.FnWaysBack', WHERE WHAT IT READS IS OF BULK AT MOST 1048576: true; the input reads as it did. -/
def fnWaysBackUptoRow : OpenClaim := { program := "ytcbgflejdgcmeaa", sum := "29893c8968ff9c4be5b5defd99fd8045031bc9f74a7b5d2b3d98ce7662776b5a", func := "loop.example/oneletter/laws.FnWaysBack", spec := "fnWaysBack", inPlace := ["internal/bytealg.IndexByteString", "internal/bytealg.IndexString"], recurses := true, named := ["internal/bytealg.MaxLen"], apart := false, narrowed := true }
def FnWaysBackUptoSaid : Prop := fnWaysBackUptoRow.holds Try.pinned (OpenSpec.upto fnWaysBackSpec)

/-- 'laws.FnWaysPart', WHERE WHAT IT READS IS OF BULK AT MOST 1048576: true; the input reads as it did. -/
def fnWaysPartUptoRow : OpenClaim := { program := "ytcbgflejdgcmeaa", sum := "29893c8968ff9c4be5b5defd99fd8045031bc9f74a7b5d2b3d98ce7662776b5a", func := "loop.example/oneletter/laws.FnWaysPart", spec := "fnWaysPart", inPlace := ["internal/bytealg.IndexByteString", "internal/bytealg.IndexString"], recurses := true, named := ["internal/bytealg.MaxLen"], apart := false, narrowed := true }
def FnWaysPartUptoSaid : Prop := fnWaysPartUptoRow.holds Try.pinned (OpenSpec.upto fnWaysPartSpec)

/-- 'laws.FnWaysBags', WHERE WHAT IT READS IS OF BULK AT MOST 1048576: true; the input reads as it did. -/
def fnWaysBagsUptoRow : OpenClaim := { program := "ytcbgflejdgcmeaa", sum := "29893c8968ff9c4be5b5defd99fd8045031bc9f74a7b5d2b3d98ce7662776b5a", func := "loop.example/oneletter/laws.FnWaysBags", spec := "fnWaysBags", inPlace := ["internal/bytealg.IndexByteString", "internal/bytealg.IndexString"], recurses := true, named := ["internal/bytealg.MaxLen"], apart := false, narrowed := true }
def FnWaysBagsUptoSaid : Prop := fnWaysBagsUptoRow.holds Try.pinned (OpenSpec.upto fnWaysBagsSpec)

/-- 'laws.FnWaysMany', WHERE WHAT IT READS IS OF BULK AT MOST 1048576: true; the input reads as it did. -/
def fnWaysManyUptoRow : OpenClaim := { program := "ytcbgflejdgcmeaa", sum := "29893c8968ff9c4be5b5defd99fd8045031bc9f74a7b5d2b3d98ce7662776b5a", func := "loop.example/oneletter/laws.FnWaysMany", spec := "fnWaysMany", inPlace := ["internal/bytealg.IndexByteString", "internal/bytealg.IndexString"], recurses := true, named := ["internal/bytealg.MaxLen"], apart := false, narrowed := true }
def FnWaysManyUptoSaid : Prop := fnWaysManyUptoRow.holds Try.pinned (OpenSpec.upto fnWaysManySpec)

/-- 'laws.FnWaysFew', WHERE WHAT IT READS IS OF BULK AT MOST 1048576: true; the input reads as it did. -/
def fnWaysFewUptoRow : OpenClaim := { program := "ytcbgflejdgcmeaa", sum := "29893c8968ff9c4be5b5defd99fd8045031bc9f74a7b5d2b3d98ce7662776b5a", func := "loop.example/oneletter/laws.FnWaysFew", spec := "fnWaysFew", inPlace := ["internal/bytealg.IndexByteString", "internal/bytealg.IndexString"], recurses := true, named := ["internal/bytealg.MaxLen"], apart := false, narrowed := true }
def FnWaysFewUptoSaid : Prop := fnWaysFewUptoRow.holds Try.pinned (OpenSpec.upto fnWaysFewSpec)

/-- 'laws.FnWaysFirst', WHERE WHAT IT READS IS OF BULK AT MOST 1048576: true; the input reads as it did. -/
def fnWaysFirstUptoRow : OpenClaim := { program := "ytcbgflejdgcmeaa", sum := "29893c8968ff9c4be5b5defd99fd8045031bc9f74a7b5d2b3d98ce7662776b5a", func := "loop.example/oneletter/laws.FnWaysFirst", spec := "fnWaysFirst", inPlace := ["internal/bytealg.IndexByteString", "internal/bytealg.IndexString"], recurses := true, named := ["internal/bytealg.MaxLen"], apart := false, narrowed := true }
def FnWaysFirstUptoSaid : Prop := fnWaysFirstUptoRow.holds Try.pinned (OpenSpec.upto fnWaysFirstSpec)

/-- 'laws.FnWaysOdd', WHERE WHAT IT READS IS OF BULK AT MOST 1048576: true; the input reads as it did. -/
def fnWaysOddUptoRow : OpenClaim := { program := "ytcbgflejdgcmeaa", sum := "29893c8968ff9c4be5b5defd99fd8045031bc9f74a7b5d2b3d98ce7662776b5a", func := "loop.example/oneletter/laws.FnWaysOdd", spec := "fnWaysOdd", inPlace := ["internal/bytealg.IndexByteString", "internal/bytealg.IndexString"], recurses := true, named := ["internal/bytealg.MaxLen"], apart := false, narrowed := true }
def FnWaysOddUptoSaid : Prop := fnWaysOddUptoRow.holds Try.pinned (OpenSpec.upto fnWaysOddSpec)

end Rows
end Go.Proofs.Ytcbgflejdgcmeaa
